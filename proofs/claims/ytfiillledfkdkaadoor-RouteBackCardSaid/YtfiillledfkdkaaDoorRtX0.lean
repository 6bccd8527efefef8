/- Names: the plain laws of a text's runes, without any program. -/
import Derived.Lib.ValidAsc
import Derived.Lib.MapLaws
import Derived.Lib.TrimAscii
import Derived.Lib.Bytealg
set_option linter.unusedVariables false
set_option linter.unusedSimpArgs false
namespace Go.Nam
open Go.Lib

def stepsF : Nat → List UInt8 → List (Nat × Nat)
  | 0, _ => []
  | n + 1, l => if l = [] then [] else decodeL l :: stepsF n (l.drop (decodeL l).2)
def steps (l : List UInt8) : List (Nat × Nat) := stepsF l.length l

theorem stepsF_nil : ∀ n, stepsF n [] = []
  | 0 => rfl
  | n + 1 => by simp [stepsF]
theorem stepsF_fuel : ∀ (n m : Nat) (l : List UInt8), l.length ≤ n → l.length ≤ m → stepsF n l = stepsF m l
  | 0, m, l, hn, _ => by
    have : l = [] := List.length_eq_zero_iff.1 (by omega)
    subst this; rw [stepsF_nil, stepsF_nil]
  | n + 1, 0, l, _, hm => by
    have : l = [] := List.length_eq_zero_iff.1 (by omega)
    subst this; rw [stepsF_nil, stepsF_nil]
  | n + 1, m + 1, l, hn, hm => by
    unfold stepsF
    split
    · rfl
    · have hw := decodeL_width l
      rw [stepsF_fuel n m (l.drop (decodeL l).2) (by rw [List.length_drop]; omega) (by rw [List.length_drop]; omega)]
theorem steps_nil : steps [] = [] := rfl
theorem steps_step (l : List UInt8) (h : l ≠ []) : steps l = decodeL l :: steps (l.drop (decodeL l).2) := by
  have hl : 0 < l.length := List.length_pos_iff.2 h
  have hw := decodeL_width l
  unfold steps
  obtain ⟨n, hn⟩ : ∃ n, l.length = n + 1 := ⟨l.length - 1, by omega⟩
  rw [hn]
  rw [stepsF, if_neg h]
  rw [stepsF_fuel n (l.drop (decodeL l).2).length _ (by rw [List.length_drop]; omega) (Nat.le_refl _)]

/-- Induction over a text's runes. -/
theorem steps_ind {P : List UInt8 → Prop} (h0 : P []) (h1 : ∀ l, l ≠ [] → P (l.drop (decodeL l).2) → P l) (l : List UInt8) : P l := by
  have : ∀ n (l : List UInt8), l.length ≤ n → P l := by
    intro n
    induction n with
    | zero => intro l hl; have : l = [] := List.length_eq_zero_iff.1 (by omega); subst this; exact h0
    | succ n ih =>
      intro l hl
      by_cases h : l = []
      · subst h; exact h0
      · have hw := decodeL_width l
        exact h1 l h (ih _ (by rw [List.length_drop]; omega))
  exact this l.length l (Nat.le_refl _)

def count (l : List UInt8) : Nat := (steps l).length
def bad (d : Nat × Nat) : Bool := d.1 == 65533 && d.2 == 1
def good (l : List UInt8) : Bool := (steps l).all fun d => !bad d
def width : List (Nat × Nat) → Nat
  | [] => 0
  | d :: r => d.2 + width r
def runes (l : List UInt8) : List Nat := (steps l).map (·.1)

theorem count_nil : count [] = 0 := rfl
theorem count_step (l : List UInt8) (h : l ≠ []) : count l = count (l.drop (decodeL l).2) + 1 := by
  unfold count; rw [steps_step l h]; rfl
theorem count_le (l : List UInt8) : count l ≤ l.length := by
  refine steps_ind (P := fun l => count l ≤ l.length) (by simp [count_nil]) ?_ l
  intro l h ih
  have hw := decodeL_width l
  have hl : 0 < l.length := List.length_pos_iff.2 h
  rw [count_step l h]
  rw [List.length_drop] at ih
  omega
theorem good_nil : good [] = true := rfl
theorem good_step (l : List UInt8) (h : l ≠ []) : good l = (!bad (decodeL l) && good (l.drop (decodeL l).2)) := by
  unfold good; rw [steps_step l h]; rfl
theorem validD_good (l : List UInt8) : validD l = good l := by
  refine steps_ind (P := fun l => validD l = good l) rfl ?_ l
  intro l h ih
  rw [validD_step l h, good_step l h, ih]
  unfold bad
  by_cases h1 : (decodeL l).1 = 65533 <;> by_cases h2 : (decodeL l).2 = 1 <;> simp [h1, h2]
theorem width_steps (l : List UInt8) : width (steps l) = l.length := by
  refine steps_ind (P := fun l => width (steps l) = l.length) rfl ?_ l
  intro l h ih
  have hw := decodeL_le l h
  rw [steps_step l h, width, ih, List.length_drop]
  omega
theorem width_take_le : ∀ (l : List (Nat × Nat)) (n : Nat), width (l.take n) ≤ width l
  | [], n => by simp [width]
  | d :: r, 0 => by simp [width]
  | d :: r, n + 1 => by have := width_take_le r n; simp only [List.take_succ_cons, width]; omega
theorem width_take_mono (l : List (Nat × Nat)) (n m : Nat) (h : n ≤ m) : width (l.take n) ≤ width (l.take m) := by
  have : l.take n = (l.take m).take n := by rw [List.take_take, Nat.min_eq_left h]
  rw [this]; exact width_take_le _ _

/-- A name's runes. -/
def partR (r : Nat) : Bool := (decide (97 ≤ r) && decide (r ≤ 122)) || (decide (48 ≤ r) && decide (r ≤ 57)) || r == 45 || decide (127 < r)
def validN (l : List UInt8) : Bool := good l && decide (1 ≤ count l) && decide (count l ≤ 16) && !((l.getD 0 0).toNat == 45) && (runes l).all partR
def validB (l : List UInt8) : Bool := good l && decide (1 ≤ count l) && decide (count l ≤ 16) && !((l.getD 0 0).toNat == 45) && l.all fun c => partR c.toNat

theorem part_high (r : Nat) (h : 128 ≤ r) : partR r = true := by
  unfold partR; simp; omega
/-- A rune that isn't a bad one is one byte below 128, or all its bytes are above 127, and it is too. -/
theorem step_bytes (l : List UInt8) (hne : l ≠ []) (hb : bad (decodeL l) = false) :
    ((l.getD 0 0).toNat < 128 ∧ decodeL l = ((l.getD 0 0).toNat, 1)) ∨
    (128 ≤ (decodeL l).1 ∧ ∀ c ∈ l.take (decodeL l).2, 128 ≤ c.toNat) := by
  have hle := decodeL_le l hne
  rw [decodeL_N] at hb hle ⊢
  rcases decodeN_shape l.length (l.getD 0 0).toNat (l.getD 1 0).toNat (l.getD 2 0).toNat (l.getD 3 0).toNat with ⟨c, e⟩ | ⟨c1, c2, c3, cv, e⟩ | ⟨c1, c2, c3, c4, cv, cs, e⟩ | ⟨c1, c2, c3, c4, c5, cv, cw, e⟩ | e
  · exact .inl ⟨c, e⟩
  · refine .inr ?_
    rw [e]
    refine ⟨by dsimp only; omega, ?_⟩
    dsimp only
    rw [takeB l c2]
    simp only [List.mem_cons, List.not_mem_nil, or_false]
    rintro c (rfl | rfl) <;> omega
  · refine .inr ?_
    rw [e]
    refine ⟨by dsimp only; omega, ?_⟩
    dsimp only
    rw [takeC l c2]
    simp only [List.mem_cons, List.not_mem_nil, or_false]
    rintro c (rfl | rfl | rfl) <;> omega
  · refine .inr ?_
    rw [e]
    refine ⟨by dsimp only; omega, ?_⟩
    dsimp only
    rw [takeD l c2]
    simp only [List.mem_cons, List.not_mem_nil, or_false]
    rintro c (rfl | rfl | rfl | rfl) <;> omega
  · rw [e] at hb; simp [bad] at hb

theorem all_split (l : List UInt8) (k : Nat) (p : UInt8 → Bool) : l.all p = ((l.take k).all p && (l.drop k).all p) := by
  rw [← List.all_append, List.take_append_drop]
theorem runes_step (l : List UInt8) (h : l ≠ []) : runes l = (decodeL l).1 :: runes (l.drop (decodeL l).2) := by
  unfold runes; rw [steps_step l h]; rfl
theorem parts_bytes (l : List UInt8) (hg : good l = true) : (runes l).all partR = l.all fun c => partR c.toNat := by
  revert hg
  refine steps_ind (P := fun l => good l = true → (runes l).all partR = l.all fun c => partR c.toNat) (fun _ => rfl) ?_ l
  intro l h ih hg
  rw [good_step l h] at hg
  simp only [Bool.and_eq_true, Bool.not_eq_true'] at hg
  rw [runes_step l h, List.all_cons, ih hg.2, all_split l (decodeL l).2]
  congr 1
  rcases step_bytes l h hg.1 with ⟨h1, e⟩ | ⟨h1, h2⟩
  · rw [e]
    dsimp only
    match l, h with
    | c :: r, _ => simp
  · rw [part_high _ h1]
    symm
    rw [List.all_eq_true]
    intro c hc
    exact part_high _ (h2 c hc)
theorem valid_same (l : List UInt8) : validB l = validN l := by
  unfold validB validN
  cases hg : good l with
  | false => simp
  | true => rw [parts_bytes l hg]

/-! ### folding -/
def foldB (c : UInt8) : UInt8 := if 65 ≤ c.toNat ∧ c.toNat ≤ 90 then c + 32 else c
def fold (l : List UInt8) : List UInt8 := l.map foldB
theorem foldB_toNat (c : UInt8) : (foldB c).toNat = if 65 ≤ c.toNat ∧ c.toNat ≤ 90 then c.toNat + 32 else c.toNat := by
  unfold foldB
  split
  · rename_i h; rw [UInt8.toNat_add]; have : (32 : UInt8).toNat = 32 := rfl; rw [this]; omega
  · rfl
theorem foldB_twice (c : UInt8) : foldB (foldB c) = foldB c := by
  apply UInt8.toNat.inj
  rw [foldB_toNat, foldB_toNat]
  split <;> simp_all <;> omega
theorem fold_twice (l : List UInt8) : fold (fold l) = fold l := by
  unfold fold; rw [List.map_map]; exact List.map_congr_left fun c _ => foldB_twice c
theorem fold_length (l : List UInt8) : (fold l).length = l.length := by simp [fold]
def foldR (r : Nat) : Nat := if 65 ≤ r ∧ r ≤ 90 then r + 32 else r
theorem getD_fold (l : List UInt8) (i : Nat) : ((fold l).getD i 0).toNat = foldR (l.getD i 0).toNat := by
  unfold fold foldR
  rw [← foldB_toNat]
  have h0 : foldB 0 = 0 := by decide
  simp only [List.getD, List.getElem?_map]
  cases l[i]? with
  | none => simp [h0]
  | some c => simp
theorem decodeN_two (n b0 b1 b2 b3 : Nat) (h0 : b0 / 32 = 6) (h : 1 < n) (h1 : b1 / 64 = 2) (hv : 128 ≤ b0 % 32 * 64 + b1 % 64) : decodeN n b0 b1 b2 b3 = (b0 % 32 * 64 + b1 % 64, 2) := by
  unfold decodeN
  rw [if_neg (by omega), if_pos ⟨h0, h, h1⟩, if_pos hv]
theorem decodeN_three (n b0 b1 b2 b3 : Nat) (h0 : b0 / 16 = 14) (h : 2 < n) (h1 : b1 / 64 = 2) (h2 : b2 / 64 = 2) (hv : 2048 ≤ b0 % 16 * 4096 + b1 % 64 * 64 + b2 % 64)
    (hs : b0 % 16 * 4096 + b1 % 64 * 64 + b2 % 64 < 55296 ∨ 57344 ≤ b0 % 16 * 4096 + b1 % 64 * 64 + b2 % 64) : decodeN n b0 b1 b2 b3 = (b0 % 16 * 4096 + b1 % 64 * 64 + b2 % 64, 3) := by
  unfold decodeN
  rw [if_neg (by omega), if_neg (by omega), if_pos ⟨h0, ⟨by omega, h1⟩, h, h2⟩, if_pos ⟨hv, by omega⟩]
theorem decodeN_four (n b0 b1 b2 b3 : Nat) (h0 : b0 / 8 = 30) (h : 3 < n) (h1 : b1 / 64 = 2) (h2 : b2 / 64 = 2) (h3 : b3 / 64 = 2) (hv : 65536 ≤ b0 % 8 * 262144 + b1 % 64 * 4096 + b2 % 64 * 64 + b3 % 64)
    (hs : b0 % 8 * 262144 + b1 % 64 * 4096 + b2 % 64 * 64 + b3 % 64 ≤ 1114111) : decodeN n b0 b1 b2 b3 = (b0 % 8 * 262144 + b1 % 64 * 4096 + b2 % 64 * 64 + b3 % 64, 4) := by
  unfold decodeN
  rw [if_neg (by omega), if_neg (by omega), if_neg (by omega), if_pos ⟨h0, ⟨by omega, h1⟩, ⟨by omega, h2⟩, h, h3⟩, if_pos ⟨hv, by omega⟩]
theorem decodeN_fold (n b0 b1 b2 b3 : Nat) : decodeN n (foldR b0) (foldR b1) (foldR b2) (foldR b3) = (foldR (decodeN n b0 b1 b2 b3).1, (decodeN n b0 b1 b2 b3).2) := by
  have key : ∀ b, (foldR b = b ∧ (b < 65 ∨ 90 < b)) ∨ (foldR b = b + 32 ∧ 65 ≤ b ∧ b ≤ 90) := by
    intro b; unfold foldR; split <;> omega
  have hi : ∀ b, 128 ≤ b → foldR b = b := by intro b hb; have := key b; omega
  have lo : ∀ b, 128 ≤ foldR b → foldR b = b := by intro b hb; have := key b; omega
  rcases decodeN_shape n b0 b1 b2 b3 with ⟨c, e⟩ | ⟨a1, a2, a3, av, e⟩ | ⟨a1, a2, a3, a4, av, as', e⟩ | ⟨a1, a2, a3, a4, a5, av, aw, e⟩ | e
  · rw [e]
    have := key b0
    rw [decodeN_ascii _ _ _ _ _ (by omega)]
  · rw [e]
    dsimp only
    rw [hi b0 (by omega), hi b1 (by omega), hi _ av]
    exact decodeN_two _ _ _ _ _ a1 a2 a3 av
  · rw [e]
    dsimp only
    rw [hi b0 (by omega), hi b1 (by omega), hi b2 (by omega), hi (b0 % 16 * 4096 + b1 % 64 * 64 + b2 % 64) (by omega)]
    exact decodeN_three n b0 b1 b2 (foldR b3) a1 a2 a3 a4 av as'
  · rw [e]
    dsimp only
    rw [hi b0 (by omega), hi b1 (by omega), hi b2 (by omega), hi b3 (by omega), hi (b0 % 8 * 262144 + b1 % 64 * 4096 + b2 % 64 * 64 + b3 % 64) (by omega)]
    exact decodeN_four _ _ _ _ _ a1 a2 a3 a4 a5 av aw
  · have h0 : 128 ≤ b0 := by
      rcases Nat.lt_or_ge b0 128 with h | h
      · rw [decodeN_ascii _ _ _ _ _ h] at e
        have := congrArg Prod.fst e
        dsimp only at this
        omega
      · exact h
    rw [e]
    dsimp only
    rw [hi 65533 (by omega), hi b0 h0]
    rcases decodeN_shape n b0 (foldR b1) (foldR b2) (foldR b3) with ⟨c, e'⟩ | ⟨a1, a2, a3, av, e'⟩ | ⟨a1, a2, a3, a4, av, as', e'⟩ | ⟨a1, a2, a3, a4, a5, av, aw, e'⟩ | e'
    · omega
    · have l1 := lo b1 (by omega)
      rw [l1] at a3 av
      rw [decodeN_two _ _ _ _ _ a1 a2 a3 av] at e
      exact absurd (congrArg Prod.snd e) (by dsimp only; omega)
    · have l1 := lo b1 (by omega)
      have l2 := lo b2 (by omega)
      rw [l1] at a3 av as'
      rw [l2] at a4 av as'
      rw [decodeN_three _ _ _ _ _ a1 a2 a3 a4 av as'] at e
      exact absurd (congrArg Prod.snd e) (by dsimp only; omega)
    · have l1 := lo b1 (by omega)
      have l2 := lo b2 (by omega)
      have l3 := lo b3 (by omega)
      rw [l1] at a3 av aw
      rw [l2] at a4 av aw
      rw [l3] at a5 av aw
      rw [decodeN_four _ _ _ _ _ a1 a2 a3 a4 a5 av aw] at e
      exact absurd (congrArg Prod.snd e) (by dsimp only; omega)
    · exact e'
theorem decode_fold (l : List UInt8) : decodeL (fold l) = (foldR (decodeL l).1, (decodeL l).2) := by
  rw [decodeL_N, decodeL_N, fold_length, getD_fold, getD_fold, getD_fold, getD_fold, decodeN_fold]
theorem steps_fold (l : List UInt8) : steps (fold l) = (steps l).map fun d => (foldR d.1, d.2) := by
  refine steps_ind (P := fun l => steps (fold l) = (steps l).map fun d => (foldR d.1, d.2)) rfl ?_ l
  intro l h ih
  have hf : fold l ≠ [] := by intro e; apply h; exact List.map_eq_nil_iff.1 e
  rw [steps_step l h, steps_step _ hf, decode_fold l, List.map_cons, ← ih]
  dsimp only
  congr 1
  unfold fold
  rw [List.map_drop]
theorem count_fold (l : List UInt8) : count (fold l) = count l := by unfold count; rw [steps_fold, List.length_map]
theorem good_fold (l : List UInt8) : good (fold l) = good l := by
  unfold good
  rw [steps_fold, List.all_map]
  congr 1
  funext d
  simp only [Function.comp, bad, foldR]
  congr 2
  by_cases h : 65 ≤ d.1 ∧ d.1 ≤ 90
  · rw [if_pos h]
    have h1 : (d.1 + 32 == 65533) = false := by simp; omega
    have h2 : (d.1 == 65533) = false := by simp; omega
    rw [h1, h2]
  · rw [if_neg h]
theorem valid_fold (l : List UInt8) (h : validN l = true) : fold l = l := by
  rw [← valid_same] at h
  unfold validB at h
  simp only [Bool.and_eq_true] at h
  have hp := h.2
  rw [List.all_eq_true] at hp
  unfold fold
  conv => rhs; rw [← List.map_id l]
  refine List.map_congr_left fun c hc => ?_
  apply UInt8.toNat.inj
  rw [foldB_toNat]
  have := hp c hc
  unfold partR at this
  simp at this
  split
  · omega
  · rfl

/-! ### clipping -/
def clip (n : Int) (l : List UInt8) : List UInt8 := l.take (width ((steps l).take n.toNat))
theorem clip_all (l : List UInt8) : clip (count l) l = l := by
  unfold clip count
  rw [Int.toNat_natCast, List.take_length, width_steps, List.take_length]
theorem clip_zero (n : Int) (h : n ≤ 0) (l : List UInt8) : clip n l = [] := by
  unfold clip
  rw [Int.toNat_of_nonpos h]
  simp [width]
theorem decodeN_take (n m b0 b1 b2 b3 c1 c2 c3 : Nat) (_h1 : 1 ≤ m) (hm : m ≤ n) (hw : (decodeN n b0 b1 b2 b3).2 ≤ m) (e1 : 1 < m → c1 = b1) (e2 : 2 < m → c2 = b2) (e3 : 3 < m → c3 = b3) :
    decodeN m b0 c1 c2 c3 = decodeN n b0 b1 b2 b3 := by
  rcases decodeN_shape n b0 b1 b2 b3 with ⟨c, e⟩ | ⟨a1, a2, a3, av, e⟩ | ⟨a1, a2, a3, a4, av, as', e⟩ | ⟨a1, a2, a3, a4, a5, av, aw, e⟩ | e
  · rw [e, decodeN_ascii _ _ _ _ _ c]
  · rw [e] at hw ⊢
    dsimp only at hw
    rw [e1 (by omega)]
    exact decodeN_two _ _ _ _ _ a1 (by omega) a3 av
  · rw [e] at hw ⊢
    dsimp only at hw
    rw [e1 (by omega), e2 (by omega)]
    exact decodeN_three _ _ _ _ _ a1 (by omega) a3 a4 av as'
  · rw [e] at hw ⊢
    dsimp only at hw
    rw [e1 (by omega), e2 (by omega), e3 (by omega)]
    exact decodeN_four _ _ _ _ _ a1 (by omega) a3 a4 a5 av aw
  · rw [e]
    rcases decodeN_shape m b0 c1 c2 c3 with ⟨c, e'⟩ | ⟨a1, a2, a3, av, e'⟩ | ⟨a1, a2, a3, a4, av, as', e'⟩ | ⟨a1, a2, a3, a4, a5, av, aw, e'⟩ | e'
    · rw [e', ← e, decodeN_ascii _ _ _ _ _ c]
    · rw [e1 (by omega)] at a3 av
      rw [decodeN_two _ _ _ _ _ a1 (by omega) a3 av] at e
      exact absurd (congrArg Prod.snd e) (by dsimp only; omega)
    · rw [e1 (by omega)] at a3 av as'
      rw [e2 (by omega)] at a4 av as'
      rw [decodeN_three _ _ _ _ _ a1 (by omega) a3 a4 av as'] at e
      exact absurd (congrArg Prod.snd e) (by dsimp only; omega)
    · rw [e1 (by omega)] at a3 av aw
      rw [e2 (by omega)] at a4 av aw
      rw [e3 (by omega)] at a5 av aw
      rw [decodeN_four _ _ _ _ _ a1 (by omega) a3 a4 a5 av aw] at e
      exact absurd (congrArg Prod.snd e) (by dsimp only; omega)
    · exact e'
theorem decode_take (l : List UInt8) (m : Nat) (h : l ≠ []) (hm : (decodeL l).2 ≤ m) : decodeL (l.take m) = decodeL l := by
  have hw := decodeL_width l
  have hl : 0 < l.length := List.length_pos_iff.2 h
  have hle := decodeL_le l h
  rw [decodeL_N] at hm hw hle
  rw [decodeL_N, decodeL_N l, List.length_take, getD_takeU _ _ _ (by omega)]
  refine decodeN_take _ _ _ _ _ _ _ _ _ (by omega) (Nat.min_le_right _ _) (by omega) ?_ ?_ ?_
  all_goals (intro hk; rw [getD_takeU _ _ _ (by omega)])
theorem steps_take : ∀ (n : Nat) (l : List UInt8), steps (l.take (width ((steps l).take n))) = (steps l).take n
  | 0, l => by simp [width, steps_nil]
  | n + 1, l => by
    by_cases h : l = []
    · subst h; simp [steps_nil]
    · have hw := decodeL_width l
      have hle := decodeL_le l h
      have hl : 0 < l.length := List.length_pos_iff.2 h
      rw [steps_step l h, List.take_succ_cons, width]
      have hne : l.take ((decodeL l).2 + width ((steps (l.drop (decodeL l).2)).take n)) ≠ [] := by
        intro e
        have := congrArg List.length e
        rw [List.length_take, List.length_nil] at this
        omega
      rw [steps_step _ hne, decode_take l _ h (by omega)]
      congr 1
      rw [List.drop_take, Nat.add_sub_cancel_left, steps_take n]
theorem steps_clip (n : Int) (l : List UInt8) : steps (clip n l) = (steps l).take n.toNat := steps_take _ _
theorem count_clip (n : Int) (l : List UInt8) : count (clip n l) = min n.toNat (count l) := by
  unfold count; rw [steps_clip, List.length_take]
theorem clip_clip (n m : Int) (l : List UInt8) : clip m (clip n l) = clip (min n m) l := by
  have e : (min n m).toNat = min n.toNat m.toNat := by omega
  show (clip n l).take (width ((steps (clip n l)).take m.toNat)) = _
  rw [steps_clip, List.take_take]
  show (l.take _).take _ = l.take _
  rw [List.take_take, e, Nat.min_comm n.toNat]
  rw [Nat.min_eq_left (width_take_mono _ _ _ (by omega))]
theorem clip_prefix (n : Int) (l : List UInt8) : l.take (clip n l).length = clip n l := by
  unfold clip
  rw [List.length_take, ← List.take_take, List.take_length]
theorem clip_length (n : Int) (l : List UInt8) : (clip n l).length ≤ l.length := by
  unfold clip; rw [List.length_take]; omega

/-! ### texts one behind the other -/
theorem decodeN_app (n m b0 b1 b2 b3 c1 c2 c3 : Nat) (_h1 : 1 ≤ n) (hm : n ≤ m) (e1 : 1 < n → c1 = b1) (e2 : 2 < n → c2 = b2) (e3 : 3 < n → c3 = b3)
    (f1 : n = 1 → 1 < m → c1 / 64 ≠ 2) (f2 : n = 2 → 2 < m → c2 / 64 ≠ 2) (f3 : n = 3 → 3 < m → c3 / 64 ≠ 2) : decodeN m b0 c1 c2 c3 = decodeN n b0 b1 b2 b3 := by
  rcases decodeN_shape n b0 b1 b2 b3 with ⟨c, e⟩ | ⟨a1, a2, a3, av, e⟩ | ⟨a1, a2, a3, a4, av, as', e⟩ | ⟨a1, a2, a3, a4, a5, av, aw, e⟩ | e
  · rw [e, decodeN_ascii _ _ _ _ _ c]
  · rw [e, e1 (by omega)]
    exact decodeN_two _ _ _ _ _ a1 (by omega) a3 av
  · rw [e, e1 (by omega), e2 (by omega)]
    exact decodeN_three _ _ _ _ _ a1 (by omega) a3 a4 av as'
  · rw [e, e1 (by omega), e2 (by omega), e3 (by omega)]
    exact decodeN_four _ _ _ _ _ a1 (by omega) a3 a4 a5 av aw
  · rw [e]
    rcases decodeN_shape m b0 c1 c2 c3 with ⟨c, e'⟩ | ⟨a1, a2, a3, av, e'⟩ | ⟨a1, a2, a3, a4, av, as', e'⟩ | ⟨a1, a2, a3, a4, a5, av, aw, e'⟩ | e'
    · rw [e', ← e, decodeN_ascii _ _ _ _ _ c]
    · have n1 : 1 < n := by
        rcases Nat.lt_or_ge 1 n with h | h
        · exact h
        · exact absurd a3 (f1 (by omega) (by omega))
      rw [e1 n1] at a3 av
      rw [decodeN_two _ _ _ _ _ a1 n1 a3 av] at e
      exact absurd (congrArg Prod.snd e) (by dsimp only; omega)
    · have n2 : 2 < n := by
        rcases Nat.lt_or_ge 2 n with h | h
        · exact h
        · by_cases h' : n = 1
          · exact absurd a3 (f1 h' (by omega))
          · exact absurd a4 (f2 (by omega) (by omega))
      rw [e1 (by omega)] at a3 av as'
      rw [e2 n2] at a4 av as'
      rw [decodeN_three _ _ _ _ _ a1 n2 a3 a4 av as'] at e
      exact absurd (congrArg Prod.snd e) (by dsimp only; omega)
    · have n3 : 3 < n := by
        rcases Nat.lt_or_ge 3 n with h | h
        · exact h
        · by_cases h' : n = 1
          · exact absurd a3 (f1 h' (by omega))
          · by_cases h'' : n = 2
            · exact absurd a4 (f2 h'' (by omega))
            · exact absurd a5 (f3 (by omega) (by omega))
      rw [e1 (by omega)] at a3 av aw
      rw [e2 (by omega)] at a4 av aw
      rw [e3 n3] at a5 av aw
      rw [decodeN_four _ _ _ _ _ a1 n3 a3 a4 a5 av aw] at e
      exact absurd (congrArg Prod.snd e) (by dsimp only; omega)
    · exact e'
/-- A text that doesn't begin with a byte that goes on a rune. -/
def Begins (t : List UInt8) : Prop := 0 < t.length → (t.getD 0 0).toNat / 64 ≠ 2
theorem getD_appL (a t : List UInt8) (i : Nat) (h : i < a.length) : (a ++ t).getD i 0 = a.getD i 0 := by
  simp [List.getD, List.getElem?_append_left h]
theorem getD_appR (a t : List UInt8) : (a ++ t).getD a.length 0 = t.getD 0 0 := by
  simp only [List.getD]
  rw [List.getElem?_append_right (Nat.le_refl _), Nat.sub_self]
theorem decode_app (a t : List UInt8) (h : a ≠ []) (ht : Begins t) : decodeL (a ++ t) = decodeL a := by
  have hl : 0 < a.length := List.length_pos_iff.2 h
  have hR := getD_appR a t
  rw [decodeL_N, decodeL_N a, getD_appL a t 0 hl, List.length_append]
  refine decodeN_app _ _ _ _ _ _ _ _ _ hl (by omega) ?_ ?_ ?_ ?_ ?_ ?_
  · intro hk; rw [getD_appL a t 1 hk]
  · intro hk; rw [getD_appL a t 2 hk]
  · intro hk; rw [getD_appL a t 3 hk]
  · intro hk hm; rw [hk] at hR; rw [hR]; exact ht (by omega)
  · intro hk hm; rw [hk] at hR; rw [hR]; exact ht (by omega)
  · intro hk hm; rw [hk] at hR; rw [hR]; exact ht (by omega)
theorem steps_app (a t : List UInt8) (ht : Begins t) : steps (a ++ t) = steps a ++ steps t := by
  refine steps_ind (P := fun a => steps (a ++ t) = steps a ++ steps t) rfl ?_ a
  intro a h ih
  have hle := decodeL_le a h
  have hne : a ++ t ≠ [] := by simp [h]
  rw [steps_step _ hne, decode_app a t h ht, steps_step a h, List.cons_append, ← ih, List.drop_append_of_le_length hle]

/-! ### which is ahead -/
def lexN : List Nat → List Nat → Int
  | [], [] => 0
  | [], _ :: _ => -1
  | _ :: _, [] => 1
  | a :: as, b :: bs => if a < b then -1 else if b < a then 1 else lexN as bs
theorem lex_bytes : ∀ a b : List UInt8, compareBytes a b = lexN (a.map (·.toNat)) (b.map (·.toNat))
  | [], [] => rfl
  | [], _ :: _ => rfl
  | _ :: _, [] => rfl
  | a :: as, b :: bs => by
    simp only [compareBytes, lexN, List.map_cons, UInt8.lt_iff_toNat_lt, lex_bytes as bs]
theorem lex_vals : ∀ a b, lexN a b = -1 ∨ lexN a b = 0 ∨ lexN a b = 1
  | [], [] => by simp [lexN]
  | [], _ :: _ => by simp [lexN]
  | _ :: _, [] => by simp [lexN]
  | a :: as, b :: bs => by
    unfold lexN
    split
    · simp
    · split
      · simp
      · exact lex_vals as bs
theorem lex_self : ∀ a, lexN a a = 0
  | [] => rfl
  | a :: as => by simp [lexN, lex_self as]
theorem lex_eq : ∀ a b, lexN a b = 0 → a = b
  | [], [], _ => rfl
  | [], _ :: _, h => by simp [lexN] at h
  | _ :: _, [], h => by simp [lexN] at h
  | a :: as, b :: bs, h => by
    unfold lexN at h
    split at h
    · simp at h
    · split at h
      · simp at h
      · rw [lex_eq as bs h, show a = b by omega]
theorem lex_turn : ∀ a b, lexN b a = - lexN a b
  | [], [] => rfl
  | [], _ :: _ => rfl
  | _ :: _, [] => rfl
  | a :: as, b :: bs => by
    have ih := lex_turn as bs
    simp only [lexN]
    by_cases h1 : a < b
    · rw [if_neg (by omega : ¬ b < a), if_pos h1, if_pos h1]; rfl
    · by_cases h2 : b < a
      · rw [if_pos h2, if_neg h1, if_pos h2]
      · rw [if_neg h2, if_neg h1, if_neg h1, if_neg h2]; exact ih
theorem lex_trans : ∀ a b c, lexN a b < 0 → lexN b c < 0 → lexN a c < 0
  | [], [], c, h, _ => by simp [lexN] at h
  | [], _ :: _, [], _, h => by simp [lexN] at h
  | [], _ :: _, _ :: _, _, _ => by simp [lexN]
  | _ :: _, [], c, h, _ => by simp [lexN] at h
  | _ :: _, _ :: _, [], _, h => by simp [lexN] at h
  | a :: as, b :: bs, c :: cs, h1, h2 => by
    unfold lexN at h1 h2 ⊢
    split at h1
    · split at h2
      · rw [if_pos (by omega)]; decide
      · split at h2
        · simp at h2
        · rw [if_pos (by omega)]; decide
    · split at h1
      · simp at h1
      · split at h2
        · rw [if_pos (by omega)]; decide
        · split at h2
          · simp at h2
          · rw [if_neg (by omega), if_neg (by omega)]; exact lex_trans as bs cs h1 h2
theorem lex_app : ∀ (a : List Nat) (x : Nat) (t : List Nat), lexN a (a ++ x :: t) = -1
  | [], _, _ => rfl
  | a :: as, x, t => by simp [lexN, lex_app as x t]

/-- By runes first, then by bytes. -/
def lessL (d : Bool) (x y : List UInt8) : Bool := if lexN (runes x) (runes y) = 0 then d else decide (lexN (runes x) (runes y) < 0)
def less (x y : List UInt8) : Bool := lessL (decide (compareBytes x y < 0)) x y
theorem less_iff (x y : List UInt8) : less x y = true ↔ lexN (runes x) (runes y) < 0 ∨ (lexN (runes x) (runes y) = 0 ∧ compareBytes x y < 0) := by
  unfold less lessL
  split
  · rename_i h; rw [h]; simp
  · rename_i h
    simp only [decide_eq_true_eq]
    constructor
    · exact .inl
    · rintro (h1 | h1)
      · exact h1
      · exact absurd h1.1 h
theorem less_self (x : List UInt8) : less x x = false := by
  rw [Bool.eq_false_iff, Ne, less_iff, lex_self, lex_bytes, lex_self]; omega
theorem map_toNat_inj : ∀ x y : List UInt8, x.map (·.toNat) = y.map (·.toNat) → x = y
  | [], [], _ => rfl
  | [], _ :: _, h => by simp at h
  | _ :: _, [], h => by simp at h
  | a :: as, b :: bs, h => by
    simp only [List.map_cons, List.cons.injEq] at h
    rw [UInt8.toNat.inj h.1, map_toNat_inj as bs h.2]
theorem less_total (x y : List UInt8) (h : x ≠ y) : less x y = true ∨ less y x = true := by
  rw [less_iff, less_iff, lex_turn (runes x) (runes y), lex_bytes, lex_bytes, lex_turn (x.map _)]
  by_cases h1 : lexN (runes x) (runes y) = 0
  · have h2 : lexN (x.map (·.toNat)) (y.map (·.toNat)) ≠ 0 := by
      intro e
      apply h
      exact map_toNat_inj _ _ (lex_eq _ _ e)
    omega
  · omega
theorem less_trans (x y z : List UInt8) (h1 : less x y = true) (h2 : less y z = true) : less x z = true := by
  rw [less_iff] at h1 h2 ⊢
  rw [lex_bytes] at h1 h2 ⊢
  rcases h1 with h1 | ⟨e1, h1⟩ <;> rcases h2 with h2 | ⟨e2, h2⟩
  · exact .inl (lex_trans _ _ _ h1 h2)
  · rw [← lex_eq _ _ e2]; exact .inl h1
  · rw [lex_eq _ _ e1]; exact .inl h2
  · refine .inr ⟨?_, lex_trans _ _ _ h1 h2⟩
    rw [lex_eq _ _ e1, e2]
theorem less_x (a : List UInt8) : less a (a ++ [120]) = true := by
  rw [less_iff]
  refine .inl ?_
  have : runes (a ++ [120]) = runes a ++ [120] := by
    unfold runes
    rw [steps_app a [120] (by intro _; decide), List.map_append]
    rfl
  rw [this, lex_app]; decide
theorem less_nil (a : List UInt8) (h : a ≠ []) : less [] a = true := by
  rw [less_iff, runes_step a h]
  refine .inl ?_
  show (-1 : Int) < 0
  decide
theorem lexN_cons (a b : Nat) (as bs : List Nat) : lexN (a :: as) (b :: bs) = if a < b then -1 else if b < a then 1 else lexN as bs := rfl
theorem lessL_step (d : Bool) (x y : List UInt8) (hx : x ≠ []) (hy : y ≠ []) :
    lessL d x y = if (decodeL x).1 = (decodeL y).1 then lessL d (x.drop (decodeL x).2) (y.drop (decodeL y).2) else decide ((decodeL x).1 < (decodeL y).1) := by
  unfold lessL
  rw [runes_step x hx, runes_step y hy]
  generalize runes (x.drop (decodeL x).2) = p
  generalize runes (y.drop (decodeL y).2) = q
  by_cases h : (decodeL x).1 = (decodeL y).1
  · have e : lexN ((decodeL x).1 :: p) ((decodeL y).1 :: q) = lexN p q := by
      rw [lexN_cons, if_neg (by omega), if_neg (by omega)]
    rw [if_pos h, e]
  · rw [if_neg h]
    by_cases h1 : (decodeL x).1 < (decodeL y).1
    · have e : lexN ((decodeL x).1 :: p) ((decodeL y).1 :: q) = -1 := by rw [lexN_cons, if_pos h1]
      rw [e]; simp [h1]
    · have e : lexN ((decodeL x).1 :: p) ((decodeL y).1 :: q) = 1 := by rw [lexN_cons, if_neg h1, if_pos (by omega)]
      rw [e]; simp [h1]
end Go.Nam
