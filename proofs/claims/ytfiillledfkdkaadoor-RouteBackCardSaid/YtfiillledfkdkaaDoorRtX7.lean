/- The reader of bytes. The reader's numbers, texts, prefixes. Prefixes, certificates read. -/
import Derived.Test.YtfiillledfkdkaaDoorRtX6
set_option linter.unusedVariables false
set_option linter.unusedSimpArgs false
set_option linter.unusedSimpArgs false
namespace Go.Proofs
open Go.Shelf Go.RowKit Go.Lib Go.Rt Go.Nam Go.Tp
/-- A reader's state: the bytes that are left, whether some lacked. -/
structure Rt.Rd (w : World) (B : Nat) (l : List Int) (bad : Bool) : Prop where
  row : ∃ a n c, Rt.Row w B 88 #[.slice a n c, .bool bad] ∧ Sl w a n c (l.map (Value.int .u8)) ∧ (0 < n → ∀ b off, a = some ⟨b, off, none⟩ → b < B)
theorem Rt.rd_ne {w : World} {B n c m d : Nat} {a x : Option Addr} {l : List Int} {bad : Bool} (hr : Rt.Row w B 88 #[.slice x m d, .bool bad]) (hs : Sl w a n c (l.map (Value.int .u8))) (h0 : 0 < n) : ∀ b off, a = some ⟨b, off, none⟩ → b ≠ B := fun b off e hb => by
  subst hb
  have hl : l.length = n := by have := hs.len; simpa using this
  have h1 := hs.cell b off e 0 _ (by rw [List.getElem?_map, List.getElem?_eq_getElem (by omega)]; rfl)
  rw [Nat.add_zero, cell_of_row _ _ _ _ _ _ hr] at h1
  match off with
  | 0 => simp at h1
  | 1 => simp at h1
  | k + 2 => simp at h1
def Rt.take (l : List Int) (bad : Bool) (n : Nat) : List Int × List Int × Bool := if l.length < n then (List.replicate n 0, [], true) else (l.take n, l.drop n, bad)
set_option maxHeartbeats 1000000 in
set_option maxRecDepth 100000 in
theorem Rt.takeW (w : World) (B : Nat) (l : List Int) (bad : Bool) (n : Nat) (hn : n ≤ 1048576) (h : Rt.Rd w B l bad) (hl : l.length ≤ 1099511627776) :
    Calls Tryd.prog 74 #[.pointer (some ⟨B, 0, none⟩), .int .i64 (n : Int)] w fun e w' => ∃ v, e = .returned v ∧ (Bs (Rt.take l bad n).1).p v w' ∧ Rt.Rd w' B (Rt.take l bad n).2.1 (Rt.take l bad n).2.2 ∧ w.grownBy w' (some B) := by
  obtain ⟨i5, hi5, hz0, hz1, hz2⟩ := info_parts Rt.info5
  obtain ⟨a, m, c, hr, hs, hlo⟩ := h.row
  have HLO := Lib.hid hlo
  clear hlo
  have hm : l.length = m := by have := hs.len; simpa using this
  have hcap := hs.cap
  have hbig := hs.big
  unfold maxLen at hbig
  have f0 := hr.cell 0 rfl
  have f1 := hr.cell 1 rfl
  have z0 := hr.free 0
  have z1 := hr.free 1
  unfold Rt.take
  rw [hm] at hl ⊢
  have HS := Lib.hid hs
  have hlt := hr.lt
  clear hs h
  by_cases hc : m < n
  · rw [if_pos hc]
    go_enter Tryd.func74, Tryd.ntmps74
    go_wp2_with (refine wpList_make_full _ rfl _ _ 34 rfl w.heap.size 5 i5 _ 1 Tryd.underlying34 hi5 hz0 hz1 .i64 .i64 _ _ n rfl rfl rfl rfl (by rw [hz2]; omega) (by simp only [maxLen]; omega) (by simp [World.setCell]) ?_; intro w3 o3 g3)
    go_ret
    have hg2 := grown_trans (grown_setCell w ⟨B, 1, none⟩ (.bool true)) (grown_setCell (w.setCell ⟨B, 1, none⟩ (.bool true)) ⟨B, 0, none⟩ (.slice none 0 0))
    have hr2 := (hr.set 1 (.bool true)).set 0 (.slice none 0 0)
    have hr3 := (g3.block B (by simpa [World.setCell] using hlt) (by simp)).trans hr2
    refine ⟨_, rfl, ?_, ⟨none, 0, 0, hr3, Sl.nil _, fun h => absurd h (Nat.lt_irrefl 0)⟩, grown_trans hg2 ⟨g3.os, g3.tape, g3.output, g3.size, fun k hk _ => g3.block k hk (by simp)⟩⟩
    obtain ⟨a', c', e', hs', _⟩ := Sl.of_own o3
    cases e'
    refine ⟨_, n, n, rfl, ?_⟩
    have e : (madeCells (Value.int .u8 0).cells (n * 1)).toList = (List.replicate n (0 : Int)).map (Value.int .u8) := by
      rw [Nat.mul_one, List.map_replicate]
      exact toList_madeCells_one _ n
    rw [e, show ((w.setCell ⟨B, 1, none⟩ (.bool true)).setCell ⟨B, 0, none⟩ (.slice none 0 0)).heap.size = w.heap.size by simp [World.setCell]] at hs'
    exact hs'
  · rw [if_neg hc]
    have hfar := fun h0 => Rt.rd_ne hr HS.out h0
    have HF := Lib.hid hfar
    have hkn : n ≤ m := by omega
    clear hfar
    go_enter Tryd.func74, Tryd.ntmps74
    go_wp2
    all_goals
      go_ret
      refine ⟨_, rfl, ⟨a, n, _, rfl, ?_⟩, ⟨_, _, _, hr.set 0 _, ?_, ?_⟩, grown_setCell _ _ _⟩
    · rw [List.map_take]
      have hcn : c = n := by omega
      subst hcn
      exact (HS.out.take _ hkn).grown (grown_setCell w ⟨B, 0, none⟩ _) (fun h0 b off e => fun e2 => HF.out (by omega) b off e (by simpa using e2))
    · have hmn : m = n := by omega
      subst hmn
      rw [List.drop_of_length_le (by omega)]
      exact Sl.empty (by omega) (by simp [maxLen])
    · intro h0
      exact absurd h0 (by omega)
    · rw [List.map_take]
      exact (HS.out.take n hkn).grown (grown_setCell w ⟨B, 0, none⟩ _) (fun h0 b off e => fun e2 => HF.out (by omega) b off e (by simpa using e2))
    · rw [List.map_drop]
      refine (HS.out.drop n hkn).grown (grown_setCell w ⟨B, 0, none⟩ _) (fun h0 b off e => fun e2 => ?_)
      obtain ⟨b', off', rfl, _⟩ := HS.out.at_ (by omega)
      rw [Option.map_some, addN] at e
      cases e
      exact HF.out (by omega) b off' rfl (by simpa using e2)
    · intro h0 b off e
      obtain ⟨b', off', rfl, _⟩ := HS.out.at_ (by omega)
      rw [Option.map_some, addN] at e
      cases e
      exact HLO.out (by omega) b off' rfl
end Go.Proofs
set_option linter.unusedSimpArgs false
namespace Go.Proofs
open Go.Shelf Go.RowKit Go.Lib Go.Rt Go.Nam Go.Tp
def Rt.Byt (l : List Int) : Prop := ∀ z ∈ l, 0 ≤ z ∧ z < 256
theorem Rt.Byt.take {l : List Int} (h : Rt.Byt l) (bad : Bool) (n : Nat) : Rt.Byt (Rt.take l bad n).1 ∧ Rt.Byt (Rt.take l bad n).2.1 := by
  unfold Rt.take
  split
  · exact ⟨fun z hz => by rw [List.mem_replicate] at hz; omega, fun z hz => by cases hz⟩
  · exact ⟨fun z hz => h z (List.mem_of_mem_take hz), fun z hz => h z (List.mem_of_mem_drop hz)⟩
theorem Rt.take_length (l : List Int) (bad : Bool) (n : Nat) : (Rt.take l bad n).1.length = n := by
  unfold Rt.take
  split
  · simp
  · simp; omega
theorem Rt.take_rest_le (l : List Int) (bad : Bool) (n : Nat) : (Rt.take l bad n).2.1.length ≤ l.length := by
  unfold Rt.take
  split <;> simp
def Rt.numI (l : List Int) : Int := l.foldl (fun n c => n * 256 + c) 0
theorem Rt.numI_snoc (l : List Int) (c : Int) : Rt.numI (l ++ [c]) = Rt.numI l * 256 + c := by simp [Rt.numI]
theorem Rt.numI_bd : ∀ (k : Nat) (l : List Int), l.length = k → Rt.Byt l → 0 ≤ Rt.numI l ∧ Rt.numI l < 256 ^ k
  | 0, l, h, _ => by
    have : l = [] := List.length_eq_zero_iff.1 h
    subst this; simp [Rt.numI]
  | k + 1, l, h, hb => by
    have hne : l ≠ [] := fun e => by subst e; simp at h
    have e := List.dropLast_concat_getLast hne
    have hl := hb (l.getLast hne) (List.getLast_mem hne)
    have ih := Rt.numI_bd k l.dropLast (by simp [h]) (fun z hz => hb z (List.dropLast_subset l hz))
    rw [← e, Rt.numI_snoc, Int.pow_succ]
    omega
theorem Rt.or_byte (n c : Int) (h0 : 0 ≤ n) (h1 : n < 72057594037927936) (c0 : 0 ≤ c) (c1 : c < 256) : bits .or .u64 (n * 256) c = n * 256 + c := by
  obtain ⟨N, rfl⟩ : ∃ N : Nat, n = N := ⟨n.toNat, by omega⟩
  obtain ⟨C, rfl⟩ : ∃ C : Nat, c = C := ⟨c.toNat, by omega⟩
  have hc : C < 2 ^ 8 := by omega
  have e1 : (BitVec.ofInt 64 ((N : Int) * 256)).toNat = N * 256 := by
    rw [show (N : Int) * 256 = ((N * 256 : Nat) : Int) by simp, BitVec.ofInt_natCast, BitVec.toNat_ofNat]; exact Nat.mod_eq_of_lt (by omega)
  have e2 : (BitVec.ofInt 64 (C : Int)).toNat = C := by rw [BitVec.ofInt_natCast, BitVec.toNat_ofNat]; exact Nat.mod_eq_of_lt (by omega)
  have e : bits .or .u64 ((N : Int) * 256) (C : Int) = IntKind.u64.wrap ((BitVec.ofInt 64 ((N : Int) * 256) ||| BitVec.ofInt 64 (C : Int)).toNat : Int) := rfl
  rw [e, BitVec.toNat_or, e1, e2, show N * 256 = 2 ^ 8 * N by omega, ← Nat.two_pow_add_eq_or_of_lt hc, IntKind.wrap_u64]
  omega
set_option maxHeartbeats 1000000 in
set_option maxRecDepth 100000 in
theorem Rt.numberR (w : World) (B : Nat) (l : List Int) (bad : Bool) (k : Nat) (hk : k ≤ 8) (h : Rt.Rd w B l bad) (hl : l.length ≤ 1099511627776) (hb : Rt.Byt l) :
    Calls Tryd.prog 50 #[.pointer (some ⟨B, 0, none⟩), .int .i64 (k : Int)] w fun e w' => e = .returned (.int .u64 (Rt.numI (Rt.take l bad k).1)) ∧ Rt.Rd w' B (Rt.take l bad k).2.1 (Rt.take l bad k).2.2 ∧ w.grownBy w' (some B) := by
  have ht := Rt.takeW w B l bad k (by omega) h hl
  have hln := Rt.take_length l bad k
  have hby := (hb.take bad k).1
  generalize (Rt.take l bad k).2.1 = R1 at *
  generalize (Rt.take l bad k).2.2 = R2 at *
  generalize (Rt.take l bad k).1 = T at *
  obtain ⟨V, hV⟩ : ∃ V, Rt.numI T = V := ⟨_, rfl⟩
  rw [hV]
  have HV := Lib.hid hV
  clear hV hb hl
  go_enter Tryd.func50, Tryd.ntmps50
  go_wp2_with (go_at_call 74; go_fit ht; rintro e w1 ⟨v1, rfl, hbs, hrd, hg⟩; obtain ⟨a, n, c, rfl, hs⟩ := hbs; have hnk := hs.len; rw [List.length_map, hln] at hnk; subst hnk; have hcap := hs.cap; have hbig := hs.big; unfold maxLen at hbig; have HS := Lib.hid hs; have HRD := Lib.hid hrd; have HG := Lib.hid hg; clear hs hrd hg)
  go_loop [5, 12] (fun t i => ∃ j : Nat, j ≤ k ∧ i = .int .i64 (j : Int) ∧ t = .int .u64 (Rt.numI (T.take j))) (fun _ i => k - (Go.RowKit.intOf i).toNat)
  case atStart => exact ⟨0, Nat.zero_le _, rfl, rfl⟩
  case round =>
    obtain ⟨j, hj, rfl, rfl⟩ := hrel
    have hbd := Rt.numI_bd j (T.take j) (by simp; omega) (fun z hz => hby z (List.mem_of_mem_take hz))
    by_cases hjk : j < k
    · obtain ⟨b, off, ha, hblt⟩ := HS.out.at_ (by omega)
      subst ha
      obtain ⟨z, hz⟩ : ∃ z, T[j]? = some z := ⟨_, List.getElem?_eq_getElem (by omega)⟩
      have hld := HS.out.cell b off rfl j (.int .u8 z) (by rw [List.getElem?_map, hz]; rfl)
      have hzb := hby z (List.mem_of_getElem? hz)
      have hst : Rt.numI (T.take (j + 1)) = Rt.numI (T.take j) * 256 + z := by rw [List.take_add_one, hz]; exact Rt.numI_snoc _ _
      have hp : (256 : Int) ^ j ≤ 256 ^ 7 := by
        have := Nat.pow_le_pow_right (n := 256) (by omega) (show j ≤ 7 by omega)
        exact_mod_cast this
      have hlt : Rt.numI (T.take j) < 72057594037927936 := Int.lt_of_lt_of_le hbd.2 hp
      have hor := Rt.or_byte _ z hbd.1 hlt hzb.1 hzb.2
      have h0 := hbd.1
      have hw1 : IntKind.u64.wrap z = z := by rw [IntKind.wrap_u64]; omega
      generalize Rt.numI (T.take j) = M at *
      have hw2 : IntKind.u64.wrap (M * 256) = M * 256 := by rw [IntKind.wrap_u64]; omega
      have HST := Lib.hid hst
      clear hst hp hbd hz hzb
      go_wp2
      go_round
      case rel => exact ⟨j + 1, by omega, by simp, by rw [HST.out]⟩
      case measure => simp [Go.RowKit.intOf]; omega
    · have : j = k := by omega
      subst this
      rw [List.take_of_length_le (by omega), HV.out]
      go_wp2
      go_ret
      exact ⟨rfl, HRD.out, HG.out⟩
/-- A number read: the rest. -/
def Rt.num (l : List Int) (bad : Bool) (k : Nat) : Int × List Int × Bool := (Rt.numI (Rt.take l bad k).1, (Rt.take l bad k).2)
def Rt.text (l : List Int) (bad : Bool) : ByteArray × List Int × Bool :=
  let t := Rt.take (Rt.take l bad 1).2.1 (Rt.take l bad 1).2.2 (Rt.numI (Rt.take l bad 1).1).toNat
  (strOfNums t.1, t.2)
theorem Rt.num1_lt (l : List Int) (bad : Bool) (hb : Rt.Byt l) : 0 ≤ Rt.numI (Rt.take l bad 1).1 ∧ Rt.numI (Rt.take l bad 1).1 < 256 := by
  have := Rt.numI_bd 1 (Rt.take l bad 1).1 (Rt.take_length l bad 1) (hb.take bad 1).1
  simpa using this
set_option maxHeartbeats 1000000 in
set_option maxRecDepth 100000 in
theorem Rt.textR (w : World) (B : Nat) (l : List Int) (bad : Bool) (h : Rt.Rd w B l bad) (hl : l.length ≤ 1099511627776) (hb : Rt.Byt l) :
    Calls Tryd.prog 51 #[.pointer (some ⟨B, 0, none⟩)] w fun e w' => e = .returned (.string (Rt.text l bad).1) ∧ Rt.Rd w' B (Rt.text l bad).2.1 (Rt.text l bad).2.2 ∧ w.grownBy w' (some B) := by
  have hn : Calls Tryd.prog 50 #[.pointer (some ⟨B, 0, none⟩), .int .i64 1] w _ := Rt.numberR w B l bad 1 (by omega) h hl hb
  have hnl := Rt.num1_lt l bad hb
  have ht := fun w' hrd => Rt.takeW w' B (Rt.take l bad 1).2.1 (Rt.take l bad 1).2.2 (Rt.numI (Rt.take l bad 1).1).toNat (by omega) hrd (Nat.le_trans (Rt.take_rest_le l bad 1) hl)
  unfold Rt.text
  generalize Rt.numI (Rt.take l bad 1).1 = N at *
  obtain ⟨M, rfl⟩ : ∃ M : Nat, N = M := ⟨N.toNat, by omega⟩
  simp only [Int.toNat_natCast] at ht ⊢
  generalize (Rt.take l bad 1).2.1 = L1 at *
  generalize (Rt.take l bad 1).2.2 = B1 at *
  generalize Rt.take L1 B1 M = T at *
  obtain ⟨T1, T2, T3⟩ := T
  simp only at ht ⊢
  clear h hl hb
  go_enter Tryd.func51, Tryd.ntmps51
  go_wp2_with (first
    | (go_at_call 50; go_fit hn; rintro e w1 ⟨rfl, rd1, g1⟩)
    | (go_at_call 74; go_fit (ht w1 rd1); rintro e w2 ⟨v2, rfl, bs2, rd2, g2⟩; obtain ⟨a, n, c, rfl, hs⟩ := bs2; have hcv := conv_str (P := Tryd.prog) hs 34 9 5 Tryd.underlying34 Tryd.underlying5 Tryd.underlying9))
  go_ret
  exact ⟨rfl, rd2, grown_trans g1 g2⟩
/-- A prefix read. -/
structure Rt.PR where
  v : Bool
  hi : Int
  lo : Int
  len : Int
  rest : List Int
  bad : Bool
def Rt.pfxR (l : List Int) (bad : Bool) : Rt.PR :=
  let a := Rt.num l bad 1
  let bad1 := a.2.2 || (a.1 != 4 && a.1 != 6)
  let b := Rt.num a.2.1 bad1 8
  let c := Rt.num b.2.1 b.2.2 8
  let d := Rt.num c.2.1 c.2.2 1
  ⟨a.1 == 6, b.1, c.1, d.1, d.2.1, d.2.2⟩
end Go.Proofs
set_option linter.unusedSimpArgs false
namespace Go.Proofs
open Go.Shelf Go.RowKit Go.Lib Go.Rt Go.Nam Go.Tp
/-- A reader that works on, its bytes known. -/
structure Rt.Rs (w : World) (B : Nat) (l : List Int) (bad : Bool) : Prop where
  rd : Rt.Rd w B l bad
  len : l.length ≤ 1099511627776
  by_ : Rt.Byt l
theorem Rt.Rs.num {w : World} {B : Nat} {l : List Int} {bad : Bool} (h : Rt.Rs w B l bad) (k : Nat) (kk : Int) (hkk : kk = (k : Int)) (hk : k ≤ 8) :
    Calls Tryd.prog 50 #[.pointer (some ⟨B, 0, none⟩), .int .i64 kk] w fun e w' => e = .returned (.int .u64 (Rt.num l bad k).1) ∧ Rt.Rs w' B (Rt.num l bad k).2.1 (Rt.num l bad k).2.2 ∧ w.grownBy w' (some B) := by
  subst hkk
  exact (Rt.numberR w B l bad k hk h.rd h.len h.by_).mono fun _ _ ⟨a, b, c⟩ => ⟨a, ⟨b, Nat.le_trans (Rt.take_rest_le l bad k) h.len, (h.by_.take bad k).2⟩, c⟩
theorem Rt.Rs.tk {w : World} {B : Nat} {l : List Int} {bad : Bool} (h : Rt.Rs w B l bad) (k : Nat) (kk : Int) (hkk : kk = (k : Int)) (hk : k ≤ 1048576) :
    Calls Tryd.prog 74 #[.pointer (some ⟨B, 0, none⟩), .int .i64 kk] w fun e w' => (∃ v, e = .returned v ∧ (Bs (Rt.take l bad k).1).p v w') ∧ Rt.Rs w' B (Rt.take l bad k).2.1 (Rt.take l bad k).2.2 ∧ w.grownBy w' (some B) := by
  subst hkk
  exact (Rt.takeW w B l bad k hk h.rd h.len).mono fun _ _ ⟨v, a, a', b, c⟩ => ⟨⟨v, a, a'⟩, ⟨b, Nat.le_trans (Rt.take_rest_le l bad k) h.len, (h.by_.take bad k).2⟩, c⟩
theorem Rt.Rs.txt {w : World} {B : Nat} {l : List Int} {bad : Bool} (h : Rt.Rs w B l bad) :
    Calls Tryd.prog 51 #[.pointer (some ⟨B, 0, none⟩)] w fun e w' => e = .returned (.string (Rt.text l bad).1) ∧ Rt.Rs w' B (Rt.text l bad).2.1 (Rt.text l bad).2.2 ∧ w.grownBy w' (some B) :=
  (Rt.textR w B l bad h.rd h.len h.by_).mono fun _ _ ⟨a, b, c⟩ => ⟨a, ⟨b, Nat.le_trans (Rt.take_rest_le _ _ _) (Nat.le_trans (Rt.take_rest_le l bad 1) h.len), ((h.by_.take bad 1).2.take _ _).2⟩, c⟩
theorem Rt.Rs.grown {w w' : World} {B : Nat} {l : List Int} {bad : Bool} (h : Rt.Rs w B l bad) (hb : Below w.heap.size w w') : Rt.Rs w' B l bad := by
  obtain ⟨⟨a, n, c, hr, hs, ho⟩, h2, h3⟩ := h
  exact ⟨⟨a, n, c, hr.keep hb, hs.keep hb, ho⟩, h2, h3⟩
theorem Rt.num1_in {l : List Int} {bad : Bool} (hb : Rt.Byt l) (k : Nat) : 0 ≤ (Rt.num l bad k).1 ∧ (Rt.num l bad k).1 < 256 ^ k := Rt.numI_bd k _ (Rt.take_length l bad k) (hb.take bad k).1
theorem Rt.Rs.bad {w : World} {B : Nat} {l : List Int} {bad : Bool} (h : Rt.Rs w B l bad) : Rt.Rs (w.setCell ⟨B, 1, none⟩ (.bool true)) B l true := by
  obtain ⟨⟨a, n, c, hr, hs, ho⟩, h2, h3⟩ := h
  exact ⟨⟨a, n, c, hr.set 1 (.bool true), hs.grown (grown_setCell w ⟨B, 1, none⟩ _) (fun h0 b off e e2 => Rt.rd_ne hr hs h0 b off e (by simpa using e2)), ho⟩, h2, h3⟩
theorem Rt.Rs.cell1 {w : World} {B : Nat} {l : List Int} {bad : Bool} (h : Rt.Rs w B l bad) : w.cell? ⟨B, 1, none⟩ = some (.bool bad) ∧ w.frozen? ⟨B, 1, none⟩ = false ∧ B < w.heap.size := by
  obtain ⟨⟨a, n, c, hr, hs, ho⟩, h2, h3⟩ := h
  exact ⟨hr.cell 1 rfl, hr.free 1, hr.lt⟩
theorem Rt.Rs.cell0 {w : World} {B : Nat} {l : List Int} {bad : Bool} (h : Rt.Rs w B l bad) : ∃ a n c, w.cell? ⟨B, 0, none⟩ = some (.slice a n c) ∧ Sl w a n c (l.map (Value.int .u8)) ∧ n = l.length := by
  obtain ⟨⟨a, n, c, hr, hs, ho⟩, h2, h3⟩ := h
  exact ⟨a, n, c, hr.cell 0 rfl, hs, by have := hs.len; simpa using this.symm⟩
theorem Rt.Rs.other {w w' : World} {B : Nat} {l : List Int} {bad : Bool} (h : Rt.Rs w B l bad) {row : Option Nat} (hg : w.grownBy w' row) (hne : ∀ b, row = some b → B < b) : Rt.Rs w' B l bad := by
  obtain ⟨⟨a, n, c, hr, hs, ho⟩, h2, h3⟩ := h
  refine ⟨⟨a, n, c, (hg.block B hr.lt (fun e => by have := hne B e.symm; omega)).trans hr, hs.grown hg (fun h0 b off e e2 => ?_), ho⟩, h2, h3⟩
  have := ho h0 b off e
  have := hne b e2.symm
  omega
def Rt.isU8 : Value → Bool
  | .int .u8 _ => true
  | _ => false
theorem Rt.Rs.far {w : World} {B : Nat} {l : List Int} {bad : Bool} (h : Rt.Rs w B l bad) {D : Nat} {t : TypeId} {cs : Array Value} (r : Rt.Row w D t cs) (hcs : cs.all (fun x => !Rt.isU8 x) = true) (hD : D ≠ B) (j : Nat) (v : Value) : Rt.Rs (w.setCell ⟨D, j, none⟩ v) B l bad := by
  obtain ⟨⟨a, n, c, hr, hs, ho⟩, h2, h3⟩ := h
  refine ⟨⟨a, n, c, hr.other (p := ⟨D, j, none⟩) hD v, hs.grown (grown_setCell w ⟨D, j, none⟩ v) (fun h0 b off e e2 => ?_), ho⟩, h2, h3⟩
  have e2 : b = D := by simpa using e2
  subst e2
  have hl : l.length = n := by have := hs.len; simpa using this
  have h1 := hs.cell b off e 0 _ (by rw [List.getElem?_map, List.getElem?_eq_getElem (by omega)]; rfl)
  rw [Nat.add_zero, cell_of_row _ _ _ _ _ _ r] at h1
  have := Array.all_eq_true'.1 hcs _ (Array.mem_of_getElem? h1)
  simp [Rt.isU8] at this
theorem Rt.grown_new {w u : World} {row : Option Nat} (h : w.grownBy u row) {p : Addr} (hp : w.heap.size ≤ p.block) (v : Value) : w.grownBy (u.setCell p v) row :=
  ⟨h.os, h.tape, h.output, by simpa [World.setCell] using h.size, fun k hk hne => (Below.heap_setCell u p v k (by omega)).trans (h.block k hk hne)⟩
def Rt.pfxPost (w : World) (B : Nat) (x : Rt.PR) (e : Ending) (w' : World) : Prop := e = .returned (.agg #[.bool x.v, .int .u64 x.hi, .int .u64 x.lo, .int .i64 x.len]) ∧ Rt.Rs w' B x.rest x.bad ∧ w.grownBy w' (some B)
set_option maxHeartbeats 2000000 in
set_option maxRecDepth 100000 in
theorem Rt.prefixR (w : World) (B : Nat) (l : List Int) (bad : Bool) (h : Rt.Rs w B l bad) : Calls Tryd.prog 52 #[.pointer (some ⟨B, 0, none⟩)] w (Rt.pfxPost w B (Rt.pfxR l bad)) := by
  have hB := h.cell1.2.2
  obtain ⟨w1, e1, r1, hb1, hlt⟩ := Rt.box w #[.bool false, .int .u64 0, .int .u64 0, .int .i64 0] 26
  have h1 := h.grown hb1
  have g01 := grown_below (row := some B) hb1
  have H1 := Lib.hid h1
  have hn1 := Lib.hid (h1.num 1 1 rfl (by omega))
  have hbd := Rt.num1_in (bad := bad) h.by_ 1
  obtain ⟨X, hX⟩ : ∃ X, Rt.pfxR l bad = X := ⟨_, rfl⟩
  rw [hX]
  unfold Rt.pfxR at hX
  generalize hN : Rt.num l bad 1 = N at *
  obtain ⟨N, L1, B1⟩ := N
  simp only at hbd hn1 hX
  have HX := Lib.hid hX
  clear h h1 hN hX
  have rkeep : ∀ {u u' : World} {cs : Array Value}, u.grownBy u' (some B) → Rt.Row u w.heap.size 26 cs → Rt.Row u' w.heap.size 26 cs := fun {u u' cs} hg hr => (hg.block w.heap.size hr.lt (by simp; omega)).trans hr
  have RK : Hid (∀ {u u' : World} {cs : Array Value}, u.grownBy u' (some B) → Rt.Row u w.heap.size 26 cs → Rt.Row u' w.heap.size 26 cs) := Lib.hid rkeep
  clear rkeep
  have gbelow : ∀ {u : World}, w1.grownBy u (some B) → w.grownBy u (some B) := fun hu => grown_trans g01 hu
  have GB : Hid (∀ {u : World}, w1.grownBy u (some B) → w.grownBy u (some B)) := Lib.hid gbelow
  clear gbelow
  go_enter Tryd.func52, Tryd.ntmps52
  by_cases c4 : N = 4
  · have d4 : (N != 4) = false := by simp [c4]
    have d6 : (N == 6) = false := by simp [c4]
    have hX := HX.out
    rw [d4, d6, Bool.false_and, Bool.or_false] at hX
    have HX2 := Lib.hid hX
    clear hX HX
    go_wp2_with fail
    refine hn1.out.mono ?_
    rintro e w2 ⟨rfl, h3, g3⟩
    have HG3 := Lib.hid g3
    have HR3 := Lib.hid (RK.out g3 r1)
    have H3 := Lib.hid h3
    clear g3 h3
    go_wp2_with fail
    refine (H3.out.num 8 8 rfl (by omega)).mono ?_
    rintro e w4 ⟨rfl, h4, g4⟩
    have HG4 := Lib.hid (grown_trans HG3.out g4)
    have HR4 := Lib.hid (RK.out g4 HR3.out)
    have H4 := Lib.hid h4
    clear g4 h4
    go_wp2_with fail
    refine (H4.out.num 8 8 rfl (by omega)).mono ?_
    rintro e w5 ⟨rfl, h5, g5⟩
    have HG5 := Lib.hid (grown_trans HG4.out g5)
    have HR5 := Lib.hid (RK.out g5 HR4.out)
    have H5 := Lib.hid h5
    clear g5 h5
    go_wp2_with fail
    have hq := Rt.num1_in (bad := (Rt.num (Rt.num L1 B1 8).2.1 (Rt.num L1 B1 8).2.2 8).2.2) H5.out.by_ 1
    refine (H5.out.num 1 1 rfl (by omega)).mono ?_
    rintro e w6 ⟨rfl, h6, g6⟩
    have HG6 := Lib.hid (grown_trans HG5.out g6)
    have r6 := RK.out g6 HR5.out
    have k0 := r6.cell 0 rfl
    have k1 := r6.cell 1 rfl
    have k2 := r6.cell 2 rfl
    have k3 := r6.cell 3 rfl
    have m0 := r6.free 0
    have m1 := r6.free 1
    have m2 := r6.free 2
    have m3 := r6.free 3
    have H6 := Lib.hid h6
    have hsz6 := r6.lt
    clear g6 h6
    obtain ⟨D, hD⟩ : ∃ D, (Rt.num (Rt.num (Rt.num L1 B1 8).2.1 (Rt.num L1 B1 8).2.2 8).2.1 (Rt.num (Rt.num L1 B1 8).2.1 (Rt.num L1 B1 8).2.2 8).2.2 1).1 = D := ⟨_, rfl⟩
    rw [hD] at hq
    simp only [hD]
    have HD := Lib.hid hD
    obtain ⟨hq0, hq1⟩ := hq
    have hq2 : D < 256 := by simpa using hq1
    have hwd : wrap64 D = D := by unfold wrap64; omega
    clear hD hq1
    go_wp2
    have r7 := (((r6.set 0 (.bool false)).set 1 (.int .u64 (Rt.num L1 B1 8).1)).set 2 (.int .u64 (Rt.num (Rt.num L1 B1 8).2.1 (Rt.num L1 B1 8).2.2 8).1)).set 3 (.int .i64 D)
    exact bodyPost_ret (results_cell_row rfl _ _ _ 26 _ (0, 0) _ rfl r7 Tryd.underlying26 rfl rfl) rfl ⟨by rw [← HX2.out, ← HD.out]; rfl, by
      rw [← HX2.out]
      have r6a : Rt.Row _ w.heap.size 26 #[.bool false, .int .u64 0, .int .u64 0, .int .i64 0] := r6.set 0 (.bool false)
      have r6b : Rt.Row _ w.heap.size 26 #[.bool false, .int .u64 (Rt.num L1 B1 8).1, .int .u64 0, .int .i64 0] := r6a.set 1 (.int .u64 (Rt.num L1 B1 8).1)
      have r6c : Rt.Row _ w.heap.size 26 #[.bool false, .int .u64 (Rt.num L1 B1 8).1, .int .u64 (Rt.num (Rt.num L1 B1 8).2.1 (Rt.num L1 B1 8).2.2 8).1, .int .i64 0] := r6b.set 2 (.int .u64 (Rt.num (Rt.num L1 B1 8).2.1 (Rt.num L1 B1 8).2.2 8).1)
      exact (((H6.out.far r6 (by kernel_rfl) (by omega) 0 _).far r6a (by kernel_rfl) (by omega) 1 _).far r6b (by kernel_rfl) (by omega) 2 _).far r6c (by kernel_rfl) (by omega) 3 _,
      Rt.grown_new (Rt.grown_new (Rt.grown_new (Rt.grown_new (GB.out HG6.out) (Nat.le_refl _) _) (Nat.le_refl _) _) (Nat.le_refl _) _) (Nat.le_refl _) _⟩
  · have d4 : (N != 4) = true := by simp [c4]
    by_cases c6 : N = 6
    · have d6 : (N == 6) = true := by simp [c6]
      have d6' : (N != 6) = false := by simp [c6]
      have hX := HX.out
      rw [d4, d6, d6', Bool.true_and, Bool.or_false] at hX
      have HX2 := Lib.hid hX
      clear hX HX
      go_wp2_with fail
      refine hn1.out.mono ?_
      rintro e w2 ⟨rfl, h3, g3⟩
      have HG3 := Lib.hid g3
      have HR3 := Lib.hid (RK.out g3 r1)
      have H3 := Lib.hid h3
      clear g3 h3
      go_wp2_with fail
      refine (H3.out.num 8 8 rfl (by omega)).mono ?_
      rintro e w4 ⟨rfl, h4, g4⟩
      have HG4 := Lib.hid (grown_trans HG3.out g4)
      have HR4 := Lib.hid (RK.out g4 HR3.out)
      have H4 := Lib.hid h4
      clear g4 h4
      go_wp2_with fail
      refine (H4.out.num 8 8 rfl (by omega)).mono ?_
      rintro e w5 ⟨rfl, h5, g5⟩
      have HG5 := Lib.hid (grown_trans HG4.out g5)
      have HR5 := Lib.hid (RK.out g5 HR4.out)
      have H5 := Lib.hid h5
      clear g5 h5
      go_wp2_with fail
      have hq := Rt.num1_in (bad := (Rt.num (Rt.num L1 B1 8).2.1 (Rt.num L1 B1 8).2.2 8).2.2) H5.out.by_ 1
      refine (H5.out.num 1 1 rfl (by omega)).mono ?_
      rintro e w6 ⟨rfl, h6, g6⟩
      have HG6 := Lib.hid (grown_trans HG5.out g6)
      have r6 := RK.out g6 HR5.out
      have k0 := r6.cell 0 rfl
      have k1 := r6.cell 1 rfl
      have k2 := r6.cell 2 rfl
      have k3 := r6.cell 3 rfl
      have m0 := r6.free 0
      have m1 := r6.free 1
      have m2 := r6.free 2
      have m3 := r6.free 3
      have H6 := Lib.hid h6
      have hsz6 := r6.lt
      clear g6 h6
      obtain ⟨D, hD⟩ : ∃ D, (Rt.num (Rt.num (Rt.num L1 B1 8).2.1 (Rt.num L1 B1 8).2.2 8).2.1 (Rt.num (Rt.num L1 B1 8).2.1 (Rt.num L1 B1 8).2.2 8).2.2 1).1 = D := ⟨_, rfl⟩
      rw [hD] at hq
      simp only [hD]
      have HD := Lib.hid hD
      obtain ⟨hq0, hq1⟩ := hq
      have hq2 : D < 256 := by simpa using hq1
      have hwd : wrap64 D = D := by unfold wrap64; omega
      clear hD hq1
      go_wp2
      have r7 := (((r6.set 0 (.bool true)).set 1 (.int .u64 (Rt.num L1 B1 8).1)).set 2 (.int .u64 (Rt.num (Rt.num L1 B1 8).2.1 (Rt.num L1 B1 8).2.2 8).1)).set 3 (.int .i64 D)
      exact bodyPost_ret (results_cell_row rfl _ _ _ 26 _ (0, 0) _ rfl r7 Tryd.underlying26 rfl rfl) rfl ⟨by rw [← HX2.out, ← HD.out]; rfl, by
        rw [← HX2.out]
        have r6a : Rt.Row _ w.heap.size 26 #[.bool true, .int .u64 0, .int .u64 0, .int .i64 0] := r6.set 0 (.bool true)
        have r6b : Rt.Row _ w.heap.size 26 #[.bool true, .int .u64 (Rt.num L1 B1 8).1, .int .u64 0, .int .i64 0] := r6a.set 1 (.int .u64 (Rt.num L1 B1 8).1)
        have r6c : Rt.Row _ w.heap.size 26 #[.bool true, .int .u64 (Rt.num L1 B1 8).1, .int .u64 (Rt.num (Rt.num L1 B1 8).2.1 (Rt.num L1 B1 8).2.2 8).1, .int .i64 0] := r6b.set 2 (.int .u64 (Rt.num (Rt.num L1 B1 8).2.1 (Rt.num L1 B1 8).2.2 8).1)
        exact (((H6.out.far r6 (by kernel_rfl) (by omega) 0 _).far r6a (by kernel_rfl) (by omega) 1 _).far r6b (by kernel_rfl) (by omega) 2 _).far r6c (by kernel_rfl) (by omega) 3 _,
        Rt.grown_new (Rt.grown_new (Rt.grown_new (Rt.grown_new (GB.out HG6.out) (Nat.le_refl _) _) (Nat.le_refl _) _) (Nat.le_refl _) _) (Nat.le_refl _) _⟩
    · have d6 : (N == 6) = false := by simp [c6]
      have d6' : (N != 6) = true := by simp [c6]
      have hX := HX.out
      rw [d4, d6, d6', Bool.true_and, Bool.or_true] at hX
      have HX2 := Lib.hid hX
      clear hX HX
      go_wp2_with fail
      refine hn1.out.mono ?_
      rintro e w2a ⟨rfl, h2a, g2a⟩
      obtain ⟨x1, x2, x3⟩ := h2a.cell1
      have h3 := h2a.bad
      have g3 := grown_trans g2a (grown_setCell w2a ⟨B, 1, none⟩ (.bool true))
      go_wp2_with fail
      generalize hw2 : w2a.setCell ⟨B, 1, none⟩ (.bool true) = w2 at *
      clear h2a g2a x1 x2 x3 hw2
      have HG3 := Lib.hid g3
      have HR3 := Lib.hid (RK.out g3 r1)
      have H3 := Lib.hid h3
      clear g3 h3
      go_wp2_with fail
      refine (H3.out.num 8 8 rfl (by omega)).mono ?_
      rintro e w4 ⟨rfl, h4, g4⟩
      have HG4 := Lib.hid (grown_trans HG3.out g4)
      have HR4 := Lib.hid (RK.out g4 HR3.out)
      have H4 := Lib.hid h4
      clear g4 h4
      go_wp2_with fail
      refine (H4.out.num 8 8 rfl (by omega)).mono ?_
      rintro e w5 ⟨rfl, h5, g5⟩
      have HG5 := Lib.hid (grown_trans HG4.out g5)
      have HR5 := Lib.hid (RK.out g5 HR4.out)
      have H5 := Lib.hid h5
      clear g5 h5
      go_wp2_with fail
      have hq := Rt.num1_in (bad := (Rt.num (Rt.num L1 true 8).2.1 (Rt.num L1 true 8).2.2 8).2.2) H5.out.by_ 1
      refine (H5.out.num 1 1 rfl (by omega)).mono ?_
      rintro e w6 ⟨rfl, h6, g6⟩
      have HG6 := Lib.hid (grown_trans HG5.out g6)
      have r6 := RK.out g6 HR5.out
      have k0 := r6.cell 0 rfl
      have k1 := r6.cell 1 rfl
      have k2 := r6.cell 2 rfl
      have k3 := r6.cell 3 rfl
      have m0 := r6.free 0
      have m1 := r6.free 1
      have m2 := r6.free 2
      have m3 := r6.free 3
      have H6 := Lib.hid h6
      have hsz6 := r6.lt
      clear g6 h6
      obtain ⟨D, hD⟩ : ∃ D, (Rt.num (Rt.num (Rt.num L1 true 8).2.1 (Rt.num L1 true 8).2.2 8).2.1 (Rt.num (Rt.num L1 true 8).2.1 (Rt.num L1 true 8).2.2 8).2.2 1).1 = D := ⟨_, rfl⟩
      rw [hD] at hq
      simp only [hD]
      have HD := Lib.hid hD
      obtain ⟨hq0, hq1⟩ := hq
      have hq2 : D < 256 := by simpa using hq1
      have hwd : wrap64 D = D := by unfold wrap64; omega
      clear hD hq1
      go_wp2
      have r7 := (((r6.set 0 (.bool false)).set 1 (.int .u64 (Rt.num L1 true 8).1)).set 2 (.int .u64 (Rt.num (Rt.num L1 true 8).2.1 (Rt.num L1 true 8).2.2 8).1)).set 3 (.int .i64 D)
      exact bodyPost_ret (results_cell_row rfl _ _ _ 26 _ (0, 0) _ rfl r7 Tryd.underlying26 rfl rfl) rfl ⟨by rw [← HX2.out, ← HD.out]; rfl, by
        rw [← HX2.out]
        have r6a : Rt.Row _ w.heap.size 26 #[.bool false, .int .u64 0, .int .u64 0, .int .i64 0] := r6.set 0 (.bool false)
        have r6b : Rt.Row _ w.heap.size 26 #[.bool false, .int .u64 (Rt.num L1 true 8).1, .int .u64 0, .int .i64 0] := r6a.set 1 (.int .u64 (Rt.num L1 true 8).1)
        have r6c : Rt.Row _ w.heap.size 26 #[.bool false, .int .u64 (Rt.num L1 true 8).1, .int .u64 (Rt.num (Rt.num L1 true 8).2.1 (Rt.num L1 true 8).2.2 8).1, .int .i64 0] := r6b.set 2 (.int .u64 (Rt.num (Rt.num L1 true 8).2.1 (Rt.num L1 true 8).2.2 8).1)
        exact (((H6.out.far r6 (by kernel_rfl) (by omega) 0 _).far r6a (by kernel_rfl) (by omega) 1 _).far r6b (by kernel_rfl) (by omega) 2 _).far r6c (by kernel_rfl) (by omega) 3 _,
        Rt.grown_new (Rt.grown_new (Rt.grown_new (Rt.grown_new (GB.out HG6.out) (Nat.le_refl _) _) (Nat.le_refl _) _) (Nat.le_refl _) _) (Nat.le_refl _) _⟩
end Go.Proofs
