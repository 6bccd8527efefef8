/- Names: the laws' walks, the last two. Names: the last law's walk. -/
import Derived.Test.YtjeooibbhchmgaaDoorNamX3
import Derived.Laws.BitsAllLaws
import Derived.Laws.Runes
set_option linter.unusedSimpArgs false
namespace Go.Proofs
open Go.Shelf Go.RowKit Go.Lib Go.Nam

set_option maxHeartbeats 4000000 in
set_option maxRecDepth 100000 in
theorem Nam.law8 (s : ByteArray) (n m : Nat) (w : World) (hs : s.size ≤ 140737488351232) (hn : n < 256) (hm : m < 256) (hT : Utf8Tabs 0 1 w) :
    Calls Tryd.prog 8 #[.string s, .int .u8 n, .int .u8 m] w fun e w' => e = .returned (.bool true) ∧ Below w.heap.size w w' := by
  have hk := Nam.known w hT
  by_cases hbig : 200 < s.size
  · go_enter Tryd.func8, Tryd.ntmps8
    go_wp2_with (go_at_call 11; go_fit hk; rintro e w1 ⟨rfl, hb1⟩)
    go_ret
    exact ⟨rfl, hb1⟩
  · obtain ⟨A, hA⟩ : ∃ A : Int, (n : Int) % 30 = A := ⟨_, rfl⟩
    obtain ⟨B, hB⟩ : ∃ B : Int, (m : Int) % 30 = B := ⟨_, rfl⟩
    have hA0 : 0 ≤ A ∧ A < 30 := by omega
    have hB0 : 0 ≤ B ∧ B < 30 := by omega
    obtain ⟨x, hx⟩ : ∃ x : ByteArray, (⟨(clip A s.data.toList).toArray⟩ : ByteArray) = x := ⟨_, rfl⟩
    have hxl : x.data.toList = clip A s.data.toList := by rw [← hx]
    have hxs : x.size ≤ s.size := by rw [Lib.size_eq, Lib.size_eq s, hxl]; exact clip_length _ _
    have hxe : s.extract 0 x.size = x := by
      rw [← Nam.mk_take, Lib.size_eq, hxl, clip_prefix, hx]
    have c1 := fun w2 (h : Below w.heap.size w w2) => Nam.ClipB h s A hs (by omega) (by omega)
    have c2 := fun w2 (h : Below w.heap.size w w2) => Nam.CountB h hT s hs
    have c3 := fun w2 (h : Below w.heap.size w w2) => Nam.CountB h hT x (by omega)
    have c4 := fun w2 (h : Below w.heap.size w w2) => Nam.ClipB h x B (by omega) (by omega) (by omega)
    have c5 := fun w2 (h : Below w.heap.size w w2) => Nam.ClipB h s (min A B) hs (by omega) (by omega)
    have hcc : ((count x.data.toList : Nat) : Int) = min A (count s.data.toList : Int) := by
      rw [hxl, count_clip]; omega
    rw [hcc] at c3
    rw [hx] at c1
    rw [hxl, clip_clip] at c4
    have hxi : (x.size : Int) ≤ (s.size : Int) := by omega
    have HXE := Lib.hid hxe
    clear hx hxl hcc hxe
    generalize (count s.data.toList : Int) = C at c2 c3
    go_enter Tryd.func8, Tryd.ntmps8
    go_wp2_with (first
      | (go_at_call 11; go_fit hk; rintro e w1 ⟨rfl, hb1⟩; have tok1 : True := trivial; have tok2 : True := trivial; have tok3 : True := trivial; have tok4 : True := trivial; have tok5 : True := trivial)
      | (go_at_call 18; have _t := tok1; go_fit (c1 _ hb1); rintro e w2 ⟨rfl, hb2⟩; clear hb1 tok1; have hb1 := hb2; clear hb2)
      | (go_at_call 12; have _t := tok2; go_fit (c2 _ hb1); rintro e w2 ⟨rfl, hb2⟩; clear hb1 tok2; have hb1 := hb2; clear hb2)
      | (go_at_call 12; have _t := tok3; go_fit (c3 _ hb1); rintro e w2 ⟨rfl, hb2⟩; clear hb1 tok3; have hb1 := hb2; clear hb2)
      | (go_at_call 18; have _t := tok4; go_fit (c4 _ hb1); rintro e w2 ⟨rfl, hb2⟩; clear hb1 tok4; have hb1 := hb2; clear hb2)
      | (go_at_call 18; have _t := tok5; go_fit (c5 _ hb1); rintro e w2 ⟨rfl, hb2⟩; clear hb1 tok5; have hb1 := hb2; clear hb2))
    · go_ret
      exact ⟨rfl, hb1⟩
    · have h : ¬ (s.extract 0 x.size).toList = x.toList := by assumption
      rw [HXE.out] at h
      exact absurd rfl h

theorem Nam.ofNat_toNat (k : Nat) (h : k < 256) : (UInt8.ofNat k).toNat = k := by
  rw [UInt8.toNat_ofNat']; omega
theorem Nam.steps_one (l : List UInt8) (r : Nat) (h : l ≠ []) (hd : decodeL l = (r, l.length)) : steps l = [(r, l.length)] := by
  rw [steps_step l h, hd]
  simp [steps_nil]
/-- What a rune is written as is one rune. -/
theorem Nam.enc (C : Nat) (h : C ≤ 1114111) : ∃ (R : Nat) (l : List UInt8), Utf8.encode (C : Int) = ⟨l.toArray⟩ ∧ steps l = [(R, l.length)] ∧ Begins l ∧ partR R = partR C ∧ bad (R, l.length) = false ∧ l.length ≤ 4 := by
  unfold Utf8.encode
  by_cases hv : Utf8.valid (C : Int) = true
  · rw [if_pos hv, Int.toNat_natCast]
    unfold Utf8.valid at hv
    simp only [Bool.or_eq_true, Bool.and_eq_true, decide_eq_true_eq] at hv
    by_cases h1 : C < 128
    · refine ⟨C, [UInt8.ofNat C], by simp only [h1, if_true], ?_, ?_, rfl, ?_, by simp⟩
      · refine Nam.steps_one _ _ (by simp) ?_
        rw [decodeL_ascii _ _ (by rw [Nam.ofNat_toNat _ (by omega)]; exact h1), Nam.ofNat_toNat _ (by omega)]; rfl
      · intro _
        show (UInt8.ofNat C).toNat / 64 ≠ 2
        rw [Nam.ofNat_toNat _ (by omega)]; omega
      · unfold bad; simp; omega
    · by_cases h2 : C < 2048
      · refine ⟨C, [UInt8.ofNat (192 + C / 64), UInt8.ofNat (128 + C % 64)], by simp only [h1, h2, if_true, if_false], ?_, ?_, rfl, ?_, by simp⟩
        · refine Nam.steps_one _ _ (by simp) ?_
          rw [decodeL_N]
          show decodeN 2 (UInt8.ofNat (192 + C / 64)).toNat (UInt8.ofNat (128 + C % 64)).toNat (0 : UInt8).toNat (0 : UInt8).toNat = _
          rw [Nam.ofNat_toNat _ (by omega), Nam.ofNat_toNat _ (by omega), decodeN_two _ _ _ _ _ (by omega) (by omega) (by omega) (by omega)]
          show (_, 2) = (C, 2)
          congr 1; omega
        · intro _
          show (UInt8.ofNat (192 + C / 64)).toNat / 64 ≠ 2
          rw [Nam.ofNat_toNat _ (by omega)]; omega
        · unfold bad; simp
      · by_cases h3 : C < 65536
        · refine ⟨C, [UInt8.ofNat (224 + C / 4096), UInt8.ofNat (128 + C / 64 % 64), UInt8.ofNat (128 + C % 64)], by simp only [h1, h2, h3, if_true, if_false], ?_, ?_, rfl, ?_, by simp⟩
          · refine Nam.steps_one _ _ (by simp) ?_
            rw [decodeL_N]
            show decodeN 3 (UInt8.ofNat (224 + C / 4096)).toNat (UInt8.ofNat (128 + C / 64 % 64)).toNat (UInt8.ofNat (128 + C % 64)).toNat (0 : UInt8).toNat = _
            rw [Nam.ofNat_toNat _ (by omega), Nam.ofNat_toNat _ (by omega), Nam.ofNat_toNat _ (by omega), decodeN_three _ _ _ _ _ (by omega) (by omega) (by omega) (by omega) (by omega) (by omega)]
            show (_, 3) = (C, 3)
            congr 1; omega
          · intro _
            show (UInt8.ofNat (224 + C / 4096)).toNat / 64 ≠ 2
            rw [Nam.ofNat_toNat _ (by omega)]; omega
          · unfold bad; simp
        · refine ⟨C, [UInt8.ofNat (240 + C / 262144), UInt8.ofNat (128 + C / 4096 % 64), UInt8.ofNat (128 + C / 64 % 64), UInt8.ofNat (128 + C % 64)], by simp only [h1, h2, h3, if_false], ?_, ?_, rfl, ?_, by simp⟩
          · refine Nam.steps_one _ _ (by simp) ?_
            rw [decodeL_N]
            show decodeN 4 (UInt8.ofNat (240 + C / 262144)).toNat (UInt8.ofNat (128 + C / 4096 % 64)).toNat (UInt8.ofNat (128 + C / 64 % 64)).toNat (UInt8.ofNat (128 + C % 64)).toNat = _
            rw [Nam.ofNat_toNat _ (by omega), Nam.ofNat_toNat _ (by omega), Nam.ofNat_toNat _ (by omega), Nam.ofNat_toNat _ (by omega), decodeN_four _ _ _ _ _ (by omega) (by omega) (by omega) (by omega) (by omega) (by omega) (by omega)]
            show (_, 4) = (C, 4)
            congr 1; omega
          · intro _
            show (UInt8.ofNat (240 + C / 262144)).toNat / 64 ≠ 2
            rw [Nam.ofNat_toNat _ (by omega)]; omega
          · unfold bad; simp
  · rw [if_neg hv]
    refine ⟨65533, [239, 191, 189], by decide, by decide +kernel, by unfold Begins; decide, ?_, by decide, by decide⟩
    unfold Utf8.valid at hv
    simp at hv
    rw [part_high _ (by omega), part_high _ (by omega)]
theorem Nam.and_mask (r : Int) : ∃ C : Nat, C ≤ 1114111 ∧ bits .and .i32 r 1114111 = (C : Int) := by
  refine ⟨(BitVec.ofInt 32 r &&& BitVec.ofInt 32 1114111).toNat, ?_, ?_⟩
  · rw [BitVec.toNat_and]
    exact Nat.le_trans Nat.and_le_right (by decide)
  · have hx : (BitVec.ofInt 32 r &&& BitVec.ofInt 32 1114111).toNat ≤ 1114111 := by
      rw [BitVec.toNat_and]
      exact Nat.le_trans Nat.and_le_right (by decide)
    show IntKind.i32.wrap ((BitVec.ofInt 32 r &&& BitVec.ofInt 32 1114111).toNat : Int) = _
    rw [IntKind.wrap_i32]
    omega
end Go.Proofs
set_option linter.unusedSimpArgs false
namespace Go.Proofs
open Go.Shelf Go.RowKit Go.Lib Go.Nam

theorem Nam.one_rune (a b l : List UInt8) (R : Nat) (hs : steps l = [(R, l.length)]) (hl : Begins l) (hb : Begins b) : steps (a ++ (l ++ b)) = steps a ++ ((R, l.length) :: steps b) := by
  have hlb : Begins (l ++ b) := by
    intro _
    by_cases h : l = []
    · subst h; simp [steps_nil] at hs
    · have : 0 < l.length := List.length_pos_iff.2 h
      rw [getD_appL l b 0 this]; exact hl this
  rw [steps_app a _ hlb, steps_app l b hb, hs]; rfl

theorem Nam.ranges (C : Nat) : (C ≤ 44 ∧ partR C = false) ∨ (C = 45 ∧ partR C = true) ∨ (46 ≤ C ∧ C ≤ 47 ∧ partR C = false) ∨ (48 ≤ C ∧ C ≤ 57 ∧ partR C = true) ∨ (58 ≤ C ∧ C ≤ 96 ∧ partR C = false) ∨ (97 ≤ C ∧ C ≤ 122 ∧ partR C = true) ∨
    (123 ≤ C ∧ C ≤ 127 ∧ partR C = false) ∨ (128 ≤ C ∧ partR C = true) := by
  have ht : ∀ p : Prop, partR C = true ↔ ((97 ≤ C ∧ C ≤ 122) ∨ (48 ≤ C ∧ C ≤ 57)) ∨ C = 45 ∨ 127 < C := by
    intro _
    unfold partR
    simp only [Bool.or_eq_true, Bool.and_eq_true, decide_eq_true_eq, beq_iff_eq]
    omega
  have ht := ht True
  cases hp : partR C with
  | true => rw [hp] at ht; simp at ht ⊢; omega
  | false => rw [hp] at ht; simp at ht ⊢; omega

set_option maxHeartbeats 4000000 in
set_option maxRecDepth 100000 in
theorem Nam.law10_e0 (r : Int) (a C : Nat) (E : ByteArray) (w : World) (hT : Utf8Tabs 0 1 w) (h2 : (a : Int) % 2 = 0) (hm : bits .and .i32 r 1114111 = (C : Int)) (he : Utf8.encode (C : Int) = E) (hz4 : E.size ≤ 4)
    (h1 : (C : Int) ≤ 44)
    (c1 : ∀ w2, Below w.heap.size w w2 → Calls Tryd.prog 12 #[.string ((⟨#[97, 98]⟩ : ByteArray) ++ E ++ ⟨#[99]⟩)] w2 fun e w' => e = .returned (.tuple #[.int .i64 4, .bool true]) ∧ Below w.heap.size w w')
    (c2 : ∀ w2, Below w.heap.size w w2 → Calls Tryd.prog 14 #[.string ((⟨#[97, 98]⟩ : ByteArray) ++ E ++ ⟨#[99]⟩)] w2 fun e w' => e = .returned (.bool false) ∧ Below w.heap.size w w') :
    Calls Tryd.prog 10 #[.int .i32 r, .int .u8 a] w fun e w' => e = .returned (.bool true) ∧ Below w.heap.size w w' := by
  have hk := Nam.known w hT
  have hx : bits .xor .u8 0 1 = 1 := by kernel_rfl
  go_enter Tryd.func10, Tryd.ntmps10
  go_wp2_with (first
    | (go_at_call 11; go_fit hk; rintro e w1 ⟨rfl, hb1⟩))
  clear hm he hz4
  go_fit (c1 _ hb1)
  rintro e w2 ⟨rfl, hb2⟩
  clear c1 hk
  go_wp2_with (go_at_call 14; go_fit (c2 _ hb2); rintro e w3 ⟨rfl, hb3⟩)
  go_ret
  refine ⟨Nam.retB ?_, hb3⟩
  simp
  omega
set_option maxHeartbeats 4000000 in
set_option maxRecDepth 100000 in
theorem Nam.law10_e1 (r : Int) (a : Nat) (E : ByteArray) (w : World) (hT : Utf8Tabs 0 1 w) (h2 : (a : Int) % 2 = 0) (hm : bits .and .i32 r 1114111 = 45) (he : Utf8.encode 45 = E) (hz4 : E.size ≤ 4)
    (c1 : ∀ w2, Below w.heap.size w w2 → Calls Tryd.prog 12 #[.string ((⟨#[97, 98]⟩ : ByteArray) ++ E ++ ⟨#[99]⟩)] w2 fun e w' => e = .returned (.tuple #[.int .i64 4, .bool true]) ∧ Below w.heap.size w w')
    (c2 : ∀ w2, Below w.heap.size w w2 → Calls Tryd.prog 14 #[.string ((⟨#[97, 98]⟩ : ByteArray) ++ E ++ ⟨#[99]⟩)] w2 fun e w' => e = .returned (.bool true) ∧ Below w.heap.size w w') :
    Calls Tryd.prog 10 #[.int .i32 r, .int .u8 a] w fun e w' => e = .returned (.bool true) ∧ Below w.heap.size w w' := by
  have hk := Nam.known w hT
  have hx : bits .xor .u8 0 1 = 1 := by kernel_rfl
  go_enter Tryd.func10, Tryd.ntmps10
  go_wp2_with (first
    | (go_at_call 11; go_fit hk; rintro e w1 ⟨rfl, hb1⟩))
  clear hm he hz4
  go_fit (c1 _ hb1)
  rintro e w2 ⟨rfl, hb2⟩
  clear c1 hk
  go_wp2_with (go_at_call 14; go_fit (c2 _ hb2); rintro e w3 ⟨rfl, hb3⟩)
  go_ret
  exact ⟨rfl, hb3⟩
set_option maxHeartbeats 4000000 in
set_option maxRecDepth 100000 in
theorem Nam.law10_e2 (r : Int) (a C : Nat) (E : ByteArray) (w : World) (hT : Utf8Tabs 0 1 w) (h2 : (a : Int) % 2 = 0) (hm : bits .and .i32 r 1114111 = (C : Int)) (he : Utf8.encode (C : Int) = E) (hz4 : E.size ≤ 4)
    (h1 : 46 ≤ (C : Int)) (h3 : (C : Int) ≤ 47)
    (c1 : ∀ w2, Below w.heap.size w w2 → Calls Tryd.prog 12 #[.string ((⟨#[97, 98]⟩ : ByteArray) ++ E ++ ⟨#[99]⟩)] w2 fun e w' => e = .returned (.tuple #[.int .i64 4, .bool true]) ∧ Below w.heap.size w w')
    (c2 : ∀ w2, Below w.heap.size w w2 → Calls Tryd.prog 14 #[.string ((⟨#[97, 98]⟩ : ByteArray) ++ E ++ ⟨#[99]⟩)] w2 fun e w' => e = .returned (.bool false) ∧ Below w.heap.size w w') :
    Calls Tryd.prog 10 #[.int .i32 r, .int .u8 a] w fun e w' => e = .returned (.bool true) ∧ Below w.heap.size w w' := by
  have hk := Nam.known w hT
  have hx : bits .xor .u8 0 1 = 1 := by kernel_rfl
  go_enter Tryd.func10, Tryd.ntmps10
  go_wp2_with (first
    | (go_at_call 11; go_fit hk; rintro e w1 ⟨rfl, hb1⟩))
  clear hm he hz4
  go_fit (c1 _ hb1)
  rintro e w2 ⟨rfl, hb2⟩
  clear c1 hk
  go_wp2_with (go_at_call 14; go_fit (c2 _ hb2); rintro e w3 ⟨rfl, hb3⟩)
  go_ret
  refine ⟨Nam.retB ?_, hb3⟩
  simp
  omega
set_option maxHeartbeats 4000000 in
set_option maxRecDepth 100000 in
theorem Nam.law10_e3 (r : Int) (a C : Nat) (E : ByteArray) (w : World) (hT : Utf8Tabs 0 1 w) (h2 : (a : Int) % 2 = 0) (hm : bits .and .i32 r 1114111 = (C : Int)) (he : Utf8.encode (C : Int) = E) (hz4 : E.size ≤ 4)
    (h1 : 48 ≤ (C : Int)) (h3 : (C : Int) ≤ 57)
    (c1 : ∀ w2, Below w.heap.size w w2 → Calls Tryd.prog 12 #[.string ((⟨#[97, 98]⟩ : ByteArray) ++ E ++ ⟨#[99]⟩)] w2 fun e w' => e = .returned (.tuple #[.int .i64 4, .bool true]) ∧ Below w.heap.size w w')
    (c2 : ∀ w2, Below w.heap.size w w2 → Calls Tryd.prog 14 #[.string ((⟨#[97, 98]⟩ : ByteArray) ++ E ++ ⟨#[99]⟩)] w2 fun e w' => e = .returned (.bool true) ∧ Below w.heap.size w w') :
    Calls Tryd.prog 10 #[.int .i32 r, .int .u8 a] w fun e w' => e = .returned (.bool true) ∧ Below w.heap.size w w' := by
  have hk := Nam.known w hT
  have hx : bits .xor .u8 0 1 = 1 := by kernel_rfl
  go_enter Tryd.func10, Tryd.ntmps10
  go_wp2_with (first
    | (go_at_call 11; go_fit hk; rintro e w1 ⟨rfl, hb1⟩))
  clear hm he hz4
  go_fit (c1 _ hb1)
  rintro e w2 ⟨rfl, hb2⟩
  clear c1 hk
  go_wp2_with (go_at_call 14; go_fit (c2 _ hb2); rintro e w3 ⟨rfl, hb3⟩)
  go_ret
  exact ⟨rfl, hb3⟩
set_option maxHeartbeats 4000000 in
set_option maxRecDepth 100000 in
theorem Nam.law10_e4 (r : Int) (a C : Nat) (E : ByteArray) (w : World) (hT : Utf8Tabs 0 1 w) (h2 : (a : Int) % 2 = 0) (hm : bits .and .i32 r 1114111 = (C : Int)) (he : Utf8.encode (C : Int) = E) (hz4 : E.size ≤ 4)
    (h1 : 58 ≤ (C : Int)) (h3 : (C : Int) ≤ 96)
    (c1 : ∀ w2, Below w.heap.size w w2 → Calls Tryd.prog 12 #[.string ((⟨#[97, 98]⟩ : ByteArray) ++ E ++ ⟨#[99]⟩)] w2 fun e w' => e = .returned (.tuple #[.int .i64 4, .bool true]) ∧ Below w.heap.size w w')
    (c2 : ∀ w2, Below w.heap.size w w2 → Calls Tryd.prog 14 #[.string ((⟨#[97, 98]⟩ : ByteArray) ++ E ++ ⟨#[99]⟩)] w2 fun e w' => e = .returned (.bool false) ∧ Below w.heap.size w w') :
    Calls Tryd.prog 10 #[.int .i32 r, .int .u8 a] w fun e w' => e = .returned (.bool true) ∧ Below w.heap.size w w' := by
  have hk := Nam.known w hT
  have hx : bits .xor .u8 0 1 = 1 := by kernel_rfl
  go_enter Tryd.func10, Tryd.ntmps10
  go_wp2_with (first
    | (go_at_call 11; go_fit hk; rintro e w1 ⟨rfl, hb1⟩))
  clear hm he hz4
  go_fit (c1 _ hb1)
  rintro e w2 ⟨rfl, hb2⟩
  clear c1 hk
  go_wp2_with (go_at_call 14; go_fit (c2 _ hb2); rintro e w3 ⟨rfl, hb3⟩)
  go_ret
  refine ⟨Nam.retB ?_, hb3⟩
  simp
  omega
set_option maxHeartbeats 4000000 in
set_option maxRecDepth 100000 in
theorem Nam.law10_e5 (r : Int) (a C : Nat) (E : ByteArray) (w : World) (hT : Utf8Tabs 0 1 w) (h2 : (a : Int) % 2 = 0) (hm : bits .and .i32 r 1114111 = (C : Int)) (he : Utf8.encode (C : Int) = E) (hz4 : E.size ≤ 4)
    (h1 : 97 ≤ (C : Int)) (h3 : (C : Int) ≤ 122)
    (c1 : ∀ w2, Below w.heap.size w w2 → Calls Tryd.prog 12 #[.string ((⟨#[97, 98]⟩ : ByteArray) ++ E ++ ⟨#[99]⟩)] w2 fun e w' => e = .returned (.tuple #[.int .i64 4, .bool true]) ∧ Below w.heap.size w w')
    (c2 : ∀ w2, Below w.heap.size w w2 → Calls Tryd.prog 14 #[.string ((⟨#[97, 98]⟩ : ByteArray) ++ E ++ ⟨#[99]⟩)] w2 fun e w' => e = .returned (.bool true) ∧ Below w.heap.size w w') :
    Calls Tryd.prog 10 #[.int .i32 r, .int .u8 a] w fun e w' => e = .returned (.bool true) ∧ Below w.heap.size w w' := by
  have hk := Nam.known w hT
  have hx : bits .xor .u8 0 1 = 1 := by kernel_rfl
  go_enter Tryd.func10, Tryd.ntmps10
  go_wp2_with (first
    | (go_at_call 11; go_fit hk; rintro e w1 ⟨rfl, hb1⟩))
  clear hm he hz4
  go_fit (c1 _ hb1)
  rintro e w2 ⟨rfl, hb2⟩
  clear c1 hk
  go_wp2_with (go_at_call 14; go_fit (c2 _ hb2); rintro e w3 ⟨rfl, hb3⟩)
  go_ret
  exact ⟨rfl, hb3⟩
set_option maxHeartbeats 4000000 in
set_option maxRecDepth 100000 in
theorem Nam.law10_e6 (r : Int) (a C : Nat) (E : ByteArray) (w : World) (hT : Utf8Tabs 0 1 w) (h2 : (a : Int) % 2 = 0) (hm : bits .and .i32 r 1114111 = (C : Int)) (he : Utf8.encode (C : Int) = E) (hz4 : E.size ≤ 4)
    (h1 : 123 ≤ (C : Int)) (h3 : (C : Int) ≤ 127)
    (c1 : ∀ w2, Below w.heap.size w w2 → Calls Tryd.prog 12 #[.string ((⟨#[97, 98]⟩ : ByteArray) ++ E ++ ⟨#[99]⟩)] w2 fun e w' => e = .returned (.tuple #[.int .i64 4, .bool true]) ∧ Below w.heap.size w w')
    (c2 : ∀ w2, Below w.heap.size w w2 → Calls Tryd.prog 14 #[.string ((⟨#[97, 98]⟩ : ByteArray) ++ E ++ ⟨#[99]⟩)] w2 fun e w' => e = .returned (.bool false) ∧ Below w.heap.size w w') :
    Calls Tryd.prog 10 #[.int .i32 r, .int .u8 a] w fun e w' => e = .returned (.bool true) ∧ Below w.heap.size w w' := by
  have hk := Nam.known w hT
  have hx : bits .xor .u8 0 1 = 1 := by kernel_rfl
  go_enter Tryd.func10, Tryd.ntmps10
  go_wp2_with (first
    | (go_at_call 11; go_fit hk; rintro e w1 ⟨rfl, hb1⟩))
  clear hm he hz4
  go_fit (c1 _ hb1)
  rintro e w2 ⟨rfl, hb2⟩
  clear c1 hk
  go_wp2_with (go_at_call 14; go_fit (c2 _ hb2); rintro e w3 ⟨rfl, hb3⟩)
  go_ret
  refine ⟨Nam.retB ?_, hb3⟩
  simp
  omega
set_option maxHeartbeats 4000000 in
set_option maxRecDepth 100000 in
theorem Nam.law10_e7 (r : Int) (a C : Nat) (E : ByteArray) (w : World) (hT : Utf8Tabs 0 1 w) (h2 : (a : Int) % 2 = 0) (hm : bits .and .i32 r 1114111 = (C : Int)) (he : Utf8.encode (C : Int) = E) (hz4 : E.size ≤ 4)
    (h1 : 128 ≤ (C : Int))
    (c1 : ∀ w2, Below w.heap.size w w2 → Calls Tryd.prog 12 #[.string ((⟨#[97, 98]⟩ : ByteArray) ++ E ++ ⟨#[99]⟩)] w2 fun e w' => e = .returned (.tuple #[.int .i64 4, .bool true]) ∧ Below w.heap.size w w')
    (c2 : ∀ w2, Below w.heap.size w w2 → Calls Tryd.prog 14 #[.string ((⟨#[97, 98]⟩ : ByteArray) ++ E ++ ⟨#[99]⟩)] w2 fun e w' => e = .returned (.bool true) ∧ Below w.heap.size w w') :
    Calls Tryd.prog 10 #[.int .i32 r, .int .u8 a] w fun e w' => e = .returned (.bool true) ∧ Below w.heap.size w w' := by
  have hk := Nam.known w hT
  have hx : bits .xor .u8 0 1 = 1 := by kernel_rfl
  go_enter Tryd.func10, Tryd.ntmps10
  go_wp2_with (first
    | (go_at_call 11; go_fit hk; rintro e w1 ⟨rfl, hb1⟩))
  clear hm he hz4
  go_fit (c1 _ hb1)
  rintro e w2 ⟨rfl, hb2⟩
  clear c1 hk
  go_wp2_with (go_at_call 14; go_fit (c2 _ hb2); rintro e w3 ⟨rfl, hb3⟩)
  go_ret
  exact ⟨rfl, hb3⟩
set_option maxHeartbeats 4000000 in
set_option maxRecDepth 100000 in
theorem Nam.law10_o0 (r : Int) (a C : Nat) (E : ByteArray) (w : World) (hT : Utf8Tabs 0 1 w) (h2 : (a : Int) % 2 = 1) (hm : bits .and .i32 r 1114111 = (C : Int)) (he : Utf8.encode (C : Int) = E) (hz4 : E.size ≤ 4)
    (h1 : (C : Int) ≤ 44)
    (c1 : ∀ w2, Below w.heap.size w w2 → Calls Tryd.prog 12 #[.string ((⟨#[120]⟩ : ByteArray) ++ E)] w2 fun e w' => e = .returned (.tuple #[.int .i64 2, .bool true]) ∧ Below w.heap.size w w')
    (c2 : ∀ w2, Below w.heap.size w w2 → Calls Tryd.prog 14 #[.string ((⟨#[120]⟩ : ByteArray) ++ E)] w2 fun e w' => e = .returned (.bool false) ∧ Below w.heap.size w w') :
    Calls Tryd.prog 10 #[.int .i32 r, .int .u8 a] w fun e w' => e = .returned (.bool true) ∧ Below w.heap.size w w' := by
  have hk := Nam.known w hT
  have hx : bits .xor .u8 1 1 = 0 := by kernel_rfl
  go_enter Tryd.func10, Tryd.ntmps10
  go_wp2_with (first
    | (go_at_call 11; go_fit hk; rintro e w1 ⟨rfl, hb1⟩))
  clear hm he hz4
  go_fit (c1 _ hb1)
  rintro e w2 ⟨rfl, hb2⟩
  clear c1 hk
  go_wp2_with (go_at_call 14; go_fit (c2 _ hb2); rintro e w3 ⟨rfl, hb3⟩)
  go_ret
  refine ⟨Nam.retB ?_, hb3⟩
  simp
  omega
set_option maxHeartbeats 4000000 in
set_option maxRecDepth 100000 in
theorem Nam.law10_o1 (r : Int) (a : Nat) (E : ByteArray) (w : World) (hT : Utf8Tabs 0 1 w) (h2 : (a : Int) % 2 = 1) (hm : bits .and .i32 r 1114111 = 45) (he : Utf8.encode 45 = E) (hz4 : E.size ≤ 4)
    (c1 : ∀ w2, Below w.heap.size w w2 → Calls Tryd.prog 12 #[.string ((⟨#[120]⟩ : ByteArray) ++ E)] w2 fun e w' => e = .returned (.tuple #[.int .i64 2, .bool true]) ∧ Below w.heap.size w w')
    (c2 : ∀ w2, Below w.heap.size w w2 → Calls Tryd.prog 14 #[.string ((⟨#[120]⟩ : ByteArray) ++ E)] w2 fun e w' => e = .returned (.bool true) ∧ Below w.heap.size w w') :
    Calls Tryd.prog 10 #[.int .i32 r, .int .u8 a] w fun e w' => e = .returned (.bool true) ∧ Below w.heap.size w w' := by
  have hk := Nam.known w hT
  have hx : bits .xor .u8 1 1 = 0 := by kernel_rfl
  go_enter Tryd.func10, Tryd.ntmps10
  go_wp2_with (first
    | (go_at_call 11; go_fit hk; rintro e w1 ⟨rfl, hb1⟩))
  clear hm he hz4
  go_fit (c1 _ hb1)
  rintro e w2 ⟨rfl, hb2⟩
  clear c1 hk
  go_wp2_with (go_at_call 14; go_fit (c2 _ hb2); rintro e w3 ⟨rfl, hb3⟩)
  go_ret
  exact ⟨rfl, hb3⟩
set_option maxHeartbeats 4000000 in
set_option maxRecDepth 100000 in
theorem Nam.law10_o2 (r : Int) (a C : Nat) (E : ByteArray) (w : World) (hT : Utf8Tabs 0 1 w) (h2 : (a : Int) % 2 = 1) (hm : bits .and .i32 r 1114111 = (C : Int)) (he : Utf8.encode (C : Int) = E) (hz4 : E.size ≤ 4)
    (h1 : 46 ≤ (C : Int)) (h3 : (C : Int) ≤ 47)
    (c1 : ∀ w2, Below w.heap.size w w2 → Calls Tryd.prog 12 #[.string ((⟨#[120]⟩ : ByteArray) ++ E)] w2 fun e w' => e = .returned (.tuple #[.int .i64 2, .bool true]) ∧ Below w.heap.size w w')
    (c2 : ∀ w2, Below w.heap.size w w2 → Calls Tryd.prog 14 #[.string ((⟨#[120]⟩ : ByteArray) ++ E)] w2 fun e w' => e = .returned (.bool false) ∧ Below w.heap.size w w') :
    Calls Tryd.prog 10 #[.int .i32 r, .int .u8 a] w fun e w' => e = .returned (.bool true) ∧ Below w.heap.size w w' := by
  have hk := Nam.known w hT
  have hx : bits .xor .u8 1 1 = 0 := by kernel_rfl
  go_enter Tryd.func10, Tryd.ntmps10
  go_wp2_with (first
    | (go_at_call 11; go_fit hk; rintro e w1 ⟨rfl, hb1⟩))
  clear hm he hz4
  go_fit (c1 _ hb1)
  rintro e w2 ⟨rfl, hb2⟩
  clear c1 hk
  go_wp2_with (go_at_call 14; go_fit (c2 _ hb2); rintro e w3 ⟨rfl, hb3⟩)
  go_ret
  refine ⟨Nam.retB ?_, hb3⟩
  simp
  omega
set_option maxHeartbeats 4000000 in
set_option maxRecDepth 100000 in
theorem Nam.law10_o3 (r : Int) (a C : Nat) (E : ByteArray) (w : World) (hT : Utf8Tabs 0 1 w) (h2 : (a : Int) % 2 = 1) (hm : bits .and .i32 r 1114111 = (C : Int)) (he : Utf8.encode (C : Int) = E) (hz4 : E.size ≤ 4)
    (h1 : 48 ≤ (C : Int)) (h3 : (C : Int) ≤ 57)
    (c1 : ∀ w2, Below w.heap.size w w2 → Calls Tryd.prog 12 #[.string ((⟨#[120]⟩ : ByteArray) ++ E)] w2 fun e w' => e = .returned (.tuple #[.int .i64 2, .bool true]) ∧ Below w.heap.size w w')
    (c2 : ∀ w2, Below w.heap.size w w2 → Calls Tryd.prog 14 #[.string ((⟨#[120]⟩ : ByteArray) ++ E)] w2 fun e w' => e = .returned (.bool true) ∧ Below w.heap.size w w') :
    Calls Tryd.prog 10 #[.int .i32 r, .int .u8 a] w fun e w' => e = .returned (.bool true) ∧ Below w.heap.size w w' := by
  have hk := Nam.known w hT
  have hx : bits .xor .u8 1 1 = 0 := by kernel_rfl
  go_enter Tryd.func10, Tryd.ntmps10
  go_wp2_with (first
    | (go_at_call 11; go_fit hk; rintro e w1 ⟨rfl, hb1⟩))
  clear hm he hz4
  go_fit (c1 _ hb1)
  rintro e w2 ⟨rfl, hb2⟩
  clear c1 hk
  go_wp2_with (go_at_call 14; go_fit (c2 _ hb2); rintro e w3 ⟨rfl, hb3⟩)
  go_ret
  exact ⟨rfl, hb3⟩
set_option maxHeartbeats 4000000 in
set_option maxRecDepth 100000 in
theorem Nam.law10_o4 (r : Int) (a C : Nat) (E : ByteArray) (w : World) (hT : Utf8Tabs 0 1 w) (h2 : (a : Int) % 2 = 1) (hm : bits .and .i32 r 1114111 = (C : Int)) (he : Utf8.encode (C : Int) = E) (hz4 : E.size ≤ 4)
    (h1 : 58 ≤ (C : Int)) (h3 : (C : Int) ≤ 96)
    (c1 : ∀ w2, Below w.heap.size w w2 → Calls Tryd.prog 12 #[.string ((⟨#[120]⟩ : ByteArray) ++ E)] w2 fun e w' => e = .returned (.tuple #[.int .i64 2, .bool true]) ∧ Below w.heap.size w w')
    (c2 : ∀ w2, Below w.heap.size w w2 → Calls Tryd.prog 14 #[.string ((⟨#[120]⟩ : ByteArray) ++ E)] w2 fun e w' => e = .returned (.bool false) ∧ Below w.heap.size w w') :
    Calls Tryd.prog 10 #[.int .i32 r, .int .u8 a] w fun e w' => e = .returned (.bool true) ∧ Below w.heap.size w w' := by
  have hk := Nam.known w hT
  have hx : bits .xor .u8 1 1 = 0 := by kernel_rfl
  go_enter Tryd.func10, Tryd.ntmps10
  go_wp2_with (first
    | (go_at_call 11; go_fit hk; rintro e w1 ⟨rfl, hb1⟩))
  clear hm he hz4
  go_fit (c1 _ hb1)
  rintro e w2 ⟨rfl, hb2⟩
  clear c1 hk
  go_wp2_with (go_at_call 14; go_fit (c2 _ hb2); rintro e w3 ⟨rfl, hb3⟩)
  go_ret
  refine ⟨Nam.retB ?_, hb3⟩
  simp
  omega
set_option maxHeartbeats 4000000 in
set_option maxRecDepth 100000 in
theorem Nam.law10_o5 (r : Int) (a C : Nat) (E : ByteArray) (w : World) (hT : Utf8Tabs 0 1 w) (h2 : (a : Int) % 2 = 1) (hm : bits .and .i32 r 1114111 = (C : Int)) (he : Utf8.encode (C : Int) = E) (hz4 : E.size ≤ 4)
    (h1 : 97 ≤ (C : Int)) (h3 : (C : Int) ≤ 122)
    (c1 : ∀ w2, Below w.heap.size w w2 → Calls Tryd.prog 12 #[.string ((⟨#[120]⟩ : ByteArray) ++ E)] w2 fun e w' => e = .returned (.tuple #[.int .i64 2, .bool true]) ∧ Below w.heap.size w w')
    (c2 : ∀ w2, Below w.heap.size w w2 → Calls Tryd.prog 14 #[.string ((⟨#[120]⟩ : ByteArray) ++ E)] w2 fun e w' => e = .returned (.bool true) ∧ Below w.heap.size w w') :
    Calls Tryd.prog 10 #[.int .i32 r, .int .u8 a] w fun e w' => e = .returned (.bool true) ∧ Below w.heap.size w w' := by
  have hk := Nam.known w hT
  have hx : bits .xor .u8 1 1 = 0 := by kernel_rfl
  go_enter Tryd.func10, Tryd.ntmps10
  go_wp2_with (first
    | (go_at_call 11; go_fit hk; rintro e w1 ⟨rfl, hb1⟩))
  clear hm he hz4
  go_fit (c1 _ hb1)
  rintro e w2 ⟨rfl, hb2⟩
  clear c1 hk
  go_wp2_with (go_at_call 14; go_fit (c2 _ hb2); rintro e w3 ⟨rfl, hb3⟩)
  go_ret
  exact ⟨rfl, hb3⟩
set_option maxHeartbeats 4000000 in
set_option maxRecDepth 100000 in
theorem Nam.law10_o6 (r : Int) (a C : Nat) (E : ByteArray) (w : World) (hT : Utf8Tabs 0 1 w) (h2 : (a : Int) % 2 = 1) (hm : bits .and .i32 r 1114111 = (C : Int)) (he : Utf8.encode (C : Int) = E) (hz4 : E.size ≤ 4)
    (h1 : 123 ≤ (C : Int)) (h3 : (C : Int) ≤ 127)
    (c1 : ∀ w2, Below w.heap.size w w2 → Calls Tryd.prog 12 #[.string ((⟨#[120]⟩ : ByteArray) ++ E)] w2 fun e w' => e = .returned (.tuple #[.int .i64 2, .bool true]) ∧ Below w.heap.size w w')
    (c2 : ∀ w2, Below w.heap.size w w2 → Calls Tryd.prog 14 #[.string ((⟨#[120]⟩ : ByteArray) ++ E)] w2 fun e w' => e = .returned (.bool false) ∧ Below w.heap.size w w') :
    Calls Tryd.prog 10 #[.int .i32 r, .int .u8 a] w fun e w' => e = .returned (.bool true) ∧ Below w.heap.size w w' := by
  have hk := Nam.known w hT
  have hx : bits .xor .u8 1 1 = 0 := by kernel_rfl
  go_enter Tryd.func10, Tryd.ntmps10
  go_wp2_with (first
    | (go_at_call 11; go_fit hk; rintro e w1 ⟨rfl, hb1⟩))
  clear hm he hz4
  go_fit (c1 _ hb1)
  rintro e w2 ⟨rfl, hb2⟩
  clear c1 hk
  go_wp2_with (go_at_call 14; go_fit (c2 _ hb2); rintro e w3 ⟨rfl, hb3⟩)
  go_ret
  refine ⟨Nam.retB ?_, hb3⟩
  simp
  omega
set_option maxHeartbeats 4000000 in
set_option maxRecDepth 100000 in
theorem Nam.law10_o7 (r : Int) (a C : Nat) (E : ByteArray) (w : World) (hT : Utf8Tabs 0 1 w) (h2 : (a : Int) % 2 = 1) (hm : bits .and .i32 r 1114111 = (C : Int)) (he : Utf8.encode (C : Int) = E) (hz4 : E.size ≤ 4)
    (h1 : 128 ≤ (C : Int))
    (c1 : ∀ w2, Below w.heap.size w w2 → Calls Tryd.prog 12 #[.string ((⟨#[120]⟩ : ByteArray) ++ E)] w2 fun e w' => e = .returned (.tuple #[.int .i64 2, .bool true]) ∧ Below w.heap.size w w')
    (c2 : ∀ w2, Below w.heap.size w w2 → Calls Tryd.prog 14 #[.string ((⟨#[120]⟩ : ByteArray) ++ E)] w2 fun e w' => e = .returned (.bool true) ∧ Below w.heap.size w w') :
    Calls Tryd.prog 10 #[.int .i32 r, .int .u8 a] w fun e w' => e = .returned (.bool true) ∧ Below w.heap.size w w' := by
  have hk := Nam.known w hT
  have hx : bits .xor .u8 1 1 = 0 := by kernel_rfl
  go_enter Tryd.func10, Tryd.ntmps10
  go_wp2_with (first
    | (go_at_call 11; go_fit hk; rintro e w1 ⟨rfl, hb1⟩))
  clear hm he hz4
  go_fit (c1 _ hb1)
  rintro e w2 ⟨rfl, hb2⟩
  clear c1 hk
  go_wp2_with (go_at_call 14; go_fit (c2 _ hb2); rintro e w3 ⟨rfl, hb3⟩)
  go_ret
  exact ⟨rfl, hb3⟩

theorem Nam.law10 (r : Int) (a : Nat) (w : World) (hT : Utf8Tabs 0 1 w) :
    Calls Tryd.prog 10 #[.int .i32 r, .int .u8 a] w fun e w' => e = .returned (.bool true) ∧ Below w.heap.size w w' := by
  obtain ⟨C, hC, hm⟩ := Nam.and_mask r
  obtain ⟨R, l, he, hst, hbg, hpr, hnb, hl4⟩ := Nam.enc C hC
  have hz4 : (⟨l.toArray⟩ : ByteArray).size ≤ 4 := by show l.length ≤ 4; exact hl4
  rcases (show (a : Int) % 2 = 0 ∨ (a : Int) % 2 = 1 by omega) with h2 | h2
  · have hsz : ((⟨#[97, 98]⟩ : ByteArray) ++ ⟨l.toArray⟩ ++ ⟨#[99]⟩).size ≤ 140737488351232 := by
      rw [ByteArray.size_append, ByteArray.size_append]; show 2 + _ + 1 ≤ _; omega
    have hdl : ((⟨#[97, 98]⟩ : ByteArray) ++ ⟨l.toArray⟩ ++ ⟨#[99]⟩).data.toList = [97, 98] ++ (l ++ [99]) := by
      rw [ByteArray.data_append, ByteArray.data_append]; simp
    have hss : steps ([97, 98] ++ (l ++ [99])) = [(97, 1), (98, 1), (R, l.length), (99, 1)] := by
      rw [Nam.one_rune _ _ _ _ hst hbg (by unfold Begins; decide), show steps [97, 98] = [(97, 1), (98, 1)] by decide +kernel, show steps [99] = [(99, 1)] by decide +kernel]; rfl
    have c1 := fun w2 (h : Below w.heap.size w w2) => Nam.CountB h hT _ hsz
    have c2 := fun w2 (h : Below w.heap.size w w2) => Nam.ValidB h hT _ hsz
    have e1 : count ([97, 98] ++ (l ++ [99])) = 4 := by unfold count; rw [hss]; rfl
    have e2 : good ([97, 98] ++ (l ++ [99])) = true := by
      unfold good; rw [hss]
      simp only [List.all_cons, hnb]; decide
    have e3 : validN ([97, 98] ++ (l ++ [99])) = partR C := by
      unfold validN runes
      rw [e1, e2, hss]
      simp only [List.map_cons, List.map_nil, List.all_cons, List.all_nil, hpr]
      have p1 : partR 97 = true := by decide
      have p2 : partR 98 = true := by decide
      have p3 : partR 99 = true := by decide
      rw [p1, p2, p3]
      simp
    rw [hdl, e1, e2] at c1
    rw [hdl, e3] at c2
    rcases Nam.ranges C with ⟨i1, i2⟩ | ⟨i1, i2⟩ | ⟨i1, i3, i2⟩ | ⟨i1, i3, i2⟩ | ⟨i1, i3, i2⟩ | ⟨i1, i3, i2⟩ | ⟨i1, i3, i2⟩ | ⟨i1, i2⟩
    all_goals rw [i2] at c2
    · exact Nam.law10_e0 r a C _ w hT h2 hm he hz4 (by omega) c1 c2
    · subst i1; exact Nam.law10_e1 r a _ w hT h2 hm he hz4 c1 c2
    · exact Nam.law10_e2 r a C _ w hT h2 hm he hz4 (by omega) (by omega) c1 c2
    · exact Nam.law10_e3 r a C _ w hT h2 hm he hz4 (by omega) (by omega) c1 c2
    · exact Nam.law10_e4 r a C _ w hT h2 hm he hz4 (by omega) (by omega) c1 c2
    · exact Nam.law10_e5 r a C _ w hT h2 hm he hz4 (by omega) (by omega) c1 c2
    · exact Nam.law10_e6 r a C _ w hT h2 hm he hz4 (by omega) (by omega) c1 c2
    · exact Nam.law10_e7 r a C _ w hT h2 hm he hz4 (by omega) c1 c2
  · have hsz : ((⟨#[120]⟩ : ByteArray) ++ ⟨l.toArray⟩).size ≤ 140737488351232 := by
      rw [ByteArray.size_append]; show 1 + _ ≤ _; omega
    have hdl : ((⟨#[120]⟩ : ByteArray) ++ ⟨l.toArray⟩).data.toList = [120] ++ (l ++ []) := by
      rw [ByteArray.data_append]; simp
    have hss : steps ([120] ++ (l ++ [])) = [(120, 1), (R, l.length)] := by
      rw [Nam.one_rune _ _ _ _ hst hbg (by unfold Begins; decide), show steps [120] = [(120, 1)] by decide +kernel, steps_nil]; rfl
    have c1 := fun w2 (h : Below w.heap.size w w2) => Nam.CountB h hT _ hsz
    have c2 := fun w2 (h : Below w.heap.size w w2) => Nam.ValidB h hT _ hsz
    have e1 : count ([120] ++ (l ++ [])) = 2 := by unfold count; rw [hss]; rfl
    have e2 : good ([120] ++ (l ++ [])) = true := by
      unfold good; rw [hss]
      simp only [List.all_cons, hnb]; decide
    have e3 : validN ([120] ++ (l ++ [])) = partR C := by
      unfold validN runes
      rw [e1, e2, hss]
      simp only [List.map_cons, List.map_nil, List.all_cons, List.all_nil, hpr]
      have p1 : partR 120 = true := by decide
      rw [p1]
      simp
    rw [hdl, e1, e2] at c1
    rw [hdl, e3] at c2
    rcases Nam.ranges C with ⟨i1, i2⟩ | ⟨i1, i2⟩ | ⟨i1, i3, i2⟩ | ⟨i1, i3, i2⟩ | ⟨i1, i3, i2⟩ | ⟨i1, i3, i2⟩ | ⟨i1, i3, i2⟩ | ⟨i1, i2⟩
    all_goals rw [i2] at c2
    · exact Nam.law10_o0 r a C _ w hT h2 hm he hz4 (by omega) c1 c2
    · subst i1; exact Nam.law10_o1 r a _ w hT h2 hm he hz4 c1 c2
    · exact Nam.law10_o2 r a C _ w hT h2 hm he hz4 (by omega) (by omega) c1 c2
    · exact Nam.law10_o3 r a C _ w hT h2 hm he hz4 (by omega) (by omega) c1 c2
    · exact Nam.law10_o4 r a C _ w hT h2 hm he hz4 (by omega) (by omega) c1 c2
    · exact Nam.law10_o5 r a C _ w hT h2 hm he hz4 (by omega) (by omega) c1 c2
    · exact Nam.law10_o6 r a C _ w hT h2 hm he hz4 (by omega) (by omega) c1 c2
    · exact Nam.law10_o7 r a C _ w hT h2 hm he hz4 (by omega) c1 c2
end Go.Proofs
