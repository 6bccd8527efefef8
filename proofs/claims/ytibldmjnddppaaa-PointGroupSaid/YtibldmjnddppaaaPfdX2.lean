/- Bytes of a rest, the product, whether two are alike, a number without its lowest bits. The product by p. Powers; what bytes are told. The other reckoning: carries. Carrying. p's limbs. -/
import Derived.Test.YtibldmjnddppaaaProg
import Derived.Test.YtibldmjnddppaaaSimX2
import Derived.Test.YtibldmjnddppaaaPfdX1
set_option linter.unusedVariables false
set_option maxRecDepth 100000
namespace Go.Proofs.Ytibldmjnddppaaa.Fld
open Go Go.Sim
open Go.Proofs Go.Fld

/-! ### 53: towpath/field.Store (pure) -/
noncomputable def env53 : List (FuncId × Entry) := [(54, .pure C54.sem)]
theorem envOk53 : EnvOk Try.prog (envOf env53) := envOf_ok (all_cons cok54 (all_nil))
def raw53 (a0 : List Int) : Option (List Hv) := let x1 : List Int := dg4 (v4 (a0) % p); some [.l ([wr .u8 (((x1).getD 0 0) / 1), wr .u8 (((x1).getD 0 0) / 256), wr .u8 (((x1).getD 0 0) / 65536), wr .u8 (((x1).getD 0 0) / 16777216), wr .u8 (((x1).getD 0 0) / 4294967296), wr .u8 (((x1).getD 0 0) / 1099511627776), wr .u8 (((x1).getD 0 0) / 281474976710656), wr .u8 (((x1).getD 0 0) / 72057594037927936), wr .u8 (((x1).getD 1 0) / 1), wr .u8 (((x1).getD 1 0) / 256), wr .u8 (((x1).getD 1 0) / 65536), wr .u8 (((x1).getD 1 0) / 16777216), wr .u8 (((x1).getD 1 0) / 4294967296), wr .u8 (((x1).getD 1 0) / 1099511627776), wr .u8 (((x1).getD 1 0) / 281474976710656), wr .u8 (((x1).getD 1 0) / 72057594037927936), wr .u8 (((x1).getD 2 0) / 1), wr .u8 (((x1).getD 2 0) / 256), wr .u8 (((x1).getD 2 0) / 65536), wr .u8 (((x1).getD 2 0) / 16777216), wr .u8 (((x1).getD 2 0) / 4294967296), wr .u8 (((x1).getD 2 0) / 1099511627776), wr .u8 (((x1).getD 2 0) / 281474976710656), wr .u8 (((x1).getD 2 0) / 72057594037927936), wr .u8 (((x1).getD 3 0) / 1), wr .u8 (((x1).getD 3 0) / 256), wr .u8 (((x1).getD 3 0) / 65536), wr .u8 (((x1).getD 3 0) / 16777216), wr .u8 (((x1).getD 3 0) / 4294967296), wr .u8 (((x1).getD 3 0) / 1099511627776), wr .u8 (((x1).getD 3 0) / 281474976710656), wr .u8 (((x1).getD 3 0) / 72057594037927936)])]
theorem l53 : LamOk Try.prog (lamOf []) (codeOf Try.f53) := lamOk_nil
def G53 : GFn := ⟨[.arr .u64 4], .arr .u8 32, apH [.l] raw53⟩
theorem ok53 : EntryOk Try.prog 53 (.pure G53.sem) := gfn_pure (u := 70) envOk53 mix Try.func53 (by kernel_rfl) (by kernel_rfl) l53 G53 (by kernel_rfl) (by kernel_rfl) [.l] rfl (fun a0 => by show _ = _; kernel_rfl)
theorem at53 (a0 : List Int) : G53.fn [.l a0] = raw53 a0 := (congrFun (show G53.fn = apH [.l] raw53 from rfl) _).trans ((fun F => rfl : ∀ F : List Int → Option (List Hv), apH [.l] F [.l a0] = F a0) raw53)
/-! ### 39: towpath/field.Prod (pure) -/
noncomputable def env39 : List (FuncId × Entry) := [(62, .pure C62.sem), (63, .full C63.rfn.full), (64, .pure C64.sem)]
theorem envOk39 : EnvOk Try.prog (envOf env39) := envOf_ok (all_cons cok62 (all_cons cok63 (all_cons cok64 (all_nil))))
def h39_0 : Tpl := ⟨[none, none, none, none, some (.ptr 2 []), none, none, none, some (.ptr 7 []), some (.int .u64), none, none, none, none, none, none, none, none, none, none, none, none, none, none, none, none, none, none, none, none, none, none, none, none, none, none, none, none, none, none, none, none, none, none, none, none, none, none, none, none, none, none, none, none, none, none, none, none, none, none, none], [none, none, some (.arr .u64 4), none, none, none, none, some (.arr .u64 4)], 8⟩
def e39_0 : Tpl := ⟨[none, none, none, none, some (.ptr 2 []), none, none, none, some (.ptr 7 []), none, none, none, none, none, none, none, none, none, none, none, none, none, none, none, none, none, none, none, none, none, none, none, none, none, none, none, none, none, none, none, none, none, none, none, none, none, none, none, none, none, none, none, none, none, none, none, none, none, none, none, none], [none, none, some (.arr .u64 4), none, none, none, none, some (.arr .u64 4)], 8⟩
def t39_0 (z0 : Int) (z1 : List Int) (z2 : List Int) : Option (Sum (List Hv) (Bool × List Hv)) := bif decide ((z0) > (0)) then (let x1 : List Int := [wr .u64 ((z0) * (38)), 0, 0, 0]; some (.inl [.i ((v4 (z2) + v4 (x1)) / Q), .l (z1), .l (dg4 (v4 (z2) + v4 (x1)))])) else (some (.inr (false, [.l (z1), .l (z2)])))
def g39_0 : StepG := apH [.i, .l, .l] t39_0
theorem g39_0_at (z0 : Int) (z1 : List Int) (z2 : List Int) : g39_0 [.i z0, .l z1, .l z2] = t39_0 z0 z1 z2 := (congrFun (show g39_0 = apH [.i, .l, .l] t39_0 from rfl) _).trans ((fun F => rfl : ∀ F : Int → List Int → List Int → Option (Sum (List Hv) (Bool × List Hv)), apH [.i, .l, .l] F [.i z0, .l z1, .l z2] = F z0 z1 z2) t39_0)
theorem l39_0 : LamOk Try.prog (lamOf []) (codeOf Try.f39) := lamOk_nil
theorem b39_0 : BlkSound Try.prog 0 (blkOf (codeOf Try.f39) 0) (loopE h39_0 e39_0 g39_0) := loopE_at (u := 70) envOk39 mix 0 (by kernel_rfl) l39_0 (ks := [.i, .l, .l]) (t := t39_0) (fun _ => rfl) (fun _ => rfl) (fun z0 z1 z2 => by show _ = _; kernel_rfl)
def raw39 (a0 : List Int) (a1 : List Int) : Option (List Hv) := let x1 : List Int := List.replicate 8 0; let x2 : List Int := dg8 (v4 (a0) * v4 (a1)); let x3 : List Int := [(x2).getD 4 0, (x2).getD 5 0, (x2).getD 6 0, (x2).getD 7 0]; bif C63.guard [.l (x1), .i (0), .l (x3), .i (38)] then (let x4 : List Int := [(x2).getD 0 0, (x2).getD 1 0, (x2).getD 2 0, (x2).getD 3 0]; let x5 : List Int := rowW (x1) (0) (x3) (38); let x6 : List Int := [(x5).getD 0 0, (x5).getD 1 0, (x5).getD 2 0, (x5).getD 3 0]; (loopN g39_0 bigN [.i (wr .u64 (((v4 (x4) + v4 (x6)) / Q) + ((x5).getD 4 0))), .l ([0, 0, 0, 0]), .l (dg4 (v4 (x4) + v4 (x6)))]).bind fun r1 => bif r1.1 then none else (some [.l (hl r1.2 1)])) else none
theorem l39 : LamOk Try.prog (lamOf [(0, loopE h39_0 e39_0 g39_0)]) (codeOf Try.f39) := lamOk_of (by kernel_rfl) (blk_cons b39_0 (blk_nil))
def G39 : GFn := ⟨[.arr .u64 4, .arr .u64 4], .arr .u64 4, apH [.l, .l] raw39⟩
theorem ok39 : EntryOk Try.prog 39 (.pure G39.sem) := gfn_pure (u := 70) envOk39 mix Try.func39 (by kernel_rfl) (by kernel_rfl) l39 G39 (by kernel_rfl) (by kernel_rfl) [.l, .l] rfl (fun a0 a1 => by show _ = _; kernel_rfl)
theorem at39 (a0 : List Int) (a1 : List Int) : G39.fn [.l a0, .l a1] = raw39 a0 a1 := (congrFun (show G39.fn = apH [.l, .l] raw39 from rfl) _).trans ((fun F => rfl : ∀ F : List Int → List Int → Option (List Hv), apH [.l, .l] F [.l a0, .l a1] = F a0 a1) raw39)
/-! ### 67: towpath/field.Alike (pure) -/
noncomputable def env67 : List (FuncId × Entry) := [(54, .pure C54.sem)]
theorem envOk67 : EnvOk Try.prog (envOf env67) := envOf_ok (all_cons cok54 (all_nil))
def raw67 (a0 : List Int) (a1 : List Int) : Option (List Hv) := some [.b (arrEq 4 (dg4 (v4 (a0) % p)) (dg4 (v4 (a1) % p)))]
theorem l67 : LamOk Try.prog (lamOf []) (codeOf Try.f67) := lamOk_nil
def G67 : GFn := ⟨[.arr .u64 4, .arr .u64 4], .bool, apH [.l, .l] raw67⟩
theorem ok67 : EntryOk Try.prog 67 (.pure G67.sem) := gfn_pure (u := 70) envOk67 mix Try.func67 (by kernel_rfl) (by kernel_rfl) l67 G67 (by kernel_rfl) (by kernel_rfl) [.l, .l] rfl (fun a0 a1 => by show _ = _; kernel_rfl)
theorem at67 (a0 : List Int) (a1 : List Int) : G67.fn [.l a0, .l a1] = raw67 a0 a1 := (congrFun (show G67.fn = apH [.l, .l] raw67 from rfl) _).trans ((fun F => rfl : ∀ F : List Int → List Int → Option (List Hv), apH [.l, .l] F [.l a0, .l a1] = F a0 a1) raw67)
end Go.Proofs.Ytibldmjnddppaaa.Fld
set_option linter.unusedVariables false
set_option maxRecDepth 100000
namespace Go.Proofs.Ytibldmjnddppaaa.Fld
open Go Go.Sim
open Go.Proofs Go.Fld

theorem raw66_f2 (a0_0 a0_1 a0_2 a0_3 : Int) : raw66 a0_0 a0_1 a0_2 a0_3 2 = some [.l ([orI .u64 ((a0_0) / 4) (wr .u64 ((a0_1) * 4611686018427387904)), orI .u64 ((a0_1) / 4) (wr .u64 ((a0_2) * 4611686018427387904)), orI .u64 ((a0_2) / 4) (wr .u64 ((a0_3) * 4611686018427387904)), (a0_3) / 4])] := by kernel_rfl
theorem raw66_f3 (a0_0 a0_1 a0_2 a0_3 : Int) : raw66 a0_0 a0_1 a0_2 a0_3 3 = some [.l ([orI .u64 ((a0_0) / 8) (wr .u64 ((a0_1) * 2305843009213693952)), orI .u64 ((a0_1) / 8) (wr .u64 ((a0_2) * 2305843009213693952)), orI .u64 ((a0_2) / 8) (wr .u64 ((a0_3) * 2305843009213693952)), (a0_3) / 8])] := by kernel_rfl
end Go.Proofs.Ytibldmjnddppaaa.Fld
set_option linter.unusedVariables false
set_option maxRecDepth 10000
namespace Go.Proofs.Ytibldmjnddppaaa.Fld
open Go Go.Sim Go.Fld

theorem limbB {l : Int} (h : 0 ≤ l) (h' : l < 18446744073709551616) :
    valD 256 [wr .u8 (l / 1), wr .u8 (l / 256), wr .u8 (l / 65536), wr .u8 (l / 16777216), wr .u8 (l / 4294967296), wr .u8 (l / 1099511627776), wr .u8 (l / 281474976710656), wr .u8 (l / 72057594037927936)] = l := by
  simp only [valD, wr]; omega
theorem wr8 (n : Int) : 0 ≤ wr .u8 n ∧ wr .u8 n < 256 := ⟨Int.emod_nonneg _ (by decide), Int.emod_lt_of_pos _ (by decide)⟩
theorem valD_app (b : Int) : ∀ l m, valD b (l ++ m) = valD b l + b ^ l.length * valD b m
  | [], m => by simp [valD]
  | a :: l, m => by simp only [List.cons_append, valD, valD_app b l m, List.length_cons, Int.pow_succ']; grind

theorem store_is {x : List Int} (hl : x.length = 4) (hr : ∀ y ∈ x, 0 ≤ y ∧ y < 18446744073709551616) :
    [wr .u8 ((x.getD 0 0) / 1), wr .u8 ((x.getD 0 0) / 256), wr .u8 ((x.getD 0 0) / 65536), wr .u8 ((x.getD 0 0) / 16777216), wr .u8 ((x.getD 0 0) / 4294967296), wr .u8 ((x.getD 0 0) / 1099511627776), wr .u8 ((x.getD 0 0) / 281474976710656), wr .u8 ((x.getD 0 0) / 72057594037927936), wr .u8 ((x.getD 1 0) / 1), wr .u8 ((x.getD 1 0) / 256), wr .u8 ((x.getD 1 0) / 65536), wr .u8 ((x.getD 1 0) / 16777216), wr .u8 ((x.getD 1 0) / 4294967296), wr .u8 ((x.getD 1 0) / 1099511627776), wr .u8 ((x.getD 1 0) / 281474976710656), wr .u8 ((x.getD 1 0) / 72057594037927936), wr .u8 ((x.getD 2 0) / 1), wr .u8 ((x.getD 2 0) / 256), wr .u8 ((x.getD 2 0) / 65536), wr .u8 ((x.getD 2 0) / 16777216), wr .u8 ((x.getD 2 0) / 4294967296), wr .u8 ((x.getD 2 0) / 1099511627776), wr .u8 ((x.getD 2 0) / 281474976710656), wr .u8 ((x.getD 2 0) / 72057594037927936), wr .u8 ((x.getD 3 0) / 1), wr .u8 ((x.getD 3 0) / 256), wr .u8 ((x.getD 3 0) / 65536), wr .u8 ((x.getD 3 0) / 16777216), wr .u8 ((x.getD 3 0) / 4294967296), wr .u8 ((x.getD 3 0) / 1099511627776), wr .u8 ((x.getD 3 0) / 281474976710656), wr .u8 ((x.getD 3 0) / 72057594037927936)] = dg32 (v4 x) := by
  obtain ⟨a, b, c, d, rfl⟩ := len4 hl
  have ha := hr a (by simp)
  have hb := hr b (by simp)
  have hc := hr c (by simp)
  have hd := hr d (by simp)
  symm
  refine digs_eq (by decide) rfl ?_ ?_
  · intro y hy
    simp only [List.mem_cons, List.not_mem_nil, or_false] at hy
    rcases hy with h | h | h | h | h | h | h | h | h | h | h | h | h | h | h | h | h | h | h | h | h | h | h | h | h | h | h | h | h | h | h | h <;> (rw [h]; exact wr8 _)
  · have e := fun (l m : List Int) => valD_app 256 l m
    have k0 := limbB ha.1 ha.2
    have k1 := limbB hb.1 hb.2
    have k2 := limbB hc.1 hc.2
    have k3 := limbB hd.1 hd.2
    simp only [valD, v4, List.getD_cons_zero, List.getD_cons_succ] at k0 k1 k2 k3 ⊢
    generalize wr .u8 _ = z at *
    omega

def C53 : CFn := ⟨[.arr .u64 4], .arr .u8 32, fun _ => true, fun hs => [.l (dg32 (v4 (hl hs 0) % p))]⟩
theorem cok53 : EntryOk Try.prog 53 (.pure C53.sem) := cfn_at rfl rfl rfl ok53 (fun x hx rx _ => by
  have hv := v4_u hx rx
  refine (at53 x).trans ?_
  show raw53 x = some [.l (dg32 (v4 x % p))]
  unfold raw53
  dsimp only
  rw [store_is (x := dg4 (v4 x % p)) (digs_len _ _ _) (digs_range (by decide) _ _), v4_at (by simp only [p]; omega) (by simp only [p]; omega)])

theorem dg4_inj {x y : Int} (hx : 0 ≤ x) (hx' : x < Q) (hy : 0 ≤ y) (hy' : y < Q) : dg4 x = dg4 y ↔ x = y :=
  ⟨fun h => by rw [← v4_in hx hx', h, v4_in hy hy'], fun h => by rw [h]⟩
theorem dg32_inj {x y : Int} (hx : 0 ≤ x) (hx' : x < Q) (hy : 0 ≤ y) (hy' : y < Q) : dg32 x = dg32 y ↔ x = y :=
  ⟨fun h => by rw [← v32_in hx hx', h, v32_in hy hy'], fun h => by rw [h]⟩
theorem arrEq_eq {n : Nat} {a b : List Int} (ha : a.length = n) (hb : b.length = n) : arrEq n a b = decide (a = b) := by
  rw [Bool.eq_iff_iff, decide_eq_true_eq]
  unfold arrEq
  simp only [List.all_eq_true, List.mem_range, beq_iff_eq]
  constructor
  · intro h
    apply List.ext_getElem (by omega)
    intro i h1 h2
    have := h i (by omega)
    simpa [List.getD_eq_getElem?_getD, h1, h2] using this
  · rintro rfl _ _; rfl

def C67 : CFn := ⟨[.arr .u64 4, .arr .u64 4], .bool, fun _ => true, fun hs => [.b (decide (v4 (hl hs 0) % p = v4 (hl hs 1) % p))]⟩
theorem cok67 : EntryOk Try.prog 67 (.pure C67.sem) := cfn_at rfl rfl rfl ok67 (fun x hx rx y hy ry _ => by
  have hv := v4_u hx rx
  have hw := v4_u hy ry
  refine (at67 x y).trans ?_
  show raw67 x y = some [.b (decide (v4 x % p = v4 y % p))]
  unfold raw67
  rw [arrEq_eq (n := 4) (a := dg4 (v4 x % p)) (b := dg4 (v4 y % p)) (digs_len _ _ _) (digs_len _ _ _)]
  congr 3
  exact decide_eq_decide.2 (dg4_inj (by simp only [p]; omega) (by simp only [p, Q]; omega) (by simp only [p]; omega) (by simp only [p, Q]; omega)))

theorem orShift {a b : Int} (n : Nat) {M N : Int} (hM : ((2 ^ n : Nat) : Int) = M) (hN : M * N = 18446744073709551616) (hM0 : 0 < M) (hN0 : 0 < N) (ha : 0 ≤ a) (ha' : a < M) (hb : 0 ≤ b) :
    orI .u64 a (wr .u64 (b * M)) = a + b % N * M := by
  have e : wr .u64 (b * M) = b % N * M := by
    simp only [wr]
    rw [← hN, Int.mul_comm b M, Int.mul_emod_mul_of_pos _ _ hM0, Int.mul_comm]
  rw [e]
  have h1 := Int.emod_nonneg b (show N ≠ 0 by omega)
  have h2 := Int.emod_lt_of_pos b hN0
  have h3 : b % N * M ≤ (N - 1) * M := Int.mul_le_mul_of_nonneg_right (by omega) (by omega)
  rw [Int.sub_mul, Int.one_mul, Int.mul_comm N M, hN] at h3
  exact orI_add n hM ha ha' h1 (by omega)

def C66 : CFn := ⟨[.arr .u64 4, .int .u64], .arr .u64 4, fun hs => decide (hi hs 1 = 2) || decide (hi hs 1 = 3), fun hs => [.l (dg4 (v4 (hl hs 0) / (if hi hs 1 = 2 then 4 else 8)))]⟩
theorem cok66 : EntryOk Try.prog 66 (.pure C66.sem) := cfn_at rfl rfl rfl ok66 (fun x hx rx n _ hg => by
  obtain ⟨a, b, c, d, rfl⟩ := len4 hx
  obtain ⟨h0, h1, h2, h3⟩ := in4 rx
  simp only [inK] at h0 h1 h2 h3
  refine (at66 ..).trans ?_
  have hg : (decide (n = 2) || decide (n = 3)) = true := hg
  show raw66 a b c d n = some [.l (dg4 (v4 [a, b, c, d] / (if n = 2 then 4 else 8)))]
  simp only [Bool.or_eq_true, decide_eq_true_eq] at hg
  rcases hg with rfl | rfl
  · rw [raw66_f2, orShift 62 (M := 4611686018427387904) (N := 4) rfl (by decide) (by decide) (by decide) (by omega) (by omega) (by omega), orShift 62 (M := 4611686018427387904) (N := 4) rfl (by decide) (by decide) (by decide) (by omega) (by omega) (by omega), orShift 62 (M := 4611686018427387904) (N := 4) rfl (by decide) (by decide) (by decide) (by omega) (by omega) (by omega)]
    simp only [if_true]
    rw [show dg4 (v4 [a, b, c, d] / 4) = _ from digs_eq (by decide) rfl (mem4 (a := a / 4 + b % 4 * 4611686018427387904) (b := b / 4 + c % 4 * 4611686018427387904) (c := c / 4 + d % 4 * 4611686018427387904) (d := d / 4) (by omega) (by omega) (by omega) (by omega)) (by simp only [v4, valD]; omega)]
  · rw [raw66_f3, orShift 61 (M := 2305843009213693952) (N := 8) rfl (by decide) (by decide) (by decide) (by omega) (by omega) (by omega), orShift 61 (M := 2305843009213693952) (N := 8) rfl (by decide) (by decide) (by decide) (by omega) (by omega) (by omega), orShift 61 (M := 2305843009213693952) (N := 8) rfl (by decide) (by decide) (by decide) (by omega) (by omega) (by omega)]
    simp only [show ¬ ((3 : Int) = 2) by decide, if_false]
    rw [show dg4 (v4 [a, b, c, d] / 8) = _ from digs_eq (by decide) rfl (mem4 (a := a / 8 + b % 8 * 2305843009213693952) (b := b / 8 + c % 8 * 2305843009213693952) (c := c / 8 + d % 8 * 2305843009213693952) (d := d / 8) (by omega) (by omega) (by omega) (by omega)) (by simp only [v4, valD]; omega)])
end Go.Proofs.Ytibldmjnddppaaa.Fld
set_option linter.unusedVariables false
set_option maxRecDepth 10000
namespace Go.Proofs.Ytibldmjnddppaaa.Fld
open Go Go.Sim Go.Fld

theorem len_dg8 (v : Int) : ∃ a b c d e f g h, dg8 v = [a, b, c, d, e, f, g, h] := len8 (digs_len _ _ _)
theorem in_dg8 {v a b c d e f g h : Int} (hd : dg8 v = [a, b, c, d, e, f, g, h]) : ∀ y ∈ [a, b, c, d, e, f, g, h], inK .u64 y := by
  rw [← hd]; exact digs_range (by decide) 8 v

theorem halves {v a b c d e f g h : Int} (hv : 0 ≤ v) (hv' : v < 13407807929942597099574024998205846127479365820592393377723561443721764030073546976801874298166903427690031858186486050853753882811946569946433649006084096)
    (hd : dg8 v = [a, b, c, d, e, f, g, h]) : v4 [a, b, c, d] = v % Q ∧ v4 [e, f, g, h] = v / Q ∧ (v < 2135987035920910082395021706169552114602704522356652769947041607822219725780640550022962086936576 → e = v / Q) := by
  have h1 := v8_at hv hv'
  rw [hd] at h1
  obtain ⟨k0, k1, k2, k3, k4, k5, k6, k7⟩ := in8 (in_dg8 hd)
  simp only [inK] at k0 k1 k2 k3 k4 k5 k6 k7
  simp only [v8, v4, valD, Q] at *
  omega

theorem go48 (u : Int) (w : List Int) (hu : 0 ≤ u) (hu' : u < 4631683569492647816942839400347516314130799386625622561578303360316525185597440) :
    g39_0 [.i (u / Q), .l w, .l (dg4 u)] = if u < Q then some (.inr (false, [.l w, .l (dg4 u)])) else some (.inl [.i (fo u / Q), .l w, .l (dg4 (fo u))]) := by
  rw [g39_0_at, t39_0]
  by_cases h : u < Q
  · have e : u / Q = 0 := Int.ediv_eq_zero_of_lt hu h
    simp only [Q] at e h
    simp [h, e]
  · have e : 1 ≤ u / Q ∧ u / Q ≤ 40 := by simp only [Q] at h ⊢; omega
    have e3 : decide (u / Q > 0) = true := decide_eq_true (by omega)
    rw [if_neg h, e3, cond_true, wr_u64 (by omega) (by omega), v4_dg4]
    dsimp only
    rw [show v4 [u / Q * 38, 0, 0, 0] = u / Q * 38 by simp [v4, valD], show u % Q + u / Q * 38 = fo u by simp only [fo]; omega]

def C39 : CFn := ⟨[.arr .u64 4, .arr .u64 4], .arr .u64 4, fun _ => true, fun hs => [.l (dg4 (fo (fo (fo (v4 (hl hs 0) * v4 (hl hs 1))))))]⟩
theorem cok39 : EntryOk Try.prog 39 (.pure C39.sem) := cfn_at rfl rfl rfl ok39 (fun x hx rx y hy ry _ => by
  have hv := v4_u hx rx
  have hw := v4_u hy ry
  refine (at39 x y).trans ?_
  show raw39 x y = some [.l (dg4 (fo (fo (fo (v4 x * v4 y)))))]
  unfold raw39
  dsimp only
  have hX : 0 ≤ v4 x * v4 y ∧ v4 x * v4 y < 13407807929942597099574024998205846127479365820592393377723561443721764030073546976801874298166903427690031858186486050853753882811946569946433649006084096 := by
    refine ⟨Int.mul_nonneg hv.1 hw.1, ?_⟩
    have h1 : v4 x * v4 y ≤ 115792089237316195423570985008687907853269984665640564039457584007913129639935 * v4 y := Int.mul_le_mul_of_nonneg_right (by omega) hw.1
    omega
  generalize v4 x * v4 y = X at *
  obtain ⟨a, b, c, d, e, f, g, h, hd⟩ := len_dg8 X
  obtain ⟨q1, q2, _⟩ := halves hX.1 hX.2 hd
  rw [hd]
  simp only [List.getD_cons_zero, List.getD_cons_succ]
  have z0 : v8 (List.replicate 8 0) = 0 := by decide +kernel
  rw [guard65 (by omega) (by omega) (by rw [z0]; exact (by decide +kernel : (0 : Int) < 18446744073709551616 ^ (Int.toNat 0 + 4))), cond_true]
  have p0 : (18446744073709551616 : Int) ^ (Int.toNat 0) = 1 := by decide +kernel
  simp only [rowW, z0, p0, q2, show (0 : Int) + 1 * (X / Q * 38) = X / Q * 38 by omega]
  have hH : 0 ≤ X / Q * 38 ∧ X / Q * 38 < 4400099391018015426095697430330140498424259417294341433499388192300698926317568 := by simp only [Q]; omega
  obtain ⟨a', b', c', d', e', f', g', h', hd'⟩ := len_dg8 (X / Q * 38)
  obtain ⟨r1, r2, r3⟩ := halves hH.1 (by omega) hd'
  rw [hd']
  simp only [List.getD_cons_zero, List.getD_cons_succ, q1, r1, r3 (by omega)]
  have e1 : wr .u64 ((X % Q + X / Q * 38 % Q) / Q + X / Q * 38 / Q) = fo X / Q := by simp only [fo, Q, wr]; omega
  have e2 : dg4 (X % Q + X / Q * 38 % Q) = dg4 (fo X) := by
    rw [← dg4_mod, ← dg4_mod (fo X)]
    congr 1
    simp only [fo, Q]; omega
  rw [e1, e2]
  have hu : 0 ≤ fo X ∧ fo X < 4631683569492647816942839400347516314130799386625622561578303360316525185597440 := by simp only [fo, Q]; omega
  generalize fo X = u at *
  have key : ∃ j w, j ≤ 3 ∧ EndsIn j g39_0 [.i (u / Q), .l [0, 0, 0, 0], .l (dg4 u)] (false, [.l w, .l (dg4 (fo (fo u)))]) := by
    by_cases h1 : u < Q
    · refine ⟨0, [0, 0, 0, 0], by omega, ends_done ?_⟩
      rw [go48 _ _ (by omega) (by omega), if_pos h1, show fo (fo u) = u by simp only [fo, Q] at *; omega]
    · by_cases h2 : fo u < Q
      · refine ⟨0 + 1, [0, 0, 0, 0], by omega, ends_step (by rw [go48 _ _ (by omega) (by omega), if_neg h1]) (ends_done ?_)⟩
        rw [go48 _ _ (by simp only [fo, Q] at *; omega) (by simp only [fo, Q] at *; omega), if_pos h2, show fo (fo u) = fo u by simp only [fo, Q] at *; omega]
      · refine ⟨0 + 1 + 1, [0, 0, 0, 0], by omega, ends_step (by rw [go48 _ _ (by omega) (by omega), if_neg h1]) (ends_step (by rw [go48 _ _ (by simp only [fo, Q] at *; omega) (by simp only [fo, Q] at *; omega), if_neg h2]) (ends_done ?_))⟩
        rw [go48 _ _ (by simp only [fo, Q] at *; omega) (by simp only [fo, Q] at *; omega), if_pos (by simp only [fo, Q] at *; omega)]
  obtain ⟨j, w, hj, he⟩ := key
  rw [he.big (by omega)]
  rfl)
end Go.Proofs.Ytibldmjnddppaaa.Fld
set_option linter.unusedVariables false
set_option maxRecDepth 100000
namespace Go.Proofs.Ytibldmjnddppaaa.Fld
open Go Go.Sim
open Go.Proofs Go.Fld

/-! ### 65: towpath/field.Power (pure) -/
noncomputable def env65 : List (FuncId × Entry) := [(39, .pure C39.sem), (38, .pure C38.sem)]
theorem envOk65 : EnvOk Try.prog (envOf env65) := envOf_ok (all_cons cok39 (all_cons cok38 (all_nil)))
def h65_2 : Tpl := ⟨[none, none, some (.ptr 0 []), some (.ptr 1 []), some (.ptr 2 []), some (.ptr 3 []), some (.int .i64), some (.int .u64), none, none, none, none, none, none, none, none, none, none, none, none, none, none, none, none, none, none, none, none, none, none], [some (.arr .u64 4), some (.arr .u64 4), some (.arr .u64 4), some (.arr .u64 4)], 4⟩
def e65_2 : Tpl := ⟨[none, none, some (.ptr 0 []), some (.ptr 1 []), some (.ptr 2 []), some (.ptr 3 []), some (.int .i64), none, none, none, none, none, none, none, none, none, none, none, none, none, none, none, none, none, none, none, none, none, none, none], [some (.arr .u64 4), some (.arr .u64 4), some (.arr .u64 4), some (.arr .u64 4)], 4⟩
def t65_2 (z0 : Int) (z1 : Int) (z2 : List Int) (z3 : List Int) (z4 : List Int) (z5 : List Int) : Option (Sum (List Hv) (Bool × List Hv)) := bif decide ((z1) > (0)) then (bif inB (z0) 4 then (bif Nat.blt (z0).toNat 4 then (bif (andI .u64 ((z3).getD (z0).toNat 0) (z1)) != (0) then (let x1 : List Int := dg4 (fo (fo (fo (v4 (z5) * v4 (z5))))); some (.inl [.i (z0), .i ((z1) / 2), .l (z2), .l (z3), .l (z4), .l (dg4 (fo (fo (fo (v4 (x1) * v4 (z2))))))])) else (let x2 : List Int := dg4 (fo (fo (fo (v4 (z5) * v4 (z5))))); some (.inl [.i (z0), .i ((z1) / 2), .l (z2), .l (z3), .l (z4), .l (x2)]))) else none) else none) else (some (.inr (false, [.i (z0), .l (z2), .l (z3), .l (z4), .l (z5)])))
def g65_2 : StepG := apH [.i, .i, .l, .l, .l, .l] t65_2
theorem g65_2_at (z0 : Int) (z1 : Int) (z2 : List Int) (z3 : List Int) (z4 : List Int) (z5 : List Int) : g65_2 [.i z0, .i z1, .l z2, .l z3, .l z4, .l z5] = t65_2 z0 z1 z2 z3 z4 z5 := (congrFun (show g65_2 = apH [.i, .i, .l, .l, .l, .l] t65_2 from rfl) _).trans ((fun F => rfl : ∀ F : Int → Int → List Int → List Int → List Int → List Int → Option (Sum (List Hv) (Bool × List Hv)), apH [.i, .i, .l, .l, .l, .l] F [.i z0, .i z1, .l z2, .l z3, .l z4, .l z5] = F z0 z1 z2 z3 z4 z5) t65_2)
theorem l65_2 : LamOk Try.prog (lamOf []) (codeOf Try.f65) := lamOk_nil
theorem b65_2 : BlkSound Try.prog 2 (blkOf (codeOf Try.f65) 2) (loopE h65_2 e65_2 g65_2) := loopE_at (u := 70) envOk65 mix 2 (by kernel_rfl) l65_2 (ks := [.i, .i, .l, .l, .l, .l]) (t := t65_2) (fun _ => rfl) (fun _ => rfl) (fun z0 z1 z2 z3 z4 z5 => by show _ = _; kernel_rfl)
def h65_0 : Tpl := ⟨[none, none, some (.ptr 0 []), some (.ptr 1 []), some (.ptr 2 []), some (.ptr 3 []), some (.int .i64), none, none, none, none, none, none, none, none, none, none, none, none, none, none, none, none, none, none, none, none, none, none, none], [some (.arr .u64 4), some (.arr .u64 4), some (.arr .u64 4), some (.arr .u64 4)], 4⟩
def e65_0 : Tpl := ⟨[none, none, none, none, some (.ptr 2 []), some (.ptr 3 []), none, none, none, none, none, none, none, none, none, none, none, none, none, none, none, none, none, none, none, none, none, none, none, none], [none, none, some (.arr .u64 4), some (.arr .u64 4)], 4⟩
def t65_0 (z0 : Int) (z1 : List Int) (z2 : List Int) (z3 : List Int) (z4 : List Int) : Option (Sum (List Hv) (Bool × List Hv)) := bif decide ((z0) ≥ (0)) then ((loopN g65_2 bigN [.i (z0), .i (9223372036854775808), .l (z1), .l (z2), .l (z3), .l (z4)]).bind fun r1 => bif r1.1 then none else (some (.inl [.i (wr .i64 ((hi r1.2 0) - (1))), .l (hl r1.2 1), .l (hl r1.2 2), .l (hl r1.2 3), .l (hl r1.2 4)]))) else (some (.inr (false, [.l (z3), .l (z4)])))
def g65_0 : StepG := apH [.i, .l, .l, .l, .l] t65_0
theorem g65_0_at (z0 : Int) (z1 : List Int) (z2 : List Int) (z3 : List Int) (z4 : List Int) : g65_0 [.i z0, .l z1, .l z2, .l z3, .l z4] = t65_0 z0 z1 z2 z3 z4 := (congrFun (show g65_0 = apH [.i, .l, .l, .l, .l] t65_0 from rfl) _).trans ((fun F => rfl : ∀ F : Int → List Int → List Int → List Int → List Int → Option (Sum (List Hv) (Bool × List Hv)), apH [.i, .l, .l, .l, .l] F [.i z0, .l z1, .l z2, .l z3, .l z4] = F z0 z1 z2 z3 z4) t65_0)
theorem l65_0 : LamOk Try.prog (lamOf [(2, loopE h65_2 e65_2 g65_2)]) (codeOf Try.f65) := lamOk_of (by kernel_rfl) (blk_cons b65_2 (blk_nil))
theorem b65_0 : BlkSound Try.prog 0 (blkOf (codeOf Try.f65) 0) (loopE h65_0 e65_0 g65_0) := loopE_at (u := 70) envOk65 mix 0 (by kernel_rfl) l65_0 (ks := [.i, .l, .l, .l, .l]) (t := t65_0) (fun _ => rfl) (fun _ => rfl) (fun z0 z1 z2 z3 z4 => by show _ = _; kernel_rfl)
def raw65 (a0 : List Int) (a1 : List Int) : Option (List Hv) := (loopN g65_0 bigN [.i (3), .l (a0), .l (a1), .l ([0, 0, 0, 0]), .l (dg4 (1))]).bind fun r2 => bif r2.1 then none else (some [.l (hl r2.2 1)])
theorem l65 : LamOk Try.prog (lamOf [(2, loopE h65_2 e65_2 g65_2), (0, loopE h65_0 e65_0 g65_0)]) (codeOf Try.f65) := lamOk_of (by kernel_rfl) (blk_cons b65_2 (blk_cons b65_0 (blk_nil)))
def G65 : GFn := ⟨[.arr .u64 4, .arr .u64 4], .arr .u64 4, apH [.l, .l] raw65⟩
theorem ok65 : EntryOk Try.prog 65 (.pure G65.sem) := gfn_pure (u := 70) envOk65 mix Try.func65 (by kernel_rfl) (by kernel_rfl) l65 G65 (by kernel_rfl) (by kernel_rfl) [.l, .l] rfl (fun a0 a1 => by show _ = _; kernel_rfl)
theorem at65 (a0 : List Int) (a1 : List Int) : G65.fn [.l a0, .l a1] = raw65 a0 a1 := (congrFun (show G65.fn = apH [.l, .l] raw65 from rfl) _).trans ((fun F => rfl : ∀ F : List Int → List Int → Option (List Hv), apH [.l, .l] F [.l a0, .l a1] = F a0 a1) raw65)
/-! ### 0: towpath/field.Mul (pure) -/
/-! ### 0: towpath/field.Add (pure) -/
/-! ### 0: towpath/field.Sub (pure) -/
/-! ### 0: towpath/field.Reduce (pure) -/
/-! ### 36: towpath/field.Canonical (pure) -/
noncomputable def env36 : List (FuncId × Entry) := [(37, .pure C37.sem), (60, .pure C60.sem), (61, .pure C61.sem)]
theorem envOk36 : EnvOk Try.prog (envOf env36) := envOf_ok (all_cons cok37 (all_cons cok60 (all_cons cok61 (all_nil))))
def raw36 (a0 : List Int) : Option (List Hv) := some [.b (decide (v4 (dg4 (v32 (a0))) < v4 (dg4 p)))]
theorem l36 : LamOk Try.prog (lamOf []) (codeOf Try.f36) := lamOk_nil
def G36 : GFn := ⟨[.arr .u8 32], .bool, apH [.l] raw36⟩
theorem ok36 : EntryOk Try.prog 36 (.pure G36.sem) := gfn_pure (u := 70) envOk36 mix Try.func36 (by kernel_rfl) (by kernel_rfl) l36 G36 (by kernel_rfl) (by kernel_rfl) [.l] rfl (fun a0 => by show _ = _; kernel_rfl)
theorem at36 (a0 : List Int) : G36.fn [.l a0] = raw36 a0 := (congrFun (show G36.fn = apH [.l] raw36 from rfl) _).trans ((fun F => rfl : ∀ F : List Int → Option (List Hv), apH [.l] F [.l a0] = F a0) raw36)
/-! ### 0: towpath/field.Odd (pure) -/
end Go.Proofs.Ytibldmjnddppaaa.Fld
set_option linter.unusedVariables false
set_option maxRecDepth 10000
namespace Go.Proofs.Ytibldmjnddppaaa.Fld
open Go Go.Sim Go.Fld

theorem v4_limb {e : List Int} (hl : e.length = 4) (hr : ∀ y ∈ e, 0 ≤ y ∧ y < 18446744073709551616) (i : Nat) (hi : i < 4) : e.getD i 0 = v4 e / 18446744073709551616 ^ i % 18446744073709551616 := by
  obtain ⟨a, b, c, d, rfl⟩ := len4 hl
  have ha := hr a (by simp)
  have hb := hr b (by simp)
  have hc := hr c (by simp)
  have hd := hr d (by simp)
  have hi' : i = 0 ∨ i = 1 ∨ i = 2 ∨ i = 3 := by omega
  rcases hi' with rfl | rfl | rfl | rfl <;> simp [v4, valD] <;> omega

theorem and_pow2 (n i : Nat) : n &&& 2 ^ i = (n.testBit i).toNat * 2 ^ i := by
  apply Nat.eq_of_testBit_eq
  intro k
  rw [Nat.testBit_and, Nat.testBit_two_pow]
  by_cases h : i = k
  · subst h
    cases n.testBit i <;> simp [Nat.testBit_two_pow_self]
  · cases n.testBit i <;> simp [h]
/-- the bit asked for -/
theorem bit_at {e : List Int} (hl : e.length = 4) (hr : ∀ y ∈ e, 0 ≤ y ∧ y < 18446744073709551616) (i j : Nat) (hi : i < 4) (hj : j < 64) :
    (andI .u64 (e.getD i 0) (2 ^ j) != 0) = decide (v4 e / 2 ^ (64 * i + j) % 2 = 1) := by
  rw [v4_limb hl hr i hi]
  have hlo : 0 ≤ v4 e := v4_lo hr
  obtain ⟨V, hV⟩ := Int.eq_ofNat_of_zero_le hlo
  rw [hV]
  have e1 : ((V : Int) / 18446744073709551616 ^ i % 18446744073709551616) = ((V / 18446744073709551616 ^ i % 18446744073709551616 : Nat) : Int) := by rw [Int.natCast_emod, Int.natCast_ediv, Int.natCast_pow]; rfl
  have e2 : (2 : Int) ^ j = ((2 ^ j : Nat) : Int) := by push_cast; rfl
  have hj2 : 2 ^ j < 2 ^ 64 := Nat.pow_lt_pow_right (by omega) hj
  rw [e1, e2, andI_nat (Nat.mod_lt _ (by decide)) hj2]
  have e3 : ((V : Int) / 2 ^ (64 * i + j) % 2) = ((V / 2 ^ (64 * i + j) % 2 : Nat) : Int) := by rw [Int.natCast_emod, Int.natCast_ediv, Int.natCast_pow]; rfl
  rw [e3]
  have e4 : V / 18446744073709551616 ^ i % 2 ^ 64 &&& 2 ^ j = ((V / 18446744073709551616 ^ i % 2 ^ 64).testBit j).toNat * 2 ^ j := and_pow2 _ _
  rw [show V / 18446744073709551616 ^ i % 18446744073709551616 = V / 18446744073709551616 ^ i % 2 ^ 64 from rfl, e4, Nat.testBit_mod_two_pow, decide_eq_true hj, Bool.true_and]
  have e5 : (V / 18446744073709551616 ^ i).testBit j = decide (V / 2 ^ (64 * i + j) % 2 = 1) := by
    rw [Nat.testBit_eq_decide_div_mod_eq, Nat.div_div_eq_div_mul, show 18446744073709551616 ^ i * 2 ^ j = 2 ^ (64 * i + j) by rw [show 18446744073709551616 = 2 ^ 64 by decide, ← Nat.pow_mul, ← Nat.pow_add]]
  rw [e5]
  by_cases h : V / 2 ^ (64 * i + j) % 2 = 1
  · have hp : (2 : Nat) ^ j ≠ 0 := Nat.ne_of_gt (Nat.two_pow_pos j)
    have hq : ((1 * 2 ^ j : Nat) : Int) ≠ 0 := by omega
    rw [h]
    simp only [decide_true, Bool.toNat_true]
    exact bne_iff_ne.2 hq
  · have : V / 2 ^ (64 * i + j) % 2 = 0 := by omega
    simp [this]

theorem inner60 (a e : List Int) (t : List Int) (he : e.length = 4) (hr : ∀ y ∈ e, 0 ≤ y ∧ y < 18446744073709551616) (ha : 0 ≤ v4 a ∧ v4 a < Q) (i : Nat) (hi : i < 4) :
    ∀ (j : Nat) (hj : j < 64) (x : Int), 0 ≤ x → x < Q → ∃ y, 0 ≤ y ∧ y < Q ∧ powF (v4 a) (v4 e) (64 * i) y = powF (v4 a) (v4 e) (64 * i + j + 1) x ∧
      EndsIn (j + 1) g65_2 [.i i, .i (2 ^ j), .l a, .l e, .l t, .l (dg4 x)] (false, [.i i, .l a, .l e, .l t, .l (dg4 y)]) := by
  have step : ∀ (j : Nat) (hj : j < 64) (x : Int), 0 ≤ x → x < Q → g65_2 [.i i, .i (2 ^ j), .l a, .l e, .l t, .l (dg4 x)] =
      some (.inl [.i i, .i (2 ^ j / 2), .l a, .l e, .l t, .l (dg4 (if v4 e / 2 ^ (64 * i + j) % 2 = 1 then pr (pr x x) (v4 a) else pr x x))]) := by
    intro j hj x hx hx'
    have hp := pr_in hx hx' hx hx'
    rw [g65_2_at, t65_2]
    have h1 : (0 : Int) < 2 ^ j := Int.pow_pos (by decide)
    have h2 : inB (i : Int) 4 = true := by
      have hi4 : i = 0 ∨ i = 1 ∨ i = 2 ∨ i = 3 := by omega
      rcases hi4 with rfl | rfl | rfl | rfl <;> decide
    have h3 : Nat.blt (i : Int).toNat 4 = true := by simpa using hi
    rw [decide_eq_true (show (2 : Int) ^ j > 0 from h1), cond_true, h2, cond_true, h3, cond_true, Int.toNat_natCast, bit_at he hr i j hi hj]
    by_cases hb : v4 e / 2 ^ (64 * i + j) % 2 = 1
    · rw [decide_eq_true hb, cond_true, if_pos hb]
      dsimp only
      rw [v4_in hx hx']
      rw [show fo (fo (fo (x * x))) = pr x x from rfl, v4_in hp.1 hp.2]
      rfl
    · rw [decide_eq_false hb, cond_false, if_neg hb]
      dsimp only
      rw [v4_in hx hx']
      rfl
  intro j
  induction j with
  | zero =>
    intro hj x hx hx'
    have hp := pr_in hx hx' hx hx'
    have hp2 := pr_in hp.1 hp.2 ha.1 ha.2
    refine ⟨if v4 e / 2 ^ (64 * i) % 2 = 1 then pr (pr x x) (v4 a) else pr x x, by split <;> omega, by split <;> omega, by simp only [powF], ends_step (step 0 hj x hx hx') (ends_done ?_)⟩
    rw [g65_2_at, t65_2]
    rfl
  | succ j ih =>
    intro hj x hx hx'
    have hp := pr_in hx hx' hx hx'
    have hp2 := pr_in hp.1 hp.2 ha.1 ha.2
    obtain ⟨y, h1, h2, h3, h4⟩ := ih (by omega) (if v4 e / 2 ^ (64 * i + (j + 1)) % 2 = 1 then pr (pr x x) (v4 a) else pr x x) (by split <;> omega) (by split <;> omega)
    refine ⟨y, h1, h2, ?_, ends_step (step (j + 1) hj x hx hx') ?_⟩
    · rw [h3]; rw [show 64 * i + (j + 1) + 1 = (64 * i + j + 1) + 1 by omega]; simp only [powF, Nat.add_assoc]
    · rw [show (2 : Int) ^ (j + 1) / 2 = 2 ^ j by rw [Int.pow_succ]; omega]
      exact h4

theorem outer60 (a e : List Int) (t : List Int) (he : e.length = 4) (hr : ∀ y ∈ e, 0 ≤ y ∧ y < 18446744073709551616) (ha : 0 ≤ v4 a ∧ v4 a < Q) :
    ∀ (n : Nat) (hn : n ≤ 4) (x : Int), 0 ≤ x → x < Q → EndsIn n g65_0 [.i ((n : Int) - 1), .l a, .l e, .l t, .l (dg4 x)] (false, [.l t, .l (dg4 (powF (v4 a) (v4 e) (64 * n) x))])
  | 0, _, x, hx, hx' => ends_done (by rw [g65_0_at, t65_0]; rfl)
  | n + 1, hn, x, hx, hx' => by
    obtain ⟨y, h1, h2, h3, h4⟩ := inner60 a e t he hr ha n (by omega) 63 (by omega) x hx hx'
    have hk := outer60 a e t he hr ha n (by omega) y h1 h2
    rw [h3, show 64 * n + 63 + 1 = 64 * (n + 1) by omega] at hk
    refine ends_step ?_ hk
    rw [g65_0_at, t65_0, show ((n + 1 : Nat) : Int) - 1 = (n : Int) by omega, decide_eq_true (show (n : Int) ≥ 0 by omega), cond_true]
    rw [show (9223372036854775808 : Int) = 2 ^ 63 by decide, h4.big (by omega)]
    simp only [Option.bind_some, cond_false, hi, hl, List.getElem?_cons_zero, List.getElem?_cons_succ]
    rw [wr_i64 (by omega) (by omega)]

def C65 : CFn := ⟨[.arr .u64 4, .arr .u64 4], .arr .u64 4, fun _ => true, fun hs => [.l (dg4 (powF (v4 (hl hs 0)) (v4 (hl hs 1)) 256 1))]⟩
theorem cok65 : EntryOk Try.prog 65 (.pure C65.sem) := cfn_at rfl rfl rfl ok65 (fun x hx rx y hy ry _ => by
  have hv := v4_u hx rx
  refine (at65 x y).trans ?_
  show raw65 x y = some [.l (dg4 (powF (v4 x) (v4 y) 256 1))]
  unfold raw65
  have key : loopN g65_0 bigN [.i 3, .l x, .l y, .l [0, 0, 0, 0], .l (dg4 1)] = some (false, [.l [0, 0, 0, 0], .l (dg4 (powF (v4 x) (v4 y) 256 1))]) :=
    (outer60 x y [0, 0, 0, 0] hy ry hv 4 (by omega) 1 (by omega) (by decide)).big (by omega)
  rw [key]
  rfl)

theorem v32_u {l : List Int} (hl : l.length = 32) (h : ∀ y ∈ l, inK .u8 y) : 0 ≤ v32 l ∧ v32 l < Q := ⟨v32_lo h, v32_hi hl h⟩
theorem bo_in {x y : Int} (hx : 0 ≤ x) (hx' : x < Q) (hy : 0 ≤ y) (hy' : y < Q) : 0 ≤ bo (bo (x - y)) ∧ bo (bo (x - y)) < Q := by simp only [bo, Q] at *; omega
theorem su_in {x y : Int} (hx : 0 ≤ x) (hx' : x < Q) (hy : 0 ≤ y) (hy' : y < Q) : 0 ≤ fo (fo (x + y)) ∧ fo (fo (x + y)) < Q := by simp only [fo, Q] at *; omega

def C36 : CFn := ⟨[.arr .u8 32], .bool, fun _ => true, fun hs => [.b (decide (v32 (hl hs 0) < p))]⟩
theorem cok36 : EntryOk Try.prog 36 (.pure C36.sem) := cfn_at rfl rfl rfl ok36 (fun x hx rx _ => by
  have hv := v32_u hx rx
  refine (at36 x).trans ?_
  show raw36 x = some [.b (decide (v32 x < p))]
  unfold raw36
  rw [v4_in hv.1 hv.2, v4_in (by decide) (by decide)])
end Go.Proofs.Ytibldmjnddppaaa.Fld
set_option linter.unusedVariables false
set_option maxRecDepth 100000
namespace Go.Proofs.Ytibldmjnddppaaa.Fld
open Go Go.Sim
open Go.Proofs Go.Fld

/-! ### 77: towpath/towpathref1.limb (pure) -/
noncomputable def env77 : List (FuncId × Entry) := []
theorem envOk77 : EnvOk Try.prog (envOf env77) := envOf_ok (all_nil)
def raw77 (a0 : Int) : Option (List Hv) := bif (a0) == (0) then (some [.i (65517)]) else (bif (a0) == (15) then (some [.i (32767)]) else (some [.i (65535)]))
theorem l77 : LamOk Try.prog (lamOf []) (codeOf Try.f77) := lamOk_nil
def G77 : GFn := ⟨[.int .i64], .int .u64, apH [.i] raw77⟩
theorem ok77 : EntryOk Try.prog 77 (.pure G77.sem) := gfn_pure (u := 70) envOk77 mix Try.func77 (by kernel_rfl) (by kernel_rfl) l77 G77 (by kernel_rfl) (by kernel_rfl) [.i] rfl (fun a0 => by show _ = _; kernel_rfl)
theorem at77 (a0 : Int) : G77.fn [.i a0] = raw77 a0 := (congrFun (show G77.fn = apH [.i] raw77 from rfl) _).trans ((fun F => rfl : ∀ F : Int → Option (List Hv), apH [.i] F [.i a0] = F a0) raw77)
/-! ### 56: towpath/towpathref1.carry (pure) -/
noncomputable def env56 : List (FuncId × Entry) := []
theorem envOk56 : EnvOk Try.prog (envOf env56) := envOf_ok (all_nil)
def h56_0 : Tpl := ⟨[none, some (.ptr 0 []), some (.ptr 1 []), some (.int .i64), none, none, none, none, none, none, none, none, none, none, none, none, none, none, none, none, none, none, none, none, none, none, none, none, none, none, none, none, none], [some (.arr .u64 16), some (.arr .u64 16)], 2⟩
def e56_0 : Tpl := ⟨[none, some (.ptr 0 []), some (.ptr 1 []), none, none, none, none, none, none, none, none, none, none, none, none, none, none, none, none, none, none, none, none, none, none, none, none, none, none, none, none, none, none], [some (.arr .u64 16), some (.arr .u64 16)], 2⟩
def t56_0 (z0 : Int) (z1_0 z1_1 z1_2 z1_3 z1_4 z1_5 z1_6 z1_7 z1_8 z1_9 z1_10 z1_11 z1_12 z1_13 z1_14 z1_15 : Int) (z2_0 z2_1 z2_2 z2_3 z2_4 z2_5 z2_6 z2_7 z2_8 z2_9 z2_10 z2_11 z2_12 z2_13 z2_14 z2_15 : Int) : Option (Sum (List Hv) (Bool × List Hv)) := bif decide ((z0) < (4)) then (let x1 : Int := wr .u64 ((z1_0) + (0)); let x2 : Int := wr .u64 ((z1_1) + ((x1) / 65536)); let x3 : Int := wr .u64 ((z1_2) + ((x2) / 65536)); let x4 : Int := wr .u64 ((z1_3) + ((x3) / 65536)); let x5 : Int := wr .u64 ((z1_4) + ((x4) / 65536)); let x6 : Int := wr .u64 ((z1_5) + ((x5) / 65536)); let x7 : Int := wr .u64 ((z1_6) + ((x6) / 65536)); let x8 : Int := wr .u64 ((z1_7) + ((x7) / 65536)); let x9 : Int := wr .u64 ((z1_8) + ((x8) / 65536)); let x10 : Int := wr .u64 ((z1_9) + ((x9) / 65536)); let x11 : Int := wr .u64 ((z1_10) + ((x10) / 65536)); let x12 : Int := wr .u64 ((z1_11) + ((x11) / 65536)); let x13 : Int := wr .u64 ((z1_12) + ((x12) / 65536)); let x14 : Int := wr .u64 ((z1_13) + ((x13) / 65536)); let x15 : Int := wr .u64 ((z1_14) + ((x14) / 65536)); let x16 : Int := wr .u64 ((z1_15) + ((x15) / 65536)); let x17 : List Int := [z2_0, z2_1, z2_2, z2_3, z2_4, z2_5, z2_6, z2_7, z2_8, z2_9, z2_10, z2_11, z2_12, z2_13, z2_14, z2_15]; some (.inl [.i (wr .i64 ((z0) + (1))), .l ([wr .u64 ((andI .u64 (x1) (65535)) + (wr .u64 ((38) * ((x16) / 65536)))), andI .u64 (x2) (65535), andI .u64 (x3) (65535), andI .u64 (x4) (65535), andI .u64 (x5) (65535), andI .u64 (x6) (65535), andI .u64 (x7) (65535), andI .u64 (x8) (65535), andI .u64 (x9) (65535), andI .u64 (x10) (65535), andI .u64 (x11) (65535), andI .u64 (x12) (65535), andI .u64 (x13) (65535), andI .u64 (x14) (65535), andI .u64 (x15) (65535), andI .u64 (x16) (65535)]), .l (x17)])) else (let x18 : List Int := [z2_0, z2_1, z2_2, z2_3, z2_4, z2_5, z2_6, z2_7, z2_8, z2_9, z2_10, z2_11, z2_12, z2_13, z2_14, z2_15]; some (.inr (false, [.l ([z1_0, z1_1, z1_2, z1_3, z1_4, z1_5, z1_6, z1_7, z1_8, z1_9, z1_10, z1_11, z1_12, z1_13, z1_14, z1_15]), .l (x18)])))
def g56_0 : StepG := apH [.i, .x 16, .x 16] t56_0
theorem g56_0_at (z0 : Int) (z1_0 z1_1 z1_2 z1_3 z1_4 z1_5 z1_6 z1_7 z1_8 z1_9 z1_10 z1_11 z1_12 z1_13 z1_14 z1_15 : Int) (z2_0 z2_1 z2_2 z2_3 z2_4 z2_5 z2_6 z2_7 z2_8 z2_9 z2_10 z2_11 z2_12 z2_13 z2_14 z2_15 : Int) : g56_0 [.i z0, .l [z1_0, z1_1, z1_2, z1_3, z1_4, z1_5, z1_6, z1_7, z1_8, z1_9, z1_10, z1_11, z1_12, z1_13, z1_14, z1_15], .l [z2_0, z2_1, z2_2, z2_3, z2_4, z2_5, z2_6, z2_7, z2_8, z2_9, z2_10, z2_11, z2_12, z2_13, z2_14, z2_15]] = t56_0 z0 z1_0 z1_1 z1_2 z1_3 z1_4 z1_5 z1_6 z1_7 z1_8 z1_9 z1_10 z1_11 z1_12 z1_13 z1_14 z1_15 z2_0 z2_1 z2_2 z2_3 z2_4 z2_5 z2_6 z2_7 z2_8 z2_9 z2_10 z2_11 z2_12 z2_13 z2_14 z2_15 := (congrFun (show g56_0 = apH [.i, .x 16, .x 16] t56_0 from rfl) _).trans ((fun F => rfl : ∀ F : Int → Int → Int → Int → Int → Int → Int → Int → Int → Int → Int → Int → Int → Int → Int → Int → Int → Int → Int → Int → Int → Int → Int → Int → Int → Int → Int → Int → Int → Int → Int → Int → Int → Option (Sum (List Hv) (Bool × List Hv)), apH [.i, .x 16, .x 16] F [.i z0, .l [z1_0, z1_1, z1_2, z1_3, z1_4, z1_5, z1_6, z1_7, z1_8, z1_9, z1_10, z1_11, z1_12, z1_13, z1_14, z1_15], .l [z2_0, z2_1, z2_2, z2_3, z2_4, z2_5, z2_6, z2_7, z2_8, z2_9, z2_10, z2_11, z2_12, z2_13, z2_14, z2_15]] = F z0 z1_0 z1_1 z1_2 z1_3 z1_4 z1_5 z1_6 z1_7 z1_8 z1_9 z1_10 z1_11 z1_12 z1_13 z1_14 z1_15 z2_0 z2_1 z2_2 z2_3 z2_4 z2_5 z2_6 z2_7 z2_8 z2_9 z2_10 z2_11 z2_12 z2_13 z2_14 z2_15) t56_0)
theorem l56_0 : LamOk Try.prog (lamOf []) (codeOf Try.f56) := lamOk_nil
theorem b56_0 : BlkSound Try.prog 0 (blkOf (codeOf Try.f56) 0) (loopE h56_0 e56_0 g56_0) := loopE_at (u := 70) envOk56 mix 0 (by kernel_rfl) l56_0 (ks := [.i, .x 16, .x 16]) (t := t56_0) (fun _ => rfl) (fun _ => rfl) (fun z0 z1_0 z1_1 z1_2 z1_3 z1_4 z1_5 z1_6 z1_7 z1_8 z1_9 z1_10 z1_11 z1_12 z1_13 z1_14 z1_15 z2_0 z2_1 z2_2 z2_3 z2_4 z2_5 z2_6 z2_7 z2_8 z2_9 z2_10 z2_11 z2_12 z2_13 z2_14 z2_15 => by show _ = _; kernel_rfl)
def raw56 (a0_0 a0_1 a0_2 a0_3 a0_4 a0_5 a0_6 a0_7 a0_8 a0_9 a0_10 a0_11 a0_12 a0_13 a0_14 a0_15 : Int) : Option (List Hv) := (loopN g56_0 bigN [.i (0), .l ([a0_0, a0_1, a0_2, a0_3, a0_4, a0_5, a0_6, a0_7, a0_8, a0_9, a0_10, a0_11, a0_12, a0_13, a0_14, a0_15]), .l (List.replicate 16 0)]).bind fun r1 => bif r1.1 then none else (some [.l (hl r1.2 0)])
theorem l56 : LamOk Try.prog (lamOf [(0, loopE h56_0 e56_0 g56_0)]) (codeOf Try.f56) := lamOk_of (by kernel_rfl) (blk_cons b56_0 (blk_nil))
def G56 : GFn := ⟨[.arr .u64 16], .arr .u64 16, apH [.x 16] raw56⟩
theorem ok56 : EntryOk Try.prog 56 (.pure G56.sem) := gfn_pure (u := 70) envOk56 mix Try.func56 (by kernel_rfl) (by kernel_rfl) l56 G56 (by kernel_rfl) (by kernel_rfl) [.x 16] rfl (fun a0_0 a0_1 a0_2 a0_3 a0_4 a0_5 a0_6 a0_7 a0_8 a0_9 a0_10 a0_11 a0_12 a0_13 a0_14 a0_15 => by show _ = _; kernel_rfl)
theorem at56 (a0_0 a0_1 a0_2 a0_3 a0_4 a0_5 a0_6 a0_7 a0_8 a0_9 a0_10 a0_11 a0_12 a0_13 a0_14 a0_15 : Int) : G56.fn [.l [a0_0, a0_1, a0_2, a0_3, a0_4, a0_5, a0_6, a0_7, a0_8, a0_9, a0_10, a0_11, a0_12, a0_13, a0_14, a0_15]] = raw56 a0_0 a0_1 a0_2 a0_3 a0_4 a0_5 a0_6 a0_7 a0_8 a0_9 a0_10 a0_11 a0_12 a0_13 a0_14 a0_15 := (congrFun (show G56.fn = apH [.x 16] raw56 from rfl) _).trans ((fun F => rfl : ∀ F : Int → Int → Int → Int → Int → Int → Int → Int → Int → Int → Int → Int → Int → Int → Int → Int → Option (List Hv), apH [.x 16] F [.l [a0_0, a0_1, a0_2, a0_3, a0_4, a0_5, a0_6, a0_7, a0_8, a0_9, a0_10, a0_11, a0_12, a0_13, a0_14, a0_15]] = F a0_0 a0_1 a0_2 a0_3 a0_4 a0_5 a0_6 a0_7 a0_8 a0_9 a0_10 a0_11 a0_12 a0_13 a0_14 a0_15) raw56)
end Go.Proofs.Ytibldmjnddppaaa.Fld
set_option linter.unusedVariables false
set_option maxRecDepth 10000
namespace Go.Proofs.Ytibldmjnddppaaa.Fld
open Go Go.Sim Go.Fld

theorem len16 {l : List Int} (h : l.length = 16) : ∃ a0 a1 a2 a3 a4 a5 a6 a7 a8 a9 a10 a11 a12 a13 a14 a15, l = [a0, a1, a2, a3, a4, a5, a6, a7, a8, a9, a10, a11, a12, a13, a14, a15] := by
  match l, h with
  | [a0, a1, a2, a3, a4, a5, a6, a7, a8, a9, a10, a11, a12, a13, a14, a15], _ => exact ⟨a0, a1, a2, a3, a4, a5, a6, a7, a8, a9, a10, a11, a12, a13, a14, a15, rfl⟩
/-- one round of carrying -/
def carryL (v : Int) : List Int := ((dg16 v).headD 0 + 38 * (v / Q)) :: (dg16 v).tail

theorem round63 {k : Int} {a0 a1 a2 a3 a4 a5 a6 a7 a8 a9 a10 a11 a12 a13 a14 a15 w0 w1 w2 w3 w4 w5 w6 w7 w8 w9 w10 w11 w12 w13 w14 w15 : Int} (h0 : 0 ≤ a0 ∧ a0 < 144115188075855872) (h1 : 0 ≤ a1 ∧ a1 < 144115188075855872) (h2 : 0 ≤ a2 ∧ a2 < 144115188075855872) (h3 : 0 ≤ a3 ∧ a3 < 144115188075855872) (h4 : 0 ≤ a4 ∧ a4 < 144115188075855872) (h5 : 0 ≤ a5 ∧ a5 < 144115188075855872) (h6 : 0 ≤ a6 ∧ a6 < 144115188075855872) (h7 : 0 ≤ a7 ∧ a7 < 144115188075855872) (h8 : 0 ≤ a8 ∧ a8 < 144115188075855872) (h9 : 0 ≤ a9 ∧ a9 < 144115188075855872) (h10 : 0 ≤ a10 ∧ a10 < 144115188075855872) (h11 : 0 ≤ a11 ∧ a11 < 144115188075855872) (h12 : 0 ≤ a12 ∧ a12 < 144115188075855872) (h13 : 0 ≤ a13 ∧ a13 < 144115188075855872) (h14 : 0 ≤ a14 ∧ a14 < 144115188075855872) (h15 : 0 ≤ a15 ∧ a15 < 144115188075855872) (hk : 0 ≤ k) (hk4 : k < 4) :
    g56_0 [.i k, .l [a0, a1, a2, a3, a4, a5, a6, a7, a8, a9, a10, a11, a12, a13, a14, a15], .l [w0, w1, w2, w3, w4, w5, w6, w7, w8, w9, w10, w11, w12, w13, w14, w15]] = some (.inl [.i (k + 1), .l (carryL (v16 [a0, a1, a2, a3, a4, a5, a6, a7, a8, a9, a10, a11, a12, a13, a14, a15])), .l [w0, w1, w2, w3, w4, w5, w6, w7, w8, w9, w10, w11, w12, w13, w14, w15]]) := by
  rw [g56_0_at, t56_0, decide_eq_true hk4, cond_true]
  dsimp only
  rw [wr_u64 (n := a0 + 0) (by omega) (by omega)]
  generalize hx0 : a0 + 0 = x0
  have b0 : 0 ≤ x0 ∧ x0 < 288230376151711744 := by omega
  rw [wr_u64 (n := a1 + x0 / 65536) (by omega) (by omega)]
  generalize hx1 : a1 + x0 / 65536 = x1
  have b1 : 0 ≤ x1 ∧ x1 < 288230376151711744 := by omega
  rw [wr_u64 (n := a2 + x1 / 65536) (by omega) (by omega)]
  generalize hx2 : a2 + x1 / 65536 = x2
  have b2 : 0 ≤ x2 ∧ x2 < 288230376151711744 := by omega
  rw [wr_u64 (n := a3 + x2 / 65536) (by omega) (by omega)]
  generalize hx3 : a3 + x2 / 65536 = x3
  have b3 : 0 ≤ x3 ∧ x3 < 288230376151711744 := by omega
  rw [wr_u64 (n := a4 + x3 / 65536) (by omega) (by omega)]
  generalize hx4 : a4 + x3 / 65536 = x4
  have b4 : 0 ≤ x4 ∧ x4 < 288230376151711744 := by omega
  rw [wr_u64 (n := a5 + x4 / 65536) (by omega) (by omega)]
  generalize hx5 : a5 + x4 / 65536 = x5
  have b5 : 0 ≤ x5 ∧ x5 < 288230376151711744 := by omega
  rw [wr_u64 (n := a6 + x5 / 65536) (by omega) (by omega)]
  generalize hx6 : a6 + x5 / 65536 = x6
  have b6 : 0 ≤ x6 ∧ x6 < 288230376151711744 := by omega
  rw [wr_u64 (n := a7 + x6 / 65536) (by omega) (by omega)]
  generalize hx7 : a7 + x6 / 65536 = x7
  have b7 : 0 ≤ x7 ∧ x7 < 288230376151711744 := by omega
  rw [wr_u64 (n := a8 + x7 / 65536) (by omega) (by omega)]
  generalize hx8 : a8 + x7 / 65536 = x8
  have b8 : 0 ≤ x8 ∧ x8 < 288230376151711744 := by omega
  rw [wr_u64 (n := a9 + x8 / 65536) (by omega) (by omega)]
  generalize hx9 : a9 + x8 / 65536 = x9
  have b9 : 0 ≤ x9 ∧ x9 < 288230376151711744 := by omega
  rw [wr_u64 (n := a10 + x9 / 65536) (by omega) (by omega)]
  generalize hx10 : a10 + x9 / 65536 = x10
  have b10 : 0 ≤ x10 ∧ x10 < 288230376151711744 := by omega
  rw [wr_u64 (n := a11 + x10 / 65536) (by omega) (by omega)]
  generalize hx11 : a11 + x10 / 65536 = x11
  have b11 : 0 ≤ x11 ∧ x11 < 288230376151711744 := by omega
  rw [wr_u64 (n := a12 + x11 / 65536) (by omega) (by omega)]
  generalize hx12 : a12 + x11 / 65536 = x12
  have b12 : 0 ≤ x12 ∧ x12 < 288230376151711744 := by omega
  rw [wr_u64 (n := a13 + x12 / 65536) (by omega) (by omega)]
  generalize hx13 : a13 + x12 / 65536 = x13
  have b13 : 0 ≤ x13 ∧ x13 < 288230376151711744 := by omega
  rw [wr_u64 (n := a14 + x13 / 65536) (by omega) (by omega)]
  generalize hx14 : a14 + x13 / 65536 = x14
  have b14 : 0 ≤ x14 ∧ x14 < 288230376151711744 := by omega
  rw [wr_u64 (n := a15 + x14 / 65536) (by omega) (by omega)]
  generalize hx15 : a15 + x14 / 65536 = x15
  have b15 : 0 ≤ x15 ∧ x15 < 288230376151711744 := by omega
  have m0 : andI .u64 x0 65535 = x0 % 65536 := andI_mod 16 (M := 65536) rfl (by omega) (by omega) (by omega)
  have m1 : andI .u64 x1 65535 = x1 % 65536 := andI_mod 16 (M := 65536) rfl (by omega) (by omega) (by omega)
  have m2 : andI .u64 x2 65535 = x2 % 65536 := andI_mod 16 (M := 65536) rfl (by omega) (by omega) (by omega)
  have m3 : andI .u64 x3 65535 = x3 % 65536 := andI_mod 16 (M := 65536) rfl (by omega) (by omega) (by omega)
  have m4 : andI .u64 x4 65535 = x4 % 65536 := andI_mod 16 (M := 65536) rfl (by omega) (by omega) (by omega)
  have m5 : andI .u64 x5 65535 = x5 % 65536 := andI_mod 16 (M := 65536) rfl (by omega) (by omega) (by omega)
  have m6 : andI .u64 x6 65535 = x6 % 65536 := andI_mod 16 (M := 65536) rfl (by omega) (by omega) (by omega)
  have m7 : andI .u64 x7 65535 = x7 % 65536 := andI_mod 16 (M := 65536) rfl (by omega) (by omega) (by omega)
  have m8 : andI .u64 x8 65535 = x8 % 65536 := andI_mod 16 (M := 65536) rfl (by omega) (by omega) (by omega)
  have m9 : andI .u64 x9 65535 = x9 % 65536 := andI_mod 16 (M := 65536) rfl (by omega) (by omega) (by omega)
  have m10 : andI .u64 x10 65535 = x10 % 65536 := andI_mod 16 (M := 65536) rfl (by omega) (by omega) (by omega)
  have m11 : andI .u64 x11 65535 = x11 % 65536 := andI_mod 16 (M := 65536) rfl (by omega) (by omega) (by omega)
  have m12 : andI .u64 x12 65535 = x12 % 65536 := andI_mod 16 (M := 65536) rfl (by omega) (by omega) (by omega)
  have m13 : andI .u64 x13 65535 = x13 % 65536 := andI_mod 16 (M := 65536) rfl (by omega) (by omega) (by omega)
  have m14 : andI .u64 x14 65535 = x14 % 65536 := andI_mod 16 (M := 65536) rfl (by omega) (by omega) (by omega)
  have m15 : andI .u64 x15 65535 = x15 % 65536 := andI_mod 16 (M := 65536) rfl (by omega) (by omega) (by omega)
  simp only [m0, m1, m2, m3, m4, m5, m6, m7, m8, m9, m10, m11, m12, m13, m14, m15]
  have hV : v16 [a0, a1, a2, a3, a4, a5, a6, a7, a8, a9, a10, a11, a12, a13, a14, a15] = v16 [x0 % 65536, x1 % 65536, x2 % 65536, x3 % 65536, x4 % 65536, x5 % 65536, x6 % 65536, x7 % 65536, x8 % 65536, x9 % 65536, x10 % 65536, x11 % 65536, x12 % 65536, x13 % 65536, x14 % 65536, x15 % 65536] + Q * (x15 / 65536) := by simp only [v16, valD, Q]; omega
  have hr : ∀ y ∈ [x0 % 65536, x1 % 65536, x2 % 65536, x3 % 65536, x4 % 65536, x5 % 65536, x6 % 65536, x7 % 65536, x8 % 65536, x9 % 65536, x10 % 65536, x11 % 65536, x12 % 65536, x13 % 65536, x14 % 65536, x15 % 65536], 0 ≤ y ∧ y < 65536 := mem16 (by omega) (by omega) (by omega) (by omega) (by omega) (by omega) (by omega) (by omega) (by omega) (by omega) (by omega) (by omega) (by omega) (by omega) (by omega) (by omega)
  have hlo : 0 ≤ v16 [x0 % 65536, x1 % 65536, x2 % 65536, x3 % 65536, x4 % 65536, x5 % 65536, x6 % 65536, x7 % 65536, x8 % 65536, x9 % 65536, x10 % 65536, x11 % 65536, x12 % 65536, x13 % 65536, x14 % 65536, x15 % 65536] := v16_lo hr
  have hhi : v16 [x0 % 65536, x1 % 65536, x2 % 65536, x3 % 65536, x4 % 65536, x5 % 65536, x6 % 65536, x7 % 65536, x8 % 65536, x9 % 65536, x10 % 65536, x11 % 65536, x12 % 65536, x13 % 65536, x14 % 65536, x15 % 65536] < Q := v16_hi rfl hr
  have hd : dg16 (v16 [a0, a1, a2, a3, a4, a5, a6, a7, a8, a9, a10, a11, a12, a13, a14, a15]) = [x0 % 65536, x1 % 65536, x2 % 65536, x3 % 65536, x4 % 65536, x5 % 65536, x6 % 65536, x7 % 65536, x8 % 65536, x9 % 65536, x10 % 65536, x11 % 65536, x12 % 65536, x13 % 65536, x14 % 65536, x15 % 65536] := by rw [hV, dg16_add]; exact dg16_v16 rfl hr
  have hq : v16 [a0, a1, a2, a3, a4, a5, a6, a7, a8, a9, a10, a11, a12, a13, a14, a15] / Q = x15 / 65536 := by
    rw [hV, Int.add_mul_ediv_left _ _ (by decide), Int.ediv_eq_zero_of_lt hlo hhi, Int.zero_add]
  rw [carryL, hd, hq, wr_i64 (n := k + 1) (by omega) (by omega)]
  rw [wr_u64 (n := 38 * (x15 / 65536)) (by omega) (by omega), wr_u64 (n := x0 % 65536 + 38 * (x15 / 65536)) (by omega) (by omega)]
  simp only [List.headD_cons, List.tail_cons]
end Go.Proofs.Ytibldmjnddppaaa.Fld
set_option linter.unusedVariables false
set_option maxRecDepth 10000
namespace Go.Proofs.Ytibldmjnddppaaa.Fld
open Go Go.Sim Go.Fld

theorem carryL_len (v : Int) : (carryL v).length = 16 := by
  have := digs_len 65536 16 v
  simp only [carryL, dg16, List.length_cons, List.length_tail, this]
theorem dg16_cons (v : Int) : dg16 v = v % 65536 :: digs 65536 15 (v / 65536) := rfl
theorem carryL_eq (v : Int) : carryL v = (v % 65536 + 38 * (v / Q)) :: digs 65536 15 (v / 65536) := rfl
theorem v16_carry (v : Int) : v16 (carryL v) = fo v := by
  have h := v16_dg16 v
  rw [dg16_cons] at h
  simp only [v16, valD] at h
  rw [carryL_eq]
  simp only [v16, valD, fo]
  omega
theorem carryL_in {v : Int} (h : 0 ≤ v) (h' : v / Q < 70368744177664) : ∀ y ∈ carryL v, 0 ≤ y ∧ y < 144115188075855872 := by
  intro y hy
  rw [carryL_eq, List.mem_cons] at hy
  rcases hy with rfl | hy
  · have : 0 ≤ v / Q := Int.ediv_nonneg h (by decide)
    omega
  · have := digs_range (b := 65536) (by decide) 15 _ y hy
    omega
theorem carryL_small {v : Int} (h : 0 ≤ v) (h' : v < Q) : carryL v = dg16 v := by
  rw [carryL_eq, dg16_cons, Int.ediv_eq_zero_of_lt h h']; simp
theorem round63' {k : Int} {l : List Int} (w : List Int) (hl : l.length = 16) (hr : ∀ y ∈ l, 0 ≤ y ∧ y < 144115188075855872) (hw : w.length = 16) (hk : 0 ≤ k) (hk4 : k < 4) :
    g56_0 [.i k, .l l, .l w] = some (.inl [.i (k + 1), .l (carryL (v16 l)), .l w]) := by
  obtain ⟨a0, a1, a2, a3, a4, a5, a6, a7, a8, a9, a10, a11, a12, a13, a14, a15, rfl⟩ := len16 hl
  obtain ⟨b0, b1, b2, b3, b4, b5, b6, b7, b8, b9, b10, b11, b12, b13, b14, b15, rfl⟩ := len16 hw
  exact round63 (hr _ (by simp)) (hr _ (by simp)) (hr _ (by simp)) (hr _ (by simp)) (hr _ (by simp)) (hr _ (by simp)) (hr _ (by simp)) (hr _ (by simp)) (hr _ (by simp)) (hr _ (by simp)) (hr _ (by simp)) (hr _ (by simp)) (hr _ (by simp)) (hr _ (by simp)) (hr _ (by simp)) (hr _ (by simp)) hk hk4

theorem end63 {l w : List Int} (hl : l.length = 16) (hw : w.length = 16) : g56_0 [.i 4, .l l, .l w] = some (.inr (false, [.l l, .l w])) := by
  obtain ⟨a0, a1, a2, a3, a4, a5, a6, a7, a8, a9, a10, a11, a12, a13, a14, a15, rfl⟩ := len16 hl
  obtain ⟨b0, b1, b2, b3, b4, b5, b6, b7, b8, b9, b10, b11, b12, b13, b14, b15, rfl⟩ := len16 hw
  rw [g56_0_at, t56_0]
  rfl
theorem v16_le {l : List Int} (hl : l.length = 16) (hr : ∀ y ∈ l, 0 ≤ y ∧ y < 144115188075855872) : 0 ≤ v16 l ∧ v16 l / Q < 4398046511104 := by
  obtain ⟨a0, a1, a2, a3, a4, a5, a6, a7, a8, a9, a10, a11, a12, a13, a14, a15, rfl⟩ := len16 hl
  have h0 := hr a0 (by simp)
  have h1 := hr a1 (by simp)
  have h2 := hr a2 (by simp)
  have h3 := hr a3 (by simp)
  have h4 := hr a4 (by simp)
  have h5 := hr a5 (by simp)
  have h6 := hr a6 (by simp)
  have h7 := hr a7 (by simp)
  have h8 := hr a8 (by simp)
  have h9 := hr a9 (by simp)
  have h10 := hr a10 (by simp)
  have h11 := hr a11 (by simp)
  have h12 := hr a12 (by simp)
  have h13 := hr a13 (by simp)
  have h14 := hr a14 (by simp)
  have h15 := hr a15 (by simp)
  simp only [v16, valD, Q]
  omega

/-- carrying, whole -/
theorem carry_is {l : List Int} (hl : l.length = 16) (hr : ∀ y ∈ l, 0 ≤ y ∧ y < 144115188075855872) (w : List Int) (hw : w.length = 16) :
    EndsIn 4 g56_0 [.i 0, .l l, .l w] (false, [.l (dg16 (fo (fo (v16 l)))), .l w]) := by
  obtain ⟨v0, v1⟩ := v16_le hl hr
  have f1 : 0 ≤ fo (v16 l) ∧ fo (v16 l) < Q + 38 * 4398046511104 := by simp only [fo, Q] at *; omega
  have f2 : 0 ≤ fo (fo (v16 l)) ∧ fo (fo (v16 l)) < Q := by simp only [fo, Q] at *; omega
  have f3 : fo (fo (fo (v16 l))) = fo (fo (v16 l)) := by
    generalize fo (fo (v16 l)) = u at *
    simp only [fo, Q] at *; omega
  refine ends_step (round63' w hl hr hw (by omega) (by omega)) (ends_step (round63' w (carryL_len _) (carryL_in v0 (by simp only [Q] at *; omega)) hw (by omega) (by omega)) ?_)
  rw [v16_carry]
  refine ends_step (round63' w (carryL_len _) (carryL_in f1.1 (by simp only [Q] at *; omega)) hw (by omega) (by omega)) ?_
  rw [v16_carry, carryL_small f2.1 f2.2]
  refine ends_step (v' := [.i 4, .l (dg16 (fo (fo (v16 l)))), .l w]) ?_ (ends_done ?_)
  · rw [round63' (l := dg16 (fo (fo (v16 l)))) w (digs_len _ _ _) (fun y hy => by have := digs_range (b := 65536) (by decide) 16 _ y hy; omega) hw (by omega) (by omega), v16_in f2.1 f2.2, carryL_small f2.1 f2.2]
    rfl
  · exact end63 (digs_len _ _ _) hw

def C56 : CFn := ⟨[.arr .u64 16], .arr .u64 16, fun hs => (hl hs 0).all fun y => decide (y < 144115188075855872), fun hs => [.l (dg16 (fo (fo (v16 (hl hs 0)))))]⟩
theorem cok56 : EntryOk Try.prog 56 (.pure C56.sem) := cfn_at rfl rfl rfl ok56 (fun x hx rx hg => by
  have hg : (x.all fun y => decide (y < 144115188075855872)) = true := hg
  have hr : ∀ y ∈ x, 0 ≤ y ∧ y < 144115188075855872 := fun y hy => ⟨(rx y hy).1, by
    have := List.all_eq_true.1 hg y hy
    simpa using this⟩
  have hk := (carry_is hx hr (List.replicate 16 0) rfl).big (by omega)
  obtain ⟨a0, a1, a2, a3, a4, a5, a6, a7, a8, a9, a10, a11, a12, a13, a14, a15, rfl⟩ := len16 hx
  refine (at56 ..).trans ?_
  unfold raw56
  rw [hk]
  rfl)
end Go.Proofs.Ytibldmjnddppaaa.Fld
set_option linter.unusedVariables false
namespace Go.Proofs.Ytibldmjnddppaaa.Fld
open Go Go.Sim Go.Fld
def limbI (i : Int) : Int := if i = 0 then 65517 else if i = 15 then 32767 else 65535
def C77 : CFn := ⟨[.int .i64], .int .u64, fun _ => true, fun hs => [.i (limbI (hi hs 0))]⟩
theorem cok77 : EntryOk Try.prog 77 (.pure C77.sem) := cfn_at rfl rfl rfl ok77 (fun a _ _ => by
  refine (at77 a).trans ?_
  show raw77 a = some [.i (limbI a)]
  unfold raw77 limbI
  by_cases h : a = 0
  · simp [h]
  · have e1 : (a == (0 : Int)) = false := by simp [h]
    by_cases h2 : a = 15
    · simp [h2]
    · have e2 : (a == (15 : Int)) = false := by simp [h2]
      simp [h, h2, e1, e2])
end Go.Proofs.Ytibldmjnddppaaa.Fld
