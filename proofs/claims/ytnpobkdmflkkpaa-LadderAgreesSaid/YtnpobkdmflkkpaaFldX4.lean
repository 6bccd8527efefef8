/- The other reckoning: bytes of the rest; powers. The other reckoning: what bytes are told; alike, nought, inverse, the root of -1. Edges, inverses, roots: clean. Both reckonings agree: inverses, roots. The laws of sums and products answer true. -/
import Derived.Test.YtnpobkdmflkkpaaProg
import Derived.Test.YtnpobkdmflkkpaaSimX2
import Derived.Test.YtnpobkdmflkkpaaFldX3
set_option linter.unusedVariables false
set_option maxRecDepth 100000
namespace Go.Proofs.Ytnpobkdmflkkpaa.Fld
open Go Go.Sim
open Go.Proofs Go.Fld

/-! ### 43: towpath/towpathref1.store (pure) -/
noncomputable def env43 : List (FuncId × Entry) := [(61, .pure C61.sem)]
theorem envOk43 : EnvOk Try.prog (envOf env43) := envOf_ok (all_cons cok61 (all_nil))
def raw43 (a0 : List Int) : Option (List Hv) := bif (a0).all fun y => decide (y < 144115188075855872) then (let x1 : List Int := dg16 (v16 (a0) % p); some [.l ([wr .u8 ((x1).getD 0 0), wr .u8 (((x1).getD 0 0) / 256), wr .u8 ((x1).getD 1 0), wr .u8 (((x1).getD 1 0) / 256), wr .u8 ((x1).getD 2 0), wr .u8 (((x1).getD 2 0) / 256), wr .u8 ((x1).getD 3 0), wr .u8 (((x1).getD 3 0) / 256), wr .u8 ((x1).getD 4 0), wr .u8 (((x1).getD 4 0) / 256), wr .u8 ((x1).getD 5 0), wr .u8 (((x1).getD 5 0) / 256), wr .u8 ((x1).getD 6 0), wr .u8 (((x1).getD 6 0) / 256), wr .u8 ((x1).getD 7 0), wr .u8 (((x1).getD 7 0) / 256), wr .u8 ((x1).getD 8 0), wr .u8 (((x1).getD 8 0) / 256), wr .u8 ((x1).getD 9 0), wr .u8 (((x1).getD 9 0) / 256), wr .u8 ((x1).getD 10 0), wr .u8 (((x1).getD 10 0) / 256), wr .u8 ((x1).getD 11 0), wr .u8 (((x1).getD 11 0) / 256), wr .u8 ((x1).getD 12 0), wr .u8 (((x1).getD 12 0) / 256), wr .u8 ((x1).getD 13 0), wr .u8 (((x1).getD 13 0) / 256), wr .u8 ((x1).getD 14 0), wr .u8 (((x1).getD 14 0) / 256), wr .u8 ((x1).getD 15 0), wr .u8 (((x1).getD 15 0) / 256)])]) else none
theorem l43 : LamOk Try.prog (lamOf []) (codeOf Try.f43) := lamOk_nil
def G43 : GFn := ⟨[.arr .u64 16], .arr .u8 32, apH [.l] raw43⟩
theorem ok43 : EntryOk Try.prog 43 (.pure G43.sem) := gfn_pure (u := 70) envOk43 mix Try.func43 (by kernel_rfl) (by kernel_rfl) l43 G43 (by kernel_rfl) (by kernel_rfl) [.l] rfl (fun a0 => by show _ = _; kernel_rfl)
theorem at43 (a0 : List Int) : G43.fn [.l a0] = raw43 a0 := (congrFun (show G43.fn = apH [.l] raw43 from rfl) _).trans ((fun F => rfl : ∀ F : List Int → Option (List Hv), apH [.l] F [.l a0] = F a0) raw43)
/-! ### 62: towpath/towpathref1.power (pure) -/
noncomputable def env62 : List (FuncId × Entry) := [(45, .pure C45.sem), (56, .pure C56.sem)]
theorem envOk62 : EnvOk Try.prog (envOf env62) := envOf_ok (all_cons cok45 (all_cons cok56 (all_nil)))
def h62_0 : Tpl := ⟨[none, none, none, some (.ptr 0 []), none, none, some (.ptr 1 []), some (.int .u64), some (.ptr 2 []), some (.int .i64), none, none, none, none, none, none, none, none, none, none, none, none, none, none, none, none, none, none, none, none, none, none, none, none, none], [some (.arr .u64 16), some (.arr .u64 16), some (.arr .u64 16)], 3⟩
def e62_0 : Tpl := ⟨[none, none, none, none, none, none, some (.ptr 1 []), none, some (.ptr 2 []), none, none, none, none, none, none, none, none, none, none, none, none, none, none, none, none, none, none, none, none, none, none, none, none, none, none], [none, some (.arr .u64 16), some (.arr .u64 16)], 3⟩
def t62_0 (z0 : Int) (z1 : Int) (z2 : List Int) (z3 : List Int) (z4 : List Int) : Option (Sum (List Hv) (Bool × List Hv)) := bif decide ((z1) ≥ (0)) then (bif carried (z4) && carried (z4) then (bif decide ((z1) ≥ (6)) then (let x1 : List Int := dg16 (fo (fo (v16 (convL (z4) (z4))))); bif carried (x1) && carried (z2) then (some (.inl [.i (z0), .i (wr .i64 ((z1) - (1))), .l (z2), .l (z3), .l (dg16 (fo (fo (v16 (convL (x1) (z2))))))])) else none) else (bif decide ((z1) < 0) then none else (bif (andI .u64 ((z0) / (2 ^ (min (z1).toNat 64))) (1)) == (1) then (let x2 : List Int := dg16 (fo (fo (v16 (convL (z4) (z4))))); bif carried (x2) && carried (z2) then (some (.inl [.i (z0), .i (wr .i64 ((z1) - (1))), .l (z2), .l (z3), .l (dg16 (fo (fo (v16 (convL (x2) (z2))))))])) else none) else (let x3 : List Int := dg16 (fo (fo (v16 (convL (z4) (z4))))); some (.inl [.i (z0), .i (wr .i64 ((z1) - (1))), .l (z2), .l (z3), .l (x3)]))))) else none) else (some (.inr (false, [.l (z3), .l (z4)])))
def g62_0 : StepG := apH [.i, .i, .l, .l, .l] t62_0
theorem g62_0_at (z0 : Int) (z1 : Int) (z2 : List Int) (z3 : List Int) (z4 : List Int) : g62_0 [.i z0, .i z1, .l z2, .l z3, .l z4] = t62_0 z0 z1 z2 z3 z4 := (congrFun (show g62_0 = apH [.i, .i, .l, .l, .l] t62_0 from rfl) _).trans ((fun F => rfl : ∀ F : Int → Int → List Int → List Int → List Int → Option (Sum (List Hv) (Bool × List Hv)), apH [.i, .i, .l, .l, .l] F [.i z0, .i z1, .l z2, .l z3, .l z4] = F z0 z1 z2 z3 z4) t62_0)
theorem l62_0 : LamOk Try.prog (lamOf []) (codeOf Try.f62) := lamOk_nil
theorem b62_0 : BlkSound Try.prog 0 (blkOf (codeOf Try.f62) 0) (loopE h62_0 e62_0 g62_0) := loopE_at (u := 70) envOk62 mix 0 (by kernel_rfl) l62_0 (ks := [.i, .i, .l, .l, .l]) (t := t62_0) (fun _ => rfl) (fun _ => rfl) (fun z0 z1 z2 z3 z4 => by show _ = _; kernel_rfl)
def raw62 (a0 : List Int) (a1 : Int) (a2 : Int) : Option (List Hv) := (loopN g62_0 bigN [.i (wr .u64 ((64) - (a2))), .i (wr .i64 ((a1) - (1))), .l (a0), .l (List.replicate 16 0), .l (dg16 (1))]).bind fun r1 => bif r1.1 then none else (some [.l (hl r1.2 1)])
theorem l62 : LamOk Try.prog (lamOf [(0, loopE h62_0 e62_0 g62_0)]) (codeOf Try.f62) := lamOk_of (by kernel_rfl) (blk_cons b62_0 (blk_nil))
def G62 : GFn := ⟨[.arr .u64 16, .int .i64, .int .u64], .arr .u64 16, apH [.l, .i, .i] raw62⟩
theorem ok62 : EntryOk Try.prog 62 (.pure G62.sem) := gfn_pure (u := 70) envOk62 mix Try.func62 (by kernel_rfl) (by kernel_rfl) l62 G62 (by kernel_rfl) (by kernel_rfl) [.l, .i, .i] rfl (fun a0 a1 a2 => by show _ = _; kernel_rfl)
theorem at62 (a0 : List Int) (a1 : Int) (a2 : Int) : G62.fn [.l a0, .i a1, .i a2] = raw62 a0 a1 a2 := (congrFun (show G62.fn = apH [.l, .i, .i] raw62 from rfl) _).trans ((fun F => rfl : ∀ F : List Int → Int → Int → Option (List Hv), apH [.l, .i, .i] F [.l a0, .i a1, .i a2] = F a0 a1 a2) raw62)
end Go.Proofs.Ytnpobkdmflkkpaa.Fld
set_option linter.unusedVariables false
set_option maxRecDepth 100000
namespace Go.Proofs.Ytnpobkdmflkkpaa.Fld
open Go Go.Sim Go.Fld

theorem bytes16 {a0 a1 a2 a3 a4 a5 a6 a7 a8 a9 a10 a11 a12 a13 a14 a15 : Int} (h0 : 0 ≤ a0 ∧ a0 < 65536) (h1 : 0 ≤ a1 ∧ a1 < 65536) (h2 : 0 ≤ a2 ∧ a2 < 65536) (h3 : 0 ≤ a3 ∧ a3 < 65536) (h4 : 0 ≤ a4 ∧ a4 < 65536) (h5 : 0 ≤ a5 ∧ a5 < 65536) (h6 : 0 ≤ a6 ∧ a6 < 65536) (h7 : 0 ≤ a7 ∧ a7 < 65536) (h8 : 0 ≤ a8 ∧ a8 < 65536) (h9 : 0 ≤ a9 ∧ a9 < 65536) (h10 : 0 ≤ a10 ∧ a10 < 65536) (h11 : 0 ≤ a11 ∧ a11 < 65536) (h12 : 0 ≤ a12 ∧ a12 < 65536) (h13 : 0 ≤ a13 ∧ a13 < 65536) (h14 : 0 ≤ a14 ∧ a14 < 65536) (h15 : 0 ≤ a15 ∧ a15 < 65536) : [wr .u8 a0, wr .u8 (a0 / 256), wr .u8 a1, wr .u8 (a1 / 256), wr .u8 a2, wr .u8 (a2 / 256), wr .u8 a3, wr .u8 (a3 / 256), wr .u8 a4, wr .u8 (a4 / 256), wr .u8 a5, wr .u8 (a5 / 256), wr .u8 a6, wr .u8 (a6 / 256), wr .u8 a7, wr .u8 (a7 / 256), wr .u8 a8, wr .u8 (a8 / 256), wr .u8 a9, wr .u8 (a9 / 256), wr .u8 a10, wr .u8 (a10 / 256), wr .u8 a11, wr .u8 (a11 / 256), wr .u8 a12, wr .u8 (a12 / 256), wr .u8 a13, wr .u8 (a13 / 256), wr .u8 a14, wr .u8 (a14 / 256), wr .u8 a15, wr .u8 (a15 / 256)] = dg32 (v16 [a0, a1, a2, a3, a4, a5, a6, a7, a8, a9, a10, a11, a12, a13, a14, a15]) := by
  have e : ∀ {x : Int}, 0 ≤ x ∧ x < 65536 → wr .u8 (x / 256) = x / 256 := fun h => by simp only [wr]; omega
  have f : ∀ {x : Int}, wr .u8 x = x % 256 := fun {x} => by simp only [wr]
  rw [e h0, e h1, e h2, e h3, e h4, e h5, e h6, e h7, e h8, e h9, e h10, e h11, e h12, e h13, e h14, e h15]
  simp only [f]
  refine (digs_eq (b := 256) (by decide) rfl ?_ ?_).symm
  · intro y hy
    simp only [List.mem_cons, List.not_mem_nil, or_false] at hy
    rcases hy with rfl | rfl | rfl | rfl | rfl | rfl | rfl | rfl | rfl | rfl | rfl | rfl | rfl | rfl | rfl | rfl | rfl | rfl | rfl | rfl | rfl | rfl | rfl | rfl | rfl | rfl | rfl | rfl | rfl | rfl | rfl | rfl <;> omega
  · simp only [valD, v16]
    omega

def C43 : CFn := ⟨[.arr .u64 16], .arr .u8 32, fun hs => (hl hs 0).all fun y => decide (y < 144115188075855872), fun hs => [.l (dg32 (v16 (hl hs 0) % p))]⟩
theorem cok43 : EntryOk Try.prog 43 (.pure C43.sem) := cfn_at rfl rfl rfl ok43 (fun x hx rx hg => by
  have hg : (x.all fun y => decide (y < 144115188075855872)) = true := hg
  refine (at43 x).trans ?_
  show raw43 x = some [.l (dg32 (v16 x % p))]
  unfold raw43
  rw [hg, cond_true]
  dsimp only
  have h0 : 0 ≤ v16 x % p := Int.emod_nonneg _ (by decide)
  have h1 : v16 x % p < p := Int.emod_lt_of_pos _ (by decide)
  generalize v16 x % p = u at *
  have hv : v16 (dg16 u) = u := v16_in h0 (by simp only [p, Q] at *; omega)
  have hl : (dg16 u).length = 16 := digs_len _ _ _
  have hr := digs_range (b := 65536) (by decide) 16 u
  change ∀ y ∈ dg16 u, _ at hr
  generalize dg16 u = l at *
  obtain ⟨a0, a1, a2, a3, a4, a5, a6, a7, a8, a9, a10, a11, a12, a13, a14, a15, rfl⟩ := len16 hl
  simp only [List.getD_cons_zero, List.getD_cons_succ]
  rw [← hv, bytes16 (hr a0 (by simp)) (hr a1 (by simp)) (hr a2 (by simp)) (hr a3 (by simp)) (hr a4 (by simp)) (hr a5 (by simp)) (hr a6 (by simp)) (hr a7 (by simp)) (hr a8 (by simp)) (hr a9 (by simp)) (hr a10 (by simp)) (hr a11 (by simp)) (hr a12 (by simp)) (hr a13 (by simp)) (hr a14 (by simp)) (hr a15 (by simp))])

theorem convL_in {a b : List Int} (ha : a.length = 16) (hb : b.length = 16) (ra : ∀ y ∈ a, 0 ≤ y ∧ y < 65536) (rb : ∀ y ∈ b, 0 ≤ y ∧ y < 65536) :
    (convL a b).length = 16 ∧ ∀ y ∈ convL a b, 0 ≤ y ∧ y < 144115188075855872 := by
  obtain ⟨a0, a1, a2, a3, a4, a5, a6, a7, a8, a9, a10, a11, a12, a13, a14, a15, rfl⟩ := len16 ha
  obtain ⟨b0, b1, b2, b3, b4, b5, b6, b7, b8, b9, b10, b11, b12, b13, b14, b15, rfl⟩ := len16 hb
  rw [convL_at]
  exact ⟨rfl, mem16 (ent0 (prod_in (ra a0 (by simp)) (rb b0 (by simp))) (prod_in (ra a1 (by simp)) (rb b15 (by simp))) (prod_in (ra a2 (by simp)) (rb b14 (by simp))) (prod_in (ra a3 (by simp)) (rb b13 (by simp))) (prod_in (ra a4 (by simp)) (rb b12 (by simp))) (prod_in (ra a5 (by simp)) (rb b11 (by simp))) (prod_in (ra a6 (by simp)) (rb b10 (by simp))) (prod_in (ra a7 (by simp)) (rb b9 (by simp))) (prod_in (ra a8 (by simp)) (rb b8 (by simp))) (prod_in (ra a9 (by simp)) (rb b7 (by simp))) (prod_in (ra a10 (by simp)) (rb b6 (by simp))) (prod_in (ra a11 (by simp)) (rb b5 (by simp))) (prod_in (ra a12 (by simp)) (rb b4 (by simp))) (prod_in (ra a13 (by simp)) (rb b3 (by simp))) (prod_in (ra a14 (by simp)) (rb b2 (by simp))) (prod_in (ra a15 (by simp)) (rb b1 (by simp)))).2 (ent1 (prod_in (ra a0 (by simp)) (rb b1 (by simp))) (prod_in (ra a1 (by simp)) (rb b0 (by simp))) (prod_in (ra a2 (by simp)) (rb b15 (by simp))) (prod_in (ra a3 (by simp)) (rb b14 (by simp))) (prod_in (ra a4 (by simp)) (rb b13 (by simp))) (prod_in (ra a5 (by simp)) (rb b12 (by simp))) (prod_in (ra a6 (by simp)) (rb b11 (by simp))) (prod_in (ra a7 (by simp)) (rb b10 (by simp))) (prod_in (ra a8 (by simp)) (rb b9 (by simp))) (prod_in (ra a9 (by simp)) (rb b8 (by simp))) (prod_in (ra a10 (by simp)) (rb b7 (by simp))) (prod_in (ra a11 (by simp)) (rb b6 (by simp))) (prod_in (ra a12 (by simp)) (rb b5 (by simp))) (prod_in (ra a13 (by simp)) (rb b4 (by simp))) (prod_in (ra a14 (by simp)) (rb b3 (by simp))) (prod_in (ra a15 (by simp)) (rb b2 (by simp)))).2 (ent2 (prod_in (ra a0 (by simp)) (rb b2 (by simp))) (prod_in (ra a1 (by simp)) (rb b1 (by simp))) (prod_in (ra a2 (by simp)) (rb b0 (by simp))) (prod_in (ra a3 (by simp)) (rb b15 (by simp))) (prod_in (ra a4 (by simp)) (rb b14 (by simp))) (prod_in (ra a5 (by simp)) (rb b13 (by simp))) (prod_in (ra a6 (by simp)) (rb b12 (by simp))) (prod_in (ra a7 (by simp)) (rb b11 (by simp))) (prod_in (ra a8 (by simp)) (rb b10 (by simp))) (prod_in (ra a9 (by simp)) (rb b9 (by simp))) (prod_in (ra a10 (by simp)) (rb b8 (by simp))) (prod_in (ra a11 (by simp)) (rb b7 (by simp))) (prod_in (ra a12 (by simp)) (rb b6 (by simp))) (prod_in (ra a13 (by simp)) (rb b5 (by simp))) (prod_in (ra a14 (by simp)) (rb b4 (by simp))) (prod_in (ra a15 (by simp)) (rb b3 (by simp)))).2 (ent3 (prod_in (ra a0 (by simp)) (rb b3 (by simp))) (prod_in (ra a1 (by simp)) (rb b2 (by simp))) (prod_in (ra a2 (by simp)) (rb b1 (by simp))) (prod_in (ra a3 (by simp)) (rb b0 (by simp))) (prod_in (ra a4 (by simp)) (rb b15 (by simp))) (prod_in (ra a5 (by simp)) (rb b14 (by simp))) (prod_in (ra a6 (by simp)) (rb b13 (by simp))) (prod_in (ra a7 (by simp)) (rb b12 (by simp))) (prod_in (ra a8 (by simp)) (rb b11 (by simp))) (prod_in (ra a9 (by simp)) (rb b10 (by simp))) (prod_in (ra a10 (by simp)) (rb b9 (by simp))) (prod_in (ra a11 (by simp)) (rb b8 (by simp))) (prod_in (ra a12 (by simp)) (rb b7 (by simp))) (prod_in (ra a13 (by simp)) (rb b6 (by simp))) (prod_in (ra a14 (by simp)) (rb b5 (by simp))) (prod_in (ra a15 (by simp)) (rb b4 (by simp)))).2 (ent4 (prod_in (ra a0 (by simp)) (rb b4 (by simp))) (prod_in (ra a1 (by simp)) (rb b3 (by simp))) (prod_in (ra a2 (by simp)) (rb b2 (by simp))) (prod_in (ra a3 (by simp)) (rb b1 (by simp))) (prod_in (ra a4 (by simp)) (rb b0 (by simp))) (prod_in (ra a5 (by simp)) (rb b15 (by simp))) (prod_in (ra a6 (by simp)) (rb b14 (by simp))) (prod_in (ra a7 (by simp)) (rb b13 (by simp))) (prod_in (ra a8 (by simp)) (rb b12 (by simp))) (prod_in (ra a9 (by simp)) (rb b11 (by simp))) (prod_in (ra a10 (by simp)) (rb b10 (by simp))) (prod_in (ra a11 (by simp)) (rb b9 (by simp))) (prod_in (ra a12 (by simp)) (rb b8 (by simp))) (prod_in (ra a13 (by simp)) (rb b7 (by simp))) (prod_in (ra a14 (by simp)) (rb b6 (by simp))) (prod_in (ra a15 (by simp)) (rb b5 (by simp)))).2 (ent5 (prod_in (ra a0 (by simp)) (rb b5 (by simp))) (prod_in (ra a1 (by simp)) (rb b4 (by simp))) (prod_in (ra a2 (by simp)) (rb b3 (by simp))) (prod_in (ra a3 (by simp)) (rb b2 (by simp))) (prod_in (ra a4 (by simp)) (rb b1 (by simp))) (prod_in (ra a5 (by simp)) (rb b0 (by simp))) (prod_in (ra a6 (by simp)) (rb b15 (by simp))) (prod_in (ra a7 (by simp)) (rb b14 (by simp))) (prod_in (ra a8 (by simp)) (rb b13 (by simp))) (prod_in (ra a9 (by simp)) (rb b12 (by simp))) (prod_in (ra a10 (by simp)) (rb b11 (by simp))) (prod_in (ra a11 (by simp)) (rb b10 (by simp))) (prod_in (ra a12 (by simp)) (rb b9 (by simp))) (prod_in (ra a13 (by simp)) (rb b8 (by simp))) (prod_in (ra a14 (by simp)) (rb b7 (by simp))) (prod_in (ra a15 (by simp)) (rb b6 (by simp)))).2 (ent6 (prod_in (ra a0 (by simp)) (rb b6 (by simp))) (prod_in (ra a1 (by simp)) (rb b5 (by simp))) (prod_in (ra a2 (by simp)) (rb b4 (by simp))) (prod_in (ra a3 (by simp)) (rb b3 (by simp))) (prod_in (ra a4 (by simp)) (rb b2 (by simp))) (prod_in (ra a5 (by simp)) (rb b1 (by simp))) (prod_in (ra a6 (by simp)) (rb b0 (by simp))) (prod_in (ra a7 (by simp)) (rb b15 (by simp))) (prod_in (ra a8 (by simp)) (rb b14 (by simp))) (prod_in (ra a9 (by simp)) (rb b13 (by simp))) (prod_in (ra a10 (by simp)) (rb b12 (by simp))) (prod_in (ra a11 (by simp)) (rb b11 (by simp))) (prod_in (ra a12 (by simp)) (rb b10 (by simp))) (prod_in (ra a13 (by simp)) (rb b9 (by simp))) (prod_in (ra a14 (by simp)) (rb b8 (by simp))) (prod_in (ra a15 (by simp)) (rb b7 (by simp)))).2 (ent7 (prod_in (ra a0 (by simp)) (rb b7 (by simp))) (prod_in (ra a1 (by simp)) (rb b6 (by simp))) (prod_in (ra a2 (by simp)) (rb b5 (by simp))) (prod_in (ra a3 (by simp)) (rb b4 (by simp))) (prod_in (ra a4 (by simp)) (rb b3 (by simp))) (prod_in (ra a5 (by simp)) (rb b2 (by simp))) (prod_in (ra a6 (by simp)) (rb b1 (by simp))) (prod_in (ra a7 (by simp)) (rb b0 (by simp))) (prod_in (ra a8 (by simp)) (rb b15 (by simp))) (prod_in (ra a9 (by simp)) (rb b14 (by simp))) (prod_in (ra a10 (by simp)) (rb b13 (by simp))) (prod_in (ra a11 (by simp)) (rb b12 (by simp))) (prod_in (ra a12 (by simp)) (rb b11 (by simp))) (prod_in (ra a13 (by simp)) (rb b10 (by simp))) (prod_in (ra a14 (by simp)) (rb b9 (by simp))) (prod_in (ra a15 (by simp)) (rb b8 (by simp)))).2 (ent8 (prod_in (ra a0 (by simp)) (rb b8 (by simp))) (prod_in (ra a1 (by simp)) (rb b7 (by simp))) (prod_in (ra a2 (by simp)) (rb b6 (by simp))) (prod_in (ra a3 (by simp)) (rb b5 (by simp))) (prod_in (ra a4 (by simp)) (rb b4 (by simp))) (prod_in (ra a5 (by simp)) (rb b3 (by simp))) (prod_in (ra a6 (by simp)) (rb b2 (by simp))) (prod_in (ra a7 (by simp)) (rb b1 (by simp))) (prod_in (ra a8 (by simp)) (rb b0 (by simp))) (prod_in (ra a9 (by simp)) (rb b15 (by simp))) (prod_in (ra a10 (by simp)) (rb b14 (by simp))) (prod_in (ra a11 (by simp)) (rb b13 (by simp))) (prod_in (ra a12 (by simp)) (rb b12 (by simp))) (prod_in (ra a13 (by simp)) (rb b11 (by simp))) (prod_in (ra a14 (by simp)) (rb b10 (by simp))) (prod_in (ra a15 (by simp)) (rb b9 (by simp)))).2 (ent9 (prod_in (ra a0 (by simp)) (rb b9 (by simp))) (prod_in (ra a1 (by simp)) (rb b8 (by simp))) (prod_in (ra a2 (by simp)) (rb b7 (by simp))) (prod_in (ra a3 (by simp)) (rb b6 (by simp))) (prod_in (ra a4 (by simp)) (rb b5 (by simp))) (prod_in (ra a5 (by simp)) (rb b4 (by simp))) (prod_in (ra a6 (by simp)) (rb b3 (by simp))) (prod_in (ra a7 (by simp)) (rb b2 (by simp))) (prod_in (ra a8 (by simp)) (rb b1 (by simp))) (prod_in (ra a9 (by simp)) (rb b0 (by simp))) (prod_in (ra a10 (by simp)) (rb b15 (by simp))) (prod_in (ra a11 (by simp)) (rb b14 (by simp))) (prod_in (ra a12 (by simp)) (rb b13 (by simp))) (prod_in (ra a13 (by simp)) (rb b12 (by simp))) (prod_in (ra a14 (by simp)) (rb b11 (by simp))) (prod_in (ra a15 (by simp)) (rb b10 (by simp)))).2 (ent10 (prod_in (ra a0 (by simp)) (rb b10 (by simp))) (prod_in (ra a1 (by simp)) (rb b9 (by simp))) (prod_in (ra a2 (by simp)) (rb b8 (by simp))) (prod_in (ra a3 (by simp)) (rb b7 (by simp))) (prod_in (ra a4 (by simp)) (rb b6 (by simp))) (prod_in (ra a5 (by simp)) (rb b5 (by simp))) (prod_in (ra a6 (by simp)) (rb b4 (by simp))) (prod_in (ra a7 (by simp)) (rb b3 (by simp))) (prod_in (ra a8 (by simp)) (rb b2 (by simp))) (prod_in (ra a9 (by simp)) (rb b1 (by simp))) (prod_in (ra a10 (by simp)) (rb b0 (by simp))) (prod_in (ra a11 (by simp)) (rb b15 (by simp))) (prod_in (ra a12 (by simp)) (rb b14 (by simp))) (prod_in (ra a13 (by simp)) (rb b13 (by simp))) (prod_in (ra a14 (by simp)) (rb b12 (by simp))) (prod_in (ra a15 (by simp)) (rb b11 (by simp)))).2 (ent11 (prod_in (ra a0 (by simp)) (rb b11 (by simp))) (prod_in (ra a1 (by simp)) (rb b10 (by simp))) (prod_in (ra a2 (by simp)) (rb b9 (by simp))) (prod_in (ra a3 (by simp)) (rb b8 (by simp))) (prod_in (ra a4 (by simp)) (rb b7 (by simp))) (prod_in (ra a5 (by simp)) (rb b6 (by simp))) (prod_in (ra a6 (by simp)) (rb b5 (by simp))) (prod_in (ra a7 (by simp)) (rb b4 (by simp))) (prod_in (ra a8 (by simp)) (rb b3 (by simp))) (prod_in (ra a9 (by simp)) (rb b2 (by simp))) (prod_in (ra a10 (by simp)) (rb b1 (by simp))) (prod_in (ra a11 (by simp)) (rb b0 (by simp))) (prod_in (ra a12 (by simp)) (rb b15 (by simp))) (prod_in (ra a13 (by simp)) (rb b14 (by simp))) (prod_in (ra a14 (by simp)) (rb b13 (by simp))) (prod_in (ra a15 (by simp)) (rb b12 (by simp)))).2 (ent12 (prod_in (ra a0 (by simp)) (rb b12 (by simp))) (prod_in (ra a1 (by simp)) (rb b11 (by simp))) (prod_in (ra a2 (by simp)) (rb b10 (by simp))) (prod_in (ra a3 (by simp)) (rb b9 (by simp))) (prod_in (ra a4 (by simp)) (rb b8 (by simp))) (prod_in (ra a5 (by simp)) (rb b7 (by simp))) (prod_in (ra a6 (by simp)) (rb b6 (by simp))) (prod_in (ra a7 (by simp)) (rb b5 (by simp))) (prod_in (ra a8 (by simp)) (rb b4 (by simp))) (prod_in (ra a9 (by simp)) (rb b3 (by simp))) (prod_in (ra a10 (by simp)) (rb b2 (by simp))) (prod_in (ra a11 (by simp)) (rb b1 (by simp))) (prod_in (ra a12 (by simp)) (rb b0 (by simp))) (prod_in (ra a13 (by simp)) (rb b15 (by simp))) (prod_in (ra a14 (by simp)) (rb b14 (by simp))) (prod_in (ra a15 (by simp)) (rb b13 (by simp)))).2 (ent13 (prod_in (ra a0 (by simp)) (rb b13 (by simp))) (prod_in (ra a1 (by simp)) (rb b12 (by simp))) (prod_in (ra a2 (by simp)) (rb b11 (by simp))) (prod_in (ra a3 (by simp)) (rb b10 (by simp))) (prod_in (ra a4 (by simp)) (rb b9 (by simp))) (prod_in (ra a5 (by simp)) (rb b8 (by simp))) (prod_in (ra a6 (by simp)) (rb b7 (by simp))) (prod_in (ra a7 (by simp)) (rb b6 (by simp))) (prod_in (ra a8 (by simp)) (rb b5 (by simp))) (prod_in (ra a9 (by simp)) (rb b4 (by simp))) (prod_in (ra a10 (by simp)) (rb b3 (by simp))) (prod_in (ra a11 (by simp)) (rb b2 (by simp))) (prod_in (ra a12 (by simp)) (rb b1 (by simp))) (prod_in (ra a13 (by simp)) (rb b0 (by simp))) (prod_in (ra a14 (by simp)) (rb b15 (by simp))) (prod_in (ra a15 (by simp)) (rb b14 (by simp)))).2 (ent14 (prod_in (ra a0 (by simp)) (rb b14 (by simp))) (prod_in (ra a1 (by simp)) (rb b13 (by simp))) (prod_in (ra a2 (by simp)) (rb b12 (by simp))) (prod_in (ra a3 (by simp)) (rb b11 (by simp))) (prod_in (ra a4 (by simp)) (rb b10 (by simp))) (prod_in (ra a5 (by simp)) (rb b9 (by simp))) (prod_in (ra a6 (by simp)) (rb b8 (by simp))) (prod_in (ra a7 (by simp)) (rb b7 (by simp))) (prod_in (ra a8 (by simp)) (rb b6 (by simp))) (prod_in (ra a9 (by simp)) (rb b5 (by simp))) (prod_in (ra a10 (by simp)) (rb b4 (by simp))) (prod_in (ra a11 (by simp)) (rb b3 (by simp))) (prod_in (ra a12 (by simp)) (rb b2 (by simp))) (prod_in (ra a13 (by simp)) (rb b1 (by simp))) (prod_in (ra a14 (by simp)) (rb b0 (by simp))) (prod_in (ra a15 (by simp)) (rb b15 (by simp)))).2 (ent15 (prod_in (ra a0 (by simp)) (rb b15 (by simp))) (prod_in (ra a1 (by simp)) (rb b14 (by simp))) (prod_in (ra a2 (by simp)) (rb b13 (by simp))) (prod_in (ra a3 (by simp)) (rb b12 (by simp))) (prod_in (ra a4 (by simp)) (rb b11 (by simp))) (prod_in (ra a5 (by simp)) (rb b10 (by simp))) (prod_in (ra a6 (by simp)) (rb b9 (by simp))) (prod_in (ra a7 (by simp)) (rb b8 (by simp))) (prod_in (ra a8 (by simp)) (rb b7 (by simp))) (prod_in (ra a9 (by simp)) (rb b6 (by simp))) (prod_in (ra a10 (by simp)) (rb b5 (by simp))) (prod_in (ra a11 (by simp)) (rb b4 (by simp))) (prod_in (ra a12 (by simp)) (rb b3 (by simp))) (prod_in (ra a13 (by simp)) (rb b2 (by simp))) (prod_in (ra a14 (by simp)) (rb b1 (by simp))) (prod_in (ra a15 (by simp)) (rb b0 (by simp)))).2⟩

theorem dg16_r (v : Int) : ∀ y ∈ dg16 v, 0 ≤ y ∧ y < 65536 := digs_range (b := 65536) (by decide) 16 v
theorem dg16_l (v : Int) : (dg16 v).length = 16 := digs_len _ _ _

/-- the other reckoning's product, of numbers -/
def rm (x y : Int) : Int := fo (fo (v16 (convL (dg16 x) (dg16 y))))
theorem rm_in (x y : Int) : 0 ≤ rm x y ∧ rm x y < Q := by
  have := convL_in (dg16_l x) (dg16_l y) (dg16_r x) (dg16_r y)
  exact fofo_in this.1 this.2
theorem rm_mod {x y : Int} (hx : 0 ≤ x ∧ x < Q) (hy : 0 ≤ y ∧ y < Q) : rm x y % p = x * y % p := by
  unfold rm
  rw [fo_mod, fo_mod, v16_convL (dg16_l x) (dg16_l y), v16_in hx.1 hx.2, v16_in hy.1 hy.2]

/-- is the bit of a power's number set? -/
def rbit (low : Int) (i : Nat) : Bool := decide (6 ≤ i) || decide (low / 2 ^ i % 2 = 1)
/-- the other reckoning's power -/
def rpow (low a : Int) : Nat → Int → Int
  | 0, x => x
  | n + 1, x => rpow low a n (bif rbit low n then rm (rm x x) a else rm x x)
theorem rpow_in (low a : Int) : ∀ (n : Nat) (x : Int), 0 ≤ x ∧ x < Q → 0 ≤ rpow low a n x ∧ rpow low a n x < Q
  | 0, x, h => h
  | n + 1, x, h => by
    simp only [rpow]
    apply rpow_in
    cases rbit low n
    · exact rm_in _ _
    · exact rm_in _ _
/-- the number of the power -/
def rexp (low : Int) : Nat → Nat
  | 0 => 0
  | n + 1 => (if rbit low n then 2 ^ n else 0) + rexp low n
theorem pow_cong {m u w : Int} (h : u % m = w % m) (k : Nat) (z : Int) : u ^ k * z % m = w ^ k * z % m := by
  rw [Int.mul_emod, ← pow_emod, h, pow_emod, ← Int.mul_emod]
theorem rpow_mod {low a : Int} (ha : 0 ≤ a ∧ a < Q) : ∀ (n : Nat) (x : Int), 0 ≤ x ∧ x < Q → rpow low a n x % p = x ^ (2 ^ n) * a ^ (rexp low n) % p
  | 0, x, _ => by simp [rpow, rexp, Int.pow_succ]
  | n + 1, x, hx => by
    have h1 := rm_in x x
    have h2 := rm_in (rm x x) a
    have hsq : rm x x % p = x ^ 2 % p := by rw [rm_mod hx hx, show x * x = x ^ 2 by grind]
    cases hb : rbit low n with
    | false =>
      have e : rpow low a (n + 1) x = rpow low a n (rm x x) := by simp only [rpow, hb, cond_false]
      have e' : rexp low (n + 1) = rexp low n := by simp [rexp, hb]
      rw [e, e', rpow_mod ha n _ h1, pow_cong hsq, ← Int.pow_mul, ← Nat.pow_succ']
    | true =>
      have e : rpow low a (n + 1) x = rpow low a n (rm (rm x x) a) := by simp only [rpow, hb, cond_true]
      have e' : rexp low (n + 1) = 2 ^ n + rexp low n := by simp [rexp, hb]
      have key : rm (rm x x) a % p = x ^ 2 * a % p := by rw [rm_mod h1 ha, Int.mul_emod, hsq, ← Int.mul_emod]
      have e3 : (x ^ 2 * a) ^ 2 ^ n * a ^ rexp low n = x ^ 2 ^ (n + 1) * a ^ (2 ^ n + rexp low n) := by
        rw [Int.mul_pow, ← Int.pow_mul, Int.pow_add, ← Nat.pow_succ', Int.mul_assoc]
      rw [e, e', rpow_mod ha n _ h2, pow_cong key, e3]
theorem rpow_one {low a : Int} (ha : 0 ≤ a ∧ a < Q) (n : Nat) : rpow low a n 1 % p = a ^ rexp low n % p := by
  rw [rpow_mod ha n 1 (by decide), Int.one_pow, Int.one_mul]

theorem bit_low {z : Int} (hz : 0 ≤ z) (hz' : z < 18446744073709551616) (i : Nat) (hi : i < 6) : ((andI .u64 (z / (2 ^ (min i 64))) 1) == 1) = decide (z / 2 ^ i % 2 = 1) := by
  rw [Nat.min_eq_left (by omega)]
  have h0 : 0 ≤ z / 2 ^ i := Int.ediv_nonneg hz (Int.le_of_lt (Int.pow_pos (by decide)))
  have h1 : z / 2 ^ i < 18446744073709551616 := Int.lt_of_le_of_lt (Int.ediv_le_self _ hz) hz'
  rw [show andI .u64 (z / 2 ^ i) 1 = z / 2 ^ i % 2 from andI_mod 1 (M := 2) (x := z / 2 ^ i) rfl (by omega) h0 h1]
  by_cases h : z / 2 ^ i % 2 = 1 <;> simp [h]

theorem step62 (low : Int) (h0 : 0 ≤ low) (h1 : low < 18446744073709551616) (a x : Int) (ha : 0 ≤ a ∧ a < Q) (hx : 0 ≤ x ∧ x < Q) (t : List Int) (i : Nat) (hi : i < 1000) :
    g62_0 [.i low, .i i, .l (dg16 a), .l t, .l (dg16 x)] = some (.inl [.i low, .i ((i : Int) - 1), .l (dg16 a), .l t, .l (dg16 (bif rbit low i then rm (rm x x) a else rm x x))]) := by
  rw [g62_0_at]
  unfold t62_0
  have hc : ∀ v, carried (dg16 v) = true := carried_dg16
  rw [decide_eq_true (show (i : Int) ≥ 0 by omega), cond_true, hc, Bool.and_self, cond_true]
  have e1 : dg16 (fo (fo (v16 (convL (dg16 x) (dg16 x))))) = dg16 (rm x x) := rfl
  dsimp only
  rw [e1]
  rw [hc, hc, Bool.and_self, cond_true, wr_i64 (n := (i : Int) - 1) (by omega) (by omega)]
  have e2 : dg16 (fo (fo (v16 (convL (dg16 (rm x x)) (dg16 a))))) = dg16 (rm (rm x x) a) := rfl
  rw [e2]
  by_cases h6 : 6 ≤ i
  · rw [decide_eq_true (show (i : Int) ≥ 6 by omega), cond_true]
    rw [show rbit low i = true by simp [rbit, h6], cond_true]
  · rw [decide_eq_false (show ¬ (i : Int) ≥ 6 by omega), cond_false, decide_eq_false (show ¬ (i : Int) < 0 by omega), cond_false, Int.toNat_natCast, bit_low h0 h1 i (by omega)]
    rw [show rbit low i = decide (low / 2 ^ i % 2 = 1) by simp [rbit, h6]]
    cases decide (low / 2 ^ i % 2 = 1) <;> rfl

theorem loop62 (low : Int) (h0 : 0 ≤ low) (h1 : low < 18446744073709551616) (a : Int) (ha : 0 ≤ a ∧ a < Q) (t : List Int) : ∀ (n : Nat) (hn : n ≤ 1000) (x : Int) (hx : 0 ≤ x ∧ x < Q),
    EndsIn n g62_0 [.i low, .i ((n : Int) - 1), .l (dg16 a), .l t, .l (dg16 x)] (false, [.l t, .l (dg16 (rpow low a n x))])
  | 0, _, x, hx => ends_done (by rw [g62_0_at]; unfold t62_0; rfl)
  | n + 1, hn, x, hx => by
    refine ends_step ?_ (loop62 low h0 h1 a ha t n (by omega) (bif rbit low n then rm (rm x x) a else rm x x) ?_)
    · rw [show ((n + 1 : Nat) : Int) - 1 = n by omega]
      exact step62 low h0 h1 a x ha hx t n (by omega)
    · cases rbit low n
      · exact rm_in _ _
      · exact rm_in _ _

def C62 : CFn := ⟨[.arr .u64 16, .int .i64, .int .u64], .arr .u64 16, fun hs => carried (hl hs 0) && decide (0 ≤ hi hs 1) && decide (hi hs 1 ≤ 1000) && decide (hi hs 2 ≤ 64), fun hs => [.l (dg16 (rpow (64 - hi hs 2) (v16 (hl hs 0)) (hi hs 1).toNat 1))]⟩
theorem cok62 : EntryOk Try.prog 62 (.pure C62.sem) := cfn_at rfl rfl rfl ok62 (fun x hx rx n hn k hk hg => by
  have hg : (carried x && decide (0 ≤ n) && decide (n ≤ 1000) && decide (k ≤ 64)) = true := hg
  simp only [Bool.and_eq_true, decide_eq_true_eq] at hg
  obtain ⟨⟨⟨g1, g2⟩, g3⟩, g4⟩ := hg
  have cx := carried_in rx g1
  have hd := dg16_v16 hx cx
  refine (at62 x n k).trans ?_
  show raw62 x n k = some [.l (dg16 (rpow (64 - k) (v16 x) n.toNat 1))]
  unfold raw62
  obtain ⟨m, rfl⟩ := Int.eq_ofNat_of_zero_le g2
  have hk0 : 0 ≤ k := hk.1
  rw [show wr .u64 (64 - k) = 64 - k by simp only [wr]; omega, wr_i64 (n := (m : Int) - 1) (by omega) (by omega)]
  have := loop62 (64 - k) (by omega) (by omega) (v16 x) ⟨v16_lo cx, v16_hi hx cx⟩ (List.replicate 16 0) m (by omega) 1 (by decide)
  rw [hd] at this
  rw [this.big (by omega)]
  rfl)
end Go.Proofs.Ytnpobkdmflkkpaa.Fld
set_option linter.unusedVariables false
set_option maxRecDepth 100000
namespace Go.Proofs.Ytnpobkdmflkkpaa.Fld
open Go Go.Sim
open Go.Proofs Go.Fld

/-! ### 44: towpath/towpathref1.invert (pure) -/
noncomputable def env44 : List (FuncId × Entry) := [(62, .pure C62.sem)]
theorem envOk44 : EnvOk Try.prog (envOf env44) := envOf_ok (all_cons cok62 (all_nil))
def raw44 (a0 : List Int) : Option (List Hv) := bif C62.guard [.l (a0), .i (255), .i (21)] then (some [.l (dg16 (rpow (64 - (21)) (v16 (a0)) (Int.toNat (255)) 1))]) else none
theorem l44 : LamOk Try.prog (lamOf []) (codeOf Try.f44) := lamOk_nil
def G44 : GFn := ⟨[.arr .u64 16], .arr .u64 16, apH [.l] raw44⟩
theorem ok44 : EntryOk Try.prog 44 (.pure G44.sem) := gfn_pure (u := 70) envOk44 mix Try.func44 (by kernel_rfl) (by kernel_rfl) l44 G44 (by kernel_rfl) (by kernel_rfl) [.l] rfl (fun a0 => by show _ = _; kernel_rfl)
theorem at44 (a0 : List Int) : G44.fn [.l a0] = raw44 a0 := (congrFun (show G44.fn = apH [.l] raw44 from rfl) _).trans ((fun F => rfl : ∀ F : List Int → Option (List Hv), apH [.l] F [.l a0] = F a0) raw44)
/-! ### 41: towpath/towpathref1.zero (pure) -/
noncomputable def env41 : List (FuncId × Entry) := [(43, .pure C43.sem)]
theorem envOk41 : EnvOk Try.prog (envOf env41) := envOf_ok (all_cons cok43 (all_nil))
def raw41 (a0 : List Int) : Option (List Hv) := bif (a0).all fun y => decide (y < 144115188075855872) then (some [.b (arrEq 32 (dg32 (v16 (a0) % p)) (List.replicate 32 0))]) else none
theorem l41 : LamOk Try.prog (lamOf []) (codeOf Try.f41) := lamOk_nil
def G41 : GFn := ⟨[.arr .u64 16], .bool, apH [.l] raw41⟩
theorem ok41 : EntryOk Try.prog 41 (.pure G41.sem) := gfn_pure (u := 70) envOk41 mix Try.func41 (by kernel_rfl) (by kernel_rfl) l41 G41 (by kernel_rfl) (by kernel_rfl) [.l] rfl (fun a0 => by show _ = _; kernel_rfl)
theorem at41 (a0 : List Int) : G41.fn [.l a0] = raw41 a0 := (congrFun (show G41.fn = apH [.l] raw41 from rfl) _).trans ((fun F => rfl : ∀ F : List Int → Option (List Hv), apH [.l] F [.l a0] = F a0) raw41)
/-! ### 69: towpath/towpathref1.same (pure) -/
noncomputable def env69 : List (FuncId × Entry) := [(43, .pure C43.sem)]
theorem envOk69 : EnvOk Try.prog (envOf env69) := envOf_ok (all_cons cok43 (all_nil))
def raw69 (a0 : List Int) (a1 : List Int) : Option (List Hv) := bif (a0).all fun y => decide (y < 144115188075855872) then (bif (a1).all fun y => decide (y < 144115188075855872) then (some [.b (arrEq 32 (dg32 (v16 (a0) % p)) (dg32 (v16 (a1) % p)))]) else none) else none
theorem l69 : LamOk Try.prog (lamOf []) (codeOf Try.f69) := lamOk_nil
def G69 : GFn := ⟨[.arr .u64 16, .arr .u64 16], .bool, apH [.l, .l] raw69⟩
theorem ok69 : EntryOk Try.prog 69 (.pure G69.sem) := gfn_pure (u := 70) envOk69 mix Try.func69 (by kernel_rfl) (by kernel_rfl) l69 G69 (by kernel_rfl) (by kernel_rfl) [.l, .l] rfl (fun a0 a1 => by show _ = _; kernel_rfl)
theorem at69 (a0 : List Int) (a1 : List Int) : G69.fn [.l a0, .l a1] = raw69 a0 a1 := (congrFun (show G69.fn = apH [.l, .l] raw69 from rfl) _).trans ((fun F => rfl : ∀ F : List Int → List Int → Option (List Hv), apH [.l, .l] F [.l a0, .l a1] = F a0 a1) raw69)
/-! ### 18: towpath/towpathref1.Mul (pure) -/
noncomputable def env18 : List (FuncId × Entry) := [(42, .pure C42.sem), (43, .pure C43.sem), (45, .pure C45.sem)]
theorem envOk18 : EnvOk Try.prog (envOf env18) := envOf_ok (all_cons cok42 (all_cons cok43 (all_cons cok45 (all_nil))))
def raw18 (a0 : List Int) (a1 : List Int) : Option (List Hv) := let x1 : List Int := dg16 (v32 (a0)); let x2 : List Int := dg16 (v32 (a1)); bif carried (x1) && carried (x2) then (let x3 : List Int := dg16 (fo (fo (v16 (convL (x1) (x2))))); bif (x3).all fun y => decide (y < 144115188075855872) then (some [.l (dg32 (v16 (x3) % p))]) else none) else none
theorem l18 : LamOk Try.prog (lamOf []) (codeOf Try.f18) := lamOk_nil
def G18 : GFn := ⟨[.arr .u8 32, .arr .u8 32], .arr .u8 32, apH [.l, .l] raw18⟩
theorem ok18 : EntryOk Try.prog 18 (.pure G18.sem) := gfn_pure (u := 70) envOk18 mix Try.func18 (by kernel_rfl) (by kernel_rfl) l18 G18 (by kernel_rfl) (by kernel_rfl) [.l, .l] rfl (fun a0 a1 => by show _ = _; kernel_rfl)
theorem at18 (a0 : List Int) (a1 : List Int) : G18.fn [.l a0, .l a1] = raw18 a0 a1 := (congrFun (show G18.fn = apH [.l, .l] raw18 from rfl) _).trans ((fun F => rfl : ∀ F : List Int → List Int → Option (List Hv), apH [.l, .l] F [.l a0, .l a1] = F a0 a1) raw18)
/-! ### 22: towpath/towpathref1.Add (pure) -/
noncomputable def env22 : List (FuncId × Entry) := [(42, .pure C42.sem), (43, .pure C43.sem), (50, .pure C50.sem)]
theorem envOk22 : EnvOk Try.prog (envOf env22) := envOf_ok (all_cons cok42 (all_cons cok43 (all_cons cok50 (all_nil))))
def raw22 (a0 : List Int) (a1 : List Int) : Option (List Hv) := let x1 : List Int := dg16 (v32 (a0)); let x2 : List Int := dg16 (v32 (a1)); bif carried (x1) && carried (x2) then (let x3 : List Int := dg16 (fo (fo (v16 (x1) + v16 (x2)))); bif (x3).all fun y => decide (y < 144115188075855872) then (some [.l (dg32 (v16 (x3) % p))]) else none) else none
theorem l22 : LamOk Try.prog (lamOf []) (codeOf Try.f22) := lamOk_nil
def G22 : GFn := ⟨[.arr .u8 32, .arr .u8 32], .arr .u8 32, apH [.l, .l] raw22⟩
theorem ok22 : EntryOk Try.prog 22 (.pure G22.sem) := gfn_pure (u := 70) envOk22 mix Try.func22 (by kernel_rfl) (by kernel_rfl) l22 G22 (by kernel_rfl) (by kernel_rfl) [.l, .l] rfl (fun a0 a1 => by show _ = _; kernel_rfl)
theorem at22 (a0 : List Int) (a1 : List Int) : G22.fn [.l a0, .l a1] = raw22 a0 a1 := (congrFun (show G22.fn = apH [.l, .l] raw22 from rfl) _).trans ((fun F => rfl : ∀ F : List Int → List Int → Option (List Hv), apH [.l, .l] F [.l a0, .l a1] = F a0 a1) raw22)
/-! ### 25: towpath/towpathref1.Reduce (pure) -/
noncomputable def env25 : List (FuncId × Entry) := [(42, .pure C42.sem), (43, .pure C43.sem)]
theorem envOk25 : EnvOk Try.prog (envOf env25) := envOf_ok (all_cons cok42 (all_cons cok43 (all_nil)))
def raw25 (a0 : List Int) : Option (List Hv) := let x1 : List Int := dg16 (v32 (a0)); bif (x1).all fun y => decide (y < 144115188075855872) then (some [.l (dg32 (v16 (x1) % p))]) else none
theorem l25 : LamOk Try.prog (lamOf []) (codeOf Try.f25) := lamOk_nil
def G25 : GFn := ⟨[.arr .u8 32], .arr .u8 32, apH [.l] raw25⟩
theorem ok25 : EntryOk Try.prog 25 (.pure G25.sem) := gfn_pure (u := 70) envOk25 mix Try.func25 (by kernel_rfl) (by kernel_rfl) l25 G25 (by kernel_rfl) (by kernel_rfl) [.l] rfl (fun a0 => by show _ = _; kernel_rfl)
theorem at25 (a0 : List Int) : G25.fn [.l a0] = raw25 a0 := (congrFun (show G25.fn = apH [.l] raw25 from rfl) _).trans ((fun F => rfl : ∀ F : List Int → Option (List Hv), apH [.l] F [.l a0] = F a0) raw25)
/-! ### 27: towpath/towpathref1.Sub (pure) -/
noncomputable def env27 : List (FuncId × Entry) := [(42, .pure C42.sem), (43, .pure C43.sem), (52, .pure C52.sem)]
theorem envOk27 : EnvOk Try.prog (envOf env27) := envOf_ok (all_cons cok42 (all_cons cok43 (all_cons cok52 (all_nil))))
def raw27 (a0 : List Int) (a1 : List Int) : Option (List Hv) := let x1 : List Int := dg16 (v32 (a0)); let x2 : List Int := dg16 (v32 (a1)); bif carried (x1) && carried (x2) then (let x3 : List Int := dg16 (fo (fo (v16 (x1) - v16 (x2) + 231584178474632390847141970017375815706539969331281128078915168015826259279796))); bif (x3).all fun y => decide (y < 144115188075855872) then (some [.l (dg32 (v16 (x3) % p))]) else none) else none
theorem l27 : LamOk Try.prog (lamOf []) (codeOf Try.f27) := lamOk_nil
def G27 : GFn := ⟨[.arr .u8 32, .arr .u8 32], .arr .u8 32, apH [.l, .l] raw27⟩
theorem ok27 : EntryOk Try.prog 27 (.pure G27.sem) := gfn_pure (u := 70) envOk27 mix Try.func27 (by kernel_rfl) (by kernel_rfl) l27 G27 (by kernel_rfl) (by kernel_rfl) [.l, .l] rfl (fun a0 a1 => by show _ = _; kernel_rfl)
theorem at27 (a0 : List Int) (a1 : List Int) : G27.fn [.l a0, .l a1] = raw27 a0 a1 := (congrFun (show G27.fn = apH [.l, .l] raw27 from rfl) _).trans ((fun F => rfl : ∀ F : List Int → List Int → Option (List Hv), apH [.l, .l] F [.l a0, .l a1] = F a0 a1) raw27)
/-! ### 70: towpath/towpathref1.half (pure) -/
noncomputable def env70 : List (FuncId × Entry) := [(56, .pure C56.sem), (62, .pure C62.sem)]
theorem envOk70 : EnvOk Try.prog (envOf env70) := envOf_ok (all_cons cok56 (all_cons cok62 (all_nil)))
def raw70  : Option (List Hv) := bif C62.guard [.l (dg16 (2)), .i (253), .i (5)] then (some [.l (dg16 (rpow (64 - (5)) (v16 (dg16 (2))) (Int.toNat (253)) 1))]) else none
theorem l70 : LamOk Try.prog (lamOf []) (codeOf Try.f70) := lamOk_nil
def G70 : GFn := ⟨[], .arr .u64 16, apH [] raw70⟩
theorem ok70 : EntryOk Try.prog 70 (.pure G70.sem) := gfn_pure (u := 70) envOk70 mix Try.func70 (by kernel_rfl) (by kernel_rfl) l70 G70 (by kernel_rfl) (by kernel_rfl) [] rfl (by show _ = _; kernel_rfl)
/-! ### 40: towpath/field.Over (pure) -/
noncomputable def env40 : List (FuncId × Entry) := [(47, .pure C47.sem), (54, .pure C54.sem), (59, .pure C59.sem), (60, .pure C60.sem)]
theorem envOk40 : EnvOk Try.prog (envOf env40) := envOf_ok (all_cons cok47 (all_cons cok54 (all_cons cok59 (all_cons cok60 (all_nil)))))
def raw40 (a0 : List Int) : Option (List Hv) := some [.l (dg4 (powF (v4 (a0)) (v4 (dg4 (v4 (dg4 p) - v4 (dg4 (2))))) 256 1))]
theorem l40 : LamOk Try.prog (lamOf []) (codeOf Try.f40) := lamOk_nil
def G40 : GFn := ⟨[.arr .u64 4], .arr .u64 4, apH [.l] raw40⟩
theorem ok40 : EntryOk Try.prog 40 (.pure G40.sem) := gfn_pure (u := 70) envOk40 mix Try.func40 (by kernel_rfl) (by kernel_rfl) l40 G40 (by kernel_rfl) (by kernel_rfl) [.l] rfl (fun a0 => by show _ = _; kernel_rfl)
theorem at40 (a0 : List Int) : G40.fn [.l a0] = raw40 a0 := (congrFun (show G40.fn = apH [.l] raw40 from rfl) _).trans ((fun F => rfl : ∀ F : List Int → Option (List Hv), apH [.l] F [.l a0] = F a0) raw40)
end Go.Proofs.Ytnpobkdmflkkpaa.Fld
set_option linter.unusedVariables false
set_option maxRecDepth 10000
namespace Go.Proofs.Ytnpobkdmflkkpaa.Fld
open Go Go.Sim Go.Fld

theorem dg32_l (v : Int) : (dg32 v).length = 32 := digs_len _ _ _
theorem modp_in (v : Int) : 0 ≤ v % p ∧ v % p < p := ⟨Int.emod_nonneg _ (by decide), Int.emod_lt_of_pos _ (by decide)⟩
theorem modp_Q (v : Int) : 0 ≤ v % p ∧ v % p < Q := ⟨(modp_in v).1, Int.lt_trans (modp_in v).2 (by decide)⟩
theorem same32 (x y : Int) : arrEq 32 (dg32 (x % p)) (dg32 (y % p)) = decide (x % p = y % p) := by
  rw [arrEq_eq (dg32_l _) (dg32_l _)]
  exact decide_eq_decide.2 (dg32_inj (modp_Q x).1 (modp_Q x).2 (modp_Q y).1 (modp_Q y).2)
theorem zero32 : List.replicate 32 (0 : Int) = dg32 (0 % p) := by decide +kernel
theorem all57_dg16 (v : Int) : ((dg16 v).all fun y => decide (y < 144115188075855872)) = true :=
  all57 fun y hy => by have := dg16_r v y hy; omega
theorem dg16_of {x : List Int} (hl : x.length = 16) (rx : ∀ y ∈ x, inK .u64 y) (h : carried x = true) : ∃ v, x = dg16 v ∧ v16 x = v ∧ 0 ≤ v ∧ v < Q :=
  ⟨v16 x, (dg16_v16 hl (carried_in rx h)).symm, rfl, v16_lo (carried_in rx h), v16_hi hl (carried_in rx h)⟩

def C44 : CFn := ⟨[.arr .u64 16], .arr .u64 16, fun hs => carried (hl hs 0), fun hs => [.l (dg16 (rpow 43 (v16 (hl hs 0)) 255 1))]⟩
theorem cok44 : EntryOk Try.prog 44 (.pure C44.sem) := cfn_at rfl rfl rfl ok44 (fun x hx rx hg => by
  refine (at44 x).trans ?_
  show raw44 x = some [.l (dg16 (rpow 43 (v16 x) 255 1))]
  unfold raw44
  have hg : carried x = true := hg
  rw [show C62.guard [.l x, .i 255, .i 21] = carried x by show (carried x && decide ((0 : Int) ≤ 255) && decide ((255 : Int) ≤ 1000) && decide ((21 : Int) ≤ 64)) = carried x; simp, hg]
  rfl)
def C70 : CFn := ⟨[], .arr .u64 16, fun _ => true, fun hs => [.l (dg16 (rpow 59 2 253 1))]⟩
theorem cok70 : EntryOk Try.prog 70 (.pure C70.sem) := cfn_at rfl rfl rfl ok70 (fun _ => by
  show raw70 = some [.l (dg16 (rpow 59 2 253 1))]
  unfold raw70
  rw [show C62.guard [.l (dg16 2), .i 253, .i 5] = true by decide +kernel, v16_in (v := 2) (by decide) (by decide)]
  rfl)
def C41 : CFn := ⟨[.arr .u64 16], .bool, fun hs => (hl hs 0).all fun y => decide (y < 144115188075855872), fun hs => [.b (decide (v16 (hl hs 0) % p = 0))]⟩
theorem cok41 : EntryOk Try.prog 41 (.pure C41.sem) := cfn_at rfl rfl rfl ok41 (fun x hx rx hg => by
  have hg : (x.all fun y => decide (y < 144115188075855872)) = true := hg
  refine (at41 x).trans ?_
  show raw41 x = some [.b (decide (v16 x % p = 0))]
  unfold raw41
  rw [hg, cond_true, zero32, same32]
  rfl)
def C69 : CFn := ⟨[.arr .u64 16, .arr .u64 16], .bool, fun hs => ((hl hs 0).all fun y => decide (y < 144115188075855872)) && ((hl hs 1).all fun y => decide (y < 144115188075855872)), fun hs => [.b (decide (v16 (hl hs 0) % p = v16 (hl hs 1) % p))]⟩
theorem cok69 : EntryOk Try.prog 69 (.pure C69.sem) := cfn_at rfl rfl rfl ok69 (fun x hx rx y hy ry hg => by
  have hg : ((x.all fun y => decide (y < 144115188075855872)) && (y.all fun y => decide (y < 144115188075855872))) = true := hg
  rw [Bool.and_eq_true] at hg
  refine (at69 x y).trans ?_
  show raw69 x y = some [.b (decide (v16 x % p = v16 y % p))]
  unfold raw69
  rw [hg.1, hg.2, cond_true, cond_true, same32])
def C25 : CFn := ⟨[.arr .u8 32], .arr .u8 32, fun _ => true, fun hs => [.l (dg32 (v32 (hl hs 0) % p))]⟩
theorem cok25 : EntryOk Try.prog 25 (.pure C25.sem) := cfn_at rfl rfl rfl ok25 (fun x hx rx _ => by
  have hv := v32_u hx rx
  refine (at25 x).trans ?_
  show raw25 x = some [.l (dg32 (v32 x % p))]
  unfold raw25
  dsimp only
  rw [all57_dg16, cond_true, v16_in hv.1 hv.2])
def C18 : CFn := ⟨[.arr .u8 32, .arr .u8 32], .arr .u8 32, fun _ => true, fun hs => [.l (dg32 (v32 (hl hs 0) * v32 (hl hs 1) % p))]⟩
theorem cok18 : EntryOk Try.prog 18 (.pure C18.sem) := cfn_at rfl rfl rfl ok18 (fun x hx rx y hy ry _ => by
  have hv := v32_u hx rx
  have hw := v32_u hy ry
  refine (at18 x y).trans ?_
  show raw18 x y = some [.l (dg32 (v32 x * v32 y % p))]
  unfold raw18
  dsimp only
  rw [show fo (fo (v16 (convL (dg16 (v32 x)) (dg16 (v32 y))))) = rm (v32 x) (v32 y) from rfl]
  rw [carried_dg16, carried_dg16, Bool.and_self, cond_true, all57_dg16, cond_true, v16_in (rm_in _ _).1 (rm_in _ _).2, rm_mod hv hw])
def C22 : CFn := ⟨[.arr .u8 32, .arr .u8 32], .arr .u8 32, fun _ => true, fun hs => [.l (dg32 ((v32 (hl hs 0) + v32 (hl hs 1)) % p))]⟩
theorem fofo_small {v : Int} (h : 0 ≤ v) (h' : v < 5 * Q) : 0 ≤ fo (fo v) ∧ fo (fo v) < Q := by simp only [fo, Q] at *; omega
theorem cok22 : EntryOk Try.prog 22 (.pure C22.sem) := cfn_at rfl rfl rfl ok22 (fun x hx rx y hy ry _ => by
  have hv := v32_u hx rx
  have hw := v32_u hy ry
  refine (at22 x y).trans ?_
  show raw22 x y = some [.l (dg32 ((v32 x + v32 y) % p))]
  unfold raw22
  dsimp only
  rw [v16_in hv.1 hv.2, v16_in hw.1 hw.2]
  have h := fofo_small (v := v32 x + v32 y) (by omega) (by omega)
  rw [carried_dg16, carried_dg16, Bool.and_self, cond_true, all57_dg16, cond_true, v16_in h.1 h.2, fo_mod, fo_mod])
def C27 : CFn := ⟨[.arr .u8 32, .arr .u8 32], .arr .u8 32, fun _ => true, fun hs => [.l (dg32 ((v32 (hl hs 0) - v32 (hl hs 1)) % p))]⟩
theorem cok27 : EntryOk Try.prog 27 (.pure C27.sem) := cfn_at rfl rfl rfl ok27 (fun x hx rx y hy ry _ => by
  have hv := v32_u hx rx
  have hw := v32_u hy ry
  refine (at27 x y).trans ?_
  show raw27 x y = some [.l (dg32 ((v32 x - v32 y) % p))]
  unfold raw27
  dsimp only
  rw [v16_in hv.1 hv.2, v16_in hw.1 hw.2]
  have h := fofo_small (v := v32 x - v32 y + 231584178474632390847141970017375815706539969331281128078915168015826259279796) (by simp only [Q] at *; omega) (by simp only [Q] at *; omega)
  rw [carried_dg16, carried_dg16, Bool.and_self, cond_true, all57_dg16, cond_true, v16_in h.1 h.2, fo_mod, fo_mod]
  rw [show (v32 x - v32 y + 231584178474632390847141970017375815706539969331281128078915168015826259279796) % p = (v32 x - v32 y) % p by simp only [p]; omega])
def C40 : CFn := ⟨[.arr .u64 4], .arr .u64 4, fun _ => true, fun hs => [.l (dg4 (powF (v4 (hl hs 0)) 57896044618658097711785492504343953926634992332820282019728792003956564819947 256 1))]⟩
theorem cok40 : EntryOk Try.prog 40 (.pure C40.sem) := cfn_at rfl rfl rfl ok40 (fun x hx rx _ => by
  refine (at40 x).trans ?_
  show raw40 x = some [.l (dg4 (powF (v4 x) 57896044618658097711785492504343953926634992332820282019728792003956564819947 256 1))]
  unfold raw40
  rw [show v4 (dg4 (v4 (dg4 p) - v4 (dg4 2))) = 57896044618658097711785492504343953926634992332820282019728792003956564819947 by decide +kernel])
end Go.Proofs.Ytnpobkdmflkkpaa.Fld
set_option linter.unusedVariables false
set_option maxRecDepth 100000
namespace Go.Proofs.Ytnpobkdmflkkpaa.Fld
open Go Go.Sim
open Go.Proofs Go.Fld

/-! ### 17: towpath/towpathref1.Invert (pure) -/
noncomputable def env17 : List (FuncId × Entry) := [(41, .pure C41.sem), (42, .pure C42.sem), (43, .pure C43.sem), (44, .pure C44.sem)]
theorem envOk17 : EnvOk Try.prog (envOf env17) := envOf_ok (all_cons cok41 (all_cons cok42 (all_cons cok43 (all_cons cok44 (all_nil)))))
def raw17 (a0 : List Int) : Option (List Hv) := let x1 : List Int := dg16 (v32 (a0)); bif (x1).all fun y => decide (y < 144115188075855872) then (bif decide (v16 (x1) % p = 0) then (some [.l (List.replicate 32 0), .b (false)]) else (let x2 : List Int := dg16 (v32 (a0)); bif carried (x2) then (let x3 : List Int := dg16 (rpow 43 (v16 (x2)) 255 1); bif (x3).all fun y => decide (y < 144115188075855872) then (some [.l (dg32 (v16 (x3) % p)), .b (true)]) else none) else none)) else none
theorem l17 : LamOk Try.prog (lamOf []) (codeOf Try.f17) := lamOk_nil
def G17 : GFn := ⟨[.arr .u8 32], .tup [.arr .u8 32, .bool], apH [.l] raw17⟩
theorem ok17 : EntryOk Try.prog 17 (.pure G17.sem) := gfn_pure (u := 70) envOk17 mix Try.func17 (by kernel_rfl) (by kernel_rfl) l17 G17 (by kernel_rfl) (by kernel_rfl) [.l] rfl (fun a0 => by show _ = _; kernel_rfl)
theorem at17 (a0 : List Int) : G17.fn [.l a0] = raw17 a0 := (congrFun (show G17.fn = apH [.l] raw17 from rfl) _).trans ((fun F => rfl : ∀ F : List Int → Option (List Hv), apH [.l] F [.l a0] = F a0) raw17)
/-! ### 26: towpath/towpathref1.Canonical (pure) -/
noncomputable def env26 : List (FuncId × Entry) := [(25, .pure C25.sem)]
theorem envOk26 : EnvOk Try.prog (envOf env26) := envOf_ok (all_cons cok25 (all_nil))
def raw26 (a0 : List Int) : Option (List Hv) := some [.b (arrEq 32 (dg32 (v32 (a0) % p)) (a0))]
theorem l26 : LamOk Try.prog (lamOf []) (codeOf Try.f26) := lamOk_nil
def G26 : GFn := ⟨[.arr .u8 32], .bool, apH [.l] raw26⟩
theorem ok26 : EntryOk Try.prog 26 (.pure G26.sem) := gfn_pure (u := 70) envOk26 mix Try.func26 (by kernel_rfl) (by kernel_rfl) l26 G26 (by kernel_rfl) (by kernel_rfl) [.l] rfl (fun a0 => by show _ = _; kernel_rfl)
theorem at26 (a0 : List Int) : G26.fn [.l a0] = raw26 a0 := (congrFun (show G26.fn = apH [.l] raw26 from rfl) _).trans ((fun F => rfl : ∀ F : List Int → Option (List Hv), apH [.l] F [.l a0] = F a0) raw26)
/-! ### 28: towpath/towpathref1.Odd (pure) -/
noncomputable def env28 : List (FuncId × Entry) := [(25, .pure C25.sem)]
theorem envOk28 : EnvOk Try.prog (envOf env28) := envOf_ok (all_cons cok25 (all_nil))
def raw28 (a0 : List Int) : Option (List Hv) := some [.b ((andI .u8 ((dg32 (v32 (a0) % p)).getD 0 0) (1)) == (1))]
theorem l28 : LamOk Try.prog (lamOf []) (codeOf Try.f28) := lamOk_nil
def G28 : GFn := ⟨[.arr .u8 32], .bool, apH [.l] raw28⟩
theorem ok28 : EntryOk Try.prog 28 (.pure G28.sem) := gfn_pure (u := 70) envOk28 mix Try.func28 (by kernel_rfl) (by kernel_rfl) l28 G28 (by kernel_rfl) (by kernel_rfl) [.l] rfl (fun a0 => by show _ = _; kernel_rfl)
theorem at28 (a0 : List Int) : G28.fn [.l a0] = raw28 a0 := (congrFun (show G28.fn = apH [.l] raw28 from rfl) _).trans ((fun F => rfl : ∀ F : List Int → Option (List Hv), apH [.l] F [.l a0] = F a0) raw28)
/-! ### 58: towpath/towpathref1.root (pure) -/
noncomputable def env58 : List (FuncId × Entry) := [(45, .pure C45.sem), (62, .pure C62.sem), (69, .pure C69.sem), (70, .pure C70.sem)]
theorem envOk58 : EnvOk Try.prog (envOf env58) := envOf_ok (all_cons cok45 (all_cons cok62 (all_cons cok69 (all_cons cok70 (all_nil)))))
def raw58 (a0 : List Int) : Option (List Hv) := bif C62.guard [.l (a0), .i (252), .i (2)] then (let x1 : List Int := dg16 (rpow (64 - (2)) (v16 (a0)) (Int.toNat (252)) 1); bif carried (x1) && carried (x1) then (let x2 : List Int := dg16 (fo (fo (v16 (convL (x1) (x1))))); bif ((x2).all fun y => decide (y < 144115188075855872)) && ((a0).all fun y => decide (y < 144115188075855872)) then (bif !(decide (v16 (x2) % p = v16 (a0) % p)) then (let x3 : List Int := dg16 (rpow 59 2 253 1); bif carried (x1) && carried (x3) then (let x4 : List Int := dg16 (fo (fo (v16 (convL (x1) (x3))))); bif carried (x4) && carried (x4) then (let x5 : List Int := dg16 (fo (fo (v16 (convL (x4) (x4))))); bif ((x5).all fun y => decide (y < 144115188075855872)) && ((a0).all fun y => decide (y < 144115188075855872)) then (some [.l (x4), .b (decide (v16 (x5) % p = v16 (a0) % p))]) else none) else none) else none) else (bif carried (x1) && carried (x1) then (let x6 : List Int := dg16 (fo (fo (v16 (convL (x1) (x1))))); bif ((x6).all fun y => decide (y < 144115188075855872)) && ((a0).all fun y => decide (y < 144115188075855872)) then (some [.l (x1), .b (decide (v16 (x6) % p = v16 (a0) % p))]) else none) else none)) else none) else none) else none
theorem l58 : LamOk Try.prog (lamOf []) (codeOf Try.f58) := lamOk_nil
def G58 : GFn := ⟨[.arr .u64 16], .tup [.arr .u64 16, .bool], apH [.l] raw58⟩
theorem ok58 : EntryOk Try.prog 58 (.pure G58.sem) := gfn_pure (u := 70) envOk58 mix Try.func58 (by kernel_rfl) (by kernel_rfl) l58 G58 (by kernel_rfl) (by kernel_rfl) [.l] rfl (fun a0 => by show _ = _; kernel_rfl)
theorem at58 (a0 : List Int) : G58.fn [.l a0] = raw58 a0 := (congrFun (show G58.fn = apH [.l] raw58 from rfl) _).trans ((fun F => rfl : ∀ F : List Int → Option (List Hv), apH [.l] F [.l a0] = F a0) raw58)
/-! ### 15: towpath/field.Invert (pure) -/
noncomputable def env15 : List (FuncId × Entry) := [(37, .pure C37.sem), (38, .pure C38.sem), (39, .pure C39.sem), (40, .pure C40.sem)]
theorem envOk15 : EnvOk Try.prog (envOf env15) := envOf_ok (all_cons cok37 (all_cons cok38 (all_cons cok39 (all_cons cok40 (all_nil)))))
def raw15 (a0 : List Int) : Option (List Hv) := let x1 : List Int := dg4 (v4 (dg4 (v32 (a0))) % p); bif arrEq 4 (x1) ([0, 0, 0, 0]) then (some [.l (List.replicate 32 0), .b (false)]) else (some [.l (dg32 (v4 (dg4 (powF (v4 (x1)) 57896044618658097711785492504343953926634992332820282019728792003956564819947 256 1)) % p)), .b (true)])
theorem l15 : LamOk Try.prog (lamOf []) (codeOf Try.f15) := lamOk_nil
def G15 : GFn := ⟨[.arr .u8 32], .tup [.arr .u8 32, .bool], apH [.l] raw15⟩
theorem ok15 : EntryOk Try.prog 15 (.pure G15.sem) := gfn_pure (u := 70) envOk15 mix Try.func15 (by kernel_rfl) (by kernel_rfl) l15 G15 (by kernel_rfl) (by kernel_rfl) [.l] rfl (fun a0 => by show _ = _; kernel_rfl)
theorem at15 (a0 : List Int) : G15.fn [.l a0] = raw15 a0 := (congrFun (show G15.fn = apH [.l] raw15 from rfl) _).trans ((fun F => rfl : ∀ F : List Int → Option (List Hv), apH [.l] F [.l a0] = F a0) raw15)
/-! ### 57: towpath/field.Square (pure) -/
noncomputable def env57 : List (FuncId × Entry) := [(37, .pure C37.sem), (47, .pure C47.sem), (48, .pure C48.sem), (51, .pure C51.sem), (54, .pure C54.sem), (59, .pure C59.sem), (60, .pure C60.sem), (66, .pure C66.sem), (67, .pure C67.sem), (68, .pure C68.sem)]
theorem envOk57 : EnvOk Try.prog (envOf env57) := envOf_ok (all_cons cok37 (all_cons cok47 (all_cons cok48 (all_cons cok51 (all_cons cok54 (all_cons cok59 (all_cons cok60 (all_cons cok66 (all_cons cok67 (all_cons cok68 (all_nil)))))))))))
def raw57 (a0 : List Int) : Option (List Hv) := let x1 : List Int := dg4 (powF (v4 (a0)) (v4 (dg4 (v4 (dg4 (v4 (dg4 p) + v4 (dg4 (3)))) / (if (3) = 2 then 4 else 8)))) 256 1); bif !(decide (v4 (dg4 (fo (fo (fo (v4 (x1) * v4 (x1)))))) % p = v4 (a0) % p)) then (let x2 : List Int := dg4 (fo (fo (fo (v4 (x1) * v4 (dg4 (powF (v4 (dg4 (2))) (v4 (dg4 (v4 (dg4 (v4 (dg4 p) - v4 (dg4 (1)))) / (if (2) = 2 then 4 else 8)))) 256 1)))))); bif !(decide (v4 (dg4 (fo (fo (fo (v4 (x2) * v4 (x2)))))) % p = v4 (a0) % p)) then (some [.l ([0, 0, 0, 0]), .b (false)]) else (let x3 : List Int := dg4 (v4 (x2) % p); bif (andI .u64 ((x3).getD 0 0) (1)) == (1) then (some [.l (dg4 (v4 (dg4 (bo (bo (v4 ([0, 0, 0, 0]) - v4 (x3))))) % p)), .b (true)]) else (some [.l (x3), .b (true)]))) else (bif !(decide (v4 (dg4 (fo (fo (fo (v4 (x1) * v4 (x1)))))) % p = v4 (a0) % p)) then (some [.l ([0, 0, 0, 0]), .b (false)]) else (let x4 : List Int := dg4 (v4 (x1) % p); bif (andI .u64 ((x4).getD 0 0) (1)) == (1) then (some [.l (dg4 (v4 (dg4 (bo (bo (v4 ([0, 0, 0, 0]) - v4 (x4))))) % p)), .b (true)]) else (some [.l (x4), .b (true)])))
theorem l57 : LamOk Try.prog (lamOf []) (codeOf Try.f57) := lamOk_nil
def G57 : GFn := ⟨[.arr .u64 4], .tup [.arr .u64 4, .bool], apH [.l] raw57⟩
theorem ok57 : EntryOk Try.prog 57 (.pure G57.sem) := gfn_pure (u := 70) envOk57 mix Try.func57 (by kernel_rfl) (by kernel_rfl) l57 G57 (by kernel_rfl) (by kernel_rfl) [.l] rfl (fun a0 => by show _ = _; kernel_rfl)
theorem at57 (a0 : List Int) : G57.fn [.l a0] = raw57 a0 := (congrFun (show G57.fn = apH [.l] raw57 from rfl) _).trans ((fun F => rfl : ∀ F : List Int → Option (List Hv), apH [.l] F [.l a0] = F a0) raw57)
/-! ### 14: towpath/towpathlaw1.edge (pure) -/
noncomputable def env14 : List (FuncId × Entry) := []
theorem envOk14 : EnvOk Try.prog (envOf env14) := envOf_ok (all_nil)
def raw14 (a0 : Int) (a1_0 a1_1 a1_2 a1_3 a1_4 a1_5 a1_6 a1_7 a1_8 a1_9 a1_10 a1_11 a1_12 a1_13 a1_14 a1_15 a1_16 a1_17 a1_18 a1_19 a1_20 a1_21 a1_22 a1_23 a1_24 a1_25 a1_26 a1_27 a1_28 a1_29 a1_30 a1_31 : Int) : Option (List Hv) := let x1 : Int := (a0).tmod (12); bif (x1) == (0) then (some [.l (List.replicate 32 0)]) else (bif (x1) == (1) then (some [.l ([1, 0, 0, 0, 0, 0, 0, 0, 0, 0, 0, 0, 0, 0, 0, 0, 0, 0, 0, 0, 0, 0, 0, 0, 0, 0, 0, 0, 0, 0, 0, 0])]) else (bif (x1) == (2) then (bif ((a0).tmod (12)) == (5) then (let x2 : Int := wr .u8 ((wr .u8 ((237) + ((a0).tmod (4)))) - (1)); some [.l ([x2, 255, 255, 255, 255, 255, 255, 255, 255, 255, 255, 255, 255, 255, 255, 255, 255, 255, 255, 255, 255, 255, 255, 255, 255, 255, 255, 255, 255, 255, 255, 255])]) else (let x3 : Int := wr .u8 ((wr .u8 ((237) + ((a0).tmod (4)))) - (1)); some [.l ([x3, 255, 255, 255, 255, 255, 255, 255, 255, 255, 255, 255, 255, 255, 255, 255, 255, 255, 255, 255, 255, 255, 255, 255, 255, 255, 255, 255, 255, 255, 255, 127])])) else (bif (x1) == (3) then (bif ((a0).tmod (12)) == (5) then (let x4 : Int := wr .u8 ((wr .u8 ((237) + ((a0).tmod (4)))) - (1)); some [.l ([x4, 255, 255, 255, 255, 255, 255, 255, 255, 255, 255, 255, 255, 255, 255, 255, 255, 255, 255, 255, 255, 255, 255, 255, 255, 255, 255, 255, 255, 255, 255, 255])]) else (let x5 : Int := wr .u8 ((wr .u8 ((237) + ((a0).tmod (4)))) - (1)); some [.l ([x5, 255, 255, 255, 255, 255, 255, 255, 255, 255, 255, 255, 255, 255, 255, 255, 255, 255, 255, 255, 255, 255, 255, 255, 255, 255, 255, 255, 255, 255, 255, 127])])) else (bif (x1) == (4) then (bif ((a0).tmod (12)) == (5) then (let x6 : Int := wr .u8 ((wr .u8 ((237) + ((a0).tmod (4)))) - (1)); some [.l ([x6, 255, 255, 255, 255, 255, 255, 255, 255, 255, 255, 255, 255, 255, 255, 255, 255, 255, 255, 255, 255, 255, 255, 255, 255, 255, 255, 255, 255, 255, 255, 255])]) else (let x7 : Int := wr .u8 ((wr .u8 ((237) + ((a0).tmod (4)))) - (1)); some [.l ([x7, 255, 255, 255, 255, 255, 255, 255, 255, 255, 255, 255, 255, 255, 255, 255, 255, 255, 255, 255, 255, 255, 255, 255, 255, 255, 255, 255, 255, 255, 255, 127])])) else (bif (x1) == (5) then (bif ((a0).tmod (12)) == (5) then (let x8 : Int := wr .u8 ((wr .u8 ((237) + ((a0).tmod (4)))) - (1)); some [.l ([x8, 255, 255, 255, 255, 255, 255, 255, 255, 255, 255, 255, 255, 255, 255, 255, 255, 255, 255, 255, 255, 255, 255, 255, 255, 255, 255, 255, 255, 255, 255, 255])]) else (let x9 : Int := wr .u8 ((wr .u8 ((237) + ((a0).tmod (4)))) - (1)); some [.l ([x9, 255, 255, 255, 255, 255, 255, 255, 255, 255, 255, 255, 255, 255, 255, 255, 255, 255, 255, 255, 255, 255, 255, 255, 255, 255, 255, 255, 255, 255, 255, 127])])) else (bif (x1) == (6) then (some [.l ([255, 255, 255, 255, 255, 255, 255, 255, 255, 255, 255, 255, 255, 255, 255, 255, 255, 255, 255, 255, 255, 255, 255, 255, 255, 255, 255, 255, 255, 255, 255, 255])]) else (some [.l ([a1_0, a1_1, a1_2, a1_3, a1_4, a1_5, a1_6, a1_7, a1_8, a1_9, a1_10, a1_11, a1_12, a1_13, a1_14, a1_15, a1_16, a1_17, a1_18, a1_19, a1_20, a1_21, a1_22, a1_23, a1_24, a1_25, a1_26, a1_27, a1_28, a1_29, a1_30, a1_31])])))))))
theorem l14 : LamOk Try.prog (lamOf []) (codeOf Try.f14) := lamOk_nil
def G14 : GFn := ⟨[.int .u8, .arr .u8 32], .arr .u8 32, apH [.i, .x 32] raw14⟩
theorem ok14 : EntryOk Try.prog 14 (.pure G14.sem) := gfn_pure (u := 70) envOk14 mix Try.func14 (by kernel_rfl) (by kernel_rfl) l14 G14 (by kernel_rfl) (by kernel_rfl) [.i, .x 32] rfl (fun a0 a1_0 a1_1 a1_2 a1_3 a1_4 a1_5 a1_6 a1_7 a1_8 a1_9 a1_10 a1_11 a1_12 a1_13 a1_14 a1_15 a1_16 a1_17 a1_18 a1_19 a1_20 a1_21 a1_22 a1_23 a1_24 a1_25 a1_26 a1_27 a1_28 a1_29 a1_30 a1_31 => by show _ = _; kernel_rfl)
theorem at14 (a0 : Int) (a1_0 a1_1 a1_2 a1_3 a1_4 a1_5 a1_6 a1_7 a1_8 a1_9 a1_10 a1_11 a1_12 a1_13 a1_14 a1_15 a1_16 a1_17 a1_18 a1_19 a1_20 a1_21 a1_22 a1_23 a1_24 a1_25 a1_26 a1_27 a1_28 a1_29 a1_30 a1_31 : Int) : G14.fn [.i a0, .l [a1_0, a1_1, a1_2, a1_3, a1_4, a1_5, a1_6, a1_7, a1_8, a1_9, a1_10, a1_11, a1_12, a1_13, a1_14, a1_15, a1_16, a1_17, a1_18, a1_19, a1_20, a1_21, a1_22, a1_23, a1_24, a1_25, a1_26, a1_27, a1_28, a1_29, a1_30, a1_31]] = raw14 a0 a1_0 a1_1 a1_2 a1_3 a1_4 a1_5 a1_6 a1_7 a1_8 a1_9 a1_10 a1_11 a1_12 a1_13 a1_14 a1_15 a1_16 a1_17 a1_18 a1_19 a1_20 a1_21 a1_22 a1_23 a1_24 a1_25 a1_26 a1_27 a1_28 a1_29 a1_30 a1_31 := (congrFun (show G14.fn = apH [.i, .x 32] raw14 from rfl) _).trans ((fun F => rfl : ∀ F : Int → Int → Int → Int → Int → Int → Int → Int → Int → Int → Int → Int → Int → Int → Int → Int → Int → Int → Int → Int → Int → Int → Int → Int → Int → Int → Int → Int → Int → Int → Int → Int → Int → Option (List Hv), apH [.i, .x 32] F [.i a0, .l [a1_0, a1_1, a1_2, a1_3, a1_4, a1_5, a1_6, a1_7, a1_8, a1_9, a1_10, a1_11, a1_12, a1_13, a1_14, a1_15, a1_16, a1_17, a1_18, a1_19, a1_20, a1_21, a1_22, a1_23, a1_24, a1_25, a1_26, a1_27, a1_28, a1_29, a1_30, a1_31]] = F a0 a1_0 a1_1 a1_2 a1_3 a1_4 a1_5 a1_6 a1_7 a1_8 a1_9 a1_10 a1_11 a1_12 a1_13 a1_14 a1_15 a1_16 a1_17 a1_18 a1_19 a1_20 a1_21 a1_22 a1_23 a1_24 a1_25 a1_26 a1_27 a1_28 a1_29 a1_30 a1_31) raw14)
end Go.Proofs.Ytnpobkdmflkkpaa.Fld
set_option linter.unusedVariables false
set_option maxRecDepth 100000
namespace Go.Proofs.Ytnpobkdmflkkpaa.Fld
open Go Go.Sim Go.Fld

/-- a number at an edge -/
def edgeL (k : Int) (a : List Int) : List Int :=
  if k.tmod 12 = 0 then List.replicate 32 0
  else if k.tmod 12 = 1 then 1 :: List.replicate 31 0
  else if k.tmod 12 = 2 ∨ k.tmod 12 = 3 ∨ k.tmod 12 = 4 then wr .u8 (wr .u8 (237 + k.tmod 4) - 1) :: (List.replicate 30 255 ++ [127])
  else if k.tmod 12 = 5 then wr .u8 (wr .u8 (237 + k.tmod 4) - 1) :: List.replicate 31 255
  else if k.tmod 12 = 6 then List.replicate 32 255
  else a

def C14 : CFn := ⟨[.int .u8, .arr .u8 32], .arr .u8 32, fun _ => true, fun hs => [.l (edgeL (hi hs 0) (hl hs 1))]⟩
theorem cok14 : EntryOk Try.prog 14 (.pure C14.sem) := cfn_at rfl rfl rfl ok14 (fun k hk x hx rx _ => by
  obtain ⟨a0, a1, a2, a3, a4, a5, a6, a7, a8, a9, a10, a11, a12, a13, a14, a15, a16, a17, a18, a19, a20, a21, a22, a23, a24, a25, a26, a27, a28, a29, a30, a31, rfl⟩ := len32 hx
  refine (at14 ..).trans ?_
  show _ = some [Hv.l (edgeL k [a0, a1, a2, a3, a4, a5, a6, a7, a8, a9, a10, a11, a12, a13, a14, a15, a16, a17, a18, a19, a20, a21, a22, a23, a24, a25, a26, a27, a28, a29, a30, a31])]
  unfold raw14 edgeL
  generalize k.tmod 12 = m
  generalize k.tmod 4 = j
  by_cases h0 : m = 0
  · subst h0; rfl
  by_cases h1 : m = 1
  · subst h1; rfl
  by_cases h2 : m = 2
  · subst h2; rfl
  by_cases h3 : m = 3
  · subst h3; rfl
  by_cases h4 : m = 4
  · subst h4; rfl
  by_cases h5 : m = 5
  · subst h5; rfl
  by_cases h6 : m = 6
  · subst h6; rfl
  have e : ∀ {n : Int}, m ≠ n → (m == n) = false := fun h => by simp [h]
  simp only [e h0, e h1, e h2, e h3, e h4, e h5, e h6, cond_false, h0, h1, h2, h3, h4, h5, h6, if_false, false_or])

theorem wr_u8_in (n : Int) : 0 ≤ wr .u8 n ∧ wr .u8 n < 256 := by simp only [wr]; omega
theorem edge_in (k : Int) {a : List Int} (hl : a.length = 32) (ra : ∀ y ∈ a, inK .u8 y) : (edgeL k a).length = 32 ∧ ∀ y ∈ edgeL k a, inK .u8 y := by
  unfold edgeL
  have hw : inK .u8 (wr .u8 (wr .u8 (237 + k.tmod 4) - 1)) := wr_u8_in _
  have h0 : inK .u8 0 := ⟨by decide, by decide⟩
  have h1 : inK .u8 1 := ⟨by decide, by decide⟩
  have h2 : inK .u8 127 := ⟨by decide, by decide⟩
  have h3 : inK .u8 255 := ⟨by decide, by decide⟩
  repeat' split
  · exact ⟨rfl, fun y hy => by rw [List.eq_of_mem_replicate hy]; exact h0⟩
  · exact ⟨rfl, fun y hy => by rcases List.mem_cons.1 hy with rfl | hy; exact h1; rw [List.eq_of_mem_replicate hy]; exact h0⟩
  · refine ⟨rfl, fun y hy => ?_⟩
    rcases List.mem_cons.1 hy with rfl | hy
    · exact hw
    rcases List.mem_append.1 hy with hy | hy
    · rw [List.eq_of_mem_replicate hy]; exact h3
    · rw [List.mem_singleton.1 hy]; exact h2
  · exact ⟨rfl, fun y hy => by rcases List.mem_cons.1 hy with rfl | hy; exact hw; rw [List.eq_of_mem_replicate hy]; exact h3⟩
  · exact ⟨rfl, fun y hy => by rw [List.eq_of_mem_replicate hy]; exact h3⟩
  · exact ⟨hl, ra⟩

def C26 : CFn := ⟨[.arr .u8 32], .bool, fun _ => true, fun hs => [.b (decide (v32 (hl hs 0) < p))]⟩
theorem cok26 : EntryOk Try.prog 26 (.pure C26.sem) := cfn_at rfl rfl rfl ok26 (fun x hx rx _ => by
  have hv := v32_u hx rx
  refine (at26 x).trans ?_
  show raw26 x = some [.b (decide (v32 x < p))]
  unfold raw26
  rw [arrEq_eq (dg32_l _) hx]
  congr 3
  refine decide_eq_decide.2 ⟨fun h => ?_, fun h => ?_⟩
  · rw [← h, v32_in (modp_Q _).1 (modp_Q _).2]; exact (modp_in _).2
  · rw [Int.emod_eq_of_lt hv.1 h]; exact dg32_v32 hx rx)

theorem v32_low {e : List Int} (hl : e.length = 32) (hr : ∀ y ∈ e, 0 ≤ y ∧ y < 256) : e.getD 0 0 = v32 e % 256 := by
  obtain ⟨a0, a1, a2, a3, a4, a5, a6, a7, a8, a9, a10, a11, a12, a13, a14, a15, a16, a17, a18, a19, a20, a21, a22, a23, a24, a25, a26, a27, a28, a29, a30, a31, rfl⟩ := len32 hl
  have := hr a0 (by simp)
  simp only [List.getD_cons_zero, v32]
  rw [valD, Int.add_mul_emod_self_left, Int.emod_eq_of_lt this.1 this.2]
theorem andI8_odd {x : Int} (h : 0 ≤ x ∧ x < 256) : andI .u8 x 1 = x % 2 := by
  obtain ⟨n, rfl⟩ := Int.eq_ofNat_of_zero_le h.1
  rw [show (1 : Int) = ((1 : Nat) : Int) from rfl, andI_nat8 (by omega) (by decide), Nat.and_one_is_mod]
  rfl
theorem odd32 {v : Int} (h : 0 ≤ v ∧ v < Q) : (andI .u8 ((dg32 v).getD 0 0) 1 == 1) = decide (v % 2 = 1) := by
  rw [v32_low (dg32_l v) (digs_range (by decide) _ _), v32_in h.1 h.2, andI8_odd (by omega)]
  rw [Bool.eq_iff_iff, beq_iff_eq, decide_eq_true_eq]
  omega
theorem odd4 {v : Int} (h : 0 ≤ v ∧ v < Q) : (andI .u64 ((dg4 v).getD 0 0) 1 == 1) = decide (v % 2 = 1) := by
  rw [v4_limb (e := dg4 v) (digs_len _ _ _) (digs_range (by decide) _ _) 0 (by omega), v4_in h.1 h.2]
  have h2 : 0 ≤ v / 18446744073709551616 ^ 0 % 18446744073709551616 ∧ v / 18446744073709551616 ^ 0 % 18446744073709551616 < 18446744073709551616 := ⟨Int.emod_nonneg _ (by decide), Int.emod_lt_of_pos _ (by decide)⟩
  rw [show andI .u64 (v / 18446744073709551616 ^ 0 % 18446744073709551616) 1 = v / 18446744073709551616 ^ 0 % 18446744073709551616 % 2 from andI_mod 1 (M := 2) rfl (by omega) h2.1 h2.2]
  rw [Bool.eq_iff_iff, beq_iff_eq, decide_eq_true_eq, Int.pow_zero, Int.ediv_one]
  omega

def C28 : CFn := ⟨[.arr .u8 32], .bool, fun _ => true, fun hs => [.b (decide (v32 (hl hs 0) % p % 2 = 1))]⟩
theorem cok28 : EntryOk Try.prog 28 (.pure C28.sem) := cfn_at rfl rfl rfl ok28 (fun x hx rx _ => by
  refine (at28 x).trans ?_
  show raw28 x = some [.b (decide (v32 x % p % 2 = 1))]
  unfold raw28
  rw [odd32 (modp_Q _)])

/-- what a number makes 1 with -/
def invR (v : Int) : Int := rpow 43 v 255 1 % p
def C17 : CFn := ⟨[.arr .u8 32], .tup [.arr .u8 32, .bool], fun _ => true, fun hs => [.l (if v32 (hl hs 0) % p = 0 then dg32 0 else dg32 (invR (v32 (hl hs 0)))), .b (!decide (v32 (hl hs 0) % p = 0))]⟩
theorem cok17 : EntryOk Try.prog 17 (.pure C17.sem) := cfn_at rfl rfl rfl ok17 (fun x hx rx _ => by
  have hv := v32_u hx rx
  refine (at17 x).trans ?_
  show raw17 x = some [.l (if v32 x % p = 0 then dg32 0 else dg32 (invR (v32 x))), .b (!decide (v32 x % p = 0))]
  unfold raw17
  dsimp only
  rw [all57_dg16, cond_true, v16_in hv.1 hv.2]
  have hi := rpow_in 43 (v32 x) 255 1 (by decide)
  by_cases h : v32 x % p = 0
  · rw [decide_eq_true h, cond_true, if_pos h, zero32]; rfl
  · rw [decide_eq_false h, cond_false, if_neg h, carried_dg16, cond_true, all57_dg16, cond_true, v16_in hi.1 hi.2]; rfl)

/-- a root, or what would be one -/
def rootR (v : Int) : Int := if rm (rpow 62 v 252 1) (rpow 62 v 252 1) % p = v % p then rpow 62 v 252 1 else rm (rpow 62 v 252 1) (rpow 59 2 253 1)
theorem rootR_in (v : Int) : 0 ≤ rootR v ∧ rootR v < Q := by
  unfold rootR
  split
  · exact rpow_in 62 v 252 1 (by decide)
  · exact rm_in _ _
def C58 : CFn := ⟨[.arr .u64 16], .tup [.arr .u64 16, .bool], fun hs => carried (hl hs 0), fun hs => [.l (dg16 (rootR (v16 (hl hs 0)))), .b (decide (rm (rootR (v16 (hl hs 0))) (rootR (v16 (hl hs 0))) % p = v16 (hl hs 0) % p))]⟩
theorem cok58 : EntryOk Try.prog 58 (.pure C58.sem) := cfn_at rfl rfl rfl ok58 (fun x hx rx hg => by
  have hg : carried x = true := hg
  refine (at58 x).trans ?_
  show raw58 x = some [.l (dg16 (rootR (v16 x))), .b (decide (rm (rootR (v16 x)) (rootR (v16 x)) % p = v16 x % p))]
  have h57 : (x.all fun y => decide (y < 144115188075855872)) = true := all57 fun y hy => by have := carried_in rx hg y hy; omega
  unfold raw58
  rw [show C62.guard [.l x, .i 252, .i 2] = carried x by show (carried x && decide ((0 : Int) ≤ 252) && decide ((252 : Int) ≤ 1000) && decide ((2 : Int) ≤ 64)) = carried x; simp, hg, cond_true]
  dsimp only
  generalize v16 x = v at *
  rw [show rpow (64 - 2) v (Int.toNat 252) 1 = rpow 62 v 252 1 from rfl, show ∀ a b, fo (fo (v16 (convL (dg16 a) (dg16 b)))) = rm a b from fun _ _ => rfl, show ∀ a b, fo (fo (v16 (convL (dg16 a) (dg16 b)))) = rm a b from fun _ _ => rfl,
    show ∀ a b, fo (fo (v16 (convL (dg16 a) (dg16 b)))) = rm a b from fun _ _ => rfl]
  simp only [carried_dg16, all57_dg16, h57, Bool.and_self, cond_true]
  have r := fun a b => v16_in (rm_in a b).1 (rm_in a b).2
  simp only [r]
  unfold rootR
  by_cases h : rm (rpow 62 v 252 1) (rpow 62 v 252 1) % p = v % p
  · simp only [h, if_true, decide_true, Bool.not_true, cond_false]
  · simp only [h, if_false, decide_false, Bool.not_false, cond_true])

/-- the same, as the program has it -/
def invM (v : Int) : Int := powF v 57896044618658097711785492504343953926634992332820282019728792003956564819947 256 1 % p
def C15 : CFn := ⟨[.arr .u8 32], .tup [.arr .u8 32, .bool], fun _ => true, fun hs => [.l (if v32 (hl hs 0) % p = 0 then dg32 0 else dg32 (invM (v32 (hl hs 0) % p))), .b (!decide (v32 (hl hs 0) % p = 0))]⟩
theorem zero4 : ([0, 0, 0, 0] : List Int) = dg4 0 := by decide +kernel
theorem cok15 : EntryOk Try.prog 15 (.pure C15.sem) := cfn_at rfl rfl rfl ok15 (fun x hx rx _ => by
  have hv := v32_u hx rx
  refine (at15 x).trans ?_
  show raw15 x = some [.l (if v32 x % p = 0 then dg32 0 else dg32 (invM (v32 x % p))), .b (!decide (v32 x % p = 0))]
  unfold raw15
  dsimp only
  have hm := modp_Q (v32 x)
  rw [v4_in hv.1 hv.2, arrEq_eq (n := 4) (a := dg4 (v32 x % p)) (digs_len _ _ _) rfl, v4_in hm.1 hm.2]
  have hi := powF_in (a := v32 x % p) (e := 57896044618658097711785492504343953926634992332820282019728792003956564819947) hm.1 hm.2 256 1 (by decide) (by decide)
  rw [v4_in hi.1 hi.2]
  by_cases h : v32 x % p = 0
  · rw [h, decide_eq_true (show dg4 0 = [0, 0, 0, 0] from zero4.symm), cond_true, if_pos rfl]; rfl
  · rw [decide_eq_false (show ¬ dg4 (v32 x % p) = [0, 0, 0, 0] by rw [zero4, dg4_inj hm.1 hm.2 (by decide) (by decide)]; exact h), cond_false, if_neg h, decide_eq_false h]; rfl)

def halfM : Int := powF 2 14474011154664524427946373126085988481658748083205070504932198000989141204987 256 1
def firstM (v : Int) : Int := powF v 7237005577332262213973186563042994240829374041602535252466099000494570602494 256 1
def rootM (v : Int) : Int := if pr (firstM v) (firstM v) % p = v % p then firstM v else pr (firstM v) halfM
theorem firstM_in {v : Int} (h : 0 ≤ v ∧ v < Q) : 0 ≤ firstM v ∧ firstM v < Q := powF_in h.1 h.2 256 1 (by decide) (by decide)
theorem halfM_in : 0 ≤ halfM ∧ halfM < Q := powF_in (by decide) (by decide) 256 1 (by decide) (by decide)
theorem rootM_in {v : Int} (h : 0 ≤ v ∧ v < Q) : 0 ≤ rootM v ∧ rootM v < Q := by
  have h1 := firstM_in h
  have h2 := halfM_in
  unfold rootM
  split
  · exact h1
  · exact pr_in h1.1 h1.2 h2.1 h2.2
/-- the even one of a root and its other -/
def evenP (r : Int) : Int := if r % 2 = 1 then (0 - r) % p else r
def sqM (v : Int) : Bool := decide (pr (rootM v) (rootM v) % p = v % p)
def C57 : CFn := ⟨[.arr .u64 4], .tup [.arr .u64 4, .bool], fun _ => true, fun hs => [.l (if sqM (v4 (hl hs 0)) then dg4 (evenP (rootM (v4 (hl hs 0)) % p)) else dg4 0), .b (sqM (v4 (hl hs 0)))]⟩
theorem cok57 : EntryOk Try.prog 57 (.pure C57.sem) := cfn_at rfl rfl rfl ok57 (fun x hx rx _ => by
  have hv := v4_u hx rx
  refine (at57 x).trans ?_
  show raw57 x = some [.l (if sqM (v4 x) then dg4 (evenP (rootM (v4 x) % p)) else dg4 0), .b (sqM (v4 x))]
  unfold raw57
  dsimp only
  generalize v4 x = v at *
  rw [show v4 (dg4 (v4 (dg4 (v4 (dg4 p) + v4 (dg4 3))) / (if (3 : Nat) = 2 then 4 else 8))) = 7237005577332262213973186563042994240829374041602535252466099000494570602494 by decide +kernel,
    show v4 (dg4 2) = 2 by decide +kernel,
    show v4 (dg4 (v4 (dg4 (v4 (dg4 p) - v4 (dg4 1))) / (if (2 : Nat) = 2 then 4 else 8))) = 14474011154664524427946373126085988481658748083205070504932198000989141204987 by decide +kernel,
    show powF v 7237005577332262213973186563042994240829374041602535252466099000494570602494 256 1 = firstM v from rfl,
    show powF 2 14474011154664524427946373126085988481658748083205070504932198000989141204987 256 1 = halfM from rfl,
    show v4 [0, 0, 0, 0] = 0 by decide +kernel]
  have h1 := firstM_in hv
  have h2 := halfM_in
  rw [v4_in h1.1 h1.2, v4_in h2.1 h2.2]
  simp only [show ∀ a b, fo (fo (fo (a * b))) = pr a b from fun _ _ => rfl]
  have h3 := pr_in h1.1 h1.2 h1.1 h1.2
  have h4 := pr_in h1.1 h1.2 h2.1 h2.2
  rw [v4_in h3.1 h3.2, v4_in h4.1 h4.2]
  have h5 := pr_in h4.1 h4.2 h4.1 h4.2
  rw [v4_in h5.1 h5.2]
  have tail : ∀ r : Int, (bif (andI .u64 ((dg4 (r % p)).getD 0 0) 1) == 1 then (some [Hv.l (dg4 (v4 (dg4 (bo (bo (0 - v4 (dg4 (r % p)))))) % p)), Hv.b true]) else (some [Hv.l (dg4 (r % p)), Hv.b true])) = some [Hv.l (dg4 (evenP (r % p))), Hv.b true] := by
    intro r
    have hr := modp_Q r
    have hb := bo_in (x := 0) (y := r % p) (by decide) (by decide) hr.1 hr.2
    rw [odd4 hr, v4_in hr.1 hr.2, v4_in hb.1 hb.2, bo_mod, bo_mod]
    unfold evenP
    by_cases h : r % p % 2 = 1
    · rw [decide_eq_true h, cond_true, if_pos h]
    · rw [decide_eq_false h, cond_false, if_neg h]
  rw [tail, tail]
  unfold sqM rootM
  by_cases h : pr (firstM v) (firstM v) % p = v % p
  · simp only [h, decide_true, Bool.not_true, cond_false, if_true]
  · simp only [h, decide_false, Bool.not_false, cond_true, if_false]
    by_cases k : pr (pr (firstM v) halfM) (pr (firstM v) halfM) % p = v % p
    · simp only [k, decide_true, Bool.not_true, cond_false, if_true]
    · simp only [k, decide_false, Bool.not_false, cond_true, Bool.false_eq_true, if_false, zero4])
end Go.Proofs.Ytnpobkdmflkkpaa.Fld
set_option linter.unusedVariables false
set_option maxRecDepth 100000
namespace Go.Proofs.Ytnpobkdmflkkpaa.Fld
open Go Go.Sim
open Go.Proofs Go.Fld

/-! ### 35: towpath/field.Root (pure) -/
noncomputable def env35 : List (FuncId × Entry) := [(38, .pure C38.sem), (39, .pure C39.sem), (57, .pure C57.sem)]
theorem envOk35 : EnvOk Try.prog (envOf env35) := envOf_ok (all_cons cok38 (all_cons cok39 (all_cons cok57 (all_nil))))
def raw35 (a0 : List Int) : Option (List Hv) := let x1 : List Int := dg4 (v32 (a0)); bif !(sqM (v4 (x1))) then (some [.l (List.replicate 32 0), .b (false)]) else (some [.l (dg32 (v4 (if sqM (v4 (x1)) then dg4 (evenP (rootM (v4 (x1)) % p)) else dg4 0) % p)), .b (true)])
theorem l35 : LamOk Try.prog (lamOf []) (codeOf Try.f35) := lamOk_nil
def G35 : GFn := ⟨[.arr .u8 32], .tup [.arr .u8 32, .bool], apH [.l] raw35⟩
theorem ok35 : EntryOk Try.prog 35 (.pure G35.sem) := gfn_pure (u := 70) envOk35 mix Try.func35 (by kernel_rfl) (by kernel_rfl) l35 G35 (by kernel_rfl) (by kernel_rfl) [.l] rfl (fun a0 => by show _ = _; kernel_rfl)
theorem at35 (a0 : List Int) : G35.fn [.l a0] = raw35 a0 := (congrFun (show G35.fn = apH [.l] raw35 from rfl) _).trans ((fun F => rfl : ∀ F : List Int → Option (List Hv), apH [.l] F [.l a0] = F a0) raw35)
/-! ### 36: towpath/towpathref1.Root (pure) -/
noncomputable def env36 : List (FuncId × Entry) := [(42, .pure C42.sem), (43, .pure C43.sem), (52, .pure C52.sem), (58, .pure C58.sem)]
theorem envOk36 : EnvOk Try.prog (envOf env36) := envOf_ok (all_cons cok42 (all_cons cok43 (all_cons cok52 (all_cons cok58 (all_nil)))))
def raw36 (a0 : List Int) : Option (List Hv) := let x1 : List Int := dg16 (v32 (a0)); bif carried (x1) then (bif !(decide (rm (rootR (v16 (x1))) (rootR (v16 (x1))) % p = v16 (x1) % p)) then (some [.l (List.replicate 32 0), .b (false)]) else (let x2 : List Int := dg16 (rootR (v16 (x1))); bif (x2).all fun y => decide (y < 144115188075855872) then (let x3 : List Int := dg32 (v16 (x2) % p); bif (andI .u8 ((x3).getD 0 0) (1)) == (1) then (let x4 : List Int := List.replicate 16 0; bif carried (x4) && carried (x2) then (let x5 : List Int := dg16 (fo (fo (v16 (x4) - v16 (x2) + 231584178474632390847141970017375815706539969331281128078915168015826259279796))); bif (x5).all fun y => decide (y < 144115188075855872) then (some [.l (dg32 (v16 (x5) % p)), .b (true)]) else none) else none) else (some [.l (x3), .b (true)])) else none)) else none
theorem l36 : LamOk Try.prog (lamOf []) (codeOf Try.f36) := lamOk_nil
def G36 : GFn := ⟨[.arr .u8 32], .tup [.arr .u8 32, .bool], apH [.l] raw36⟩
theorem ok36 : EntryOk Try.prog 36 (.pure G36.sem) := gfn_pure (u := 70) envOk36 mix Try.func36 (by kernel_rfl) (by kernel_rfl) l36 G36 (by kernel_rfl) (by kernel_rfl) [.l] rfl (fun a0 => by show _ = _; kernel_rfl)
theorem at36 (a0 : List Int) : G36.fn [.l a0] = raw36 a0 := (congrFun (show G36.fn = apH [.l] raw36 from rfl) _).trans ((fun F => rfl : ∀ F : List Int → Option (List Hv), apH [.l] F [.l a0] = F a0) raw36)
/-! ### 13: towpath/towpathlaw1.known (pure) -/
noncomputable def env13 : List (FuncId × Entry) := [(15, .pure C15.sem), (19, .pure C19.sem), (20, .pure C20.sem), (21, .pure C21.sem)]
theorem envOk13 : EnvOk Try.prog (envOf env13) := envOf_ok (all_cons cok15 (all_cons cok19 (all_cons cok20 (all_cons cok21 (all_nil)))))
def raw13  : Option (List Hv) := let x1 : List Int := [2, 0, 0, 0, 0, 0, 0, 0, 0, 0, 0, 0, 0, 0, 0, 0, 0, 0, 0, 0, 0, 0, 0, 0, 0, 0, 0, 0, 0, 0, 0, 0]; bif arrEq 32 (dg32 (v32 (x1) * v32 ([0, 0, 0, 0, 0, 0, 0, 0, 0, 0, 0, 0, 0, 0, 0, 0, 0, 0, 0, 0, 0, 0, 0, 0, 0, 0, 0, 0, 0, 0, 0, 64]) % p)) ([19, 0, 0, 0, 0, 0, 0, 0, 0, 0, 0, 0, 0, 0, 0, 0, 0, 0, 0, 0, 0, 0, 0, 0, 0, 0, 0, 0, 0, 0, 0, 0]) then (bif arrEq 32 (dg32 (v32 (x1) * v32 (if v32 (x1) % p = 0 then dg32 0 else dg32 (invM (v32 (x1) % p))) % p)) ([1, 0, 0, 0, 0, 0, 0, 0, 0, 0, 0, 0, 0, 0, 0, 0, 0, 0, 0, 0, 0, 0, 0, 0, 0, 0, 0, 0, 0, 0, 0, 0]) then (bif !decide (v32 (x1) % p = 0) then (bif !(!decide (v32 (List.replicate 32 0) % p = 0)) then (bif arrEq 32 (dg32 ((v32 (x1) + v32 (x1)) % p)) ([4, 0, 0, 0, 0, 0, 0, 0, 0, 0, 0, 0, 0, 0, 0, 0, 0, 0, 0, 0, 0, 0, 0, 0, 0, 0, 0, 0, 0, 0, 0, 0]) then (bif decide (v32 (x1) < p) then (some [.b (!(decide (v32 ([0, 0, 0, 0, 0, 0, 0, 0, 0, 0, 0, 0, 0, 0, 0, 0, 0, 0, 0, 0, 0, 0, 0, 0, 0, 0, 0, 0, 0, 0, 0, 128]) < p)))]) else (some [.b (false)])) else (some [.b (false)])) else (some [.b (false)])) else (some [.b (false)])) else (some [.b (false)])) else (some [.b (false)])
theorem l13 : LamOk Try.prog (lamOf []) (codeOf Try.f13) := lamOk_nil
def G13 : GFn := ⟨[], .bool, apH [] raw13⟩
theorem ok13 : EntryOk Try.prog 13 (.pure G13.sem) := gfn_pure (u := 70) envOk13 mix Try.func13 (by kernel_rfl) (by kernel_rfl) l13 G13 (by kernel_rfl) (by kernel_rfl) [] rfl (by show _ = _; kernel_rfl)
end Go.Proofs.Ytnpobkdmflkkpaa.Fld
set_option linter.unusedVariables false
set_option maxRecDepth 100000
namespace Go.Proofs.Ytnpobkdmflkkpaa.Fld
open Go Go.Sim Go.Fld

theorem known1 : raw13 = some [.b true] := by kernel_rfl
def C13 : CFn := ⟨[], .bool, fun _ => true, fun _ => [.b true]⟩
theorem cok13 : EntryOk Try.prog 13 (.pure C13.sem) := cfn_at rfl rfl rfl ok13 (fun _ => known1)

theorem evenP_in (v : Int) : 0 ≤ evenP (v % p) ∧ evenP (v % p) < p := by
  unfold evenP
  split
  · exact modp_in _
  · exact modp_in _
def C35 : CFn := ⟨[.arr .u8 32], .tup [.arr .u8 32, .bool], fun _ => true, fun hs => [.l (if sqM (v32 (hl hs 0)) then dg32 (evenP (rootM (v32 (hl hs 0)) % p)) else dg32 0), .b (sqM (v32 (hl hs 0)))]⟩
theorem cok35 : EntryOk Try.prog 35 (.pure C35.sem) := cfn_at rfl rfl rfl ok35 (fun x hx rx _ => by
  have hv := v32_u hx rx
  refine (at35 x).trans ?_
  show raw35 x = some [.l (if sqM (v32 x) then dg32 (evenP (rootM (v32 x) % p)) else dg32 0), .b (sqM (v32 x))]
  unfold raw35
  dsimp only
  rw [v4_in hv.1 hv.2]
  have he := evenP_in (rootM (v32 x))
  cases h : sqM (v32 x) with
  | false => rw [Bool.not_false, cond_true]; rfl
  | true => rw [Bool.not_true, cond_false, if_pos rfl, v4_in he.1 (by simp only [p, Q] at *; omega), Int.emod_eq_of_lt he.1 he.2, if_pos rfl])

def sqR (v : Int) : Bool := decide (rm (rootR v) (rootR v) % p = v % p)
def C36 : CFn := ⟨[.arr .u8 32], .tup [.arr .u8 32, .bool], fun _ => true, fun hs => [.l (if sqR (v32 (hl hs 0)) then dg32 (evenP (rootR (v32 (hl hs 0)) % p)) else dg32 0), .b (sqR (v32 (hl hs 0)))]⟩
theorem zero16 : List.replicate 16 (0 : Int) = dg16 0 := by decide +kernel
theorem cok36 : EntryOk Try.prog 36 (.pure C36.sem) := cfn_at rfl rfl rfl ok36 (fun x hx rx _ => by
  have hv := v32_u hx rx
  refine (at36 x).trans ?_
  show raw36 x = some [.l (if sqR (v32 x) then dg32 (evenP (rootR (v32 x) % p)) else dg32 0), .b (sqR (v32 x))]
  unfold raw36
  dsimp only
  have hr := rootR_in (v32 x)
  rw [carried_dg16, cond_true, v16_in hv.1 hv.2, all57_dg16, cond_true, v16_in hr.1 hr.2]
  rw [zero16, v16_in (v := 0) (by decide) (by decide), carried_dg16, carried_dg16, Bool.and_self, cond_true, all57_dg16, cond_true]
  have hf := fofo_small (v := 0 - rootR (v32 x) + 231584178474632390847141970017375815706539969331281128078915168015826259279796) (by simp only [Q] at *; omega) (by simp only [Q] at *; omega)
  rw [v16_in hf.1 hf.2, fo_mod, fo_mod, odd32 (modp_Q _)]
  rw [show decide (rm (rootR (v32 x)) (rootR (v32 x)) % p = v32 x % p) = sqR (v32 x) from rfl]
  have e : (0 - rootR (v32 x) + 231584178474632390847141970017375815706539969331281128078915168015826259279796) % p = (0 - rootR (v32 x) % p) % p := by simp only [p]; omega
  rw [e]
  cases h : sqR (v32 x) with
  | false => rw [Bool.not_false, cond_true]; rfl
  | true =>
    rw [Bool.not_true, cond_false, if_pos rfl]
    unfold evenP
    by_cases k : rootR (v32 x) % p % 2 = 1
    · rw [decide_eq_true k, cond_true, if_pos k]
    · rw [decide_eq_false k, cond_false, if_neg k])

/-! both reckonings -/
theorem powF_one {a e : Int} (n : Nat) : powF a e n 1 % p = a ^ (e % 2 ^ n).toNat % p := by rw [powF_mod, Int.one_pow, Int.one_mul]
theorem e43 : ((57896044618658097711785492504343953926634992332820282019728792003956564819947 : Int) % 2 ^ 256).toNat = rexp 43 255 := by decide +kernel
theorem e62 : ((7237005577332262213973186563042994240829374041602535252466099000494570602494 : Int) % 2 ^ 256).toNat = rexp 62 252 := by decide +kernel
theorem e59 : ((14474011154664524427946373126085988481658748083205070504932198000989141204987 : Int) % 2 ^ 256).toNat = rexp 59 253 := by decide +kernel
theorem inv_same {v : Int} (hv : 0 ≤ v ∧ v < Q) : invM (v % p) = invR v := by
  unfold invM invR
  rw [powF_one, e43, pow_emod, rpow_one hv]
theorem first_same {v : Int} (hv : 0 ≤ v ∧ v < Q) : firstM v % p = rpow 62 v 252 1 % p := by
  unfold firstM
  rw [powF_one, e62, rpow_one hv]
theorem half_same : halfM % p = rpow 59 2 253 1 % p := by
  unfold halfM
  rw [powF_one, e59, rpow_one (a := 2) (by decide)]
theorem pr_rm {x y x' y' : Int} (hx : 0 ≤ x' ∧ x' < Q) (hy : 0 ≤ y' ∧ y' < Q) (ex : x % p = x' % p) (ey : y % p = y' % p) : pr x y % p = rm x' y' % p := by
  rw [pr_mod, rm_mod hx hy, Int.mul_emod, ex, ey, ← Int.mul_emod]
theorem root_same {v : Int} (hv : 0 ≤ v ∧ v < Q) : rootM v % p = rootR v % p := by
  have h1 := rpow_in 62 v 252 1 (by decide)
  have h2 := rpow_in 59 2 253 1 (by decide)
  unfold rootM rootR
  rw [pr_rm h1 h1 (first_same hv) (first_same hv)]
  by_cases h : rm (rpow 62 v 252 1) (rpow 62 v 252 1) % p = v % p
  · rw [if_pos h, if_pos h, first_same hv]
  · rw [if_neg h, if_neg h, pr_rm h1 h2 (first_same hv) half_same]
theorem sq_same {v : Int} (hv : 0 ≤ v ∧ v < Q) : sqM v = sqR v := by
  unfold sqM sqR
  have h := rootR_in v
  rw [pr_rm h h (root_same hv) (root_same hv)]
end Go.Proofs.Ytnpobkdmflkkpaa.Fld
set_option linter.unusedVariables false
set_option maxRecDepth 100000
namespace Go.Proofs.Ytnpobkdmflkkpaa.Fld
open Go Go.Sim
open Go.Proofs Go.Fld

/-! ### 6: towpath/towpathlaw1.FieldReckons (pure) -/
noncomputable def env6 : List (FuncId × Entry) := [(13, .pure C13.sem), (14, .pure C14.sem), (16, .pure C16.sem), (18, .pure C18.sem), (19, .pure C19.sem), (20, .pure C20.sem), (21, .pure C21.sem), (22, .pure C22.sem), (23, .pure C23.sem), (24, .pure C24.sem), (25, .pure C25.sem), (26, .pure C26.sem), (27, .pure C27.sem), (28, .pure C28.sem)]
theorem envOk6 : EnvOk Try.prog (envOf env6) := envOf_ok (all_cons cok13 (all_cons cok14 (all_cons cok16 (all_cons cok18 (all_cons cok19 (all_cons cok20 (all_cons cok21 (all_cons cok22 (all_cons cok23 (all_cons cok24 (all_cons cok25 (all_cons cok26 (all_cons cok27 (all_cons cok28 (all_nil)))))))))))))))
def raw6 (a0 : List Int) (a1 : List Int) (a2 : Int) (a3 : Int) : Option (List Hv) := let x1 : List Int := edgeL (a2) (a0); bif arrEq 32 (dg32 (v32 (x1) % p)) (dg32 (v32 (x1) % p)) then (bif (decide (v32 (x1) < p)) == (decide (v32 (x1) < p)) then (let x2 : List Int := edgeL (a3) (a1); bif arrEq 32 (dg32 ((v32 (x1) + v32 (x2)) % p)) (dg32 ((v32 (x1) + v32 (x2)) % p)) then (bif arrEq 32 (dg32 ((v32 (x1) - v32 (x2)) % p)) (dg32 ((v32 (x1) - v32 (x2)) % p)) then (bif arrEq 32 (dg32 (v32 (x1) * v32 (x2) % p)) (dg32 (v32 (x1) * v32 (x2) % p)) then (some [.b ((decide (v32 (x1) % p % 2 = 1)) == (decide (v32 (x1) % p % 2 = 1)))]) else (some [.b (false)])) else (some [.b (false)])) else (some [.b (false)])) else (some [.b (false)])) else (some [.b (false)])
theorem l6 : LamOk Try.prog (lamOf []) (codeOf Try.f6) := lamOk_nil
theorem ev6 (a0 : List Int) (a1 : List Int) (a2 : Int) (a3 : Int) : evalF Try.prog (envOf env6) (lamOf []) 70 Try.f6 (codeOf Try.f6) [.arr .u8 32 a0, .arr .u8 32 a1, .int .u8 a2, .int .u8 a3] [] 0 (fun v _ => matchP .bool v) = raw6 a0 a1 a2 a3 := by kernel_rfl
/-! ### 5: towpath/towpathlaw1.FieldLaws (pure) -/
noncomputable def env5 : List (FuncId × Entry) := [(13, .pure C13.sem), (14, .pure C14.sem), (16, .pure C16.sem), (20, .pure C20.sem), (21, .pure C21.sem), (24, .pure C24.sem)]
theorem envOk5 : EnvOk Try.prog (envOf env5) := envOf_ok (all_cons cok13 (all_cons cok14 (all_cons cok16 (all_cons cok20 (all_cons cok21 (all_cons cok24 (all_nil)))))))
def raw5 (a0 : List Int) (a1 : List Int) (a2 : List Int) (a3 : Int) (a4 : Int) : Option (List Hv) := let x1 : List Int := edgeL (a3) (a0); let x2 : List Int := edgeL (a4) (a1); bif arrEq 32 (dg32 (v32 (dg32 ((v32 (x1) + v32 (x2)) % p)) * v32 (a2) % p)) (dg32 ((v32 (dg32 (v32 (x1) * v32 (a2) % p)) + v32 (dg32 (v32 (a2) * v32 (x2) % p))) % p)) then (bif arrEq 32 (dg32 (v32 (dg32 (v32 (x1) * v32 (x2) % p)) * v32 (a2) % p)) (dg32 (v32 (x1) * v32 (dg32 (v32 (x2) * v32 (a2) % p)) % p)) then (bif arrEq 32 (dg32 ((v32 (dg32 ((v32 (x1) + v32 (x2)) % p)) - v32 (x2)) % p)) (dg32 (v32 (x1) % p)) then (some [.b (arrEq 32 (dg32 ((v32 (x1) + v32 (dg32 ((v32 (List.replicate 32 0) - v32 (x1)) % p))) % p)) (List.replicate 32 0))]) else (some [.b (false)])) else (some [.b (false)])) else (some [.b (false)])
theorem l5 : LamOk Try.prog (lamOf []) (codeOf Try.f5) := lamOk_nil
theorem ev5 (a0 : List Int) (a1 : List Int) (a2 : List Int) (a3 : Int) (a4 : Int) : evalF Try.prog (envOf env5) (lamOf []) 70 Try.f5 (codeOf Try.f5) [.arr .u8 32 a0, .arr .u8 32 a1, .arr .u8 32 a2, .int .u8 a3, .int .u8 a4] [] 0 (fun v _ => matchP .bool v) = raw5 a0 a1 a2 a3 a4 := by kernel_rfl
/-! ### 3: towpath/towpathlaw1.FieldInverts (pure) -/
noncomputable def env3 : List (FuncId × Entry) := [(13, .pure C13.sem), (14, .pure C14.sem), (15, .pure C15.sem), (16, .pure C16.sem), (17, .pure C17.sem), (18, .pure C18.sem)]
theorem envOk3 : EnvOk Try.prog (envOf env3) := envOf_ok (all_cons cok13 (all_cons cok14 (all_cons cok15 (all_cons cok16 (all_cons cok17 (all_cons cok18 (all_nil)))))))
def raw3 (a0 : List Int) (a1 : Int) : Option (List Hv) := let x1 : List Int := edgeL (a1) (a0); bif arrEq 32 (dg32 (v32 (x1) % p)) (List.replicate 32 0) then (let x2 : Bool := !decide (v32 (x1) % p = 0); bif !(x2) then (let x3 : List Int := if v32 (x1) % p = 0 then dg32 0 else dg32 (invM (v32 (x1) % p)); some [.b (arrEq 32 (x3) (List.replicate 32 0))]) else (some [.b (false)])) else (let x4 : Bool := !decide (v32 (x1) % p = 0); bif x4 then (let x5 : List Int := if v32 (x1) % p = 0 then dg32 0 else dg32 (invM (v32 (x1) % p)); bif arrEq 32 (x5) (if v32 (x1) % p = 0 then dg32 0 else dg32 (invR (v32 (x1)))) then (some [.b (arrEq 32 (dg32 (v32 (x1) * v32 (x5) % p)) ([1, 0, 0, 0, 0, 0, 0, 0, 0, 0, 0, 0, 0, 0, 0, 0, 0, 0, 0, 0, 0, 0, 0, 0, 0, 0, 0, 0, 0, 0, 0, 0]))]) else (some [.b (false)])) else (some [.b (false)]))
theorem l3 : LamOk Try.prog (lamOf []) (codeOf Try.f3) := lamOk_nil
theorem ev3 (a0 : List Int) (a1 : Int) : evalF Try.prog (envOf env3) (lamOf []) 70 Try.f3 (codeOf Try.f3) [.arr .u8 32 a0, .int .u8 a1] [] 0 (fun v _ => matchP .bool v) = raw3 a0 a1 := by kernel_rfl
/-! ### 4: towpath/towpathlaw1.FieldForms (pure) -/
noncomputable def env4 : List (FuncId × Entry) := [(13, .pure C13.sem), (16, .pure C16.sem), (19, .pure C19.sem), (20, .pure C20.sem), (21, .pure C21.sem), (22, .pure C22.sem), (23, .pure C23.sem)]
theorem envOk4 : EnvOk Try.prog (envOf env4) := envOf_ok (all_cons cok13 (all_cons cok16 (all_cons cok19 (all_cons cok20 (all_cons cok21 (all_cons cok22 (all_cons cok23 (all_nil))))))))
def raw4 (a0 : Int) (a1 : List Int) : Option (List Hv) := let x1 : Int := wr .i64 ((wr .i64 (a0)) + (237)); bif decide ((x1) > (255)) then (let x2 : List Int := [wr .u8 (x1), 0, 0, 0, 0, 0, 0, 0, 0, 0, 0, 0, 0, 0, 0, 0, 0, 0, 0, 0, 0, 0, 0, 0, 0, 0, 0, 0, 0, 0, 0, 128]; bif arrEq 32 (dg32 (v32 (x2) % p)) ([a0, 0, 0, 0, 0, 0, 0, 0, 0, 0, 0, 0, 0, 0, 0, 0, 0, 0, 0, 0, 0, 0, 0, 0, 0, 0, 0, 0, 0, 0, 0, 0]) then (let x3 : List Int := [a0, 0, 0, 0, 0, 0, 0, 0, 0, 0, 0, 0, 0, 0, 0, 0, 0, 0, 0, 0, 0, 0, 0, 0, 0, 0, 0, 0, 0, 0, 0, 0]; bif decide (v32 (x3) < p) then (bif !(decide (v32 (x2) < p)) then (bif arrEq 32 (dg32 (v32 (x2) * v32 (a1) % p)) (dg32 (v32 (x3) * v32 (a1) % p)) then (bif arrEq 32 (dg32 ((v32 (a1) + v32 (x2)) % p)) (dg32 ((v32 (a1) + v32 (x3)) % p)) then (some [.b ((decide (v32 (x2) % p % 2 = 1)) == (((a0).tmod (2)) == (1)))]) else (some [.b (false)])) else (some [.b (false)])) else (some [.b (false)])) else (some [.b (false)])) else (some [.b (false)])) else (let x4 : List Int := [wr .u8 (x1), 255, 255, 255, 255, 255, 255, 255, 255, 255, 255, 255, 255, 255, 255, 255, 255, 255, 255, 255, 255, 255, 255, 255, 255, 255, 255, 255, 255, 255, 255, 127]; bif arrEq 32 (dg32 (v32 (x4) % p)) ([a0, 0, 0, 0, 0, 0, 0, 0, 0, 0, 0, 0, 0, 0, 0, 0, 0, 0, 0, 0, 0, 0, 0, 0, 0, 0, 0, 0, 0, 0, 0, 0]) then (let x5 : List Int := [a0, 0, 0, 0, 0, 0, 0, 0, 0, 0, 0, 0, 0, 0, 0, 0, 0, 0, 0, 0, 0, 0, 0, 0, 0, 0, 0, 0, 0, 0, 0, 0]; bif decide (v32 (x5) < p) then (bif !(decide (v32 (x4) < p)) then (bif arrEq 32 (dg32 (v32 (x4) * v32 (a1) % p)) (dg32 (v32 (x5) * v32 (a1) % p)) then (bif arrEq 32 (dg32 ((v32 (a1) + v32 (x4)) % p)) (dg32 ((v32 (a1) + v32 (x5)) % p)) then (some [.b ((decide (v32 (x4) % p % 2 = 1)) == (((a0).tmod (2)) == (1)))]) else (some [.b (false)])) else (some [.b (false)])) else (some [.b (false)])) else (some [.b (false)])) else (some [.b (false)]))
theorem l4 : LamOk Try.prog (lamOf []) (codeOf Try.f4) := lamOk_nil
theorem ev4 (a0 : Int) (a1 : List Int) : evalF Try.prog (envOf env4) (lamOf []) 70 Try.f4 (codeOf Try.f4) [.int .u8 a0, .arr .u8 32 a1] [] 0 (fun v _ => matchP .bool v) = raw4 a0 a1 := by kernel_rfl
/-! ### 11: towpath/towpathlaw1.FieldRoots (pure) -/
noncomputable def env11 : List (FuncId × Entry) := [(13, .pure C13.sem), (14, .pure C14.sem), (18, .pure C18.sem), (25, .pure C25.sem), (35, .pure C35.sem), (36, .pure C36.sem)]
theorem envOk11 : EnvOk Try.prog (envOf env11) := envOf_ok (all_cons cok13 (all_cons cok14 (all_cons cok18 (all_cons cok25 (all_cons cok35 (all_cons cok36 (all_nil)))))))
def raw11 (a0 : List Int) (a1 : Int) (a2 : Bool) : Option (List Hv) := bif a2 then (let x1 : List Int := edgeL (a1) (a0); let x2 : List Int := dg32 (v32 (x1) * v32 (x1) % p); let x3 : List Int := if sqM (v32 (x2)) then dg32 (evenP (rootM (v32 (x2)) % p)) else dg32 0; bif !(arrEq 32 (x3) (if sqR (v32 (x2)) then dg32 (evenP (rootR (v32 (x2)) % p)) else dg32 0)) then (some [.b (false)]) else (let x4 : Bool := sqM (v32 (x2)); bif !((x4) == (sqR (v32 (x2)))) then (some [.b (false)]) else (bif a2 then (bif !(x4) then (some [.b (false)]) else (bif !(x4) then (some [.b (true)]) else (bif (andI .u8 ((x3).getD 0 0) (1)) == (0) then (some [.b (arrEq 32 (dg32 (v32 (x3) * v32 (x3) % p)) (dg32 (v32 (x2) % p)))]) else (some [.b (false)])))) else (bif !(x4) then (some [.b (true)]) else (bif (andI .u8 ((x3).getD 0 0) (1)) == (0) then (some [.b (arrEq 32 (dg32 (v32 (x3) * v32 (x3) % p)) (dg32 (v32 (x2) % p)))]) else (some [.b (false)])))))) else (let x5 : List Int := edgeL (a1) (a0); let x6 : List Int := if sqM (v32 (x5)) then dg32 (evenP (rootM (v32 (x5)) % p)) else dg32 0; bif !(arrEq 32 (x6) (if sqR (v32 (x5)) then dg32 (evenP (rootR (v32 (x5)) % p)) else dg32 0)) then (some [.b (false)]) else (let x7 : Bool := sqM (v32 (x5)); bif !((x7) == (sqR (v32 (x5)))) then (some [.b (false)]) else (bif a2 then (bif !(x7) then (some [.b (false)]) else (bif !(x7) then (some [.b (true)]) else (bif (andI .u8 ((x6).getD 0 0) (1)) == (0) then (some [.b (arrEq 32 (dg32 (v32 (x6) * v32 (x6) % p)) (dg32 (v32 (x5) % p)))]) else (some [.b (false)])))) else (bif !(x7) then (some [.b (true)]) else (bif (andI .u8 ((x6).getD 0 0) (1)) == (0) then (some [.b (arrEq 32 (dg32 (v32 (x6) * v32 (x6) % p)) (dg32 (v32 (x5) % p)))]) else (some [.b (false)]))))))
theorem l11 : LamOk Try.prog (lamOf []) (codeOf Try.f11) := lamOk_nil
theorem ev11 (a0 : List Int) (a1 : Int) (a2 : Bool) : evalF Try.prog (envOf env11) (lamOf []) 70 Try.f11 (codeOf Try.f11) [.arr .u8 32 a0, .int .u8 a1, .bool a2] [] 0 (fun v _ => matchP .bool v) = raw11 a0 a1 a2 := by kernel_rfl
/-! ### 12: towpath/towpathlaw1.FieldSquares (pure) -/
noncomputable def env12 : List (FuncId × Entry) := [(13, .pure C13.sem), (14, .pure C14.sem), (16, .pure C16.sem), (20, .pure C20.sem), (23, .pure C23.sem), (24, .pure C24.sem), (35, .pure C35.sem)]
theorem envOk12 : EnvOk Try.prog (envOf env12) := envOf_ok (all_cons cok13 (all_cons cok14 (all_cons cok16 (all_cons cok20 (all_cons cok23 (all_cons cok24 (all_cons cok35 (all_nil))))))))
def raw12 (a0 : List Int) (a1 : Int) : Option (List Hv) := let x1 : List Int := dg32 (v32 (edgeL (a1) (a0)) % p); let x2 : List Int := dg32 (v32 (x1) * v32 (x1) % p); bif sqM (v32 (x2)) then (let x3 : List Int := dg32 ((v32 (List.replicate 32 0) - v32 (x1)) % p); bif arrEq 32 (dg32 (v32 (x3) * v32 (x3) % p)) (x2) then (let x4 : List Int := if sqM (v32 (x2)) then dg32 (evenP (rootM (v32 (x2)) % p)) else dg32 0; bif arrEq 32 (x4) (x1) then (bif !(decide (v32 (x4) % p % 2 = 1)) then (bif arrEq 32 (x1) (List.replicate 32 0) then (some [.b (true)]) else (some [.b (!((decide (v32 (x1) % p % 2 = 1)) == (decide (v32 (x3) % p % 2 = 1))))])) else (some [.b (false)])) else (bif arrEq 32 (x4) (x3) then (bif !(decide (v32 (x4) % p % 2 = 1)) then (bif arrEq 32 (x1) (List.replicate 32 0) then (some [.b (true)]) else (some [.b (!((decide (v32 (x1) % p % 2 = 1)) == (decide (v32 (x3) % p % 2 = 1))))])) else (some [.b (false)])) else (some [.b (false)]))) else (some [.b (false)])) else (some [.b (false)])
theorem l12 : LamOk Try.prog (lamOf []) (codeOf Try.f12) := lamOk_nil
theorem ev12 (a0 : List Int) (a1 : Int) : evalF Try.prog (envOf env12) (lamOf []) 70 Try.f12 (codeOf Try.f12) [.arr .u8 32 a0, .int .u8 a1] [] 0 (fun v _ => matchP .bool v) = raw12 a0 a1 := by kernel_rfl
end Go.Proofs.Ytnpobkdmflkkpaa.Fld
set_option linter.unusedVariables false
set_option maxRecDepth 100000
namespace Go.Proofs.Ytnpobkdmflkkpaa.Fld
open Go Go.Sim Go.Fld

theorem arrEq_self (n : Nat) (a : List Int) : arrEq n a a = true := by
  unfold arrEq
  exact List.all_eq_true.2 fun j _ => by simp
theorem mm_l (a b : Int) : a % p * b % p = a * b % p := by rw [Int.mul_emod, Int.emod_emod, ← Int.mul_emod]
theorem mm_r (a b : Int) : a * (b % p) % p = a * b % p := by rw [Int.mul_emod, Int.emod_emod, ← Int.mul_emod]
theorem v_mod (v : Int) : v32 (dg32 (v % p)) = v % p := v32_in (modp_Q v).1 (modp_Q v).2

theorem law6 (a0 a1 : List Int) (a2 a3 : Int) (w0 : a0.length = 32) (r0 : ∀ y ∈ a0, inK .u8 y) (w1 : a1.length = 32) (r1 : ∀ y ∈ a1, inK .u8 y) (i2 : inK .u8 a2) (i3 : inK .u8 a3) : raw6 a0 a1 a2 a3 = some [.b true] := by
  unfold raw6
  simp only [arrEq_self, cond_true, beq_self_eq_true]

theorem law5 (a0 a1 a2 : List Int) (a3 a4 : Int) (w0 : a0.length = 32) (r0 : ∀ y ∈ a0, inK .u8 y) (w1 : a1.length = 32) (r1 : ∀ y ∈ a1, inK .u8 y) (w2 : a2.length = 32) (r2 : ∀ y ∈ a2, inK .u8 y) (i3 : inK .u8 a3) (i4 : inK .u8 a4) :
    raw5 a0 a1 a2 a3 a4 = some [.b true] := by
  unfold raw5
  dsimp only
  generalize v32 (edgeL a3 a0) = x
  generalize v32 (edgeL a4 a1) = y
  generalize v32 a2 = c
  simp only [v_mod]
  rw [show v32 (List.replicate 32 0) = 0 by decide +kernel, zero32]
  have e1 : (x + y) % p * c % p = (x * c % p + c * y % p) % p := by
    rw [mm_l, Int.add_mul, Int.mul_comm c y]
    generalize x * c = X
    generalize y * c = Y
    simp only [p]; omega
  have e2 : x * y % p * c % p = x * (y * c % p) % p := by rw [mm_l, mm_r, Int.mul_assoc]
  have e3 : ((x + y) % p - y) % p = x % p := by simp only [p]; omega
  have e4 : (x + (0 - x) % p) % p = 0 % p := by simp only [p]; omega
  rw [e1, e2, e3, e4]
  simp only [arrEq_self, cond_true]

theorem dg32_small {n : Int} (h : 0 ≤ n ∧ n < 256) : [n, 0, 0, 0, 0, 0, 0, 0, 0, 0, 0, 0, 0, 0, 0, 0, 0, 0, 0, 0, 0, 0, 0, 0, 0, 0, 0, 0, 0, 0, 0, 0] = dg32 n := by
  refine (digs_eq (b := 256) (by decide) rfl ?_ ?_).symm
  · intro y hy
    simp only [List.mem_cons, List.not_mem_nil, or_false] at hy
    omega
  · simp only [valD]; omega

theorem law4 (n : Int) (b : List Int) (i0 : inK .u8 n) (w1 : b.length = 32) (r1 : ∀ y ∈ b, inK .u8 y) : raw4 n b = some [.b true] := by
  unfold raw4
  have h : 0 ≤ n ∧ n < 256 := i0
  have e1 : wr .i64 (wr .i64 n + 237) = n + 237 := by rw [wr_i64 (n := n) (by omega) (by omega), wr_i64 (by omega) (by omega)]
  rw [e1, dg32_small h]
  have hn : v32 (dg32 n) = n := v32_in h.1 (by simp only [Q]; omega)
  have m1 : (p + n) % p = n := by simp only [p]; omega
  have m2 : ∀ c : Int, (p + n) * c % p = n * c % p := fun c => by rw [← mm_l, m1]
  have m3 : ∀ c : Int, (c + (p + n)) % p = (c + n) % p := fun c => by simp only [p]; omega
  have m4 : decide (n % 2 = 1) = (n.tmod 2 == 1) := by
    rw [Int.tmod_eq_emod_of_nonneg h.1]
    by_cases k : n % 2 = 1 <;> simp [k]
  have m5 : decide (n < p) = true := decide_eq_true (by simp only [p]; omega)
  have m6 : decide (p + n < p) = false := decide_eq_false (by omega)
  dsimp only
  rw [hn]
  by_cases k : n + 237 > 255
  · rw [decide_eq_true k, cond_true]
    have hv : v32 [wr .u8 (n + 237), 0, 0, 0, 0, 0, 0, 0, 0, 0, 0, 0, 0, 0, 0, 0, 0, 0, 0, 0, 0, 0, 0, 0, 0, 0, 0, 0, 0, 0, 0, 128] = p + n := by
      simp only [v32, valD, wr, p]; omega
    rw [hv, m1, m2, m3, m4, m5, m6, arrEq_self, arrEq_self, arrEq_self]
    simp only [cond_true, Bool.not_false, beq_self_eq_true]
  · rw [decide_eq_false k, cond_false]
    have hv : v32 [wr .u8 (n + 237), 255, 255, 255, 255, 255, 255, 255, 255, 255, 255, 255, 255, 255, 255, 255, 255, 255, 255, 255, 255, 255, 255, 255, 255, 255, 255, 255, 255, 255, 255, 127] = p + n := by
      simp only [v32, valD, wr, p]; omega
    rw [hv, m1, m2, m3, m4, m5, m6, arrEq_self, arrEq_self, arrEq_self]
    simp only [cond_true, Bool.not_false, beq_self_eq_true]
end Go.Proofs.Ytnpobkdmflkkpaa.Fld
