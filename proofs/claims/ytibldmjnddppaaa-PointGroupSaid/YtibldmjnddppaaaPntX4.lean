/- The other reckoning's points, by bytes. Sums are the same in both reckonings. Any bytes and any point are added, turned, as both reckonings have it. -/
import Derived.Test.YtibldmjnddppaaaProg
import Derived.Test.YtibldmjnddppaaaSimX2
import Derived.Test.YtibldmjnddppaaaPntX3
set_option linter.unusedVariables false
set_option maxRecDepth 100000
namespace Go.Proofs.Ytibldmjnddppaaa.Fld
open Go Go.Sim
open Go.Proofs Go.Fld

/-! ### 24: towpath/towpathref1.base (pure) -/
noncomputable def env24 : List (FuncId × Entry) := [(21, .pure C21.sem), (46, .pure C46w.sem), (48, .pure C48w.sem), (49, .pure C49w.sem), (52, .pure C52.sem)]
theorem envOk24 : EnvOk Try.prog (envOf env24) := envOf_ok (all_cons cok21 (all_cons cok46w (all_cons cok48w (all_cons cok49w (all_cons cok52 (all_nil))))))
def raw24  : Option (List Hv) := let x1 : List Int := [5, 0, 0, 0, 0, 0, 0, 0, 0, 0, 0, 0, 0, 0, 0, 0]; bif lim18 (x1) then (let x2 : List Int := [4, 0, 0, 0, 0, 0, 0, 0, 0, 0, 0, 0, 0, 0, 0, 0]; let x3 : List Int := dg16 (rpowL 43 (x1) 255 1); bif lim18 (x2) && lim18 (x3) then (let x4 : List Int := dg16 (fo (fo (v16 (convL (x2) (x3))))); bif (x4).all fun y => decide (y < 144115188075855872) then (let x5 : List Int := dg32 (v16 (x4) % p); some [.l (dg16 (if okR (x5) then xR (x5) else 0)), .l (dg16 (if okR (x5) then yV (x5) else 0))]) else none) else none) else none
theorem l24 : LamOk Try.prog (lamOf []) (codeOf Try.f24) := lamOk_nil
def G24 : GFn := ⟨[], .agg [.arr .u64 16, .arr .u64 16], apH [] raw24⟩
theorem ok24 : EntryOk Try.prog 24 (.pure G24.sem) := gfn_pure (u := 70) envOk24 mix Try.func24 (by kernel_rfl) (by kernel_rfl) l24 G24 (by kernel_rfl) (by kernel_rfl) [] rfl (by show _ = _; kernel_rfl)
/-! ### 13: towpath/towpathref1.PointAdd (pure) -/
noncomputable def env13 : List (FuncId × Entry) := [(21, .pure C21.sem), (22, .pure C22.sem), (27, .pure C27.sem), (28, .pure C28.sem), (29, .pure C29.sem), (30, .pure C30.sem)]
theorem envOk13 : EnvOk Try.prog (envOf env13) := envOf_ok (all_cons cok21 (all_cons cok22 (all_cons cok27 (all_cons cok28 (all_cons cok29 (all_cons cok30 (all_nil)))))))
def raw13 (a0 : List Int) (a1 : List Int) : Option (List Hv) := bif !(okR (a0)) then (some [.l (List.replicate 32 0), .b (false)]) else (bif !(okR (a1)) then (some [.l (List.replicate 32 0), .b (false)]) else (let x1 : List Int := dg16 (if okR (a0) then xR (a0) else 0); let x2 : List Int := dg16 (if okR (a0) then yV (a0) else 0); let x3 : List Int := dg16 (if okR (a1) then xR (a1) else 0); let x4 : List Int := dg16 (if okR (a1) then yV (a1) else 0); bif carried (x1) && carried (x2) && carried (dg16 1) && carried (x3) && carried (x4) && carried (dg16 1) && carried (dg16 deeR) then (let x5 : List Int := dg16 (plusR ⟨v16 (x1), v16 (x2), v16 (dg16 1)⟩ ⟨v16 (x3), v16 (x4), v16 (dg16 1)⟩ (v16 (dg16 deeR))).x; let x6 : List Int := dg16 (plusR ⟨v16 (x1), v16 (x2), v16 (dg16 1)⟩ ⟨v16 (x3), v16 (x4), v16 (dg16 1)⟩ (v16 (dg16 deeR))).y; let x7 : List Int := dg16 (plusR ⟨v16 (x1), v16 (x2), v16 (dg16 1)⟩ ⟨v16 (x3), v16 (x4), v16 (dg16 1)⟩ (v16 (dg16 deeR))).z; bif carried (x5) && carried (x6) && carried (x7) then (let x8 : List Int := dg16 (rm (v16 (x5)) (rpow 43 (v16 (x7)) 255 1)); let x9 : List Int := dg16 (rm (v16 (x6)) (rpow 43 (v16 (x7)) 255 1)); bif carried (x8) && carried (x9) then (some [.l (encL (v16 (x8)) (v16 (x9))), .b (true)]) else none) else none) else none))
theorem l13 : LamOk Try.prog (lamOf []) (codeOf Try.f13) := lamOk_nil
def G13 : GFn := ⟨[.arr .u8 32, .arr .u8 32], .tup [.arr .u8 32, .bool], apH [.l, .l] raw13⟩
theorem ok13 : EntryOk Try.prog 13 (.pure G13.sem) := gfn_pure (u := 70) envOk13 mix Try.func13 (by kernel_rfl) (by kernel_rfl) l13 G13 (by kernel_rfl) (by kernel_rfl) [.l, .l] rfl (fun a0 a1 => by show _ = _; kernel_rfl)
theorem at13 (a0 : List Int) (a1 : List Int) : G13.fn [.l a0, .l a1] = raw13 a0 a1 := (congrFun (show G13.fn = apH [.l, .l] raw13 from rfl) _).trans ((fun F => rfl : ∀ F : List Int → List Int → Option (List Hv), apH [.l, .l] F [.l a0, .l a1] = F a0 a1) raw13)
/-! ### 15: towpath/towpathref1.Neg (pure) -/
noncomputable def env15 : List (FuncId × Entry) := [(21, .pure C21.sem), (22, .pure C22.sem), (32, .pure C32w.sem)]
theorem envOk15 : EnvOk Try.prog (envOf env15) := envOf_ok (all_cons cok21 (all_cons cok22 (all_cons cok32w (all_nil))))
def raw15 (a0 : List Int) : Option (List Hv) := bif !(okR (a0)) then (some [.l (List.replicate 32 0), .b (false)]) else (let x1 : List Int := List.replicate 16 0; let x2 : List Int := dg16 (if okR (a0) then xR (a0) else 0); bif carried (x1) && lim17 (x2) then (let x3 : List Int := dg16 (fo (fo (v16 (x1) - v16 (x2) + 231584178474632390847141970017375815706539969331281128078915168015826259279796))); let x4 : List Int := dg16 (if okR (a0) then yV (a0) else 0); bif carried (x3) && carried (x4) then (some [.l (encL (v16 (x3)) (v16 (x4))), .b (true)]) else none) else none)
theorem l15 : LamOk Try.prog (lamOf []) (codeOf Try.f15) := lamOk_nil
def G15 : GFn := ⟨[.arr .u8 32], .tup [.arr .u8 32, .bool], apH [.l] raw15⟩
theorem ok15 : EntryOk Try.prog 15 (.pure G15.sem) := gfn_pure (u := 70) envOk15 mix Try.func15 (by kernel_rfl) (by kernel_rfl) l15 G15 (by kernel_rfl) (by kernel_rfl) [.l] rfl (fun a0 => by show _ = _; kernel_rfl)
theorem at15 (a0 : List Int) : G15.fn [.l a0] = raw15 a0 := (congrFun (show G15.fn = apH [.l] raw15 from rfl) _).trans ((fun F => rfl : ∀ F : List Int → Option (List Hv), apH [.l] F [.l a0] = F a0) raw15)
end Go.Proofs.Ytibldmjnddppaaa.Fld
set_option linter.unusedVariables false
set_option maxRecDepth 100000
namespace Go.Proofs.Ytibldmjnddppaaa.Fld
open Go Go.Sim Go.Fld

/-- bytes of a part -/
def quoL (x y : List Int) : List Int := dg32 (v16 (dg16 (fo (fo (v16 (convL y (dg16 (rpowL 43 x 255 1))))))) % p)
def li5 : List Int := [5, 0, 0, 0, 0, 0, 0, 0, 0, 0, 0, 0, 0, 0, 0, 0]
def li4 : List Int := [4, 0, 0, 0, 0, 0, 0, 0, 0, 0, 0, 0, 0, 0, 0, 0]
def yB : List Int := quoL li5 li4
def selX (b : List Int) : Int := if okR b then xR b else 0
def selY (b : List Int) : Int := if okR b then yV b else 0
theorem some_eq (v : Int) : ∃ x, x = v := ⟨v, rfl⟩
/-- the base point's numbers: not for the kernel to reckon -/
noncomputable def bxR : Int := Classical.choose (some_eq (selX yB))
noncomputable def byR : Int := Classical.choose (some_eq (selY yB))
theorem bxR_eq : bxR = selX yB := Classical.choose_spec (some_eq (selX yB))
theorem byR_eq : byR = selY yB := Classical.choose_spec (some_eq (selY yB))
theorem raw24_is : raw24 = some [.l (dg16 bxR), .l (dg16 byR)] := by
  have h5 : lim18 li5 = true := by decide +kernel
  have h4 : lim18 li4 = true := by decide +kernel
  have key : ∀ (x1 x2 : List Int), lim18 x1 = true → lim18 x2 = true →
      (bif lim18 (x1) then (let x3 : List Int := dg16 (rpowL 43 (x1) 255 1); bif lim18 (x2) && lim18 (x3) then (let x4 : List Int := dg16 (fo (fo (v16 (convL (x2) (x3))))); bif (x4).all fun y => decide (y < 144115188075855872) then (let x5 : List Int := dg32 (v16 (x4) % p); some [Hv.l (dg16 (if okR (x5) then xR (x5) else 0)), Hv.l (dg16 (if okR (x5) then yV (x5) else 0))]) else none) else none) else none) =
      some [.l (dg16 (selX (quoL x1 x2))), .l (dg16 (selY (quoL x1 x2)))] := by
    intro x1 x2 e1 e2
    dsimp only
    rw [e1, cond_true, e2, lim_dg16, Bool.and_self, cond_true, all57_dg16, cond_true]
    rfl
  rw [bxR_eq, byR_eq]
  exact key li5 li4 h5 h4
noncomputable def C24 : CFn := ⟨[], .agg [.arr .u64 16, .arr .u64 16], fun _ => true, fun _ => [.l (dg16 bxR), .l (dg16 byR)]⟩
theorem g24a : G24.fn = apH [] raw24 := rfl
theorem g24b : ∀ F : Option (List Hv), apH [] F [] = F := fun _ => rfl
theorem g24 : G24.fn [] = some [.l (dg16 bxR), .l (dg16 byR)] := by rw [g24a, g24b, raw24_is]
theorem cok24 : EntryOk Try.prog 24 (.pure C24.sem) := cfn_at rfl rfl rfl ok24 (fun _ => g24)

theorem xR_in (b : List Int) : 0 ≤ xR b ∧ xR b < Q := by
  have wr := rep_self (rootR_in (xxR (yV b)))
  unfold xR
  split
  · exact ⟨wr.lo, wr.hi⟩
  · have := rs_rep rep0 wr; exact ⟨this.lo, this.hi⟩
def pR (b : List Int) : T3 := ⟨xR b, yV b, 1⟩
theorem pR_in {b : List Int} (hb : b.length = 32) (rb : ∀ y ∈ b, 0 ≤ y ∧ y < 256) : In3 (pR b) := by
  have hx := rep_self (xR_in b)
  have hy := rep_self (yV_in hb rb)
  unfold In3 pR
  generalize xR b = X at *
  generalize yV b = Y at *
  exact ⟨hx, hy, rep1⟩
def encR (r : T3) : List Int := encL (narR r).1 (narR r).2
theorem narR_in (r : T3) : (0 ≤ (narR r).1 ∧ (narR r).1 < Q) ∧ 0 ≤ (narR r).2 ∧ (narR r).2 < Q := ⟨rm_in _ _, rm_in _ _⟩

def C13 : CFn := ⟨[.arr .u8 32, .arr .u8 32], .tup [.arr .u8 32, .bool], fun _ => true, fun hs => [.l (if okR (hl hs 0) && okR (hl hs 1) then encR (plusR (pR (hl hs 0)) (pR (hl hs 1)) deeR) else dg32 0), .b (okR (hl hs 0) && okR (hl hs 1))]⟩
/-- the tail, whatever the number of the curve -/
theorem tail13 {d xa ya xb yb : Int} (hd : Rep d d) (ha : In3 ⟨xa, ya, 1⟩) (hb : In3 ⟨xb, yb, 1⟩) :
    (bif carried (dg16 xa) && carried (dg16 ya) && carried (dg16 1) && carried (dg16 xb) && carried (dg16 yb) && carried (dg16 1) && carried (dg16 d) then (bif carried (dg16 (plusR ⟨v16 (dg16 xa), v16 (dg16 ya), v16 (dg16 1)⟩ ⟨v16 (dg16 xb), v16 (dg16 yb), v16 (dg16 1)⟩ (v16 (dg16 d))).x) && carried (dg16 (plusR ⟨v16 (dg16 xa), v16 (dg16 ya), v16 (dg16 1)⟩ ⟨v16 (dg16 xb), v16 (dg16 yb), v16 (dg16 1)⟩ (v16 (dg16 d))).y) && carried (dg16 (plusR ⟨v16 (dg16 xa), v16 (dg16 ya), v16 (dg16 1)⟩ ⟨v16 (dg16 xb), v16 (dg16 yb), v16 (dg16 1)⟩ (v16 (dg16 d))).z) then (bif carried (dg16 (rm (v16 (dg16 (plusR ⟨v16 (dg16 xa), v16 (dg16 ya), v16 (dg16 1)⟩ ⟨v16 (dg16 xb), v16 (dg16 yb), v16 (dg16 1)⟩ (v16 (dg16 d))).x)) (rpow 43 (v16 (dg16 (plusR ⟨v16 (dg16 xa), v16 (dg16 ya), v16 (dg16 1)⟩ ⟨v16 (dg16 xb), v16 (dg16 yb), v16 (dg16 1)⟩ (v16 (dg16 d))).z)) 255 1))) && carried (dg16 (rm (v16 (dg16 (plusR ⟨v16 (dg16 xa), v16 (dg16 ya), v16 (dg16 1)⟩ ⟨v16 (dg16 xb), v16 (dg16 yb), v16 (dg16 1)⟩ (v16 (dg16 d))).y)) (rpow 43 (v16 (dg16 (plusR ⟨v16 (dg16 xa), v16 (dg16 ya), v16 (dg16 1)⟩ ⟨v16 (dg16 xb), v16 (dg16 yb), v16 (dg16 1)⟩ (v16 (dg16 d))).z)) 255 1))) then (some [Hv.l (encL (v16 (dg16 (rm (v16 (dg16 (plusR ⟨v16 (dg16 xa), v16 (dg16 ya), v16 (dg16 1)⟩ ⟨v16 (dg16 xb), v16 (dg16 yb), v16 (dg16 1)⟩ (v16 (dg16 d))).x)) (rpow 43 (v16 (dg16 (plusR ⟨v16 (dg16 xa), v16 (dg16 ya), v16 (dg16 1)⟩ ⟨v16 (dg16 xb), v16 (dg16 yb), v16 (dg16 1)⟩ (v16 (dg16 d))).z)) 255 1)))) (v16 (dg16 (rm (v16 (dg16 (plusR ⟨v16 (dg16 xa), v16 (dg16 ya), v16 (dg16 1)⟩ ⟨v16 (dg16 xb), v16 (dg16 yb), v16 (dg16 1)⟩ (v16 (dg16 d))).y)) (rpow 43 (v16 (dg16 (plusR ⟨v16 (dg16 xa), v16 (dg16 ya), v16 (dg16 1)⟩ ⟨v16 (dg16 xb), v16 (dg16 yb), v16 (dg16 1)⟩ (v16 (dg16 d))).z)) 255 1))))), Hv.b (true)]) else none) else none) else none) =
    some [.l (encR (plusR ⟨xa, ya, 1⟩ ⟨xb, yb, 1⟩ d)), .b true] := by
  have hs := In3.plus hd ha hb
  have hn := narR_in (plusR ⟨xa, ya, 1⟩ ⟨xb, yb, 1⟩ d)
  rw [show v16 (dg16 xa) = xa from ha.x.v16, show v16 (dg16 ya) = ya from ha.y.v16, rep1.v16, show v16 (dg16 xb) = xb from hb.x.v16, show v16 (dg16 yb) = yb from hb.y.v16, hd.v16, hs.x.v16, hs.y.v16, hs.z.v16]
  rw [carried_dg16 xa, carried_dg16 ya, carried_dg16 1, carried_dg16 xb, carried_dg16 yb, carried_dg16 d, Bool.and_self, Bool.and_self, Bool.and_self, Bool.and_self, Bool.and_self, Bool.and_self, cond_true]
  rw [carried_dg16, carried_dg16, carried_dg16, Bool.and_self, Bool.and_self, cond_true, carried_dg16, carried_dg16, Bool.and_self, cond_true]
  rw [v16_in (rm_in _ _).1 (rm_in _ _).2, v16_in (rm_in _ _).1 (rm_in _ _).2]
  unfold encR narR
  rfl
theorem raw13_is {a b : List Int} (ha : a.length = 32) (ra' : ∀ y ∈ a, 0 ≤ y ∧ y < 256) (hb : b.length = 32) (rb : ∀ y ∈ b, 0 ≤ y ∧ y < 256) :
    raw13 a b = some [.l (if okR a && okR b then encR (plusR (pR a) (pR b) deeR) else dg32 0), .b (okR a && okR b)] := by
  unfold raw13
  cases h1 : okR a with
  | false => rw [Bool.not_false, cond_true, Bool.false_and, if_neg (by decide), zero32']
  | true =>
    cases h2 : okR b with
    | false => rw [Bool.not_true, cond_false, Bool.not_false, cond_true, Bool.and_false, if_neg (by decide), zero32']
    | true =>
      rw [Bool.not_true, cond_false, cond_false, Bool.and_self, if_pos rfl]
      dsimp only
      rw [if_pos rfl, if_pos rfl, if_pos rfl, if_pos rfl]
      exact tail13 rep_deeR (pR_in ha ra') (pR_in hb rb)
theorem cok13 : EntryOk Try.prog 13 (.pure C13.sem) := cfn_at rfl rfl rfl ok13 (fun a ha ra' b hb rb _ => (at13 a b).trans (raw13_is ha ra' hb rb))

def negR (b : List Int) : List Int := encL (rs 0 (xR b)) (yV b)
def C15 : CFn := ⟨[.arr .u8 32], .tup [.arr .u8 32, .bool], fun _ => true, fun hs => [.l (if okR (hl hs 0) then negR (hl hs 0) else dg32 0), .b (okR (hl hs 0))]⟩
theorem raw15_is {b : List Int} (hb : b.length = 32) (rb : ∀ y ∈ b, 0 ≤ y ∧ y < 256) : raw15 b = some [.l (if okR b then negR b else dg32 0), .b (okR b)] := by
  unfold raw15
  have wx := rep_self (xR_in b)
  have wy := rep_self (yV_in hb rb)
  have wn := rs_rep rep0 wx
  cases h1 : okR b with
  | false => rw [Bool.not_false, cond_true, if_neg (by decide), zero32']
  | true =>
    rw [Bool.not_true, cond_false, if_pos rfl]
    dsimp only
    rw [if_pos rfl, if_pos rfl, zero16, carried_dg16, lim17_dg16, Bool.and_self, cond_true, carried_dg16, carried_dg16, Bool.and_self, cond_true, rep0.v16, wx.v16, show ∀ u v, fo (fo (u - v + 231584178474632390847141970017375815706539969331281128078915168015826259279796)) = rs u v from fun _ _ => rfl, wn.v16, wy.v16]
    rfl
theorem cok15 : EntryOk Try.prog 15 (.pure C15.sem) := cfn_at rfl rfl rfl ok15 (fun b hb rb _ => (at15 b).trans (raw15_is hb rb))
end Go.Proofs.Ytibldmjnddppaaa.Fld
set_option linter.unusedVariables false
set_option maxRecDepth 100000
namespace Go.Proofs.Ytibldmjnddppaaa.Fld
open Go Go.Sim
open Go.Proofs Go.Fld

/-! ### 11: towpath/towpathref1.Base (pure) -/
noncomputable def env11 : List (FuncId × Entry) := [(22, .pure C22.sem), (23, .pure C23.sem), (24, .pure C24.sem)]
theorem envOk11 : EnvOk Try.prog (envOf env11) := envOf_ok (all_cons cok22 (all_cons cok23 (all_cons cok24 (all_nil))))
noncomputable def raw11 (a0 : List Int) : Option (List Hv) := bif carried (dg16 bxR) && carried (dg16 byR) then (let x1 : List Int := dg16 (narR (timesR (a0) ⟨v16 (dg16 bxR), v16 (dg16 byR), 1⟩ deeR 256 noR)).1; let x2 : List Int := dg16 (narR (timesR (a0) ⟨v16 (dg16 bxR), v16 (dg16 byR), 1⟩ deeR 256 noR)).2; bif carried (x1) && carried (x2) then (some [.l (encL (v16 (x1)) (v16 (x2)))]) else none) else none
theorem l11 : LamOk Try.prog (lamOf []) (codeOf Try.f11) := lamOk_nil
noncomputable def G11 : GFn := ⟨[.arr .u8 32], .arr .u8 32, apH [.l] raw11⟩
theorem ok11 : EntryOk Try.prog 11 (.pure G11.sem) := gfn_pure (u := 70) envOk11 mix Try.func11 (by kernel_rfl) (by kernel_rfl) l11 G11 (by kernel_rfl) (by kernel_rfl) [.l] rfl (fun a0 => by show _ = _; kernel_rfl)
theorem at11 (a0 : List Int) : G11.fn [.l a0] = raw11 a0 := (congrFun (show G11.fn = apH [.l] raw11 from rfl) _).trans ((fun F => rfl : ∀ F : List Int → Option (List Hv), apH [.l] F [.l a0] = F a0) raw11)
end Go.Proofs.Ytibldmjnddppaaa.Fld
set_option linter.unusedVariables false
set_option maxRecDepth 100000
namespace Go.Proofs.Ytibldmjnddppaaa.Fld
open Go Go.Sim Go.Fld

theorem ov_pow (v : Int) : ovM v % p = v ^ rexp 43 255 % p := by unfold ovM; rw [powF_one, e43]
theorem ov_mul (a b : Int) : Cg (ovM (a * b)) (ovM a * ovM b) := by
  unfold Cg
  rw [ov_pow, Int.mul_pow, ← mm_l, ← mm_r, ← ov_pow a, ← ov_pow b, mm_l, mm_r]
theorem ov_inv {v : Int} (h : v % p ≠ 0) : Cg (v * ovM v) 1 := by
  unfold Cg
  rw [← mm_r, ov_pow, mm_r, ← Int.pow_succ', e43b, fermatP h]; rfl
theorem ov_one : Cg (ovM 1) 1 := by
  have := ov_inv (v := 1) (by decide)
  rwa [Int.one_mul] at this
theorem alg (g h m : Int) : Cg (2 * m * (2 * g) * ovM (2 * g * (2 * h))) (1 * 1 * (g * m) * ovM (g * h)) := by
  have e1 : 2 * g * (2 * h) = 4 * (g * h) := by grind
  rw [e1]
  have h1 : Cg (2 * m * (2 * g) * ovM (4 * (g * h))) (2 * m * (2 * g) * (ovM 4 * ovM (g * h))) := (Cg.refl _).mul (ov_mul _ _)
  have e2 : 2 * m * (2 * g) * (ovM 4 * ovM (g * h)) = g * m * ovM (g * h) * (4 * ovM 4) := by
    generalize ovM 4 = A
    generalize ovM (g * h) = B
    grind
  rw [e2] at h1
  have h2 : Cg (g * m * ovM (g * h) * (4 * ovM 4)) (g * m * ovM (g * h) * 1) := (Cg.refl _).mul (ov_inv (by decide))
  have e3 : ∀ X : Int, 1 * 1 * (g * m) * X = g * m * X * 1 := fun X => by grind
  rw [e3]
  exact h1.trans h2
theorem sum_e (a b c d : Int) : Cg ((sumE ⟨a, b, 1, a * b⟩ ⟨c, d, 1, c * d⟩).x * ovM (sumE ⟨a, b, 1, a * b⟩ ⟨c, d, 1, c * d⟩).z) ((plusE ⟨a, b, 1⟩ ⟨c, d, 1⟩ DD).x * ovM (plusE ⟨a, b, 1⟩ ⟨c, d, 1⟩ DD).z) ∧
    Cg ((sumE ⟨a, b, 1, a * b⟩ ⟨c, d, 1, c * d⟩).y * ovM (sumE ⟨a, b, 1, a * b⟩ ⟨c, d, 1, c * d⟩).z) ((plusE ⟨a, b, 1⟩ ⟨c, d, 1⟩ DD).y * ovM (plusE ⟨a, b, 1⟩ ⟨c, d, 1⟩ DD).z) := by
  simp only [sumE, plusE]
  generalize DD = D
  have e1 : (b + a) * (d + c) - (b - a) * (d - c) = 2 * ((a + b) * (c + d) - (a * c + b * d)) := by grind
  have e2 : 1 * 1 + 1 * 1 - (a * b * (c * d) + a * b * (c * d)) * D = 2 * (1 * 1 * (1 * 1) - D * (a * c * (b * d))) := by grind
  have e3 : 1 * 1 + 1 * 1 + (a * b * (c * d) + a * b * (c * d)) * D = 2 * (1 * 1 * (1 * 1) + D * (a * c * (b * d))) := by grind
  have e4 : (b + a) * (d + c) + (b - a) * (d - c) = 2 * (b * d + a * c) := by grind
  rw [e1, e2, e3, e4]
  generalize 1 * 1 * (1 * 1) - D * (a * c * (b * d)) = g
  generalize 1 * 1 * (1 * 1) + D * (a * c * (b * d)) = h
  refine ⟨alg g h _, ?_⟩
  have := alg h g (b * d + a * c)
  rw [show 2 * h * (2 * (b * d + a * c)) = 2 * (b * d + a * c) * (2 * h) by rw [Int.mul_comm], show 2 * g * (2 * h) = 2 * h * (2 * g) by rw [Int.mul_comm], show g * h = h * g by rw [Int.mul_comm]]
  exact this

theorem pM_rep {b : List Int} (hb : b.length = 32) (rb : ∀ y ∈ b, 0 ≤ y ∧ y < 256) : Rep4 (pM b) ⟨xM b, yV b, 1, xM b * yV b⟩ := by
  have hx := rep_self (xM_in b)
  have hy := rep_self (yV_in hb rb)
  unfold pM
  generalize xM b = X at *
  generalize yV b = Y at *
  exact ⟨hx, hy, rep1, pr_rep hx hy⟩
theorem pR_rep {b : List Int} (hb : b.length = 32) (rb : ∀ y ∈ b, 0 ≤ y ∧ y < 256) (hok : okM b = true) : Rep3 (pR b) ⟨xM b, yV b, 1⟩ := by
  have hx := rep_self (xR_in b)
  have hy := rep_self (yV_in hb rb)
  have hc := (x_same hb rb hok).symm
  unfold pR
  generalize xM b = X at *
  generalize xR b = X' at *
  generalize yV b = Y at *
  exact ⟨hx.to hc, hy, rep1⟩
theorem encM_cg {P e : M4} (h : Rep4 P e) : encM P = encL (e.x * ovM e.z) (e.y * ovM e.z) := encL_cong (pr_rep h.x (ov_rep h.z)).cg (pr_rep h.y (ov_rep h.z)).cg
theorem encR_cg {P e : T3} (h : Rep3 P e) : encR P = encL (e.x * ovM e.z) (e.y * ovM e.z) := encL_cong (rm_rep h.x (iv_rep h.z)).cg (rm_rep h.y (iv_rep h.z)).cg
theorem sum_same {a b : List Int} (ha : a.length = 32) (ra' : ∀ y ∈ a, 0 ≤ y ∧ y < 256) (hb : b.length = 32) (rb : ∀ y ∈ b, 0 ≤ y ∧ y < 256) (oa : okM a = true) (ob : okM b = true) :
    encM (sumM (pM a) (pM b)) = encR (plusR (pR a) (pR b) deeR) := by
  rw [encM_cg (sumM_rep (pM_rep ha ra') (pM_rep hb rb)), encR_cg (plusR_rep (pR_rep ha ra' oa) (pR_rep hb rb ob) deeR_rep)]
  have := sum_e (xM a) (yV a) (xM b) (yV b)
  exact encL_cong this.1 this.2
theorem neg_same {b : List Int} (hb : b.length = 32) (rb : ∀ y ∈ b, 0 ≤ y ∧ y < 256) (ob : okM b = true) : negM b = negR b := by
  have hx := rep_self (xM_in b)
  have hy := rep_self (yV_in hb rb)
  have hx' := rep_self (xR_in b)
  have hc := x_same hb rb ob
  have o1 := ov_rep rep1
  unfold negM negR
  generalize xM b = X at *
  generalize xR b = X' at *
  generalize yV b = Y at *
  refine encL_cong ?_ ?_
  · have h1 := (pr_rep (dM_rep rep0 hx) o1).cg.trans ((Cg.refl (0 - X)).mul ov_one)
    rw [Int.mul_one] at h1
    exact h1.trans (((Cg.refl 0).sub hc).trans (rs_rep rep0 hx').cg.symm)
  · have h1 := (pr_rep hy o1).cg.trans ((Cg.refl Y).mul ov_one)
    rw [Int.mul_one] at h1
    exact h1

theorem encL_in (x y : Int) : (encL x y).length = 32 ∧ ∀ v ∈ encL x y, 0 ≤ v ∧ v < 256 := by
  unfold encL
  have hl := dg32_l (y % p)
  have hr : ∀ v ∈ dg32 (y % p), 0 ≤ v ∧ v < 256 := digs_range (by decide) _ _
  have hz : 0 ≤ orI .u8 ((dg32 (y % p)).getD 31 0) (if x % p % 2 = 1 then 128 else 0) ∧ orI .u8 ((dg32 (y % p)).getD 31 0) (if x % p % 2 = 1 then 128 else 0) < 256 := by
    have h31 := getD31 hl hr
    obtain ⟨n, hn⟩ := Int.eq_ofNat_of_zero_le h31.1
    have hn2 : n < 2 ^ 8 := by omega
    rw [hn]
    split
    · rw [show (128 : Int) = ((128 : Nat) : Int) from rfl, orI_nat8 hn2 (by decide)]
      have := Nat.or_lt_two_pow hn2 (show 128 < 2 ^ 8 by decide)
      omega
    · rw [orI8_zero (by omega)]; omega
  generalize orI .u8 ((dg32 (y % p)).getD 31 0) (if x % p % 2 = 1 then 128 else 0) = z at *
  generalize dg32 (y % p) = l at *
  obtain ⟨a0, a1, a2, a3, a4, a5, a6, a7, a8, a9, a10, a11, a12, a13, a14, a15, a16, a17, a18, a19, a20, a21, a22, a23, a24, a25, a26, a27, a28, a29, a30, a31, rfl⟩ := len32 hl
  refine ⟨rfl, fun v hv => ?_⟩
  have hv' : v ∈ [a0, a1, a2, a3, a4, a5, a6, a7, a8, a9, a10, a11, a12, a13, a14, a15, a16, a17, a18, a19, a20, a21, a22, a23, a24, a25, a26, a27, a28, a29, a30] ++ [z] := hv
  rcases List.mem_append.1 hv' with hv | hv
  · refine hr v ?_
    rw [show [a0, a1, a2, a3, a4, a5, a6, a7, a8, a9, a10, a11, a12, a13, a14, a15, a16, a17, a18, a19, a20, a21, a22, a23, a24, a25, a26, a27, a28, a29, a30, a31] = [a0, a1, a2, a3, a4, a5, a6, a7, a8, a9, a10, a11, a12, a13, a14, a15, a16, a17, a18, a19, a20, a21, a22, a23, a24, a25, a26, a27, a28, a29, a30] ++ [a31] from rfl]
    exact List.mem_append_left _ hv
  · rw [List.mem_singleton.1 hv]; exact hz

/-- the base point, so many times, as the other reckoning has it -/
noncomputable def baseR (k : List Int) : List Int := encR (timesR k ⟨bxR, byR, 1⟩ deeR 256 noR)
theorem baseR_in (k : List Int) : (baseR k).length = 32 ∧ ∀ v ∈ baseR k, 0 ≤ v ∧ v < 256 := encL_in _ _
theorem selX_in (b : List Int) : 0 ≤ selX b ∧ selX b < Q := by
  unfold selX
  split
  · exact xR_in b
  · decide
theorem yB_in : yB.length = 32 ∧ ∀ v ∈ yB, 0 ≤ v ∧ v < 256 := by
  unfold yB quoL
  generalize v16 _ % p = v
  exact ⟨dg32_l _, digs_range (by decide) _ _⟩
theorem selY_in {b : List Int} (hb : b.length = 32) (rb : ∀ y ∈ b, 0 ≤ y ∧ y < 256) : 0 ≤ selY b ∧ selY b < Q := by
  unfold selY
  split
  · exact yV_in hb rb
  · decide
theorem bR_in : Rep bxR bxR ∧ Rep byR byR := by
  have h1 := rep_self (selX_in yB)
  have h2 := rep_self (selY_in yB_in.1 yB_in.2)
  rw [← bxR_eq] at h1
  rw [← byR_eq] at h2
  exact ⟨h1, h2⟩
noncomputable def C11 : CFn := ⟨[.arr .u8 32], .arr .u8 32, fun _ => true, fun hs => [.l (baseR (hl hs 0))]⟩
theorem tail11 {x y d : Int} (hx : Rep x x) (hy : Rep y y) (hd : Rep d d) (k : List Int) :
    (bif carried (dg16 x) && carried (dg16 y) then (bif carried (dg16 (narR (timesR k ⟨v16 (dg16 x), v16 (dg16 y), 1⟩ d 256 noR)).1) && carried (dg16 (narR (timesR k ⟨v16 (dg16 x), v16 (dg16 y), 1⟩ d 256 noR)).2) then (some [Hv.l (encL (v16 (dg16 (narR (timesR k ⟨v16 (dg16 x), v16 (dg16 y), 1⟩ d 256 noR)).1)) (v16 (dg16 (narR (timesR k ⟨v16 (dg16 x), v16 (dg16 y), 1⟩ d 256 noR)).2)))]) else none) else none) =
    some [.l (encR (timesR k ⟨x, y, 1⟩ d 256 noR))] := by
  rw [carried_dg16, carried_dg16, Bool.and_self, cond_true, hx.v16, hy.v16, carried_dg16, carried_dg16, Bool.and_self, cond_true, v16_in (narR_in _).1.1 (narR_in _).1.2, v16_in (narR_in _).2.1 (narR_in _).2.2]
  rfl
theorem raw11_is (k : List Int) : raw11 k = some [.l (baseR k)] := by
  unfold raw11
  exact tail11 bR_in.1 bR_in.2 rep_deeR k
theorem cok11 : EntryOk Try.prog 11 (.pure C11.sem) := cfn_at rfl rfl rfl ok11 (fun k hk rk _ => (at11 k).trans (raw11_is k))
end Go.Proofs.Ytibldmjnddppaaa.Fld
set_option linter.unusedVariables false
set_option maxRecDepth 100000
namespace Go.Proofs.Ytibldmjnddppaaa.Fld
open Go Go.Sim
open Go.Proofs Go.Fld

/-! ### 4: towpath/towpathlaw4.PointSums (pure) -/
noncomputable def env4 : List (FuncId × Entry) := [(8, .pure C8.sem), (11, .pure C11.sem), (12, .pure C12.sem), (13, .pure C13.sem), (14, .pure C14.sem), (15, .pure C15.sem)]
theorem envOk4 : EnvOk Try.prog (envOf env4) := envOf_ok (all_cons cok8 (all_cons cok11 (all_cons cok12 (all_cons cok13 (all_cons cok14 (all_cons cok15 (all_nil)))))))
noncomputable def raw4 (a0 : List Int) (a1 : List Int) (a2 : Bool) : Option (List Hv) := bif a2 then (bif arrEq 32 (if okM (baseR (a1)) && okM (baseR (a1)) then encM (sumM (pM (baseR (a1))) (pM (baseR (a1)))) else dg32 0) (if okR (baseR (a1)) && okR (baseR (a1)) then encR (plusR (pR (baseR (a1))) (pR (baseR (a1))) deeR) else dg32 0) then (bif (okM (baseR (a1)) && okM (baseR (a1))) == (okR (baseR (a1)) && okR (baseR (a1))) then (bif arrEq 32 (if okM (baseR (a1)) then negM (baseR (a1)) else dg32 0) (if okR (baseR (a1)) then negR (baseR (a1)) else dg32 0) then (some [.b ((okM (baseR (a1))) == (okR (baseR (a1))))]) else (some [.b (false)])) else (some [.b (false)])) else (some [.b (false)])) else (bif arrEq 32 (if okM (baseR (a1)) && okM (a0) then encM (sumM (pM (baseR (a1))) (pM (a0))) else dg32 0) (if okR (baseR (a1)) && okR (a0) then encR (plusR (pR (baseR (a1))) (pR (a0)) deeR) else dg32 0) then (bif (okM (baseR (a1)) && okM (a0)) == (okR (baseR (a1)) && okR (a0)) then (bif arrEq 32 (if okM (a0) then negM (a0) else dg32 0) (if okR (a0) then negR (a0) else dg32 0) then (some [.b ((okM (a0)) == (okR (a0)))]) else (some [.b (false)])) else (some [.b (false)])) else (some [.b (false)]))
theorem l4 : LamOk Try.prog (lamOf []) (codeOf Try.f4) := lamOk_nil
theorem ev4 (a0 : List Int) (a1 : List Int) (a2 : Bool) : evalF Try.prog (envOf env4) (lamOf []) 70 Try.f4 (codeOf Try.f4) [.arr .u8 32 a0, .arr .u8 32 a1, .bool a2] [] 0 (fun v _ => matchP .bool v) = raw4 a0 a1 a2 := by kernel_rfl
end Go.Proofs.Ytibldmjnddppaaa.Fld
set_option linter.unusedVariables false
set_option maxRecDepth 100000
namespace Go.Proofs.Ytibldmjnddppaaa.Fld
open Go Go.Sim Go.Fld
theorem add_same {a b : List Int} (ha : a.length = 32) (ra' : ∀ y ∈ a, 0 ≤ y ∧ y < 256) (hb : b.length = 32) (rb : ∀ y ∈ b, 0 ≤ y ∧ y < 256) :
    (if okM a && okM b then encM (sumM (pM a) (pM b)) else dg32 0) = (if okR a && okR b then encR (plusR (pR a) (pR b) deeR) else dg32 0) := by
  rw [← ok_same ha ra', ← ok_same hb rb]
  cases h1 : okM a with
  | false => rw [Bool.false_and, if_neg (by decide), if_neg (by decide)]
  | true =>
    cases h2 : okM b with
    | false => rw [Bool.and_false, if_neg (by decide), if_neg (by decide)]
    | true => rw [Bool.and_self, if_pos rfl, if_pos rfl, sum_same ha ra' hb rb h1 h2]
theorem turn_same {b : List Int} (hb : b.length = 32) (rb : ∀ y ∈ b, 0 ≤ y ∧ y < 256) : (if okM b then negM b else dg32 0) = (if okR b then negR b else dg32 0) := by
  rw [← ok_same hb rb]
  cases h1 : okM b with
  | false => rw [if_neg (by decide), if_neg (by decide)]
  | true => rw [if_pos rfl, if_pos rfl, neg_same hb rb h1]
theorem law4 (a k : List Int) (same : Bool) (w0 : a.length = 32) (r0 : ∀ y ∈ a, inK .u8 y) (w1 : k.length = 32) (r1 : ∀ y ∈ k, inK .u8 y) : raw4 a k same = some [.b true] := by
  unfold raw4
  have hb := baseR_in k
  generalize baseR k = P at *
  rw [add_same hb.1 hb.2 hb.1 hb.2, add_same hb.1 hb.2 w0 r0, turn_same hb.1 hb.2, turn_same w0 r0, ok_same hb.1 hb.2, ok_same w0 r0]
  rw [arrEq_self, arrEq_self, arrEq_self, arrEq_self, beq_self_eq_true, beq_self_eq_true, beq_self_eq_true, beq_self_eq_true]
  cases same <;> rfl
end Go.Proofs.Ytibldmjnddppaaa.Fld
