/- Points: sums, what is written and read. Points that are read. Points, so many times. Both reckonings read the same points. -/
import Derived.Test.YtibldmjnddppaaaProg
import Derived.Test.YtibldmjnddppaaaSimX2
import Derived.Test.YtibldmjnddppaaaPntX1
set_option linter.unusedVariables false
set_option maxRecDepth 100000
namespace Go.Proofs.Ytibldmjnddppaaa.Fld
open Go Go.Sim
open Go.Proofs Go.Fld

/-! ### 26: towpath/edwards.sum (pure) -/
noncomputable def env26 : List (FuncId × Entry) := [(31, .pure C31.sem), (39, .pure C39.sem), (41, .pure C41.sem), (42, .pure C42.sem)]
theorem envOk26 : EnvOk Try.prog (envOf env26) := envOf_ok (all_cons cok31 (all_cons cok39 (all_cons cok41 (all_cons cok42 (all_nil)))))
def raw26 (a0 : List Int) (a1 : List Int) (a2 : List Int) (a3 : List Int) (a4 : List Int) (a5 : List Int) (a6 : List Int) (a7 : List Int) : Option (List Hv) := let x1 : List Int := dg4 (fo (fo (fo (v4 (dg4 (fo (fo (v4 (a1) + v4 (a0))))) * v4 (dg4 (fo (fo (v4 (a5) + v4 (a4))))))))); let x2 : List Int := dg4 (fo (fo (fo (v4 (dg4 (bo (bo (v4 (a1) - v4 (a0))))) * v4 (dg4 (bo (bo (v4 (a5) - v4 (a4))))))))); let x3 : List Int := dg4 (bo (bo (v4 (x1) - v4 (x2)))); let x4 : List Int := dg4 (fo (fo (fo (v4 (a2) * v4 (a6))))); let x5 : List Int := dg4 (fo (fo (v4 (x4) + v4 (x4)))); let x6 : List Int := dg4 (fo (fo (fo (v4 (a3) * v4 (a7))))); let x7 : List Int := dg4 (fo (fo (fo (v4 (dg4 (fo (fo (v4 (x6) + v4 (x6))))) * v4 (dg4 DD))))); let x8 : List Int := dg4 (bo (bo (v4 (x5) - v4 (x7)))); let x9 : List Int := dg4 (fo (fo (v4 (x5) + v4 (x7)))); let x10 : List Int := dg4 (fo (fo (v4 (x1) + v4 (x2)))); some [.l (dg4 (fo (fo (fo (v4 (x3) * v4 (x8)))))), .l (dg4 (fo (fo (fo (v4 (x9) * v4 (x10)))))), .l (dg4 (fo (fo (fo (v4 (x8) * v4 (x9)))))), .l (dg4 (fo (fo (fo (v4 (x3) * v4 (x10))))))]
theorem l26 : LamOk Try.prog (lamOf []) (codeOf Try.f26) := lamOk_nil
def G26 : GFn := ⟨[.agg [.arr .u64 4, .arr .u64 4, .arr .u64 4, .arr .u64 4], .agg [.arr .u64 4, .arr .u64 4, .arr .u64 4, .arr .u64 4]], .agg [.arr .u64 4, .arr .u64 4, .arr .u64 4, .arr .u64 4], apH [.l, .l, .l, .l, .l, .l, .l, .l] raw26⟩
theorem ok26 : EntryOk Try.prog 26 (.pure G26.sem) := gfn_pure (u := 70) envOk26 mix Try.func26 (by kernel_rfl) (by kernel_rfl) l26 G26 (by kernel_rfl) (by kernel_rfl) [.l, .l, .l, .l, .l, .l, .l, .l] rfl (fun a0 a1 a2 a3 a4 a5 a6 a7 => by show _ = _; kernel_rfl)
theorem at26 (a0 : List Int) (a1 : List Int) (a2 : List Int) (a3 : List Int) (a4 : List Int) (a5 : List Int) (a6 : List Int) (a7 : List Int) : G26.fn [.l a0, .l a1, .l a2, .l a3, .l a4, .l a5, .l a6, .l a7] = raw26 a0 a1 a2 a3 a4 a5 a6 a7 := (congrFun (show G26.fn = apH [.l, .l, .l, .l, .l, .l, .l, .l] raw26 from rfl) _).trans ((fun F => rfl : ∀ F : List Int → List Int → List Int → List Int → List Int → List Int → List Int → List Int → Option (List Hv), apH [.l, .l, .l, .l, .l, .l, .l, .l] F [.l a0, .l a1, .l a2, .l a3, .l a4, .l a5, .l a6, .l a7] = F a0 a1 a2 a3 a4 a5 a6 a7) raw26)
/-! ### 28: towpath/towpathref1.plus (pure) -/
noncomputable def env28 : List (FuncId × Entry) := [(32, .pure C32w.sem), (46, .pure C46w.sem), (50, .pure C50.sem)]
theorem envOk28 : EnvOk Try.prog (envOf env28) := envOf_ok (all_cons cok32w (all_cons cok46w (all_cons cok50 (all_nil))))
def raw28 (a0 : List Int) (a1 : List Int) (a2 : List Int) (a3 : List Int) (a4 : List Int) (a5 : List Int) (a6 : List Int) : Option (List Hv) := bif lim18 (a2) && lim18 (a5) then (let x1 : List Int := dg16 (fo (fo (v16 (convL (a2) (a5))))); bif lim18 (x1) && lim18 (x1) then (bif lim18 (a0) && lim18 (a3) then (bif lim18 (a1) && lim18 (a4) then (let x2 : List Int := dg16 (fo (fo (v16 (convL (a0) (a3))))); let x3 : List Int := dg16 (fo (fo (v16 (convL (a1) (a4))))); bif lim18 (x2) && lim18 (x3) then (let x4 : List Int := dg16 (fo (fo (v16 (convL (x2) (x3))))); bif lim18 (a6) && lim18 (x4) then (let x5 : List Int := dg16 (fo (fo (v16 (convL (x1) (x1))))); let x6 : List Int := dg16 (fo (fo (v16 (convL (a6) (x4))))); bif carried (x5) && lim17 (x6) then (bif carried (x5) && carried (x6) then (bif carried (a0) && carried (a1) then (bif carried (a3) && carried (a4) then (let x7 : List Int := dg16 (fo (fo (v16 (a0) + v16 (a1)))); let x8 : List Int := dg16 (fo (fo (v16 (a3) + v16 (a4)))); bif lim18 (x7) && lim18 (x8) then (bif carried (x2) && carried (x3) then (let x9 : List Int := dg16 (fo (fo (v16 (convL (x7) (x8))))); let x10 : List Int := dg16 (fo (fo (v16 (x2) + v16 (x3)))); bif carried (x9) && lim17 (x10) then (let x11 : List Int := dg16 (fo (fo (v16 (x5) - v16 (x6) + 231584178474632390847141970017375815706539969331281128078915168015826259279796))); let x12 : List Int := dg16 (fo (fo (v16 (x9) - v16 (x10) + 231584178474632390847141970017375815706539969331281128078915168015826259279796))); bif lim18 (x11) && lim18 (x12) then (let x13 : List Int := dg16 (fo (fo (v16 (convL (x11) (x12))))); bif lim18 (x1) && lim18 (x13) then (bif carried (x3) && carried (x2) then (let x14 : List Int := dg16 (fo (fo (v16 (x5) + v16 (x6)))); let x15 : List Int := dg16 (fo (fo (v16 (x3) + v16 (x2)))); bif lim18 (x14) && lim18 (x15) then (let x16 : List Int := dg16 (fo (fo (v16 (convL (x14) (x15))))); bif lim18 (x1) && lim18 (x16) then (bif lim18 (x11) && lim18 (x14) then (some [.l (dg16 (fo (fo (v16 (convL (x1) (x13)))))), .l (dg16 (fo (fo (v16 (convL (x1) (x16)))))), .l (dg16 (fo (fo (v16 (convL (x11) (x14))))))]) else none) else none) else none) else none) else none) else none) else none) else none) else none) else none) else none) else none) else none) else none) else none) else none) else none) else none) else none
theorem l28 : LamOk Try.prog (lamOf []) (codeOf Try.f28) := lamOk_nil
def G28 : GFn := ⟨[.agg [.arr .u64 16, .arr .u64 16, .arr .u64 16], .agg [.arr .u64 16, .arr .u64 16, .arr .u64 16], .arr .u64 16], .agg [.arr .u64 16, .arr .u64 16, .arr .u64 16], apH [.l, .l, .l, .l, .l, .l, .l] raw28⟩
theorem ok28 : EntryOk Try.prog 28 (.pure G28.sem) := gfn_pure (u := 70) envOk28 mix Try.func28 (by kernel_rfl) (by kernel_rfl) l28 G28 (by kernel_rfl) (by kernel_rfl) [.l, .l, .l, .l, .l, .l, .l] rfl (fun a0 a1 a2 a3 a4 a5 a6 => by show _ = _; kernel_rfl)
theorem at28 (a0 : List Int) (a1 : List Int) (a2 : List Int) (a3 : List Int) (a4 : List Int) (a5 : List Int) (a6 : List Int) : G28.fn [.l a0, .l a1, .l a2, .l a3, .l a4, .l a5, .l a6] = raw28 a0 a1 a2 a3 a4 a5 a6 := (congrFun (show G28.fn = apH [.l, .l, .l, .l, .l, .l, .l] raw28 from rfl) _).trans ((fun F => rfl : ∀ F : List Int → List Int → List Int → List Int → List Int → List Int → List Int → Option (List Hv), apH [.l, .l, .l, .l, .l, .l, .l] F [.l a0, .l a1, .l a2, .l a3, .l a4, .l a5, .l a6] = F a0 a1 a2 a3 a4 a5 a6) raw28)
/-! ### 25: towpath/edwards.encode (pure) -/
noncomputable def env25 : List (FuncId × Entry) := [(39, .pure C39.sem), (40, .pure C40.sem), (53, .pure C53.sem), (54, .pure C54.sem)]
theorem envOk25 : EnvOk Try.prog (envOf env25) := envOf_ok (all_cons cok39 (all_cons cok40 (all_cons cok53 (all_cons cok54 (all_nil)))))
def raw25 (a0 : List Int) (a1 : List Int) (a2 : List Int) (a3 : List Int) : Option (List Hv) := let x1 : List Int := dg4 (powF (v4 (a2)) 57896044618658097711785492504343953926634992332820282019728792003956564819947 256 1); bif (andI .u64 ((dg4 (v4 (dg4 (fo (fo (fo (v4 (a0) * v4 (x1)))))) % p)).getD 0 0) (1)) == (1) then (let x2 : List Int := dg32 (v4 (dg4 (fo (fo (fo (v4 (a1) * v4 (x1)))))) % p); some [.l (setP 0 (x2) 31 (orI .u8 ((x2).getD 31 0) (128)))]) else (let x3 : List Int := dg32 (v4 (dg4 (fo (fo (fo (v4 (a1) * v4 (x1)))))) % p); some [.l (x3)])
theorem l25 : LamOk Try.prog (lamOf []) (codeOf Try.f25) := lamOk_nil
def G25 : GFn := ⟨[.agg [.arr .u64 4, .arr .u64 4, .arr .u64 4, .arr .u64 4]], .arr .u8 32, apH [.l, .l, .l, .l] raw25⟩
theorem ok25 : EntryOk Try.prog 25 (.pure G25.sem) := gfn_pure (u := 70) envOk25 mix Try.func25 (by kernel_rfl) (by kernel_rfl) l25 G25 (by kernel_rfl) (by kernel_rfl) [.l, .l, .l, .l] rfl (fun a0 a1 a2 a3 => by show _ = _; kernel_rfl)
theorem at25 (a0 : List Int) (a1 : List Int) (a2 : List Int) (a3 : List Int) : G25.fn [.l a0, .l a1, .l a2, .l a3] = raw25 a0 a1 a2 a3 := (congrFun (show G25.fn = apH [.l, .l, .l, .l] raw25 from rfl) _).trans ((fun F => rfl : ∀ F : List Int → List Int → List Int → List Int → Option (List Hv), apH [.l, .l, .l, .l] F [.l a0, .l a1, .l a2, .l a3] = F a0 a1 a2 a3) raw25)
/-! ### 20: towpath/edwards.decode (pure) -/
noncomputable def env20 : List (FuncId × Entry) := [(31, .pure C31.sem), (36, .pure C36.sem), (37, .pure C37.sem), (38, .pure C38.sem), (39, .pure C39.sem), (40, .pure C40.sem), (41, .pure C41.sem), (42, .pure C42.sem), (43, .pure C43.sem)]
theorem envOk20 : EnvOk Try.prog (envOf env20) := envOf_ok (all_cons cok31 (all_cons cok36 (all_cons cok37 (all_cons cok38 (all_cons cok39 (all_cons cok40 (all_cons cok41 (all_cons cok42 (all_cons cok43 (all_nil))))))))))
def raw20 (a0 : List Int) : Option (List Hv) := let x1 : List Int := setP 0 (a0) 31 (andI .u8 ((a0).getD 31 0) (127)); bif !(decide (v32 (x1) < p)) then (some [.l ([0, 0, 0, 0]), .l ([0, 0, 0, 0]), .l ([0, 0, 0, 0]), .l ([0, 0, 0, 0]), .b (false)]) else (let x2 : List Int := dg4 (v32 (x1)); let x3 : List Int := dg4 (fo (fo (fo (v4 (x2) * v4 (x2))))); let x4 : List Int := dg4 (fo (fo (fo (v4 (dg4 (bo (bo (v4 (x3) - v4 (dg4 (1)))))) * v4 (dg4 (powF (v4 (dg4 (fo (fo (v4 (dg4 (fo (fo (fo (v4 (dg4 DD) * v4 (x3)))))) + v4 (dg4 (1))))))) 57896044618658097711785492504343953926634992332820282019728792003956564819947 256 1)))))); bif !(sqM (v4 (x4))) then (some [.l ([0, 0, 0, 0]), .l ([0, 0, 0, 0]), .l ([0, 0, 0, 0]), .l ([0, 0, 0, 0]), .b (false)]) else (let x5 : Bool := (((a0).getD 31 0) / 128) == (1); bif x5 then (let x6 : List Int := if sqM (v4 (x4)) then dg4 (evenP (rootM (v4 (x4)) % p)) else dg4 0; bif arrEq 4 (x6) ([0, 0, 0, 0]) then (some [.l ([0, 0, 0, 0]), .l ([0, 0, 0, 0]), .l ([0, 0, 0, 0]), .l ([0, 0, 0, 0]), .b (false)]) else (bif x5 then (let x7 : List Int := dg4 (bo (bo (v4 ([0, 0, 0, 0]) - v4 (x6)))); some [.l (x7), .l (x2), .l (dg4 (1)), .l (dg4 (fo (fo (fo (v4 (x7) * v4 (x2)))))), .b (true)]) else (some [.l (x6), .l (x2), .l (dg4 (1)), .l (dg4 (fo (fo (fo (v4 (x6) * v4 (x2)))))), .b (true)]))) else (bif x5 then (let x8 : List Int := if sqM (v4 (x4)) then dg4 (evenP (rootM (v4 (x4)) % p)) else dg4 0; let x9 : List Int := dg4 (bo (bo (v4 ([0, 0, 0, 0]) - v4 (x8)))); some [.l (x9), .l (x2), .l (dg4 (1)), .l (dg4 (fo (fo (fo (v4 (x9) * v4 (x2)))))), .b (true)]) else (let x10 : List Int := if sqM (v4 (x4)) then dg4 (evenP (rootM (v4 (x4)) % p)) else dg4 0; some [.l (x10), .l (x2), .l (dg4 (1)), .l (dg4 (fo (fo (fo (v4 (x10) * v4 (x2)))))), .b (true)]))))
theorem l20 : LamOk Try.prog (lamOf []) (codeOf Try.f20) := lamOk_nil
def G20 : GFn := ⟨[.arr .u8 32], .tup [.agg [.arr .u64 4, .arr .u64 4, .arr .u64 4, .arr .u64 4], .bool], apH [.l] raw20⟩
theorem ok20 : EntryOk Try.prog 20 (.pure G20.sem) := gfn_pure (u := 70) envOk20 mix Try.func20 (by kernel_rfl) (by kernel_rfl) l20 G20 (by kernel_rfl) (by kernel_rfl) [.l] rfl (fun a0 => by show _ = _; kernel_rfl)
theorem at20 (a0 : List Int) : G20.fn [.l a0] = raw20 a0 := (congrFun (show G20.fn = apH [.l] raw20 from rfl) _).trans ((fun F => rfl : ∀ F : List Int → Option (List Hv), apH [.l] F [.l a0] = F a0) raw20)
/-! ### 21: towpath/towpathref1.decode (pure) -/
noncomputable def env21 : List (FuncId × Entry) := [(30, .pure C30.sem), (32, .pure C32w.sem), (44, .pure C44.sem), (45, .pure C45.sem), (46, .pure C46w.sem), (47, .pure C47.sem), (48, .pure C48w.sem), (49, .pure C49w.sem), (50, .pure C50.sem), (51, .pure C51.sem), (52, .pure C52.sem)]
theorem envOk21 : EnvOk Try.prog (envOf env21) := envOf_ok (all_cons cok30 (all_cons cok32w (all_cons cok44 (all_cons cok45 (all_cons cok46w (all_cons cok47 (all_cons cok48w (all_cons cok49w (all_cons cok50 (all_cons cok51 (all_cons cok52 (all_nil))))))))))))
def raw21 (a0 : List Int) : Option (List Hv) := let x1 : List Int := setP 0 (a0) 31 (andI .u8 ((a0).getD 31 0) (127)); bif !(decide (v32 (x1) < p)) then (some [.l (List.replicate 16 0), .l (List.replicate 16 0), .b (false)]) else (let x2 : List Int := dg16 (v32 (x1)); bif lim18 (x2) && lim18 (x2) then (let x3 : List Int := dg16 (fo (fo (v16 (convL (x2) (x2))))); let x4 : List Int := [1, 0, 0, 0, 0, 0, 0, 0, 0, 0, 0, 0, 0, 0, 0, 0]; bif carried (x3) && lim17 (x4) then (bif lim18 (dg16 deeR) && lim18 (x3) then (let x5 : List Int := dg16 (fo (fo (v16 (convL (dg16 deeR) (x3))))); let x6 : List Int := [1, 0, 0, 0, 0, 0, 0, 0, 0, 0, 0, 0, 0, 0, 0, 0]; bif carried (x5) && carried (x6) then (let x7 : List Int := dg16 (fo (fo (v16 (x5) + v16 (x6)))); bif lim18 (x7) then (let x8 : List Int := dg16 (fo (fo (v16 (x3) - v16 (x4) + 231584178474632390847141970017375815706539969331281128078915168015826259279796))); let x9 : List Int := dg16 (rpowL 43 (x7) 255 1); bif lim18 (x8) && lim18 (x9) then (let x10 : List Int := dg16 (fo (fo (v16 (convL (x8) (x9))))); bif carried (x10) then (bif !(decide (rm (rootR (v16 (x10))) (rootR (v16 (x10))) % p = v16 (x10) % p)) then (some [.l (List.replicate 16 0), .l (List.replicate 16 0), .b (false)]) else (let x11 : List Int := dg16 (rootR (v16 (x10))); bif (x11).all fun y => decide (y < 144115188075855872) then (bif decide (v16 (x11) % p = 0) then (let x12 : Int := ((a0).getD 31 0) / 128; bif (x12) == (1) then (some [.l (List.replicate 16 0), .l (List.replicate 16 0), .b (false)]) else (bif (x11).all fun y => decide (y < 144115188075855872) then (bif (andI .u8 ((dg32 (v16 (x11) % p)).getD 0 0) (1)) != (x12) then (let x13 : List Int := List.replicate 16 0; bif carried (x13) && lim17 (x11) then (some [.l (dg16 (fo (fo (v16 (x13) - v16 (x11) + 231584178474632390847141970017375815706539969331281128078915168015826259279796)))), .l (x2), .b (true)]) else none) else (some [.l (x11), .l (x2), .b (true)])) else none)) else (bif (x11).all fun y => decide (y < 144115188075855872) then (let x14 : Int := ((a0).getD 31 0) / 128; bif (andI .u8 ((dg32 (v16 (x11) % p)).getD 0 0) (1)) != (x14) then (let x15 : List Int := List.replicate 16 0; bif carried (x15) && lim17 (x11) then (some [.l (dg16 (fo (fo (v16 (x15) - v16 (x11) + 231584178474632390847141970017375815706539969331281128078915168015826259279796)))), .l (x2), .b (true)]) else none) else (some [.l (x11), .l (x2), .b (true)])) else none)) else none)) else none) else none) else none) else none) else none) else none) else none)
theorem l21 : LamOk Try.prog (lamOf []) (codeOf Try.f21) := lamOk_nil
def G21 : GFn := ⟨[.arr .u8 32], .tup [.agg [.arr .u64 16, .arr .u64 16], .bool], apH [.l] raw21⟩
theorem ok21 : EntryOk Try.prog 21 (.pure G21.sem) := gfn_pure (u := 70) envOk21 mix Try.func21 (by kernel_rfl) (by kernel_rfl) l21 G21 (by kernel_rfl) (by kernel_rfl) [.l] rfl (fun a0 => by show _ = _; kernel_rfl)
theorem at21 (a0 : List Int) : G21.fn [.l a0] = raw21 a0 := (congrFun (show G21.fn = apH [.l] raw21 from rfl) _).trans ((fun F => rfl : ∀ F : List Int → Option (List Hv), apH [.l] F [.l a0] = F a0) raw21)
end Go.Proofs.Ytibldmjnddppaaa.Fld
set_option linter.unusedVariables false
set_option maxRecDepth 100000
namespace Go.Proofs.Ytibldmjnddppaaa.Fld
open Go Go.Sim Go.Fld

structure M4 where
  x : Int
  y : Int
  z : Int
  t : Int
def sumM (P R : M4) : M4 :=
  let B := pr (sM P.y P.x) (sM R.y R.x)
  let A := pr (dM P.y P.x) (dM R.y R.x)
  let E := dM B A
  let D2 := sM (pr P.z R.z) (pr P.z R.z)
  let C := pr (sM (pr P.t R.t) (pr P.t R.t)) DD
  let F := dM D2 C
  let G := sM D2 C
  let H := sM B A
  ⟨pr E F, pr G H, pr F G, pr E H⟩
/-- the same, of numbers -/
def sumE (P R : M4) : M4 :=
  let B := (P.y + P.x) * (R.y + R.x)
  let A := (P.y - P.x) * (R.y - R.x)
  let E := B - A
  let D2 := P.z * R.z + P.z * R.z
  let C := (P.t * R.t + P.t * R.t) * DD
  let F := D2 - C
  let G := D2 + C
  let H := B + A
  ⟨E * F, G * H, F * G, E * H⟩
structure Rep4 (P e : M4) : Prop where
  x : Rep P.x e.x
  y : Rep P.y e.y
  z : Rep P.z e.z
  t : Rep P.t e.t
theorem rep_dd : Rep DD DD := rep_self (by decide)
theorem sumM_rep {P R e f : M4} (h : Rep4 P e) (k : Rep4 R f) : Rep4 (sumM P R) (sumE e f) := by
  have B := pr_rep (sM_rep h.y h.x) (sM_rep k.y k.x)
  have A := pr_rep (dM_rep h.y h.x) (dM_rep k.y k.x)
  have E := dM_rep B A
  have z := pr_rep h.z k.z
  have t := pr_rep h.t k.t
  have D2 := sM_rep z z
  have C := pr_rep (sM_rep t t) rep_dd
  have F := dM_rep D2 C
  have G := sM_rep D2 C
  have H := sM_rep B A
  exact ⟨pr_rep E F, pr_rep G H, pr_rep F G, pr_rep E H⟩
def m4 (hs : List Hv) (j : Nat) : M4 := ⟨v4 (hl hs j), v4 (hl hs (j + 1)), v4 (hl hs (j + 2)), v4 (hl hs (j + 3))⟩
def pA4 : Pat := .agg [.arr .u64 4, .arr .u64 4, .arr .u64 4, .arr .u64 4]
def C26 : CFn := ⟨[.agg [.arr .u64 4, .arr .u64 4, .arr .u64 4, .arr .u64 4], .agg [.arr .u64 4, .arr .u64 4, .arr .u64 4, .arr .u64 4]], .agg [.arr .u64 4, .arr .u64 4, .arr .u64 4, .arr .u64 4], fun _ => true, fun hs =>
  [.l (dg4 (sumM (m4 hs 0) (m4 hs 4)).x), .l (dg4 (sumM (m4 hs 0) (m4 hs 4)).y), .l (dg4 (sumM (m4 hs 0) (m4 hs 4)).z), .l (dg4 (sumM (m4 hs 0) (m4 hs 4)).t)]⟩
theorem cok26 : EntryOk Try.prog 26 (.pure C26.sem) := cfn_at rfl rfl rfl ok26 (fun a ha ra b hb rb c hc rc d hd rd a' ha' ra' b' hb' rb' c' hc' rc' d' hd' rd' _ => by
  have wa := rep_self (v4_u ha ra)
  have wb := rep_self (v4_u hb rb)
  have wc := rep_self (v4_u hc rc)
  have wd := rep_self (v4_u hd rd)
  have wa' := rep_self (v4_u ha' ra')
  have wb' := rep_self (v4_u hb' rb')
  have wc' := rep_self (v4_u hc' rc')
  have wd' := rep_self (v4_u hd' rd')
  refine (at26 a b c d a' b' c' d').trans ?_
  show raw26 a b c d a' b' c' d' = some [.l (dg4 (sumM ⟨v4 a, v4 b, v4 c, v4 d⟩ ⟨v4 a', v4 b', v4 c', v4 d'⟩).x), .l (dg4 (sumM ⟨v4 a, v4 b, v4 c, v4 d⟩ ⟨v4 a', v4 b', v4 c', v4 d'⟩).y), .l (dg4 (sumM ⟨v4 a, v4 b, v4 c, v4 d⟩ ⟨v4 a', v4 b', v4 c', v4 d'⟩).z), .l (dg4 (sumM ⟨v4 a, v4 b, v4 c, v4 d⟩ ⟨v4 a', v4 b', v4 c', v4 d'⟩).t)]
  unfold raw26
  dsimp only
  generalize v4 a = A at *
  generalize v4 b = B at *
  generalize v4 c = C at *
  generalize v4 d = D at *
  generalize v4 a' = A' at *
  generalize v4 b' = B' at *
  generalize v4 c' = C' at *
  generalize v4 d' = D' at *
  have f1 : ∀ u v, fo (fo (fo (u * v))) = pr u v := fun _ _ => rfl
  have f2 : ∀ u v, fo (fo (u + v)) = sM u v := fun _ _ => rfl
  have f3 : ∀ u v, bo (bo (u - v)) = dM u v := fun _ _ => rfl
  simp only [f1, f2, f3]
  have s1 := sM_rep wb wa
  have s2 := sM_rep wb' wa'
  have s3 := dM_rep wb wa
  have s4 := dM_rep wb' wa'
  have sB := pr_rep s1 s2
  have sA := pr_rep s3 s4
  have sE := dM_rep sB sA
  have sz := pr_rep wc wc'
  have st := pr_rep wd wd'
  have sD := sM_rep sz sz
  have s5 := sM_rep st st
  have sC := pr_rep s5 rep_dd
  have sF := dM_rep sD sC
  have sG := sM_rep sD sC
  have sH := sM_rep sB sA
  rw [s1.v4, s2.v4, s3.v4, s4.v4, sB.v4, sA.v4, sE.v4, sz.v4, st.v4, sD.v4, s5.v4, rep_dd.v4, sC.v4, sF.v4, sG.v4, sH.v4]
  rfl)

structure T3 where
  x : Int
  y : Int
  z : Int
def plusR (P R : T3) (d : Int) : T3 :=
  let a := rm P.z R.z
  let b := rm a a
  let c := rm P.x R.x
  let e := rm P.y R.y
  let f := rm d (rm c e)
  let g := rs b f
  let h := ra b f
  let m := rs (rm (ra P.x P.y) (ra R.x R.y)) (ra c e)
  ⟨rm a (rm g m), rm a (rm h (ra e c)), rm g h⟩
/-- the same, of numbers -/
def plusE (P R : T3) (d : Int) : T3 :=
  let a := P.z * R.z
  let b := a * a
  let c := P.x * R.x
  let e := P.y * R.y
  let f := d * (c * e)
  let g := b - f
  let h := b + f
  let m := (P.x + P.y) * (R.x + R.y) - (c + e)
  ⟨a * (g * m), a * (h * (e + c)), g * h⟩
structure Rep3 (P e : T3) : Prop where
  x : Rep P.x e.x
  y : Rep P.y e.y
  z : Rep P.z e.z
theorem plusR_rep {P R e f : T3} {d d' : Int} (h : Rep3 P e) (k : Rep3 R f) (hd : Rep d d') : Rep3 (plusR P R d) (plusE e f d') := by
  have a := rm_rep h.z k.z
  have b := rm_rep a a
  have c := rm_rep h.x k.x
  have e := rm_rep h.y k.y
  have f := rm_rep hd (rm_rep c e)
  have g := rs_rep b f
  have hh := ra_rep b f
  have m := rs_rep (rm_rep (ra_rep h.x h.y) (ra_rep k.x k.y)) (ra_rep c e)
  exact ⟨rm_rep a (rm_rep g m), rm_rep a (rm_rep hh (ra_rep e c)), rm_rep g hh⟩
def t3 (hs : List Hv) (j : Nat) : T3 := ⟨v16 (hl hs j), v16 (hl hs (j + 1)), v16 (hl hs (j + 2))⟩
def C28 : CFn := ⟨[.agg [.arr .u64 16, .arr .u64 16, .arr .u64 16], .agg [.arr .u64 16, .arr .u64 16, .arr .u64 16], .arr .u64 16], .agg [.arr .u64 16, .arr .u64 16, .arr .u64 16],
  fun hs => carried (hl hs 0) && carried (hl hs 1) && carried (hl hs 2) && carried (hl hs 3) && carried (hl hs 4) && carried (hl hs 5) && carried (hl hs 6), fun hs =>
  [.l (dg16 (plusR (t3 hs 0) (t3 hs 3) (v16 (hl hs 6))).x), .l (dg16 (plusR (t3 hs 0) (t3 hs 3) (v16 (hl hs 6))).y), .l (dg16 (plusR (t3 hs 0) (t3 hs 3) (v16 (hl hs 6))).z)]⟩
theorem cok28 : EntryOk Try.prog 28 (.pure C28.sem) := cfn_at rfl rfl rfl ok28 (fun a ha ra' b hb rb c hc rc a' ha' raa' b' hb' rb' c' hc' rc' d hd rd hg => by
  have hg : (carried a && carried b && carried c && carried a' && carried b' && carried c' && carried d) = true := hg
  simp only [Bool.and_eq_true] at hg
  obtain ⟨⟨⟨⟨⟨⟨g1, g2⟩, g3⟩, g4⟩, g5⟩, g6⟩, g7⟩ := hg
  obtain ⟨A, rfl, eA, lA⟩ := dg16_of ha ra' g1
  obtain ⟨B, rfl, eB, lB⟩ := dg16_of hb rb g2
  obtain ⟨C, rfl, eC, lC⟩ := dg16_of hc rc g3
  obtain ⟨A', rfl, eA', lA'⟩ := dg16_of ha' raa' g4
  obtain ⟨B', rfl, eB', lB'⟩ := dg16_of hb' rb' g5
  obtain ⟨C', rfl, eC', lC'⟩ := dg16_of hc' rc' g6
  obtain ⟨D, rfl, eD, lD⟩ := dg16_of hd rd g7
  refine (at28 _ _ _ _ _ _ _).trans ?_
  show raw28 (dg16 A) (dg16 B) (dg16 C) (dg16 A') (dg16 B') (dg16 C') (dg16 D) = some [.l (dg16 (plusR ⟨v16 (dg16 A), v16 (dg16 B), v16 (dg16 C)⟩ ⟨v16 (dg16 A'), v16 (dg16 B'), v16 (dg16 C')⟩ (v16 (dg16 D))).x), .l (dg16 (plusR ⟨v16 (dg16 A), v16 (dg16 B), v16 (dg16 C)⟩ ⟨v16 (dg16 A'), v16 (dg16 B'), v16 (dg16 C')⟩ (v16 (dg16 D))).y), .l (dg16 (plusR ⟨v16 (dg16 A), v16 (dg16 B), v16 (dg16 C)⟩ ⟨v16 (dg16 A'), v16 (dg16 B'), v16 (dg16 C')⟩ (v16 (dg16 D))).z)]
  unfold raw28
  simp only [lim_dg16, carried_dg16, lim17_dg16, Bool.and_self, cond_true]
  rw [eA, eB, eC, eA', eB', eC', eD]
  have f1 : ∀ u v, fo (fo (v16 (convL (dg16 u) (dg16 v)))) = rm u v := fun _ _ => rfl
  have f2 : ∀ u v, fo (fo (u + v)) = ra u v := fun _ _ => rfl
  have f3 : ∀ u v, fo (fo (u - v + 231584178474632390847141970017375815706539969331281128078915168015826259279796)) = rs u v := fun _ _ => rfl
  simp only [f3]
  simp only [f1, f2]
  have wA := rep_self lA
  have wB := rep_self lB
  have wC := rep_self lC
  have wA' := rep_self lA'
  have wB' := rep_self lB'
  have wC' := rep_self lC'
  have wD := rep_self lD
  have a := rm_rep wC wC'
  have b := rm_rep a a
  have c := rm_rep wA wA'
  have e := rm_rep wB wB'
  have ce := rm_rep c e
  have f := rm_rep wD ce
  have m1 := rm_rep (ra_rep wA wB) (ra_rep wA' wB')
  have m2 := ra_rep c e
  have g := rs_rep b f
  have hh := ra_rep b f
  have m := rs_rep m1 m2
  have ec := ra_rep e c
  rw [b.v16, f.v16, m1.v16, c.v16, e.v16, m2.v16]
  rfl)

theorem orI8_zero {x : Int} (h : 0 ≤ x ∧ x < 256) : orI .u8 x 0 = x := by
  obtain ⟨n, rfl⟩ := Int.eq_ofNat_of_zero_le h.1
  rw [show (0 : Int) = ((0 : Nat) : Int) from rfl, orI_nat8 (by omega) (by decide), Nat.or_zero]
theorem setP31_self {l : List Int} (h : l.length = 32) : setP 0 l 31 (l.getD 31 0) = l := by
  obtain ⟨a0, a1, a2, a3, a4, a5, a6, a7, a8, a9, a10, a11, a12, a13, a14, a15, a16, a17, a18, a19, a20, a21, a22, a23, a24, a25, a26, a27, a28, a29, a30, a31, rfl⟩ := len32 h
  rfl
theorem getD31 {l : List Int} (h : l.length = 32) (hr : ∀ y ∈ l, 0 ≤ y ∧ y < 256) : 0 ≤ l.getD 31 0 ∧ l.getD 31 0 < 256 := by
  refine hr _ ?_
  rw [List.getD_eq_getElem?_getD, List.getElem?_eq_getElem (by omega)]
  simp
theorem encL_even {x y : Int} (h : ¬ x % p % 2 = 1) : encL x y = dg32 (y % p) := by
  unfold encL
  rw [if_neg h, orI8_zero (getD31 (dg32_l _) (digs_range (by decide) _ _)), setP31_self (dg32_l _)]
theorem encL_odd {x y : Int} (h : x % p % 2 = 1) : encL x y = setP 0 (dg32 (y % p)) 31 (orI .u8 ((dg32 (y % p)).getD 31 0) 128) := by
  unfold encL
  rw [if_pos h]
/-- 1 by a number -/
def ovM (z : Int) : Int := powF z 57896044618658097711785492504343953926634992332820282019728792003956564819947 256 1
def C25 : CFn := ⟨[.agg [.arr .u64 4, .arr .u64 4, .arr .u64 4, .arr .u64 4]], .arr .u8 32, fun _ => true, fun hs => [.l (encL (pr (v4 (hl hs 0)) (ovM (v4 (hl hs 2)))) (pr (v4 (hl hs 1)) (ovM (v4 (hl hs 2)))))]⟩
theorem ovM_in {z : Int} (h : 0 ≤ z ∧ z < Q) : 0 ≤ ovM z ∧ ovM z < Q := powF_in h.1 h.2 256 1 (by decide) (by decide)
theorem cok25 : EntryOk Try.prog 25 (.pure C25.sem) := cfn_at rfl rfl rfl ok25 (fun a ha ra b hb rb c hc rc d hd rd _ => by
  have wa := v4_u ha ra
  have wb := v4_u hb rb
  have wc := v4_u hc rc
  refine (at25 a b c d).trans ?_
  show raw25 a b c d = some [.l (encL (pr (v4 a) (ovM (v4 c))) (pr (v4 b) (ovM (v4 c))))]
  unfold raw25
  dsimp only
  rw [show powF (v4 c) 57896044618658097711785492504343953926634992332820282019728792003956564819947 256 1 = ovM (v4 c) from rfl]
  have wo := ovM_in wc
  generalize v4 a = A at *
  generalize v4 b = B at *
  generalize ovM (v4 c) = O at *
  have h1 := pr_in wa.1 wa.2 wo.1 wo.2
  have h2 := pr_in wb.1 wb.2 wo.1 wo.2
  rw [v4_in wo.1 wo.2, show ∀ a b, fo (fo (fo (a * b))) = pr a b from fun _ _ => rfl, show ∀ a b, fo (fo (fo (a * b))) = pr a b from fun _ _ => rfl, v4_in h1.1 h1.2, v4_in h2.1 h2.2, odd4 (modp_Q _)]
  by_cases k : pr A O % p % 2 = 1
  · rw [decide_eq_true k, cond_true, encL_odd k]
  · rw [decide_eq_false k, cond_false, encL_even k])
end Go.Proofs.Ytibldmjnddppaaa.Fld
set_option linter.unusedVariables false
set_option maxRecDepth 100000
namespace Go.Proofs.Ytibldmjnddppaaa.Fld
open Go Go.Sim Go.Fld

/-- the highest bit struck -/
def maskL (u : List Int) : List Int := setP 0 u 31 (andI .u8 (u.getD 31 0) 127)
theorem andI8_in {a b : Int} (ha : 0 ≤ a ∧ a < 256) (hb : 0 ≤ b ∧ b < 256) : 0 ≤ andI .u8 a b ∧ andI .u8 a b < 256 := by
  obtain ⟨n, rfl⟩ := Int.eq_ofNat_of_zero_le ha.1
  obtain ⟨m, rfl⟩ := Int.eq_ofNat_of_zero_le hb.1
  rw [andI_nat8 (by omega) (by omega)]
  have := Nat.and_lt_two_pow n (show m < 2 ^ 8 by omega)
  omega
theorem mask_in {u : List Int} (hl : u.length = 32) (hr : ∀ y ∈ u, 0 ≤ y ∧ y < 256) : (maskL u).length = 32 ∧ ∀ y ∈ maskL u, 0 ≤ y ∧ y < 256 := by
  obtain ⟨a0, a1, a2, a3, a4, a5, a6, a7, a8, a9, a10, a11, a12, a13, a14, a15, a16, a17, a18, a19, a20, a21, a22, a23, a24, a25, a26, a27, a28, a29, a30, a31, rfl⟩ := len32 hl
  refine ⟨rfl, fun y hy => ?_⟩
  have e : maskL [a0, a1, a2, a3, a4, a5, a6, a7, a8, a9, a10, a11, a12, a13, a14, a15, a16, a17, a18, a19, a20, a21, a22, a23, a24, a25, a26, a27, a28, a29, a30, a31] = [a0, a1, a2, a3, a4, a5, a6, a7, a8, a9, a10, a11, a12, a13, a14, a15, a16, a17, a18, a19, a20, a21, a22, a23, a24, a25, a26, a27, a28, a29, a30, andI .u8 a31 127] := rfl
  rw [e, show ∀ b : Int, [a0, a1, a2, a3, a4, a5, a6, a7, a8, a9, a10, a11, a12, a13, a14, a15, a16, a17, a18, a19, a20, a21, a22, a23, a24, a25, a26, a27, a28, a29, a30, b] = [a0, a1, a2, a3, a4, a5, a6, a7, a8, a9, a10, a11, a12, a13, a14, a15, a16, a17, a18, a19, a20, a21, a22, a23, a24, a25, a26, a27, a28, a29, a30] ++ [b] from fun _ => rfl, List.mem_append] at hy
  rcases hy with hy | hy
  · refine hr y ?_
    rw [show [a0, a1, a2, a3, a4, a5, a6, a7, a8, a9, a10, a11, a12, a13, a14, a15, a16, a17, a18, a19, a20, a21, a22, a23, a24, a25, a26, a27, a28, a29, a30, a31] = [a0, a1, a2, a3, a4, a5, a6, a7, a8, a9, a10, a11, a12, a13, a14, a15, a16, a17, a18, a19, a20, a21, a22, a23, a24, a25, a26, a27, a28, a29, a30] ++ [a31] from rfl]
    exact List.mem_append_left _ hy
  · rw [List.mem_singleton.1 hy]
    exact andI8_in (hr a31 (by simp)) (by decide)

def yV (b : List Int) : Int := v32 (maskL b)
def sgn (b : List Int) : Bool := b.getD 31 0 / 128 == 1
theorem yV_in {b : List Int} (h : b.length = 32) (hr : ∀ y ∈ b, 0 ≤ y ∧ y < 256) : 0 ≤ yV b ∧ yV b < Q := by
  have := mask_in h hr
  exact v32_u this.1 this.2
def xxM (y : Int) : Int := pr (dM (pr y y) 1) (ovM (sM (pr DD (pr y y)) 1))
def xEv (v : Int) : Int := if sqM v then evenP (rootM v % p) else 0
def okM (b : List Int) : Bool := decide (yV b < p) && sqM (xxM (yV b)) && !(sgn b && decide (xEv (xxM (yV b)) = 0))
def xM (b : List Int) : Int := if sgn b then dM 0 (xEv (xxM (yV b))) else xEv (xxM (yV b))
theorem rep1 : Rep 1 1 := rep_self (by decide)
theorem rep0 : Rep 0 0 := rep_self (by decide)
theorem ov_rep {a v : Int} (h : Rep a v) : Rep (ovM a) (ovM v) := by
  have := ovM_in ⟨h.lo, h.hi⟩
  refine ⟨this.1, this.2, ?_⟩
  unfold Cg ovM
  rw [powF_one, powF_one, ← pow_emod, h.cg, pow_emod]
theorem xxM_rep {y : Int} (h : 0 ≤ y ∧ y < Q) : Rep (xxM y) ((y * y - 1) * ovM (DD * (y * y) + 1)) := by
  have hy := rep_self h
  have yy := pr_rep hy hy
  exact pr_rep (dM_rep yy rep1) (ov_rep (sM_rep (pr_rep rep_dd yy) rep1))
theorem xEv_in (v : Int) : 0 ≤ xEv v ∧ xEv v < p := by
  unfold xEv
  split
  · exact evenP_in _
  · exact ⟨by decide, by decide⟩
theorem xEv_Q (v : Int) : 0 ≤ xEv v ∧ xEv v < Q := ⟨(xEv_in v).1, Int.lt_trans (xEv_in v).2 (by decide)⟩
def C20 : CFn := ⟨[.arr .u8 32], .tup [.agg [.arr .u64 4, .arr .u64 4, .arr .u64 4, .arr .u64 4], .bool], fun _ => true, fun hs =>
  [.l (dg4 (if okM (hl hs 0) then xM (hl hs 0) else 0)), .l (dg4 (if okM (hl hs 0) then yV (hl hs 0) else 0)), .l (dg4 (if okM (hl hs 0) then 1 else 0)), .l (dg4 (if okM (hl hs 0) then pr (xM (hl hs 0)) (yV (hl hs 0)) else 0)), .b (okM (hl hs 0))]⟩
theorem cok20 : EntryOk Try.prog 20 (.pure C20.sem) := cfn_at rfl rfl rfl ok20 (fun b hb rb _ => by
  refine (at20 b).trans ?_
  show raw20 b = some [.l (dg4 (if okM b then xM b else 0)), .l (dg4 (if okM b then yV b else 0)), .l (dg4 (if okM b then 1 else 0)), .l (dg4 (if okM b then pr (xM b) (yV b) else 0)), .b (okM b)]
  unfold raw20
  dsimp only
  rw [show setP 0 b 31 (andI .u8 (b.getD 31 0) 127) = maskL b from rfl, show v32 (maskL b) = yV b from rfl, show (b.getD 31 0 / 128 == 1) = sgn b from rfl, zero4]
  have hy := yV_in hb rb
  have wy := rep_self hy
  have yy := pr_rep wy wy
  have w1 := dM_rep yy rep1
  have w2 := pr_rep rep_dd yy
  have w3 := sM_rep w2 rep1
  have w4 := ov_rep w3
  have w5 := pr_rep w1 w4
  have f1 : ∀ u v, fo (fo (fo (u * v))) = pr u v := fun _ _ => rfl
  have f2 : ∀ u v, fo (fo (u + v)) = sM u v := fun _ _ => rfl
  have f3 : ∀ u v, bo (bo (u - v)) = dM u v := fun _ _ => rfl
  simp only [f1, f2, f3]
  rw [wy.v4, yy.v4, rep1.v4, rep_dd.v4, w1.v4, w2.v4, w3.v4, show ∀ z, powF z 57896044618658097711785492504343953926634992332820282019728792003956564819947 256 1 = ovM z from fun _ => rfl, w4.v4, w5.v4,
    show pr (dM (pr (yV b) (yV b)) 1) (ovM (sM (pr DD (pr (yV b) (yV b))) 1)) = xxM (yV b) from rfl]
  unfold okM xM
  generalize xxM (yV b) = X
  by_cases h1 : yV b < p
  · rw [decide_eq_true h1, Bool.not_true, cond_false]
    cases h2 : sqM X with
    | false => simp only [Bool.not_false, cond_true, Bool.and_false, Bool.false_and, Bool.false_eq_true, if_false]
    | true =>
      have hx := xEv_Q X
      have ex : (if true = true then dg4 (evenP (rootM X % p)) else dg4 0) = dg4 (xEv X) := by unfold xEv; rw [h2, if_pos rfl, if_pos rfl]
      rw [Bool.not_true, cond_false, ex]
      have hz : arrEq 4 (dg4 (xEv X)) (dg4 0) = decide (xEv X = 0) := by
        rw [arrEq_eq (n := 4) (a := dg4 (xEv X)) (b := dg4 0) (digs_len _ _ _) (digs_len _ _ _)]
        exact decide_eq_decide.2 (dg4_inj hx.1 hx.2 (by decide) (by decide))
      have wx := dM_rep rep0 (rep_self hx)
      rw [hz, v4_in hx.1 hx.2, rep0.v4, wx.v4]
      cases sgn b with
      | false => simp only [Bool.not_false, cond_false, Bool.false_and, Bool.and_true, Bool.false_eq_true, if_false, if_true]
      | true =>
        simp only [cond_true]
        by_cases h3 : xEv X = 0
        · rw [decide_eq_true h3]; simp only [Bool.not_true, cond_true, Bool.and_false, Bool.and_true, Bool.false_eq_true, if_false, if_true]
        · rw [decide_eq_false h3]; simp only [Bool.not_false, cond_false, Bool.and_false, Bool.and_true, if_true]
  · rw [decide_eq_false h1, Bool.not_false, cond_true]
    simp only [Bool.false_and, Bool.false_eq_true, if_false])

def xxR (y : Int) : Int := rm (rs (rm y y) 1) (rpow 43 (ra (rm deeR (rm y y)) 1) 255 1)
def okR (b : List Int) : Bool := decide (yV b < p) && sqR (xxR (yV b)) && !(sgn b && decide (rootR (xxR (yV b)) % p = 0))
def xR (b : List Int) : Int := if decide (rootR (xxR (yV b)) % p % 2 = 1) = sgn b then rootR (xxR (yV b)) else rs 0 (rootR (xxR (yV b)))
theorem iv_rep {a v : Int} (h : Rep a v) : Rep (rpow 43 a 255 1) (ovM v) := by
  have := rpow_in 43 a 255 1 (by decide)
  refine ⟨this.1, this.2, ?_⟩
  unfold Cg ovM
  rw [powF_one, e43, rpow_one ⟨h.lo, h.hi⟩, ← pow_emod, h.cg, pow_emod]
theorem xxR_rep {y : Int} (h : 0 ≤ y ∧ y < Q) : Rep (xxR y) ((y * y - 1) * ovM (DD * (y * y) + 1)) := by
  have hy := rep_self h
  have yy := rm_rep hy hy
  exact rm_rep (rs_rep yy rep1) (iv_rep (ra_rep (rm_rep deeR_rep yy) rep1))
def C21 : CFn := ⟨[.arr .u8 32], .tup [.agg [.arr .u64 16, .arr .u64 16], .bool], fun _ => true, fun hs =>
  [.l (dg16 (if okR (hl hs 0) then xR (hl hs 0) else 0)), .l (dg16 (if okR (hl hs 0) then yV (hl hs 0) else 0)), .b (okR (hl hs 0))]⟩
theorem lim17_one : lim17 (dg16 1) = true := lim17_dg16 1
theorem bit_parity {b : List Int} (hb : b.length = 32) (rb : ∀ y ∈ b, 0 ≤ y ∧ y < 256) (r : Int) : (andI .u8 ((dg32 (r % p)).getD 0 0) 1 != b.getD 31 0 / 128) = !decide (decide (r % p % 2 = 1) = sgn b) := by
  have h := modp_Q r
  have h31 := getD31 hb rb
  rw [v32_low (dg32_l _) (digs_range (by decide) _ _), v32_in h.1 h.2, andI8_odd (by omega)]
  unfold sgn
  have e : r % p % 256 % 2 = r % p % 2 := by omega
  rw [e]
  have hs : b.getD 31 0 / 128 = 0 ∨ b.getD 31 0 / 128 = 1 := by omega
  have hp : r % p % 2 = 0 ∨ r % p % 2 = 1 := by omega
  rcases hs with hs | hs <;> rcases hp with hp | hp <;> rw [hs, hp] <;> rfl
theorem cok21 : EntryOk Try.prog 21 (.pure C21.sem) := cfn_at rfl rfl rfl ok21 (fun b hb rb _ => by
  refine (at21 b).trans ?_
  show raw21 b = some [.l (dg16 (if okR b then xR b else 0)), .l (dg16 (if okR b then yV b else 0)), .b (okR b)]
  unfold raw21
  dsimp only
  rw [show setP 0 b 31 (andI .u8 (b.getD 31 0) 127) = maskL b from rfl, show v32 (maskL b) = yV b from rfl, zero16, one16']
  have hy := yV_in hb rb
  have wy := rep_self hy
  have yy := rm_rep wy wy
  have w1 := rs_rep yy rep1
  have w2 := rm_rep deeR_rep yy
  have w3 := ra_rep w2 rep1
  have w4 := iv_rep w3
  have w5 := rm_rep w1 w4
  have hd : lim18 (dg16 deeR) = true := lim_dg16 _
  rw [hd]
  simp only [lim_dg16, carried_dg16, lim17_dg16, all57_dg16, Bool.and_self, cond_true, rpowL_dg]
  have f1 : ∀ u v, fo (fo (v16 (convL (dg16 u) (dg16 v)))) = rm u v := fun _ _ => rfl
  have f2 : ∀ u v, fo (fo (u + v)) = ra u v := fun _ _ => rfl
  have f3 : ∀ u v, fo (fo (u - v + 231584178474632390847141970017375815706539969331281128078915168015826259279796)) = rs u v := fun _ _ => rfl
  simp only [f3]
  simp only [f1, f2]
  rw [yy.v16, rep1.v16, w2.v16, show rm (rs (rm (yV b) (yV b)) 1) (rpow 43 (ra (rm deeR (rm (yV b) (yV b))) 1) 255 1) = xxR (yV b) from rfl]
  have w6 : Rep (xxR (yV b)) _ := w5
  rw [w6.v16]
  have wr := rep_self (rootR_in (xxR (yV b)))
  rw [wr.v16, rep0.v16, bit_parity hb rb]
  rw [show (b.getD 31 0 / 128 == 1) = sgn b from rfl]
  unfold okR xR
  rw [show decide (rm (rootR (xxR (yV b))) (rootR (xxR (yV b))) % p = xxR (yV b) % p) = sqR (xxR (yV b)) from rfl]
  generalize xxR (yV b) = X
  by_cases h1 : yV b < p
  · rw [decide_eq_true h1, Bool.not_true, cond_false]
    cases h2 : sqR X with
    | false => simp only [Bool.not_false, cond_true, Bool.and_false, Bool.false_and, Bool.false_eq_true, if_false]
    | true =>
      rw [Bool.not_true, cond_false]
      by_cases h3 : rootR X % p = 0
      · rw [decide_eq_true h3, cond_true]
        cases hs : sgn b with
        | true => simp only [Bool.not_true, cond_true, Bool.and_false, Bool.and_true, Bool.false_eq_true, if_false]
        | false =>
          have h4 : decide (rootR X % p % 2 = 1) = false := by rw [h3]; rfl
          rw [h4]
          simp only [Bool.not_true, cond_false, Bool.not_false, Bool.and_true, decide_true, if_true]
      · rw [decide_eq_false h3, cond_false]
        by_cases h4 : decide (rootR X % p % 2 = 1) = sgn b
        · rw [if_pos h4, decide_eq_true h4]
          simp only [Bool.not_false, Bool.not_true, cond_false, Bool.and_false, Bool.and_true, if_true]
        · rw [if_neg h4, decide_eq_false h4]
          simp only [Bool.not_false, cond_true, Bool.and_false, Bool.and_true, if_true]
  · rw [decide_eq_false h1, Bool.not_false, cond_true]
    simp only [Bool.false_and, Bool.false_eq_true, if_false])
end Go.Proofs.Ytibldmjnddppaaa.Fld
set_option linter.unusedVariables false
set_option maxRecDepth 100000
namespace Go.Proofs.Ytibldmjnddppaaa.Fld
open Go Go.Sim
open Go.Proofs Go.Fld

/-! ### 33: towpath/edwards.times (pure) -/
noncomputable def env33 : List (FuncId × Entry) := [(26, .pure C26.sem), (57, .pure C57.sem)]
theorem envOk33 : EnvOk Try.prog (envOf env33) := envOf_ok (all_cons cok26 (all_cons cok57 (all_nil)))
def h33_0 : Tpl := ⟨[none, none, some (.ptr 0 []), some (.ptr 1 []), some (.ptr 2 []), some (.ptr 3 []), some (.int .i64), none, none, none, none, none, none, none, none, none, none, none, none, none, none, none, none, none, none, none, none, none, none], [some (.arr .u8 32), some (.agg [.arr .u64 4, .arr .u64 4, .arr .u64 4, .arr .u64 4]), some (.agg [.arr .u64 4, .arr .u64 4, .arr .u64 4, .arr .u64 4]), some (.agg [.arr .u64 4, .arr .u64 4, .arr .u64 4, .arr .u64 4])], 4⟩
def e33_0 : Tpl := ⟨[none, none, none, none, some (.ptr 2 []), some (.ptr 3 []), none, none, none, none, none, none, none, none, none, none, none, none, none, none, none, none, none, none, none, none, none, none, none], [none, none, some (.agg [.arr .u64 4, .arr .u64 4, .arr .u64 4, .arr .u64 4]), some (.agg [.arr .u64 4, .arr .u64 4, .arr .u64 4, .arr .u64 4])], 4⟩
def t33_0 (z0 : Int) (z1 : List Int) (z2 : List Int) (z3 : List Int) (z4 : List Int) (z5 : List Int) (z6 : List Int) (z7 : List Int) (z8 : List Int) (z9 : List Int) (z10 : List Int) (z11 : List Int) (z12 : List Int) (z13 : List Int) : Option (Sum (List Hv) (Bool × List Hv)) := bif decide ((z0) ≥ (0)) then (let x1 : Int := wr .i64 ((z0).tdiv (8)); bif inB (x1) 32 then (bif Nat.blt (x1).toNat 32 then (let x2 : Int := wr .u64 ((z0).tmod (8)); bif decide ((x2) < 0) then none else (bif (andI .u8 (((z1).getD (x1).toNat 0) / (2 ^ (min (x2).toNat 8))) (1)) == (1) then (let x3 : List Int := dg4 (sumM ⟨v4 (z10), v4 (z11), v4 (z12), v4 (z13)⟩ ⟨v4 (z10), v4 (z11), v4 (z12), v4 (z13)⟩).x; let x4 : List Int := dg4 (sumM ⟨v4 (z10), v4 (z11), v4 (z12), v4 (z13)⟩ ⟨v4 (z10), v4 (z11), v4 (z12), v4 (z13)⟩).y; let x5 : List Int := dg4 (sumM ⟨v4 (z10), v4 (z11), v4 (z12), v4 (z13)⟩ ⟨v4 (z10), v4 (z11), v4 (z12), v4 (z13)⟩).z; let x6 : List Int := dg4 (sumM ⟨v4 (z10), v4 (z11), v4 (z12), v4 (z13)⟩ ⟨v4 (z10), v4 (z11), v4 (z12), v4 (z13)⟩).t; some (.inl [.i (wr .i64 ((z0) - (1))), .l (z1), .l (z2), .l (z3), .l (z4), .l (z5), .l (z6), .l (z7), .l (z8), .l (z9), .l (dg4 (sumM ⟨v4 (x3), v4 (x4), v4 (x5), v4 (x6)⟩ ⟨v4 (z2), v4 (z3), v4 (z4), v4 (z5)⟩).x), .l (dg4 (sumM ⟨v4 (x3), v4 (x4), v4 (x5), v4 (x6)⟩ ⟨v4 (z2), v4 (z3), v4 (z4), v4 (z5)⟩).y), .l (dg4 (sumM ⟨v4 (x3), v4 (x4), v4 (x5), v4 (x6)⟩ ⟨v4 (z2), v4 (z3), v4 (z4), v4 (z5)⟩).z), .l (dg4 (sumM ⟨v4 (x3), v4 (x4), v4 (x5), v4 (x6)⟩ ⟨v4 (z2), v4 (z3), v4 (z4), v4 (z5)⟩).t)])) else (let x7 : List Int := dg4 (sumM ⟨v4 (z10), v4 (z11), v4 (z12), v4 (z13)⟩ ⟨v4 (z10), v4 (z11), v4 (z12), v4 (z13)⟩).x; let x8 : List Int := dg4 (sumM ⟨v4 (z10), v4 (z11), v4 (z12), v4 (z13)⟩ ⟨v4 (z10), v4 (z11), v4 (z12), v4 (z13)⟩).y; let x9 : List Int := dg4 (sumM ⟨v4 (z10), v4 (z11), v4 (z12), v4 (z13)⟩ ⟨v4 (z10), v4 (z11), v4 (z12), v4 (z13)⟩).z; let x10 : List Int := dg4 (sumM ⟨v4 (z10), v4 (z11), v4 (z12), v4 (z13)⟩ ⟨v4 (z10), v4 (z11), v4 (z12), v4 (z13)⟩).t; some (.inl [.i (wr .i64 ((z0) - (1))), .l (z1), .l (z2), .l (z3), .l (z4), .l (z5), .l (z6), .l (z7), .l (z8), .l (z9), .l (x7), .l (x8), .l (x9), .l (x10)])))) else none) else none) else (some (.inr (false, [.l (z6), .l (z7), .l (z8), .l (z9), .l (z10), .l (z11), .l (z12), .l (z13)])))
def g33_0 : StepG := apH [.i, .l, .l, .l, .l, .l, .l, .l, .l, .l, .l, .l, .l, .l] t33_0
theorem g33_0_at (z0 : Int) (z1 : List Int) (z2 : List Int) (z3 : List Int) (z4 : List Int) (z5 : List Int) (z6 : List Int) (z7 : List Int) (z8 : List Int) (z9 : List Int) (z10 : List Int) (z11 : List Int) (z12 : List Int) (z13 : List Int) : g33_0 [.i z0, .l z1, .l z2, .l z3, .l z4, .l z5, .l z6, .l z7, .l z8, .l z9, .l z10, .l z11, .l z12, .l z13] = t33_0 z0 z1 z2 z3 z4 z5 z6 z7 z8 z9 z10 z11 z12 z13 := (congrFun (show g33_0 = apH [.i, .l, .l, .l, .l, .l, .l, .l, .l, .l, .l, .l, .l, .l] t33_0 from rfl) _).trans ((fun F => rfl : ∀ F : Int → List Int → List Int → List Int → List Int → List Int → List Int → List Int → List Int → List Int → List Int → List Int → List Int → List Int → Option (Sum (List Hv) (Bool × List Hv)), apH [.i, .l, .l, .l, .l, .l, .l, .l, .l, .l, .l, .l, .l, .l] F [.i z0, .l z1, .l z2, .l z3, .l z4, .l z5, .l z6, .l z7, .l z8, .l z9, .l z10, .l z11, .l z12, .l z13] = F z0 z1 z2 z3 z4 z5 z6 z7 z8 z9 z10 z11 z12 z13) t33_0)
theorem l33_0 : LamOk Try.prog (lamOf []) (codeOf Try.f33) := lamOk_nil
theorem b33_0 : BlkSound Try.prog 0 (blkOf (codeOf Try.f33) 0) (loopE h33_0 e33_0 g33_0) := loopE_at (u := 70) envOk33 mix 0 (by kernel_rfl) l33_0 (ks := [.i, .l, .l, .l, .l, .l, .l, .l, .l, .l, .l, .l, .l, .l]) (t := t33_0) (fun _ => rfl) (fun _ => rfl) (fun z0 z1 z2 z3 z4 z5 z6 z7 z8 z9 z10 z11 z12 z13 => by show _ = _; kernel_rfl)
def raw33 (a0 : List Int) (a1 : List Int) (a2 : List Int) (a3 : List Int) (a4 : List Int) : Option (List Hv) := (loopN g33_0 bigN [.i (255), .l (a0), .l (a1), .l (a2), .l (a3), .l (a4), .l ([0, 0, 0, 0]), .l ([0, 0, 0, 0]), .l ([0, 0, 0, 0]), .l ([0, 0, 0, 0]), .l (dg4 0), .l (dg4 1), .l (dg4 1), .l (dg4 0)]).bind fun r1 => bif r1.1 then none else (some [.l (hl r1.2 4), .l (hl r1.2 5), .l (hl r1.2 6), .l (hl r1.2 7)])
theorem l33 : LamOk Try.prog (lamOf [(0, loopE h33_0 e33_0 g33_0)]) (codeOf Try.f33) := lamOk_of (by kernel_rfl) (blk_cons b33_0 (blk_nil))
def G33 : GFn := ⟨[.arr .u8 32, .agg [.arr .u64 4, .arr .u64 4, .arr .u64 4, .arr .u64 4]], .agg [.arr .u64 4, .arr .u64 4, .arr .u64 4, .arr .u64 4], apH [.l, .l, .l, .l, .l] raw33⟩
theorem ok33 : EntryOk Try.prog 33 (.pure G33.sem) := gfn_pure (u := 70) envOk33 mix Try.func33 (by kernel_rfl) (by kernel_rfl) l33 G33 (by kernel_rfl) (by kernel_rfl) [.l, .l, .l, .l, .l] rfl (fun a0 a1 a2 a3 a4 => by show _ = _; kernel_rfl)
theorem at33 (a0 : List Int) (a1 : List Int) (a2 : List Int) (a3 : List Int) (a4 : List Int) : G33.fn [.l a0, .l a1, .l a2, .l a3, .l a4] = raw33 a0 a1 a2 a3 a4 := (congrFun (show G33.fn = apH [.l, .l, .l, .l, .l] raw33 from rfl) _).trans ((fun F => rfl : ∀ F : List Int → List Int → List Int → List Int → List Int → Option (List Hv), apH [.l, .l, .l, .l, .l] F [.l a0, .l a1, .l a2, .l a3, .l a4] = F a0 a1 a2 a3 a4) raw33)
/-! ### 23: towpath/towpathref1.times (pure) -/
noncomputable def env23 : List (FuncId × Entry) := [(27, .pure C27.sem), (28, .pure C28.sem), (29, .pure C29.sem), (30, .pure C30.sem), (48, .pure C48w.sem)]
theorem envOk23 : EnvOk Try.prog (envOf env23) := envOf_ok (all_cons cok27 (all_cons cok28 (all_cons cok29 (all_cons cok30 (all_cons cok48w (all_nil))))))
def h23_0 : Tpl := ⟨[none, none, some (.ptr 0 []), none, some (.ptr 2 []), some (.ptr 3 []), some (.ptr 4 []), some (.ptr 5 []), some (.int .i64), none, none, none, none, none, none, none, none, none, none, none, none, none, none, none, none, none, none, none, none, none, none, none, none, none, none, none, none, none, none], [some (.arr .u8 32), none, some (.agg [.arr .u64 16, .arr .u64 16]), some (.arr .u64 16), some (.agg [.arr .u64 16, .arr .u64 16, .arr .u64 16]), some (.agg [.arr .u64 16, .arr .u64 16, .arr .u64 16])], 6⟩
def e23_0 : Tpl := ⟨[none, none, none, none, some (.ptr 2 []), none, some (.ptr 4 []), none, none, none, none, none, none, none, none, none, none, none, none, none, none, none, none, none, none, none, none, none, none, none, none, none, none, none, none, none, none, none, none], [none, none, some (.agg [.arr .u64 16, .arr .u64 16]), none, some (.agg [.arr .u64 16, .arr .u64 16, .arr .u64 16])], 6⟩
def t23_0 (z0 : Int) (z1 : List Int) (z2 : List Int) (z3 : List Int) (z4 : List Int) (z5 : List Int) (z6 : List Int) (z7 : List Int) (z8 : List Int) (z9 : List Int) (z10 : List Int) : Option (Sum (List Hv) (Bool × List Hv)) := bif decide ((z0) ≥ (0)) then (bif carried (z5) && carried (z6) && carried (z7) && carried (z5) && carried (z6) && carried (z7) && carried (z4) then (let x1 : Int := wr .i64 ((z0).tdiv (8)); bif inB (x1) 32 then (bif Nat.blt (x1).toNat 32 then (let x2 : Int := (z0).tmod (8); bif decide ((x2) < 0) then none else (bif (andI .u8 (((z1).getD (x1).toNat 0) / (2 ^ (min (x2).toNat 8))) (1)) == (1) then (let x3 : List Int := dg16 (plusR ⟨v16 (z5), v16 (z6), v16 (z7)⟩ ⟨v16 (z5), v16 (z6), v16 (z7)⟩ (v16 (z4))).x; let x4 : List Int := dg16 (plusR ⟨v16 (z5), v16 (z6), v16 (z7)⟩ ⟨v16 (z5), v16 (z6), v16 (z7)⟩ (v16 (z4))).y; let x5 : List Int := dg16 (plusR ⟨v16 (z5), v16 (z6), v16 (z7)⟩ ⟨v16 (z5), v16 (z6), v16 (z7)⟩ (v16 (z4))).z; bif carried (x3) && carried (x4) && carried (x5) && carried (z8) && carried (z9) && carried (z10) && carried (z4) then (some (.inl [.i (wr .i64 ((z0) - (1))), .l (z1), .l (z2), .l (z3), .l (z4), .l (dg16 (plusR ⟨v16 (x3), v16 (x4), v16 (x5)⟩ ⟨v16 (z8), v16 (z9), v16 (z10)⟩ (v16 (z4))).x), .l (dg16 (plusR ⟨v16 (x3), v16 (x4), v16 (x5)⟩ ⟨v16 (z8), v16 (z9), v16 (z10)⟩ (v16 (z4))).y), .l (dg16 (plusR ⟨v16 (x3), v16 (x4), v16 (x5)⟩ ⟨v16 (z8), v16 (z9), v16 (z10)⟩ (v16 (z4))).z), .l (z8), .l (z9), .l (z10)])) else none) else (let x6 : List Int := dg16 (plusR ⟨v16 (z5), v16 (z6), v16 (z7)⟩ ⟨v16 (z5), v16 (z6), v16 (z7)⟩ (v16 (z4))).x; let x7 : List Int := dg16 (plusR ⟨v16 (z5), v16 (z6), v16 (z7)⟩ ⟨v16 (z5), v16 (z6), v16 (z7)⟩ (v16 (z4))).y; let x8 : List Int := dg16 (plusR ⟨v16 (z5), v16 (z6), v16 (z7)⟩ ⟨v16 (z5), v16 (z6), v16 (z7)⟩ (v16 (z4))).z; some (.inl [.i (wr .i64 ((z0) - (1))), .l (z1), .l (z2), .l (z3), .l (z4), .l (x6), .l (x7), .l (x8), .l (z8), .l (z9), .l (z10)])))) else none) else none) else none) else (some (.inr (false, [.l (z2), .l (z3), .l (z5), .l (z6), .l (z7)])))
def g23_0 : StepG := apH [.i, .l, .l, .l, .l, .l, .l, .l, .l, .l, .l] t23_0
theorem g23_0_at (z0 : Int) (z1 : List Int) (z2 : List Int) (z3 : List Int) (z4 : List Int) (z5 : List Int) (z6 : List Int) (z7 : List Int) (z8 : List Int) (z9 : List Int) (z10 : List Int) : g23_0 [.i z0, .l z1, .l z2, .l z3, .l z4, .l z5, .l z6, .l z7, .l z8, .l z9, .l z10] = t23_0 z0 z1 z2 z3 z4 z5 z6 z7 z8 z9 z10 := (congrFun (show g23_0 = apH [.i, .l, .l, .l, .l, .l, .l, .l, .l, .l, .l] t23_0 from rfl) _).trans ((fun F => rfl : ∀ F : Int → List Int → List Int → List Int → List Int → List Int → List Int → List Int → List Int → List Int → List Int → Option (Sum (List Hv) (Bool × List Hv)), apH [.i, .l, .l, .l, .l, .l, .l, .l, .l, .l, .l] F [.i z0, .l z1, .l z2, .l z3, .l z4, .l z5, .l z6, .l z7, .l z8, .l z9, .l z10] = F z0 z1 z2 z3 z4 z5 z6 z7 z8 z9 z10) t23_0)
theorem l23_0 : LamOk Try.prog (lamOf []) (codeOf Try.f23) := lamOk_nil
theorem b23_0 : BlkSound Try.prog 0 (blkOf (codeOf Try.f23) 0) (loopE h23_0 e23_0 g23_0) := loopE_at (u := 70) envOk23 mix 0 (by kernel_rfl) l23_0 (ks := [.i, .l, .l, .l, .l, .l, .l, .l, .l, .l, .l]) (t := t23_0) (fun _ => rfl) (fun _ => rfl) (fun z0 z1 z2 z3 z4 z5 z6 z7 z8 z9 z10 => by show _ = _; kernel_rfl)
def raw23 (a0 : List Int) (a1 : List Int) (a2 : List Int) : Option (List Hv) := (loopN g23_0 bigN [.i (255), .l (a0), .l (List.replicate 16 0), .l (List.replicate 16 0), .l (dg16 deeR), .l (List.replicate 16 0), .l ([1, 0, 0, 0, 0, 0, 0, 0, 0, 0, 0, 0, 0, 0, 0, 0]), .l ([1, 0, 0, 0, 0, 0, 0, 0, 0, 0, 0, 0, 0, 0, 0, 0]), .l (a1), .l (a2), .l (dg16 1)]).bind fun r1 => bif r1.1 then none else (bif carried (hl r1.2 2) && carried (hl r1.2 3) && carried (hl r1.2 4) then (some [.l (dg16 (rm (v16 (hl r1.2 2)) (rpow 43 (v16 (hl r1.2 4)) 255 1))), .l (dg16 (rm (v16 (hl r1.2 3)) (rpow 43 (v16 (hl r1.2 4)) 255 1)))]) else none)
theorem l23 : LamOk Try.prog (lamOf [(0, loopE h23_0 e23_0 g23_0)]) (codeOf Try.f23) := lamOk_of (by kernel_rfl) (blk_cons b23_0 (blk_nil))
def G23 : GFn := ⟨[.arr .u8 32, .agg [.arr .u64 16, .arr .u64 16]], .agg [.arr .u64 16, .arr .u64 16], apH [.l, .l, .l] raw23⟩
theorem ok23 : EntryOk Try.prog 23 (.pure G23.sem) := gfn_pure (u := 70) envOk23 mix Try.func23 (by kernel_rfl) (by kernel_rfl) l23 G23 (by kernel_rfl) (by kernel_rfl) [.l, .l, .l] rfl (fun a0 a1 a2 => by show _ = _; kernel_rfl)
theorem at23 (a0 : List Int) (a1 : List Int) (a2 : List Int) : G23.fn [.l a0, .l a1, .l a2] = raw23 a0 a1 a2 := (congrFun (show G23.fn = apH [.l, .l, .l] raw23 from rfl) _).trans ((fun F => rfl : ∀ F : List Int → List Int → List Int → Option (List Hv), apH [.l, .l, .l] F [.l a0, .l a1, .l a2] = F a0 a1 a2) raw23)
end Go.Proofs.Ytibldmjnddppaaa.Fld
set_option linter.unusedVariables false
set_option maxRecDepth 100000
namespace Go.Proofs.Ytibldmjnddppaaa.Fld
open Go Go.Sim Go.Fld

/-- a bit of a number in bytes -/
def bitK (k : List Int) (i : Nat) : Bool := decide (k.getD (i / 8) 0 / 2 ^ (i % 8) % 2 = 1)
theorem bit_idx (i : Nat) (hi : i < 256) : wr .i64 ((i : Int).tdiv 8) = ((i / 8 : Nat) : Int) ∧ inB ((i / 8 : Nat) : Int) 32 = true ∧ Nat.blt (((i / 8 : Nat) : Int)).toNat 32 = true ∧ (i : Int).tmod 8 = ((i % 8 : Nat) : Int) ∧ wr .u64 (((i % 8 : Nat) : Int)) = ((i % 8 : Nat) : Int) ∧ decide (((i % 8 : Nat) : Int) < 0) = false ∧ min ((i % 8 : Nat) : Int).toNat 8 = i % 8 := by
  have e1 : (i : Int).tdiv 8 = ((i / 8 : Nat) : Int) := by rw [Int.tdiv_eq_ediv_of_nonneg (by omega)]; omega
  have e2 : (i : Int).tmod 8 = ((i % 8 : Nat) : Int) := by rw [Int.tmod_eq_emod_of_nonneg (by omega)]; omega
  refine ⟨by rw [e1]; exact wr_i64 (by omega) (by omega), inB_iff.2 (by omega), ?_, e2, by simp only [wr]; omega, decide_eq_false (by omega), ?_⟩
  · rw [Int.toNat_natCast]; simp [Nat.blt]; omega
  · rw [Int.toNat_natCast]; omega
theorem bit_1 {k : List Int} (hk : ∀ y ∈ k, 0 ≤ y ∧ y < 256) (i : Nat) : (andI .u8 (k.getD (i / 8) 0 / 2 ^ (i % 8)) 1 == 1) = bitK k i := by
  have h : 0 ≤ k.getD (i / 8) 0 ∧ k.getD (i / 8) 0 < 256 := by
    rw [List.getD_eq_getElem?_getD]
    cases hq : k[i / 8]? with
    | none => simp
    | some y => exact hk y (List.mem_of_getElem? hq)
  have h2 : (0 : Int) < 2 ^ (i % 8) := Int.pow_pos (by decide)
  rw [andI8_odd ⟨Int.ediv_nonneg h.1 (Int.le_of_lt h2), Int.lt_of_le_of_lt (Int.ediv_le_self _ h.1) h.2⟩]
  unfold bitK
  have := Int.emod_two_eq (k.getD (i / 8) 0 / 2 ^ (i % 8))
  rcases this with e | e <;> rw [e] <;> rfl

/-- in 256 bits -/
def In4 (P : M4) : Prop := Rep4 P P
theorem rep_in {a v : Int} (h : Rep a v) : Rep a a := ⟨h.lo, h.hi, rfl⟩
theorem Rep4.inn {P e : M4} (h : Rep4 P e) : In4 P := ⟨rep_in h.x, rep_in h.y, rep_in h.z, rep_in h.t⟩
theorem In4.sum {P R : M4} (h : In4 P) (k : In4 R) : In4 (sumM P R) := (sumM_rep h k).inn

def timesM (k : List Int) (P : M4) : Nat → M4 → M4
  | 0, o => o
  | n + 1, o => timesM k P n (bif bitK k n then sumM (sumM o o) P else sumM o o)
theorem timesM_in {k : List Int} {P : M4} (hP : In4 P) : ∀ (n : Nat) (o : M4), In4 o → In4 (timesM k P n o)
  | 0, o, h => h
  | n + 1, o, h => by
    simp only [timesM]
    apply timesM_in hP n
    cases bitK k n
    · exact h.sum h
    · exact (h.sum h).sum hP

theorem loop33 {k : List Int} (hk : ∀ y ∈ k, 0 ≤ y ∧ y < 256) {P : M4} (hP : In4 P) (w0 w1 w2 w3 : List Int) : ∀ (n : Nat) (hn : n ≤ 256) (o : M4), In4 o →
    EndsIn n g33_0 [.i ((n : Int) - 1), .l k, .l (dg4 P.x), .l (dg4 P.y), .l (dg4 P.z), .l (dg4 P.t), .l w0, .l w1, .l w2, .l w3, .l (dg4 o.x), .l (dg4 o.y), .l (dg4 o.z), .l (dg4 o.t)]
      (false, [.l w0, .l w1, .l w2, .l w3, .l (dg4 (timesM k P n o).x), .l (dg4 (timesM k P n o).y), .l (dg4 (timesM k P n o).z), .l (dg4 (timesM k P n o).t)])
  | 0, _, o, ho => ends_done (by rw [g33_0_at]; unfold t33_0; rfl)
  | n + 1, hn, o, ho => by
    obtain ⟨i1, i2, i3, i4, i5, i6, i7⟩ := bit_idx n (by omega)
    have hoo := ho.sum ho
    have hst : g33_0 [.i (((n + 1 : Nat) : Int) - 1), .l k, .l (dg4 P.x), .l (dg4 P.y), .l (dg4 P.z), .l (dg4 P.t), .l w0, .l w1, .l w2, .l w3, .l (dg4 o.x), .l (dg4 o.y), .l (dg4 o.z), .l (dg4 o.t)] =
        some (.inl [.i ((n : Int) - 1), .l k, .l (dg4 P.x), .l (dg4 P.y), .l (dg4 P.z), .l (dg4 P.t), .l w0, .l w1, .l w2, .l w3, .l (dg4 (bif bitK k n then sumM (sumM o o) P else sumM o o).x), .l (dg4 (bif bitK k n then sumM (sumM o o) P else sumM o o).y), .l (dg4 (bif bitK k n then sumM (sumM o o) P else sumM o o).z), .l (dg4 (bif bitK k n then sumM (sumM o o) P else sumM o o).t)]) := by
      rw [g33_0_at]
      unfold t33_0
      rw [show ((n + 1 : Nat) : Int) - 1 = (n : Int) by omega, decide_eq_true (show (n : Int) ≥ 0 by omega), cond_true]
      dsimp only
      rw [i1, i2, cond_true, i3, cond_true, i4, i5, i6, cond_false, i7, Int.toNat_natCast, bit_1 hk, ho.x.v4, ho.y.v4, ho.z.v4, ho.t.v4, hP.x.v4, hP.y.v4, hP.z.v4, hP.t.v4, wr_i64 (n := (n : Int) - 1) (by omega) (by omega)]
      rw [show (⟨o.x, o.y, o.z, o.t⟩ : M4) = o from rfl, show (⟨P.x, P.y, P.z, P.t⟩ : M4) = P from rfl, hoo.x.v4, hoo.y.v4, hoo.z.v4, hoo.t.v4]
      cases bitK k n <;> rfl
    refine ends_step hst ?_
    refine loop33 hk hP w0 w1 w2 w3 n (by omega) _ ?_
    cases bitK k n
    · exact hoo
    · exact hoo.sum hP

def noM : M4 := ⟨0, 1, 1, 0⟩
theorem noM_in : In4 noM := ⟨rep0, rep1, rep1, rep0⟩
theorem dg4_of {x : List Int} (hx : x.length = 4) (rx : ∀ y ∈ x, inK .u64 y) : ∃ v, x = dg4 v ∧ v4 x = v ∧ Rep v v := ⟨v4 x, (dg4_v4 hx rx).symm, rfl, rep_self (v4_u hx rx)⟩
def C33 : CFn := ⟨[.arr .u8 32, .agg [.arr .u64 4, .arr .u64 4, .arr .u64 4, .arr .u64 4]], .agg [.arr .u64 4, .arr .u64 4, .arr .u64 4, .arr .u64 4], fun _ => true, fun hs =>
  [.l (dg4 (timesM (hl hs 0) (m4 hs 1) 256 noM).x), .l (dg4 (timesM (hl hs 0) (m4 hs 1) 256 noM).y), .l (dg4 (timesM (hl hs 0) (m4 hs 1) 256 noM).z), .l (dg4 (timesM (hl hs 0) (m4 hs 1) 256 noM).t)]⟩
theorem cok33 : EntryOk Try.prog 33 (.pure C33.sem) := cfn_at rfl rfl rfl ok33 (fun k hk rk a ha ra b hb rb c hc rc d hd rd _ => by
  obtain ⟨A, rfl, eA, rA⟩ := dg4_of ha ra
  obtain ⟨B, rfl, eB, rB⟩ := dg4_of hb rb
  obtain ⟨C, rfl, eC, rC⟩ := dg4_of hc rc
  obtain ⟨D, rfl, eD, rD⟩ := dg4_of hd rd
  refine (at33 _ _ _ _ _).trans ?_
  show raw33 k (dg4 A) (dg4 B) (dg4 C) (dg4 D) = some [.l (dg4 (timesM k ⟨v4 (dg4 A), v4 (dg4 B), v4 (dg4 C), v4 (dg4 D)⟩ 256 noM).x), .l (dg4 (timesM k ⟨v4 (dg4 A), v4 (dg4 B), v4 (dg4 C), v4 (dg4 D)⟩ 256 noM).y), .l (dg4 (timesM k ⟨v4 (dg4 A), v4 (dg4 B), v4 (dg4 C), v4 (dg4 D)⟩ 256 noM).z), .l (dg4 (timesM k ⟨v4 (dg4 A), v4 (dg4 B), v4 (dg4 C), v4 (dg4 D)⟩ 256 noM).t)]
  rw [eA, eB, eC, eD]
  unfold raw33
  have h := loop33 rk (P := ⟨A, B, C, D⟩) ⟨rA, rB, rC, rD⟩ [0, 0, 0, 0] [0, 0, 0, 0] [0, 0, 0, 0] [0, 0, 0, 0] 256 (by omega) noM noM_in
  have h2 := h.big (by omega)
  rw [show ((256 : Nat) : Int) - 1 = 255 from rfl] at h2
  have h3 : loopN g33_0 bigN [.i (255), .l k, .l (dg4 A), .l (dg4 B), .l (dg4 C), .l (dg4 D), .l ([0, 0, 0, 0]), .l ([0, 0, 0, 0]), .l ([0, 0, 0, 0]), .l ([0, 0, 0, 0]), .l (dg4 0), .l (dg4 1), .l (dg4 1), .l (dg4 0)] = _ := h2
  rw [h3]
  simp only [Option.bind_some, cond_false, hl, List.getElem?_cons_zero, List.getElem?_cons_succ])

def In3 (P : T3) : Prop := Rep3 P P
theorem Rep3.inn {P e : T3} (h : Rep3 P e) : In3 P := ⟨rep_in h.x, rep_in h.y, rep_in h.z⟩
theorem rep_deeR : Rep deeR deeR := rep_in deeR_rep
theorem In3.plus {P R : T3} {d : Int} (hd : Rep d d) (h : In3 P) (k : In3 R) : In3 (plusR P R d) := (plusR_rep h k hd).inn
def timesR (k : List Int) (P : T3) (d : Int) : Nat → T3 → T3
  | 0, o => o
  | n + 1, o => timesR k P d n (bif bitK k n then plusR (plusR o o d) P d else plusR o o d)
theorem timesR_in {k : List Int} {P : T3} {d : Int} (hd : Rep d d) (hP : In3 P) : ∀ (n : Nat) (o : T3), In3 o → In3 (timesR k P d n o)
  | 0, o, h => h
  | n + 1, o, h => by
    simp only [timesR]
    apply timesR_in hd hP n
    cases bitK k n
    · exact In3.plus hd h h
    · exact In3.plus hd (In3.plus hd h h) hP
theorem eta3 (q : T3) : (⟨q.x, q.y, q.z⟩ : T3) = q := rfl
theorem step23 {k : List Int} {d : Int} (hd : Rep d d) (hk : ∀ y ∈ k, 0 ≤ y ∧ y < 256) {P o q : T3} (hP : In3 P) (ho : In3 o) (hq : In3 q) (e : plusR o o d = q) (w0 w1 : List Int) (n : Nat) (hn : n < 256) :
    g23_0 [.i (n : Int), .l k, .l w0, .l w1, .l (dg16 d), .l (dg16 o.x), .l (dg16 o.y), .l (dg16 o.z), .l (dg16 P.x), .l (dg16 P.y), .l (dg16 P.z)] =
        bif bitK k n then some (.inl [.i ((n : Int) - 1), .l k, .l w0, .l w1, .l (dg16 d), .l (dg16 (plusR q P d).x), .l (dg16 (plusR q P d).y), .l (dg16 (plusR q P d).z), .l (dg16 P.x), .l (dg16 P.y), .l (dg16 P.z)])
        else some (.inl [.i ((n : Int) - 1), .l k, .l w0, .l w1, .l (dg16 d), .l (dg16 q.x), .l (dg16 q.y), .l (dg16 q.z), .l (dg16 P.x), .l (dg16 P.y), .l (dg16 P.z)]) := by
  obtain ⟨i1, i2, i3, i4, i5, i6, i7⟩ := bit_idx n (by omega)
  rw [g23_0_at]
  unfold t23_0
  rw [decide_eq_true (show (n : Int) ≥ 0 by omega), cond_true]
  dsimp only
  rw [i1, i2, i3, i4, i6, i7, Int.toNat_natCast, bit_1 hk, wr_i64 (n := (n : Int) - 1) (by omega) (by omega)]
  rw [carried_dg16 o.x, carried_dg16 o.y, carried_dg16 o.z, carried_dg16 d, Bool.and_self, Bool.and_self, Bool.and_self, Bool.and_self, Bool.and_self, Bool.and_self, cond_true, cond_true, cond_true, cond_false]
  rw [ho.x.v16, ho.y.v16, ho.z.v16, hP.x.v16, hP.y.v16, hP.z.v16, hd.v16]
  rw [eta3 o, eta3 P, e, hq.x.v16, hq.y.v16, hq.z.v16, eta3 q]
  rw [carried_dg16 q.x, carried_dg16 q.y, carried_dg16 q.z, carried_dg16 P.x, carried_dg16 P.y, carried_dg16 P.z, Bool.and_self, Bool.and_self, Bool.and_self, Bool.and_self, Bool.and_self, Bool.and_self, cond_true]
theorem loop23 {k : List Int} {d : Int} (hd : Rep d d) (hk : ∀ y ∈ k, 0 ≤ y ∧ y < 256) {P : T3} (hP : In3 P) (w0 w1 : List Int) : ∀ (n : Nat) (hn : n ≤ 256) (o : T3), In3 o →
    EndsIn n g23_0 [.i ((n : Int) - 1), .l k, .l w0, .l w1, .l (dg16 d), .l (dg16 o.x), .l (dg16 o.y), .l (dg16 o.z), .l (dg16 P.x), .l (dg16 P.y), .l (dg16 P.z)]
      (false, [.l w0, .l w1, .l (dg16 (timesR k P d n o).x), .l (dg16 (timesR k P d n o).y), .l (dg16 (timesR k P d n o).z)])
  | 0, _, o, ho => ends_done (by rw [g23_0_at]; unfold t23_0; rfl)
  | n + 1, hn, o, ho => by
    have hoo := In3.plus hd ho ho
    have hst := step23 hd hk hP ho hoo rfl w0 w1 n (by omega)
    rw [show (n : Int) = ((n + 1 : Nat) : Int) - 1 by omega] at hst
    rw [show ((n + 1 : Nat) : Int) - 1 - 1 = (n : Int) - 1 by omega] at hst
    simp only [timesR]
    cases hb : bitK k n with
    | true =>
      rw [hb] at hst
      exact ends_step hst (loop23 hd hk hP w0 w1 n (by omega) _ (In3.plus hd hoo hP))
    | false =>
      rw [hb] at hst
      exact ends_step hst (loop23 hd hk hP w0 w1 n (by omega) _ hoo)
def noR : T3 := ⟨0, 1, 1⟩
theorem noR_in : In3 noR := ⟨rep0, rep1, rep1⟩
def narR (r : T3) : Int × Int := (rm r.x (rpow 43 r.z 255 1), rm r.y (rpow 43 r.z 255 1))
def C23 : CFn := ⟨[.arr .u8 32, .agg [.arr .u64 16, .arr .u64 16]], .agg [.arr .u64 16, .arr .u64 16], fun hs => carried (hl hs 1) && carried (hl hs 2), fun hs =>
  [.l (dg16 (narR (timesR (hl hs 0) ⟨v16 (hl hs 1), v16 (hl hs 2), 1⟩ deeR 256 noR)).1), .l (dg16 (narR (timesR (hl hs 0) ⟨v16 (hl hs 1), v16 (hl hs 2), 1⟩ deeR 256 noR)).2)]⟩
theorem cok23 : EntryOk Try.prog 23 (.pure C23.sem) := cfn_at rfl rfl rfl ok23 (fun k hk rk a ha ra' b hb rb hg => by
  have hg : (carried a && carried b) = true := hg
  simp only [Bool.and_eq_true] at hg
  obtain ⟨A, rfl, eA, lA⟩ := dg16_of ha ra' hg.1
  obtain ⟨B, rfl, eB, lB⟩ := dg16_of hb rb hg.2
  refine (at23 _ _ _).trans ?_
  show raw23 k (dg16 A) (dg16 B) = some [.l (dg16 (narR (timesR k ⟨v16 (dg16 A), v16 (dg16 B), 1⟩ deeR 256 noR)).1), .l (dg16 (narR (timesR k ⟨v16 (dg16 A), v16 (dg16 B), 1⟩ deeR 256 noR)).2)]
  rw [eA, eB]
  unfold raw23
  have h := loop23 rep_deeR rk (P := ⟨A, B, 1⟩) ⟨rep_self lA, rep_self lB, rep1⟩ (dg16 0) (dg16 0) 256 (by omega) noR noR_in
  have hi := timesR_in (k := k) rep_deeR (P := ⟨A, B, 1⟩) ⟨rep_self lA, rep_self lB, rep1⟩ 256 noR noR_in
  have h2 := h.big (by omega)
  rw [show ((256 : Nat) : Int) - 1 = 255 from rfl] at h2
  rw [zero16, one16']
  have h3 : loopN g23_0 bigN [.i (255), .l k, .l (dg16 0), .l (dg16 0), .l (dg16 deeR), .l (dg16 0), .l (dg16 1), .l (dg16 1), .l (dg16 A), .l (dg16 B), .l (dg16 1)] = _ := h2
  rw [h3]
  simp only [Option.bind_some, cond_false, hl, List.getElem?_cons_zero, List.getElem?_cons_succ, carried_dg16, Bool.and_self, cond_true]
  rw [hi.x.v16, hi.y.v16, hi.z.v16]
  simp only [narR])
end Go.Proofs.Ytibldmjnddppaaa.Fld
set_option linter.unusedVariables false
set_option maxRecDepth 100000
namespace Go.Proofs.Ytibldmjnddppaaa.Fld
open Go Go.Sim Go.Fld

theorem first_cong {a b : Int} (h : Cg a b) : Cg (firstM a) (firstM b) := by
  unfold Cg firstM
  rw [powF_one, powF_one, ← pow_emod, h, pow_emod]
theorem pr_cong {a b c d : Int} (h : Cg a b) (k : Cg c d) : Cg (pr a c) (pr b d) := by
  unfold Cg
  rw [pr_mod, pr_mod]
  exact h.mul k
theorem rootM_cong {a b : Int} (h : Cg a b) : Cg (rootM a) (rootM b) := by
  have f := first_cong h
  have g := pr_cong f f
  unfold rootM
  unfold Cg at g
  have h' : a % p = b % p := h
  rw [g, h']
  by_cases k : pr (firstM b) (firstM b) % p = b % p
  · rw [if_pos k, if_pos k]; exact f
  · rw [if_neg k, if_neg k]; exact pr_cong f rfl
theorem sqM_cong {a b : Int} (h : Cg a b) : sqM a = sqM b := by
  have f := rootM_cong h
  have g := pr_cong f f
  unfold sqM
  unfold Cg at g
  have h' : a % p = b % p := h
  rw [g, h']
theorem even_zero (r : Int) : (evenP (r % p) = 0) ↔ r % p = 0 := by
  have h := modp_in r
  unfold evenP
  generalize r % p = u at *
  by_cases k : u % 2 = 1
  · rw [if_pos k, neg_p h (by omega)]; omega
  · rw [if_neg k]
theorem xx_cong {y : Int} (h : 0 ≤ y ∧ y < Q) : Cg (xxM y) (xxR y) := (xxM_rep h).cg.trans (xxR_rep h).cg.symm

theorem ok_same {b : List Int} (hb : b.length = 32) (rb : ∀ y ∈ b, 0 ≤ y ∧ y < 256) : okM b = okR b := by
  have hy := yV_in hb rb
  have hx := xx_cong hy
  have hR : 0 ≤ xxR (yV b) ∧ xxR (yV b) < Q := ⟨(xxR_rep hy).lo, (xxR_rep hy).hi⟩
  unfold okM okR
  rw [← sq_same hR, ← sqM_cong hx]
  cases h : sqM (xxM (yV b)) with
  | false => simp only [Bool.and_false, Bool.false_and]
  | true =>
    have e : decide (xEv (xxM (yV b)) = 0) = decide (rootR (xxR (yV b)) % p = 0) := by
      refine decide_eq_decide.2 ?_
      unfold xEv
      rw [h, if_pos rfl, even_zero, ← root_same hR]
      have := rootM_cong hx
      unfold Cg at this
      rw [this]
    rw [e]

theorem x_same {b : List Int} (hb : b.length = 32) (rb : ∀ y ∈ b, 0 ≤ y ∧ y < 256) (hok : okM b = true) : Cg (xM b) (xR b) := by
  have hy := yV_in hb rb
  have hx := xx_cong hy
  have hR : 0 ≤ xxR (yV b) ∧ xxR (yV b) < Q := ⟨(xxR_rep hy).lo, (xxR_rep hy).hi⟩
  have hq : sqM (xxM (yV b)) = true := by
    unfold okM at hok
    simp only [Bool.and_eq_true] at hok
    exact hok.1.2
  have hr : rootM (xxM (yV b)) % p = rootR (xxR (yV b)) % p := by
    rw [← root_same hR]
    exact rootM_cong hx
  have wr := rep_self (rootR_in (xxR (yV b)))
  have hn := (rs_rep rep0 wr).cg
  have he : xEv (xxM (yV b)) = evenP (rootR (xxR (yV b)) % p) := by
    unfold xEv
    rw [hq, if_pos rfl, hr]
  have hE := xEv_Q (xxM (yV b))
  have hd := (dM_rep rep0 (rep_self hE)).cg
  unfold xM xR
  rw [he] at hd ⊢
  have hm := modp_in (rootR (xxR (yV b)))
  generalize rootR (xxR (yV b)) = r at *
  have hev : Cg (evenP (r % p)) (if r % p % 2 = 1 then 0 - r else r) := by
    unfold evenP Cg
    by_cases k : r % p % 2 = 1
    · rw [if_pos k, if_pos k]; simp only [p]; omega
    · rw [if_neg k, if_neg k, Int.emod_emod]
  cases hs : sgn b with
  | true =>
    rw [if_pos rfl]
    by_cases k : r % p % 2 = 1
    · rw [if_pos k] at hev
      rw [decide_eq_true k, if_pos rfl]
      exact hd.trans (((Cg.refl 0).sub hev).trans (by unfold Cg; rw [show (0 : Int) - (0 - r) = r by omega]))
    · rw [if_neg k] at hev
      rw [decide_eq_false k, if_neg (by decide)]
      exact hd.trans (((Cg.refl 0).sub hev).trans hn.symm)
  | false =>
    rw [if_neg (by decide)]
    by_cases k : r % p % 2 = 1
    · rw [if_pos k] at hev
      rw [decide_eq_true k, if_neg (by decide)]
      exact hev.trans hn.symm
    · rw [if_neg k] at hev
      rw [decide_eq_false k, if_pos rfl]
      exact hev
end Go.Proofs.Ytibldmjnddppaaa.Fld
