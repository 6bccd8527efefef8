/- The law MeterPlays, in plain numbers. -/
import Derived.Test.YtllfkflclhnmgaaProg
import Derived.Test.YtllfkflclhnmgaaSimX7
set_option linter.unusedVariables false
set_option maxRecDepth 100000
namespace Mtr2
open Go Go.Sim
open Go.Proofs
theorem mix : Try.prog.follows .mixedOrders = true := by kernel_rfl
def sls : List Nat := [22, 25]
def nests : List (Nat × Nat) := []
/-! ### 14: towpath/meter.near (pure) -/
noncomputable def env14 : List (FuncId × Entry) := []
theorem envOk14 : EnvOk Try.prog (envOf env14) := envOf_ok (all_nil)
def raw14 (a0 : Int) : Option (List Hv) := let x1 : Int := if (1) > (a0) then (1) else (a0); some [.i (if (1000) < (x1) then (1000) else (x1))]
theorem l14 : LamOk Try.prog (lamOf []) (codeOf Try.f14) := lamOk_nil
def G14 : GFn := ⟨[.int .i64], .int .i64, apH [.i] raw14⟩
theorem ok14 : EntryOk Try.prog 14 (.pure G14.sem) := gfn_pure (u := 70) envOk14 mix Try.func14 (by kernel_rfl) (by kernel_rfl) l14 G14 (by kernel_rfl) (by kernel_rfl) [.i] rfl (fun a0 => by show _ = _; kernel_rfl)
theorem at14 (a0 : Int) : G14.fn [.i a0] = raw14 a0 := (congrFun (show G14.fn = apH [.i] raw14 from rfl) _).trans ((fun F => rfl : ∀ F : Int → Option (List Hv), apH [.i] F [.i a0] = F a0) raw14)
/-! ### 7: towpath/meter.New (newl) -/
noncomputable def env7 : List (FuncId × Entry) := [(14, .pure G14.sem)]
theorem envOk7 : EnvOk Try.prog (envS sls nests env7) := envS_ok (all_cons ok14 (all_nil))
def raw7 (a0 : Int) (a1 : Int) : Option (List Hv) := (raw14 (a0)).bind fun r1 => (raw14 (a1)).bind fun r2 => (raw14 (a0)).bind fun r3 => some [.i (hi r1 0), .i (hi r2 0), .i (hi r3 0), .i (0)]
theorem l7 : LamOk Try.prog (lamOf []) (codeOf Try.f7) := lamOk_nil
def L7 : LFn := ⟨[.int .i64, .int .i64], .blk (.agg [.int .i64, .int .i64, .int .i64, .int .i64]), true, true, apH [.i, .i] raw7⟩
theorem ok7 : EntryOk Try.prog 7 (.look L7) := lfn_newx (Γ := envS sls nests env7) (u := 70) envOk7 mix Try.func7 (by kernel_rfl) (by kernel_rfl) l7 L7 (e := .agg [.int .i64, .int .i64, .int .i64, .int .i64]) rfl (by kernel_rfl) (by kernel_rfl) [.i, .i] rfl (fun a0 a1 => by show _ = _; kernel_rfl)
theorem at7 (a0 : Int) (a1 : Int) : L7.fn [.i a0, .i a1] = raw7 a0 a1 := (congrFun (show L7.fn = apH [.i, .i] raw7 from rfl) _).trans ((fun F => rfl : ∀ F : Int → Int → Option (List Hv), apH [.i, .i] F [.i a0, .i a1] = F a0 a1) raw7)
/-! ### 8: towpath/towpathref17.NewMeter (newl) -/
noncomputable def env8 : List (FuncId × Entry) := []
theorem envOk8 : EnvOk Try.prog (envS sls nests env8) := envS_ok (all_nil)
def raw8 (a0 : Int) (a1 : Int) : Option (List Hv) := let x1 : Int := if (1) > (a0) then (1) else (a0); let x2 : Int := if (1000) < (x1) then (1000) else (x1); let x3 : Int := if (1) > (a1) then (1) else (a1); some [.i (x2), .i (if (1000) < (x3) then (1000) else (x3)), .i (x2), .i (0)]
theorem l8 : LamOk Try.prog (lamOf []) (codeOf Try.f8) := lamOk_nil
def L8 : LFn := ⟨[.int .i64, .int .i64], .blk (.agg [.int .i64, .int .i64, .int .i64, .int .i64]), true, true, apH [.i, .i] raw8⟩
theorem ok8 : EntryOk Try.prog 8 (.look L8) := lfn_newx (Γ := envS sls nests env8) (u := 70) envOk8 mix Try.func8 (by kernel_rfl) (by kernel_rfl) l8 L8 (e := .agg [.int .i64, .int .i64, .int .i64, .int .i64]) rfl (by kernel_rfl) (by kernel_rfl) [.i, .i] rfl (fun a0 a1 => by show _ = _; kernel_rfl)
theorem at8 (a0 : Int) (a1 : Int) : L8.fn [.i a0, .i a1] = raw8 a0 a1 := (congrFun (show L8.fn = apH [.i, .i] raw8 from rfl) _).trans ((fun F => rfl : ∀ F : Int → Int → Option (List Hv), apH [.i, .i] F [.i a0, .i a1] = F a0 a1) raw8)
/-! ### 9: (*towpath/meter.Meter).Take (recv) -/
noncomputable def env9 : List (FuncId × Entry) := []
theorem envOk9 : EnvOk Try.prog (envOf env9) := envOf_ok (all_nil)
def raw9 (a0 : Int) (a1 : Int) (a2 : Int) (a3 : Int) : Option (List Hv) := bif (a2) == (0) then (some [.b (false), .i (a0), .i (a1), .i (a2), .i (a3)]) else (some [.b (true), .i (a0), .i (a1), .i (wr .i64 ((a2) - (1))), .i (a3)])
theorem l9 : LamOk Try.prog (lamOf []) (codeOf Try.f9) := lamOk_nil
def G9 : GRec := ⟨.agg [.int .i64, .int .i64, .int .i64, .int .i64], [], .bool, apH [.i, .i, .i, .i] raw9⟩
theorem rok9 : G9.rfn.Ok Try.prog (envOf env9) (lamOf []) 70 Try.f9 (codeOf Try.f9) := grec_okx G9 (by kernel_rfl) (by kernel_rfl) (by kernel_rfl) [.i, .i, .i, .i] rfl (fun a0 a1 a2 a3 => by show _ = _; kernel_rfl)
theorem ok9 : EntryOk Try.prog 9 (.full G9.rfn.full) := fn_full (u := 70) envOk9 mix Try.func9 (by kernel_rfl) (by kernel_rfl) l9 rok9
theorem at9 (a0 : Int) (a1 : Int) (a2 : Int) (a3 : Int) : G9.fn [.i a0, .i a1, .i a2, .i a3] = raw9 a0 a1 a2 a3 := (congrFun (show G9.fn = apH [.i, .i, .i, .i] raw9 from rfl) _).trans ((fun F => rfl : ∀ F : Int → Int → Int → Int → Option (List Hv), apH [.i, .i, .i, .i] F [.i a0, .i a1, .i a2, .i a3] = F a0 a1 a2 a3) raw9)
/-! ### 10: (*towpath/towpathref17.Meter).Take (recv) -/
noncomputable def env10 : List (FuncId × Entry) := []
theorem envOk10 : EnvOk Try.prog (envOf env10) := envOf_ok (all_nil)
def raw10 (a0 : Int) (a1 : Int) (a2 : Int) (a3 : Int) : Option (List Hv) := bif (a2) == (0) then (some [.b (false), .i (a0), .i (a1), .i (a2), .i (a3)]) else (some [.b (true), .i (a0), .i (a1), .i (wr .i64 ((a2) - (1))), .i (a3)])
theorem l10 : LamOk Try.prog (lamOf []) (codeOf Try.f10) := lamOk_nil
def G10 : GRec := ⟨.agg [.int .i64, .int .i64, .int .i64, .int .i64], [], .bool, apH [.i, .i, .i, .i] raw10⟩
theorem rok10 : G10.rfn.Ok Try.prog (envOf env10) (lamOf []) 70 Try.f10 (codeOf Try.f10) := grec_okx G10 (by kernel_rfl) (by kernel_rfl) (by kernel_rfl) [.i, .i, .i, .i] rfl (fun a0 a1 a2 a3 => by show _ = _; kernel_rfl)
theorem ok10 : EntryOk Try.prog 10 (.full G10.rfn.full) := fn_full (u := 70) envOk10 mix Try.func10 (by kernel_rfl) (by kernel_rfl) l10 rok10
theorem at10 (a0 : Int) (a1 : Int) (a2 : Int) (a3 : Int) : G10.fn [.i a0, .i a1, .i a2, .i a3] = raw10 a0 a1 a2 a3 := (congrFun (show G10.fn = apH [.i, .i, .i, .i] raw10 from rfl) _).trans ((fun F => rfl : ∀ F : Int → Int → Int → Int → Option (List Hv), apH [.i, .i, .i, .i] F [.i a0, .i a1, .i a2, .i a3] = F a0 a1 a2 a3) raw10)
/-! ### 11: (*towpath/meter.Meter).Tick (recv) -/
noncomputable def env11 : List (FuncId × Entry) := []
theorem envOk11 : EnvOk Try.prog (envOf env11) := envOf_ok (all_nil)
def raw11 (a0 : Int) (a1 : Int) (a2 : Int) (a3 : Int) : Option (List Hv) := bif (a1) == 0 then none else (let x1 : Int := wr .i64 ((a3) + (1)); bif ((x1).tmod (a1)) == (0) then (let x2 : Int := wr .i64 ((a2) + (1)); some [.i (a0), .i (a1), .i (if (a0) < (x2) then (a0) else (x2)), .i (0)]) else (some [.i (a0), .i (a1), .i (a2), .i (x1)]))
theorem l11 : LamOk Try.prog (lamOf []) (codeOf Try.f11) := lamOk_nil
def G11 : GRec := ⟨.agg [.int .i64, .int .i64, .int .i64, .int .i64], [], .tup [], apH [.i, .i, .i, .i] raw11⟩
theorem rok11 : G11.rfn.Ok Try.prog (envOf env11) (lamOf []) 70 Try.f11 (codeOf Try.f11) := grec_okx G11 (by kernel_rfl) (by kernel_rfl) (by kernel_rfl) [.i, .i, .i, .i] rfl (fun a0 a1 a2 a3 => by show _ = _; kernel_rfl)
theorem ok11 : EntryOk Try.prog 11 (.full G11.rfn.full) := fn_full (u := 70) envOk11 mix Try.func11 (by kernel_rfl) (by kernel_rfl) l11 rok11
theorem at11 (a0 : Int) (a1 : Int) (a2 : Int) (a3 : Int) : G11.fn [.i a0, .i a1, .i a2, .i a3] = raw11 a0 a1 a2 a3 := (congrFun (show G11.fn = apH [.i, .i, .i, .i] raw11 from rfl) _).trans ((fun F => rfl : ∀ F : Int → Int → Int → Int → Option (List Hv), apH [.i, .i, .i, .i] F [.i a0, .i a1, .i a2, .i a3] = F a0 a1 a2 a3) raw11)
/-! ### 12: (*towpath/towpathref17.Meter).Tick (recv) -/
noncomputable def env12 : List (FuncId × Entry) := []
theorem envOk12 : EnvOk Try.prog (envOf env12) := envOf_ok (all_nil)
def raw12 (a0 : Int) (a1 : Int) (a2 : Int) (a3 : Int) : Option (List Hv) := bif (a1) == 0 then none else (let x1 : Int := wr .i64 ((a3) + (1)); bif ((x1).tmod (a1)) == (0) then (bif decide ((a2) < (a0)) then (some [.i (a0), .i (a1), .i (wr .i64 ((a2) + (1))), .i (x1)]) else (some [.i (a0), .i (a1), .i (a2), .i (x1)])) else (some [.i (a0), .i (a1), .i (a2), .i (x1)]))
theorem l12 : LamOk Try.prog (lamOf []) (codeOf Try.f12) := lamOk_nil
def G12 : GRec := ⟨.agg [.int .i64, .int .i64, .int .i64, .int .i64], [], .tup [], apH [.i, .i, .i, .i] raw12⟩
theorem rok12 : G12.rfn.Ok Try.prog (envOf env12) (lamOf []) 70 Try.f12 (codeOf Try.f12) := grec_okx G12 (by kernel_rfl) (by kernel_rfl) (by kernel_rfl) [.i, .i, .i, .i] rfl (fun a0 a1 a2 a3 => by show _ = _; kernel_rfl)
theorem ok12 : EntryOk Try.prog 12 (.full G12.rfn.full) := fn_full (u := 70) envOk12 mix Try.func12 (by kernel_rfl) (by kernel_rfl) l12 rok12
theorem at12 (a0 : Int) (a1 : Int) (a2 : Int) (a3 : Int) : G12.fn [.i a0, .i a1, .i a2, .i a3] = raw12 a0 a1 a2 a3 := (congrFun (show G12.fn = apH [.i, .i, .i, .i] raw12 from rfl) _).trans ((fun F => rfl : ∀ F : Int → Int → Int → Int → Option (List Hv), apH [.i, .i, .i, .i] F [.i a0, .i a1, .i a2, .i a3] = F a0 a1 a2 a3) raw12)
/-! ### 13: (*towpath/meter.Meter).Left (read) -/
noncomputable def env13 : List (FuncId × Entry) := []
theorem envOk13 : EnvOk Try.prog (envOf env13) := envOf_ok (all_nil)
def raw13 (a0 : Int) (a1 : Int) (a2 : Int) (a3 : Int) : Option (List Hv) := some [.i (a2), .i (a0), .i (a1), .i (a2), .i (a3)]
theorem l13 : LamOk Try.prog (lamOf []) (codeOf Try.f13) := lamOk_nil
def G13 : GRec := ⟨.agg [.int .i64, .int .i64, .int .i64, .int .i64], [], .int .i64, apH [.i, .i, .i, .i] raw13⟩
theorem still13 : ∀ hs, G13.still hs := GRec.still_of (ks := [.i, .i, .i, .i]) (f := raw13) rfl (fun a0 a1 a2 a3 => AllR.some rfl)
theorem rok13 : G13.rfn.Ok Try.prog (envOf env13) (lamOf []) 70 Try.f13 (codeOf Try.f13) := grec_okx G13 (by kernel_rfl) (by kernel_rfl) (by kernel_rfl) [.i, .i, .i, .i] rfl (fun a0 a1 a2 a3 => by show _ = _; kernel_rfl)
theorem ok13 : EntryOk Try.prog 13 (.read G13.rfn.read) := fn_read (u := 70) envOk13 mix Try.func13 (by kernel_rfl) (by kernel_rfl) l13 rok13 (GRec.still_run still13)
theorem at13 (a0 : Int) (a1 : Int) (a2 : Int) (a3 : Int) : G13.fn [.i a0, .i a1, .i a2, .i a3] = raw13 a0 a1 a2 a3 := (congrFun (show G13.fn = apH [.i, .i, .i, .i] raw13 from rfl) _).trans ((fun F => rfl : ∀ F : Int → Int → Int → Int → Option (List Hv), apH [.i, .i, .i, .i] F [.i a0, .i a1, .i a2, .i a3] = F a0 a1 a2 a3) raw13)
/-! ### 6: towpath/towpathlaw25.known (pure) -/
noncomputable def env6 : List (FuncId × Entry) := [(7, .look L7), (9, .full G9.rfn.full), (11, .full G11.rfn.full), (13, .read G13.rfn.read)]
theorem envOk6 : EnvOk Try.prog (envOf env6) := envOf_ok (all_cons ok7 (all_cons ok9 (all_cons ok11 (all_cons ok13 (all_nil)))))
def raw6  : Option (List Hv) := (raw7 (1) (2)).bind fun r1 => (raw9 (hi (r1) 0) (hi (r1) 1) (hi (r1) 2) (hi (r1) 3)).bind fun r2 => bif !(hb r2 0) then (some [.b (false)]) else ((raw9 (hi r2 1) (hi r2 2) (hi r2 3) (hi r2 4)).bind fun r3 => bif hb r3 0 then (some [.b (false)]) else ((raw11 (hi r3 1) (hi r3 2) (hi r3 3) (hi r3 4)).bind fun r4 => (raw11 (hi r4 0) (hi r4 1) (hi r4 2) (hi r4 3)).bind fun r5 => (raw13 (hi r5 0) (hi r5 1) (hi r5 2) (hi r5 3)).bind fun r6 => bif (hi r6 0) == (1) then ((raw9 (hi r5 0) (hi r5 1) (hi r5 2) (hi r5 3)).bind fun r7 => some [.b (hb r7 0)]) else (some [.b (false)])))
theorem l6 : LamOk Try.prog (lamOf []) (codeOf Try.f6) := lamOk_nil
def G6 : GFn := ⟨[], .bool, apH [] raw6⟩
theorem ok6 : EntryOk Try.prog 6 (.pure G6.sem) := gfn_pure (u := 70) envOk6 mix Try.func6 (by kernel_rfl) (by kernel_rfl) l6 G6 (by kernel_rfl) (by kernel_rfl) [] rfl (by show _ = _; kernel_rfl)
/-! ### 3: towpath/towpathlaw25.MeterPlays (law) -/
noncomputable def env3 : List (FuncId × Entry) := [(6, .pure G6.sem), (7, .look L7), (8, .look L8), (9, .full G9.rfn.full), (10, .full G10.rfn.full), (11, .full G11.rfn.full), (12, .full G12.rfn.full), (13, .read G13.rfn.read)]
theorem envOk3 : EnvOk Try.prog (envS sls nests env3) := envS_ok (all_cons ok6 (all_cons ok7 (all_cons ok8 (all_cons ok9 (all_cons ok10 (all_cons ok11 (all_cons ok12 (all_cons ok13 (all_nil)))))))))
def h3_2 : Tpl := ⟨[none, none, some (.sl 1 2 true), none, none, none, none, none, none, some (.pr 2 []), some (.pr 3 []), some (.int .i64), none, none, none, none, none, none, none, none, none, none, none, none, none, some (.sl 4 11 true), some (.ci .i64 2), some (.int .i64), none, none, none, none, none, none, none, none, none, none, none, none, none, none, none, none, none, none, none, none, none, none, none, none, none, none, none, none, none, none, none, none, none, none, none, none, none, none, none, none], [none, some (.orow (.bool) false), some (.agg [.int .i64, .int .i64, .int .i64, .int .i64]), some (.agg [.int .i64, .int .i64, .int .i64, .int .i64]), some (.orow (.arr .i64 2) true)], 5⟩
def e3_2 : Tpl := ⟨[none, none, some (.sl 1 1 true), none, none, none, none, none, none, none, none, none, none, none, none, none, none, none, none, none, none, none, none, none, none, some (.sl 2 2 true), some (.ci .i64 2), some (.int .i64), none, none, none, none, none, none, none, none, none, none, none, none, none, none, none, none, none, none, none, none, none, none, none, none, none, none, none, none, none, none, none, none, none, none, none, none, none, none, none, none], [none, some (.orow (.bool) false), some (.orow (.arr .i64 2) true)], 5⟩
def r3_2 : Tpl := ⟨[none, none, none, none, none, none, some (.bool), none, none, none, none, none, none, none, none, none, none, none, none, none, none, none, none, none, none, none, none, none, none, none, none, none, none, none, none, none, none, none, none, none, none, none, none, none, none, none, none, none, none, none, none, none, none, none, none, none, none, none, none, none, none, none, none, none, none, none, none, none], [], 5⟩
def t3_2 (z0 : Int) (z1 : Int) (z2 : List (List Hv)) (z3 : Int) (z4 : Int) (z5 : Int) (z6 : Int) (z7 : Int) (z8 : Int) (z9 : Int) (z10 : Int) (z11 : List (List Hv)) : Option (Sum (List Hv) (Bool × List Hv)) := bif decide ((z0) < ((((z2).length : Nat) : Int))) then (bif inB (z0) ((z2).length) then (bif hb ((z2).getD ((z0).toNat) []) 0 then ((raw9 (z3) (z4) (z5) (z6)).bind fun r4 => (raw10 (z7) (z8) (z9) (z10)).bind fun r5 => bif !((hb r4 0) == (hb r5 0)) then (some (.inr (true, [.b (false)]))) else ((raw13 (hi r4 1) (hi r4 2) (hi r4 3) (hi r4 4)).bind fun r6 => bif (hi r6 0) != (hi r5 3) then (some (.inr (true, [.b (false)]))) else (some (.inl [.i (wr .i64 ((z0) + (1))), .i (z1), .r (z2), .i (hi r4 1), .i (hi r4 2), .i (hi r4 3), .i (hi r4 4), .i (hi r5 1), .i (hi r5 2), .i (hi r5 3), .i (hi r5 4), .r (z11)])))) else ((raw11 (z3) (z4) (z5) (z6)).bind fun r7 => (raw12 (z7) (z8) (z9) (z10)).bind fun r8 => (raw13 (hi r7 0) (hi r7 1) (hi r7 2) (hi r7 3)).bind fun r9 => bif (hi r9 0) != (hi r8 2) then (some (.inr (true, [.b (false)]))) else (some (.inl [.i (wr .i64 ((z0) + (1))), .i (z1), .r (z2), .i (hi r7 0), .i (hi r7 1), .i (hi r7 2), .i (hi r7 3), .i (hi r8 0), .i (hi r8 1), .i (hi r8 2), .i (hi r8 3), .r (z11)])))) else none) else (some (.inr (false, [.i (z1), .r (z2), .r (z11)])))
def g3_2 : StepG := apH [.i, .i, .r, .i, .i, .i, .i, .i, .i, .i, .i, .r] t3_2
theorem g3_2_at (z0 : Int) (z1 : Int) (z2 : List (List Hv)) (z3 : Int) (z4 : Int) (z5 : Int) (z6 : Int) (z7 : Int) (z8 : Int) (z9 : Int) (z10 : Int) (z11 : List (List Hv)) : g3_2 [.i z0, .i z1, .r z2, .i z3, .i z4, .i z5, .i z6, .i z7, .i z8, .i z9, .i z10, .r z11] = t3_2 z0 z1 z2 z3 z4 z5 z6 z7 z8 z9 z10 z11 := (congrFun (show g3_2 = apH [.i, .i, .r, .i, .i, .i, .i, .i, .i, .i, .i, .r] t3_2 from rfl) _).trans ((fun F => rfl : ∀ F : Int → Int → List (List Hv) → Int → Int → Int → Int → Int → Int → Int → Int → List (List Hv) → Option (Sum (List Hv) (Bool × List Hv)), apH [.i, .i, .r, .i, .i, .i, .i, .i, .i, .i, .i, .r] F [.i z0, .i z1, .r z2, .i z3, .i z4, .i z5, .i z6, .i z7, .i z8, .i z9, .i z10, .r z11] = F z0 z1 z2 z3 z4 z5 z6 z7 z8 z9 z10 z11) t3_2)
theorem l3_2 : LamOk Try.prog (lamOf []) (codeOf Try.f3) := lamOk_nil
theorem b3_2 : BlkSound Try.prog 2 (blkOf (codeOf Try.f3) 2) (loopR h3_2 e3_2 r3_2 g3_2) := loopR_at (u := 70) envOk3 mix 2 (by kernel_rfl) l3_2 (ks := [.i, .i, .r, .i, .i, .i, .i, .i, .i, .i, .i, .r]) (t := t3_2) (fun _ => rfl) (fun _ => rfl) (fun _ => rfl) (fun z0 z1 z2 z3 z4 z5 z6 z7 z8 z9 z10 z11 => by show _ = _; kernel_rfl)
def h3_0 : Tpl := ⟨[none, none, some (.sl 1 1 true), none, none, none, none, none, none, none, none, none, none, none, none, none, none, none, none, none, none, none, none, none, none, some (.sl 2 2 true), some (.ci .i64 2), some (.int .i64), none, none, none, none, none, none, none, none, none, none, none, none, none, none, none, none, none, none, none, none, none, none, none, none, none, none, none, none, none, none, none, none, none, none, none, none, none, none, none, none], [none, some (.orow (.bool) false), some (.orow (.arr .i64 2) true)], 3⟩
def e3_0 : Tpl := ⟨[none, none, none, none, none, none, none, none, none, none, none, none, none, none, none, none, none, none, none, none, none, none, none, none, none, none, none, none, none, none, none, none, none, none, none, none, none, none, none, none, none, none, none, none, none, none, none, none, none, none, none, none, none, none, none, none, none, none, none, none, none, none, none, none, none, none, none, none], [], 3⟩
def r3_0 : Tpl := ⟨[none, none, none, none, none, none, some (.bool), none, none, none, none, none, none, none, none, none, none, none, none, none, none, none, none, none, none, none, none, none, none, none, none, none, none, none, none, none, none, none, none, none, none, none, none, none, none, none, none, none, none, none, none, none, none, none, none, none, none, none, none, none, none, none, none, none, none, none, none, none], [], 3⟩
def t3_0 (z0 : Int) (z1 : List (List Hv)) (z2 : List (List Hv)) : Option (Sum (List Hv) (Bool × List Hv)) := bif decide ((z0) < (2)) then (bif inB (z0) ((z2).length) then (let x1 : List Int := hl ((z2).getD ((z0).toNat) []) 0; (raw7 ((x1).getD 0 0) ((x1).getD 1 0)).bind fun r2 => (raw8 ((x1).getD 0 0) ((x1).getD 1 0)).bind fun r3 => (loopN g3_2 bigN [.i (0), .i (z0), .r (z1), .i (hi (r2) 0), .i (hi (r2) 1), .i (hi (r2) 2), .i (hi (r2) 3), .i (hi (r3) 0), .i (hi (r3) 1), .i (hi (r3) 2), .i (hi (r3) 3), .r (z2)]).bind fun r10 => bif r10.1 then (some (.inr (true, [.b (hb r10.2 0)]))) else (some (.inl [.i (wr .i64 ((hi r10.2 0) + (1))), .r (hr r10.2 1), .r (hr r10.2 2)]))) else none) else (some (.inr (false, [])))
def g3_0 : StepG := apH [.i, .r, .r] t3_0
theorem g3_0_at (z0 : Int) (z1 : List (List Hv)) (z2 : List (List Hv)) : g3_0 [.i z0, .r z1, .r z2] = t3_0 z0 z1 z2 := (congrFun (show g3_0 = apH [.i, .r, .r] t3_0 from rfl) _).trans ((fun F => rfl : ∀ F : Int → List (List Hv) → List (List Hv) → Option (Sum (List Hv) (Bool × List Hv)), apH [.i, .r, .r] F [.i z0, .r z1, .r z2] = F z0 z1 z2) t3_0)
theorem l3_0 : LamOk Try.prog (lamOf [(2, loopR h3_2 e3_2 r3_2 g3_2)]) (codeOf Try.f3) := lamOk_of (by kernel_rfl) (blk_cons b3_2 (blk_nil))
theorem b3_0 : BlkSound Try.prog 0 (blkOf (codeOf Try.f3) 0) (loopR h3_0 e3_0 r3_0 g3_0) := loopR_at (u := 70) envOk3 mix 0 (by kernel_rfl) l3_0 (ks := [.i, .r, .r]) (t := t3_0) (fun _ => rfl) (fun _ => rfl) (fun _ => rfl) (fun z0 z1 z2 => by show _ = _; kernel_rfl)
def raw3 (a0 : Int) (a1 : Int) (a2 : List (List Hv)) : Option (List Hv) := (raw6).bind fun r1 => bif !(hb r1 0) then (some [.b (false)]) else (bif decide (((((a2).length : Nat) : Int)) > (100)) then (some [.b (true)]) else ((loopN g3_0 bigN [.i (0), .r (a2), .r ([[.l ([a0, a1])], [.l ([(a0).tmod (6), (a1).tmod (5)])]])]).bind fun r11 => bif r11.1 then (some [.b (hb r11.2 0)]) else (some [.b (true)])))
theorem l3 : LamOk Try.prog (lamOf [(2, loopR h3_2 e3_2 r3_2 g3_2), (0, loopR h3_0 e3_0 r3_0 g3_0)]) (codeOf Try.f3) := lamOk_of (by kernel_rfl) (blk_cons b3_2 (blk_cons b3_0 (blk_nil)))
theorem ev3 (a0 : Int) (a1 : Int) (a2 : List (List Hv)) : evalF Try.prog (envS sls nests env3) (lamOf [(2, loopR h3_2 e3_2 r3_2 g3_2), (0, loopR h3_0 e3_0 r3_0 g3_0)]) 70 Try.f3 (codeOf Try.f3) [.int .i64 (a0), .int .i64 (a1), .x (.sln 0 ((a2).length))] [some (.x (.obj (.row (.bool) (a2) false)))] 1 (fun v _ => matchP .bool v) = raw3 a0 a1 a2 := by kernel_rfl
end Mtr2
namespace Mtr2
open Go Go.Sim

theorem mod_step {c d k : Int} (hc : c = d % k) : (c + 1) % k = (d + 1) % k := by
  subst hc
  rw [Int.emod_add_emod]

theorem take_same {s k t c : Int} (ht : 0 ≤ t) (hs : t ≤ s) (hs1 : s ≤ 1000) : raw9 s k t c = if t = 0 then some [.b false, .i s, .i k, .i t, .i c] else some [.b true, .i s, .i k, .i (t - 1), .i c] := by
  unfold raw9
  by_cases h : t = 0
  · subst h; rfl
  · have : (t == (0 : Int)) = false := by simpa using h
    rw [this, if_neg h, cond_false, wr_i64 (by omega) (by omega)]
theorem take_same' {s k t c : Int} (ht : 0 ≤ t) (hs : t ≤ s) (hs1 : s ≤ 1000) : raw10 s k t c = if t = 0 then some [.b false, .i s, .i k, .i t, .i c] else some [.b true, .i s, .i k, .i (t - 1), .i c] := by
  unfold raw10
  by_cases h : t = 0
  · subst h; rfl
  · have : (t == (0 : Int)) = false := by simpa using h
    rw [this, if_neg h, cond_false, wr_i64 (by omega) (by omega)]
theorem tick_a {s k t c : Int} (hk : 1 ≤ k) (ht : 0 ≤ t) (hs : t ≤ s) (hs1 : s ≤ 1000) (hc : 0 ≤ c) (hc1 : c < 100000) :
    raw11 s k t c = if (c + 1) % k = 0 then some [.i s, .i k, .i (if t < s then t + 1 else t), .i 0] else some [.i s, .i k, .i t, .i (c + 1)] := by
  unfold raw11
  have h0 : (k == (0 : Int)) = false := by simp; omega
  rw [h0, cond_false]
  simp only
  rw [wr_i64 (n := c + 1) (by omega) (by omega), wr_i64 (n := t + 1) (by omega) (by omega), Int.tmod_eq_emod_of_nonneg (by omega)]
  by_cases h : (c + 1) % k = 0
  · have : ((c + 1) % k == (0 : Int)) = true := by simpa using h
    rw [this, cond_true, if_pos h]
    by_cases h2 : t < s
    · rw [if_pos h2, if_neg (by omega)]
    · rw [if_neg h2, if_pos (by omega)]
      rw [show s = t by omega]
  · have : ((c + 1) % k == (0 : Int)) = false := by simpa using h
    rw [this, cond_false, if_neg h]
theorem tick_b {s k t d : Int} (hk : 1 ≤ k) (ht : 0 ≤ t) (hs : t ≤ s) (hs1 : s ≤ 1000) (hd : 0 ≤ d) (hd1 : d < 100000) :
    raw12 s k t d = if (d + 1) % k = 0 then some [.i s, .i k, .i (if t < s then t + 1 else t), .i (d + 1)] else some [.i s, .i k, .i t, .i (d + 1)] := by
  unfold raw12
  have h0 : (k == (0 : Int)) = false := by simp; omega
  rw [h0, cond_false]
  simp only
  rw [wr_i64 (n := d + 1) (by omega) (by omega), wr_i64 (n := t + 1) (by omega) (by omega), Int.tmod_eq_emod_of_nonneg (by omega)]
  by_cases h : (d + 1) % k = 0
  · have : ((d + 1) % k == (0 : Int)) = true := by simpa using h
    rw [this, cond_true, if_pos h]
    by_cases h2 : t < s
    · rw [if_pos h2]; simp [h2]
    · rw [if_neg h2]; simp [h2]
  · have : ((d + 1) % k == (0 : Int)) = false := by simpa using h
    rw [this, cond_false, if_neg h]

theorem plays {z1 : Int} {l rows : List (List Hv)} (hl : l.length ≤ 100) : ∀ (j : Nat) (i s k t c d : Int), i + j = l.length → 0 ≤ i → s ≤ 1000 → 1 ≤ k → 0 ≤ t → t ≤ s → 0 ≤ d → d ≤ i → c = d % k →
    EndsIn j g3_2 [.i i, .i z1, .r l, .i s, .i k, .i t, .i c, .i s, .i k, .i t, .i d, .r rows] (false, [.i z1, .r l, .r rows])
  | 0, i, s, k, t, c, d, hi, h0, hs, hk, ht, hts, hd, hdi, hc => by
    refine ends_done ?_
    rw [g3_2_at]
    unfold t3_2
    have : decide (i < ((l.length : Nat) : Int)) = false := by simp; omega
    rw [this, cond_false]
  | j + 1, i, s, k, t, c, d, hi, h0, hs, hk, ht, hts, hd, hdi, hc => by
    have hlt : decide (i < ((l.length : Nat) : Int)) = true := by simp; omega
    have hin : inB i l.length = true := inB_iff.2 ⟨h0, by omega⟩
    have hc0 : 0 ≤ c := by rw [hc]; exact Int.emod_nonneg _ (by omega)
    have hcd : c ≤ d := by
      rw [hc]
      have h1 := Int.emod_nonneg d (show k ≠ 0 by omega)
      have h2 := Int.mul_ediv_add_emod d k
      have h3 : 0 ≤ k * (d / k) := Int.mul_nonneg (by omega) (Int.ediv_nonneg hd (by omega))
      omega
    have hw : wr .i64 (i + 1) = i + 1 := wr_i64 (by omega) (by omega)
    cases hq : hb (l.getD i.toNat []) 0 with
    | true =>
      by_cases h : t = 0
      · refine ends_step (v' := [.i (i + 1), .i z1, .r l, .i s, .i k, .i t, .i c, .i s, .i k, .i t, .i d, .r rows]) ?_ (plays hl j (i + 1) s k t c d (by omega) (by omega) hs hk ht hts hd (by omega) hc)
        rw [g3_2_at]
        unfold t3_2
        rw [hlt, cond_true, hin, cond_true, hq, cond_true, take_same ht hts hs, take_same' ht hts hs, if_pos h, if_pos h]
        simp [hb, Go.Sim.hi, raw13, hw]
      · refine ends_step (v' := [.i (i + 1), .i z1, .r l, .i s, .i k, .i (t - 1), .i c, .i s, .i k, .i (t - 1), .i d, .r rows]) ?_ (plays hl j (i + 1) s k (t - 1) c d (by omega) (by omega) hs hk (by omega) (by omega) hd (by omega) hc)
        rw [g3_2_at]
        unfold t3_2
        rw [hlt, cond_true, hin, cond_true, hq, cond_true, take_same ht hts hs, take_same' ht hts hs, if_neg h, if_neg h]
        simp [hb, Go.Sim.hi, raw13, hw]
    | false =>
      have hm := mod_step hc
      have ta := tick_a (c := c) hk ht hts hs hc0 (by omega)
      have tb := tick_b (d := d) hk ht hts hs hd (by omega)
      by_cases h : (d + 1) % k = 0
      · refine ends_step (v' := [.i (i + 1), .i z1, .r l, .i s, .i k, .i (if t < s then t + 1 else t), .i 0, .i s, .i k, .i (if t < s then t + 1 else t), .i (d + 1), .r rows]) ?_
          (plays hl j (i + 1) s k (if t < s then t + 1 else t) 0 (d + 1) (by omega) (by omega) hs hk (by split <;> omega) (by split <;> omega) (by omega) (by omega) h.symm)
        rw [g3_2_at]
        unfold t3_2
        rw [hlt, cond_true, hin, cond_true, hq, cond_false, ta, tb, hm, if_pos h, if_pos h]
        simp [Go.Sim.hi, raw13, hw]
      · have hc' : c + 1 = (d + 1) % k := by
          rw [← hm, Int.emod_eq_of_lt (by omega)]
          have := Int.emod_lt_of_pos d (show 0 < k by omega)
          rw [← hc] at this
          rcases Int.lt_or_eq_of_le (show c + 1 ≤ k by omega) with h1 | h1
          · exact h1
          · rw [← hm, h1, Int.emod_self] at h; exact absurd rfl h
        refine ends_step (v' := [.i (i + 1), .i z1, .r l, .i s, .i k, .i t, .i (c + 1), .i s, .i k, .i t, .i (d + 1), .r rows]) ?_ (plays hl j (i + 1) s k t (c + 1) (d + 1) (by omega) (by omega) hs hk ht hts (by omega) (by omega) hc')
        rw [g3_2_at]
        unfold t3_2
        rw [hlt, cond_true, hin, cond_true, hq, cond_false, ta, tb, hm, if_neg h, if_neg h]
        simp [Go.Sim.hi, raw13, hw]

def clamp (a : Int) : Int := if 1000 < (if 1 > a then 1 else a) then 1000 else (if 1 > a then 1 else a)
theorem clamp_in (a : Int) : 1 ≤ clamp a ∧ clamp a ≤ 1000 := by unfold clamp; split <;> split <;> omega
theorem new_a (a b : Int) : raw7 a b = some [.i (clamp a), .i (clamp b), .i (clamp a), .i 0] := rfl
theorem new_b (a b : Int) : raw8 a b = some [.i (clamp a), .i (clamp b), .i (clamp a), .i 0] := rfl
theorem known_ok : raw6 = some [.b true] := by kernel_rfl

/-- one meter plays all -/
theorem round {l rows : List (List Hv)} (hl : l.length ≤ 100) {z : Int} (h0 : 0 ≤ z) (h2 : z < 2) (hr : rows.length = 2) : g3_0 [.i z, .r l, .r rows] = some (.inl [.i (z + 1), .r l, .r rows]) := by
  rw [g3_0_at]
  unfold t3_0
  have hlt : decide (z < (2 : Int)) = true := by simpa using h2
  have hin : inB z rows.length = true := inB_iff.2 ⟨h0, by omega⟩
  rw [hlt, cond_true, hin, cond_true]
  simp only [new_a, new_b, Option.bind_some]
  obtain ⟨s1, s2⟩ := clamp_in ((Go.Sim.hl ((rows).getD ((z).toNat) []) 0).getD 0 0)
  obtain ⟨k1, k2⟩ := clamp_in ((Go.Sim.hl ((rows).getD ((z).toNat) []) 0).getD 1 0)
  have := (plays (z1 := z) (rows := rows) hl l.length 0 _ _ _ 0 0 (by omega) (Int.le_refl _) s2 k1 (by omega) (Int.le_refl _) (Int.le_refl _) (Int.le_refl _) (by simp)).big (by omega)
  simp only [Go.Sim.hi, List.getElem?_cons_zero, List.getElem?_cons_succ] at this ⊢
  rw [this]
  simp only [Option.bind_some, cond_false, List.getElem?_cons_zero, List.getElem?_cons_succ, Go.Sim.hr]
  rw [wr_i64 (by omega) (by omega)]

theorem law3 (a0 a1 : Int) (l : List (List Hv)) : raw3 a0 a1 l = some [.b true] := by
  unfold raw3
  rw [known_ok]
  simp only [Option.bind_some, hb, List.getElem?_cons_zero, Bool.not_true, cond_false]
  by_cases h : ((l.length : Nat) : Int) > 100
  · have : decide (((l.length : Nat) : Int) > 100) = true := by simpa using h
    rw [this, cond_true]
  · have hd : decide (((l.length : Nat) : Int) > 100) = false := by simpa using h
    rw [hd, cond_false]
    have hl : l.length ≤ 100 := by omega
    have e : EndsIn 2 g3_0 [.i 0, .r l, .r [[.l [a0, a1]], [.l [a0.tmod 6, a1.tmod 5]]]] (false, []) :=
      ends_step (round hl (by omega) (by omega) rfl) (ends_step (round hl (by omega) (by omega) rfl) (ends_done (by rw [g3_0_at]; rfl)))
    rw [e.big (by omega)]
    rfl
end Mtr2
