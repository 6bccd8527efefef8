import Derived.Test.YtllfkflclhnmgaaProg
import Derived.Test.YtllfkflclhnmgaaSimT
set_option linter.unusedVariables false
set_option maxRecDepth 100000
namespace Go.Proofs.Ytllfkflclhnmgaa.Mtr
open Go Go.Sim
open Go.Proofs

theorem mix : Try.prog.follows .mixedOrders = true := by kernel_rfl
/-! ### 14: towpath/meter.near (pure) -/
noncomputable def env14 : List (FuncId × Entry) := []
theorem envOk14 : EnvOk Try.prog (envOf env14) := envOf_ok (all_nil)
def raw14 (a0 : Int) : Option (List Hv) := let x1 : Int := if (1) > (a0) then (1) else (a0); some [.i (if (1000) < (x1) then (1000) else (x1))]
theorem l14 : LamOk Try.prog (lamOf []) (codeOf Try.f14) := lamOk_nil
def G14 : GFn := ⟨[.int .i64], .int .i64, apH [.i] raw14⟩
theorem ok14 : EntryOk Try.prog 14 (.pure G14.sem) := gfn_pure (u := 70) envOk14 mix Try.func14 (by kernel_rfl) (by kernel_rfl) l14 G14 (by kernel_rfl) (by kernel_rfl) (fun a0 => by show _ = _; kernel_rfl)
/-! ### 7: towpath/meter.New (new) -/
noncomputable def env7 : List (FuncId × Entry) := [(14, .pure G14.sem)]
theorem envOk7 : EnvOk Try.prog (envOf env7) := envOf_ok (all_cons ok14 (all_nil))
def raw7 (a0 : Int) (a1 : Int) : Option (List Hv) := (raw14 (a0)).bind fun r1 => (raw14 (a1)).bind fun r2 => (raw14 (a0)).bind fun r3 => some [.i (hi r1 0), .i (hi r2 0), .i (hi r3 0), .i (0)]
theorem l7 : LamOk Try.prog (lamOf []) (codeOf Try.f7) := lamOk_nil
def G7 : GNew := ⟨[.int .i64, .int .i64], .agg [.int .i64, .int .i64, .int .i64, .int .i64], apH [.i, .i] raw7⟩
theorem ok7 : EntryOk Try.prog 7 (.full G7.nfn.sem) := gnew_full (u := 70) envOk7 mix Try.func7 (by kernel_rfl) (by kernel_rfl) l7 G7 (by kernel_rfl) (by kernel_rfl) (by kernel_rfl) (fun a0 a1 => by show _ = _; kernel_rfl)
/-! ### 8: towpath/towpathref17.NewMeter (new) -/
noncomputable def env8 : List (FuncId × Entry) := []
theorem envOk8 : EnvOk Try.prog (envOf env8) := envOf_ok (all_nil)
def raw8 (a0 : Int) (a1 : Int) : Option (List Hv) := let x1 : Int := if (1) > (a0) then (1) else (a0); let x2 : Int := if (1000) < (x1) then (1000) else (x1); let x3 : Int := if (1) > (a1) then (1) else (a1); some [.i (x2), .i (if (1000) < (x3) then (1000) else (x3)), .i (x2), .i (0)]
theorem l8 : LamOk Try.prog (lamOf []) (codeOf Try.f8) := lamOk_nil
def G8 : GNew := ⟨[.int .i64, .int .i64], .agg [.int .i64, .int .i64, .int .i64, .int .i64], apH [.i, .i] raw8⟩
theorem ok8 : EntryOk Try.prog 8 (.full G8.nfn.sem) := gnew_full (u := 70) envOk8 mix Try.func8 (by kernel_rfl) (by kernel_rfl) l8 G8 (by kernel_rfl) (by kernel_rfl) (by kernel_rfl) (fun a0 a1 => by show _ = _; kernel_rfl)
/-! ### 9: (*towpath/meter.Meter).Take (recv) -/
noncomputable def env9 : List (FuncId × Entry) := []
theorem envOk9 : EnvOk Try.prog (envOf env9) := envOf_ok (all_nil)
def raw9 (a0 : Int) (a1 : Int) (a2 : Int) (a3 : Int) : Option (List Hv) := bif (a2) == (0) then (some [.b (false), .i (a0), .i (a1), .i (a2), .i (a3)]) else (some [.b (true), .i (a0), .i (a1), .i (wr .i64 ((a2) - (1))), .i (a3)])
theorem l9 : LamOk Try.prog (lamOf []) (codeOf Try.f9) := lamOk_nil
def G9 : GRec := ⟨.agg [.int .i64, .int .i64, .int .i64, .int .i64], [], .bool, apH [.i, .i, .i, .i] raw9⟩
theorem ok9 : EntryOk Try.prog 9 (.full G9.rfn.full) := grec_full (u := 70) envOk9 mix Try.func9 (by kernel_rfl) (by kernel_rfl) l9 G9 (by kernel_rfl) (by kernel_rfl) (by kernel_rfl) (fun a0 a1 a2 a3 => by show _ = _; kernel_rfl)
/-! ### 10: (*towpath/towpathref17.Meter).Take (recv) -/
noncomputable def env10 : List (FuncId × Entry) := []
theorem envOk10 : EnvOk Try.prog (envOf env10) := envOf_ok (all_nil)
def raw10 (a0 : Int) (a1 : Int) (a2 : Int) (a3 : Int) : Option (List Hv) := bif (a2) == (0) then (some [.b (false), .i (a0), .i (a1), .i (a2), .i (a3)]) else (some [.b (true), .i (a0), .i (a1), .i (wr .i64 ((a2) - (1))), .i (a3)])
theorem l10 : LamOk Try.prog (lamOf []) (codeOf Try.f10) := lamOk_nil
def G10 : GRec := ⟨.agg [.int .i64, .int .i64, .int .i64, .int .i64], [], .bool, apH [.i, .i, .i, .i] raw10⟩
theorem ok10 : EntryOk Try.prog 10 (.full G10.rfn.full) := grec_full (u := 70) envOk10 mix Try.func10 (by kernel_rfl) (by kernel_rfl) l10 G10 (by kernel_rfl) (by kernel_rfl) (by kernel_rfl) (fun a0 a1 a2 a3 => by show _ = _; kernel_rfl)
/-! ### 11: (*towpath/meter.Meter).Tick (recv) -/
noncomputable def env11 : List (FuncId × Entry) := []
theorem envOk11 : EnvOk Try.prog (envOf env11) := envOf_ok (all_nil)
def raw11 (a0 : Int) (a1 : Int) (a2 : Int) (a3 : Int) : Option (List Hv) := bif (a1) == 0 then none else (let x1 : Int := wr .i64 ((a3) + (1)); bif ((x1).tmod (a1)) == (0) then (let x2 : Int := wr .i64 ((a2) + (1)); some [.i (a0), .i (a1), .i (if (a0) < (x2) then (a0) else (x2)), .i (0)]) else (some [.i (a0), .i (a1), .i (a2), .i (x1)]))
theorem l11 : LamOk Try.prog (lamOf []) (codeOf Try.f11) := lamOk_nil
def G11 : GRec := ⟨.agg [.int .i64, .int .i64, .int .i64, .int .i64], [], .tup [], apH [.i, .i, .i, .i] raw11⟩
theorem ok11 : EntryOk Try.prog 11 (.full G11.rfn.full) := grec_full (u := 70) envOk11 mix Try.func11 (by kernel_rfl) (by kernel_rfl) l11 G11 (by kernel_rfl) (by kernel_rfl) (by kernel_rfl) (fun a0 a1 a2 a3 => by show _ = _; kernel_rfl)
/-! ### 12: (*towpath/towpathref17.Meter).Tick (recv) -/
noncomputable def env12 : List (FuncId × Entry) := []
theorem envOk12 : EnvOk Try.prog (envOf env12) := envOf_ok (all_nil)
def raw12 (a0 : Int) (a1 : Int) (a2 : Int) (a3 : Int) : Option (List Hv) := bif (a1) == 0 then none else (let x1 : Int := wr .i64 ((a3) + (1)); bif ((x1).tmod (a1)) == (0) then (bif decide ((a2) < (a0)) then (some [.i (a0), .i (a1), .i (wr .i64 ((a2) + (1))), .i (x1)]) else (some [.i (a0), .i (a1), .i (a2), .i (x1)])) else (some [.i (a0), .i (a1), .i (a2), .i (x1)]))
theorem l12 : LamOk Try.prog (lamOf []) (codeOf Try.f12) := lamOk_nil
def G12 : GRec := ⟨.agg [.int .i64, .int .i64, .int .i64, .int .i64], [], .tup [], apH [.i, .i, .i, .i] raw12⟩
theorem ok12 : EntryOk Try.prog 12 (.full G12.rfn.full) := grec_full (u := 70) envOk12 mix Try.func12 (by kernel_rfl) (by kernel_rfl) l12 G12 (by kernel_rfl) (by kernel_rfl) (by kernel_rfl) (fun a0 a1 a2 a3 => by show _ = _; kernel_rfl)
/-! ### 13: (*towpath/meter.Meter).Left (read) -/
noncomputable def env13 : List (FuncId × Entry) := []
theorem envOk13 : EnvOk Try.prog (envOf env13) := envOf_ok (all_nil)
def raw13 (a0 : Int) (a1 : Int) (a2 : Int) (a3 : Int) : Option (List Hv) := some [.i (a2), .i (a0), .i (a1), .i (a2), .i (a3)]
theorem l13 : LamOk Try.prog (lamOf []) (codeOf Try.f13) := lamOk_nil
def G13 : GRec := ⟨.agg [.int .i64, .int .i64, .int .i64, .int .i64], [], .int .i64, apH [.i, .i, .i, .i] raw13⟩
theorem still13 : ∀ hs, G13.still hs := GRec.still_of (ks := [.i, .i, .i, .i]) (f := raw13) rfl (fun a0 a1 a2 a3 => AllR.some rfl)
theorem ok13 : EntryOk Try.prog 13 (.read G13.rfn.read) := grec_read (u := 70) envOk13 mix Try.func13 (by kernel_rfl) (by kernel_rfl) l13 G13 (by kernel_rfl) (by kernel_rfl) (by kernel_rfl) (still13) (fun a0 a1 a2 a3 => by show _ = _; kernel_rfl)
/-! ### 6: towpath/towpathlaw25.known (pure) -/
noncomputable def env6 : List (FuncId × Entry) := [(7, .full G7.nfn.sem), (9, .full G9.rfn.full), (11, .full G11.rfn.full), (13, .read G13.rfn.read)]
theorem envOk6 : EnvOk Try.prog (envOf env6) := envOf_ok (all_cons ok7 (all_cons ok9 (all_cons ok11 (all_cons ok13 (all_nil)))))
def raw6  : Option (List Hv) := (raw7 (1) (2)).bind fun r1 => (raw9 (hi r1 0) (hi r1 1) (hi r1 2) (hi r1 3)).bind fun r2 => bif !(hb r2 0) then (some [.b (false)]) else ((raw9 (hi r2 1) (hi r2 2) (hi r2 3) (hi r2 4)).bind fun r3 => bif hb r3 0 then (some [.b (false)]) else ((raw11 (hi r3 1) (hi r3 2) (hi r3 3) (hi r3 4)).bind fun r4 => (raw11 (hi r4 0) (hi r4 1) (hi r4 2) (hi r4 3)).bind fun r5 => (raw13 (hi r5 0) (hi r5 1) (hi r5 2) (hi r5 3)).bind fun r6 => bif (hi r6 0) == (1) then ((raw9 (hi r5 0) (hi r5 1) (hi r5 2) (hi r5 3)).bind fun r7 => some [.b (hb r7 0)]) else (some [.b (false)])))
theorem l6 : LamOk Try.prog (lamOf []) (codeOf Try.f6) := lamOk_nil
def G6 : GFn := ⟨[], .bool, apH [] raw6⟩
theorem ok6 : EntryOk Try.prog 6 (.pure G6.sem) := gfn_pure (u := 70) envOk6 mix Try.func6 (by kernel_rfl) (by kernel_rfl) l6 G6 (by kernel_rfl) (by kernel_rfl) (by show _ = _; kernel_rfl)
/-! ### 4: towpath/towpathlaw25.MeterBounds (pure) -/
noncomputable def env4 : List (FuncId × Entry) := [(6, .pure G6.sem), (7, .full G7.nfn.sem), (9, .full G9.rfn.full), (11, .full G11.rfn.full), (13, .read G13.rfn.read)]
theorem envOk4 : EnvOk Try.prog (envOf env4) := envOf_ok (all_cons ok6 (all_cons ok7 (all_cons ok9 (all_cons ok11 (all_cons ok13 (all_nil))))))
def h4_2 : Tpl := ⟨[none, none, some (.int .u8), some (.int .u8), none, none, none, none, none, some (.int .i64), some (.int .i64), some (.ptr 0 []), some (.int .i64), some (.int .i64), some (.int .i64), none, none, none, none, none, none, none, none, none, none, none, none, none, none, none, none, none, none, none, none, none, none, none, none, none, none, none, none, none, none, none, none, none, none, none, none, none, none, none, none, none, none, none, none, none, none, none, none, none, none, none], [some (.agg [.int .i64, .int .i64, .int .i64, .int .i64])], 1⟩
def e4_2 : Tpl := ⟨[none, none, some (.int .u8), some (.int .u8), none, none, none, none, none, some (.int .i64), some (.int .i64), some (.ptr 0 []), some (.int .i64), some (.int .i64), none, none, none, none, none, none, none, none, none, none, none, none, none, none, none, none, none, none, none, none, none, none, none, none, none, none, none, none, none, none, none, none, none, none, none, none, none, none, none, none, none, none, none, none, none, none, none, none, none, none, none, none], [some (.agg [.int .i64, .int .i64, .int .i64, .int .i64])], 1⟩
def t4_2 (v0 : Int) (v1 : Int) (v2 : Int) (v3 : Int) (v4 : Int) (v5 : Int) (v6 : Int) (v7 : Int) (v8 : Int) (v9 : Int) (v10 : Int) : Option (Sum (List Hv) (Bool × List Hv)) := bif decide ((v6) < (wr .i64 ((v1).tmod (12)))) then ((raw9 (v7) (v8) (v9) (v10)).bind fun r3 => bif hb r3 0 then (some (.inl [.i (v0), .i (v1), .i (v2), .i (v3), .i (wr .i64 ((v4) + (1))), .i (v5), .i (wr .i64 ((v6) + (1))), .i (hi r3 1), .i (hi r3 2), .i (hi r3 3), .i (hi r3 4)])) else (some (.inl [.i (v0), .i (v1), .i (v2), .i (v3), .i (v4), .i (v5), .i (wr .i64 ((v6) + (1))), .i (hi r3 1), .i (hi r3 2), .i (hi r3 3), .i (hi r3 4)]))) else (some (.inr (false, [.i (v0), .i (v1), .i (v2), .i (v3), .i (v4), .i (v5), .i (v7), .i (v8), .i (v9), .i (v10)])))
def g4_2 : StepG := apH [.i, .i, .i, .i, .i, .i, .i, .i, .i, .i, .i] t4_2
theorem g4_2_at (v0 : Int) (v1 : Int) (v2 : Int) (v3 : Int) (v4 : Int) (v5 : Int) (v6 : Int) (v7 : Int) (v8 : Int) (v9 : Int) (v10 : Int) : g4_2 [.i v0, .i v1, .i v2, .i v3, .i v4, .i v5, .i v6, .i v7, .i v8, .i v9, .i v10] = t4_2 v0 v1 v2 v3 v4 v5 v6 v7 v8 v9 v10 := rfl
theorem l4_2 : LamOk Try.prog (lamOf []) (codeOf Try.f4) := lamOk_nil
theorem b4_2 : BlkSound Try.prog 2 (blkOf (codeOf Try.f4) 2) (loopE h4_2 e4_2 g4_2) := loopE_at (u := 70) envOk4 mix 2 (by kernel_rfl) l4_2 (ks := [.i, .i, .i, .i, .i, .i, .i, .i, .i, .i, .i]) (t := t4_2) (fun _ => rfl) (fun _ => rfl) (fun v0 v1 v2 v3 v4 v5 v6 v7 v8 v9 v10 => by show _ = _; kernel_rfl)
def h4_0 : Tpl := ⟨[none, none, some (.int .u8), some (.int .u8), none, none, none, none, none, some (.int .i64), some (.int .i64), some (.ptr 0 []), some (.int .i64), some (.int .i64), none, none, none, none, none, none, none, none, none, none, none, none, none, none, none, none, none, none, none, none, none, none, none, none, none, none, none, none, none, none, none, none, none, none, none, none, none, none, none, none, none, none, none, none, none, none, none, none, none, none, none, none], [some (.agg [.int .i64, .int .i64, .int .i64, .int .i64])], 1⟩
def e4_0 : Tpl := ⟨[none, none, some (.int .u8), none, none, none, none, none, none, some (.int .i64), some (.int .i64), some (.ptr 0 []), some (.int .i64), none, none, none, none, none, none, none, none, none, none, none, none, none, none, none, none, none, none, none, none, none, none, none, none, none, none, none, none, none, none, none, none, none, none, none, none, none, none, none, none, none, none, none, none, none, none, none, none, none, none, none, none, none], [some (.agg [.int .i64, .int .i64, .int .i64, .int .i64])], 1⟩
def t4_0 (v0 : Int) (v1 : Int) (v2 : Int) (v3 : Int) (v4 : Int) (v5 : Int) (v6 : Int) (v7 : Int) (v8 : Int) (v9 : Int) : Option (Sum (List Hv) (Bool × List Hv)) := bif decide ((v5) < (wr .i64 (v0))) then ((loopN g4_2 bigN [.i (v0), .i (v1), .i (v2), .i (v3), .i (v4), .i (v5), .i (0), .i (v6), .i (v7), .i (v8), .i (v9)]).bind fun r4 => bif r4.1 then none else ((raw11 (hi r4.2 6) (hi r4.2 7) (hi r4.2 8) (hi r4.2 9)).bind fun r5 => some (.inl [.i (hi r4.2 0), .i (hi r4.2 1), .i (hi r4.2 2), .i (hi r4.2 3), .i (hi r4.2 4), .i (wr .i64 ((hi r4.2 5) + (1))), .i (hi r5 0), .i (hi r5 1), .i (hi r5 2), .i (hi r5 3)]))) else (some (.inr (false, [.i (v0), .i (v2), .i (v3), .i (v4), .i (v6), .i (v7), .i (v8), .i (v9)])))
def g4_0 : StepG := apH [.i, .i, .i, .i, .i, .i, .i, .i, .i, .i] t4_0
theorem g4_0_at (v0 : Int) (v1 : Int) (v2 : Int) (v3 : Int) (v4 : Int) (v5 : Int) (v6 : Int) (v7 : Int) (v8 : Int) (v9 : Int) : g4_0 [.i v0, .i v1, .i v2, .i v3, .i v4, .i v5, .i v6, .i v7, .i v8, .i v9] = t4_0 v0 v1 v2 v3 v4 v5 v6 v7 v8 v9 := rfl
theorem l4_0 : LamOk Try.prog (lamOf [(2, loopE h4_2 e4_2 g4_2)]) (codeOf Try.f4) := lamOk_of (by kernel_rfl) (blk_cons b4_2 (blk_nil))
theorem b4_0 : BlkSound Try.prog 0 (blkOf (codeOf Try.f4) 0) (loopE h4_0 e4_0 g4_0) := loopE_at (u := 70) envOk4 mix 0 (by kernel_rfl) l4_0 (ks := [.i, .i, .i, .i, .i, .i, .i, .i, .i, .i]) (t := t4_0) (fun _ => rfl) (fun _ => rfl) (fun v0 v1 v2 v3 v4 v5 v6 v7 v8 v9 => by show _ = _; kernel_rfl)
def raw4 (a0 : Int) (a1 : Int) (a2 : Int) (a3 : Int) : Option (List Hv) := (raw6).bind fun r1 => bif !(hb r1 0) then (some [.b (false)]) else (let x1 : Int := wr .i64 ((wr .i64 ((a0).tmod (10))) + (1)); let x2 : Int := wr .i64 ((wr .i64 ((a1).tmod (10))) + (1)); (raw7 (x1) (x2)).bind fun r2 => (loopN g4_0 bigN [.i (a2), .i (a3), .i (x1), .i (x2), .i (0), .i (0), .i (hi r2 0), .i (hi r2 1), .i (hi r2 2), .i (hi r2 3)]).bind fun r6 => bif r6.1 then none else (bif (hi r6.2 2) == 0 then none else (bif decide ((hi r6.2 3) ≤ (wr .i64 ((hi r6.2 1) + (wr .i64 ((wr .i64 (hi r6.2 0)).tdiv (hi r6.2 2)))))) then ((raw13 (hi r6.2 4) (hi r6.2 5) (hi r6.2 6) (hi r6.2 7)).bind fun r7 => bif decide ((hi r7 0) ≥ (0)) then ((raw13 (hi r6.2 4) (hi r6.2 5) (hi r6.2 6) (hi r6.2 7)).bind fun r8 => some [.b (decide ((hi r8 0) ≤ (hi r6.2 1)))]) else (some [.b (false)])) else (some [.b (false)]))))
theorem l4 : LamOk Try.prog (lamOf [(2, loopE h4_2 e4_2 g4_2), (0, loopE h4_0 e4_0 g4_0)]) (codeOf Try.f4) := lamOk_of (by kernel_rfl) (blk_cons b4_2 (blk_cons b4_0 (blk_nil)))
theorem ev4 (a0 : Int) (a1 : Int) (a2 : Int) (a3 : Int) : evalF Try.prog (envOf env4) (lamOf [(2, loopE h4_2 e4_2 g4_2), (0, loopE h4_0 e4_0 g4_0)]) 70 Try.f4 (codeOf Try.f4) [.int .u8 a0, .int .u8 a1, .int .u8 a2, .int .u8 a3] [] 0 (fun v _ => matchP .bool v) = raw4 a0 a1 a2 a3 := by kernel_rfl
/-! ### 5: towpath/towpathlaw25.MeterFills (pure) -/
noncomputable def env5 : List (FuncId × Entry) := [(6, .pure G6.sem), (7, .full G7.nfn.sem), (9, .full G9.rfn.full), (11, .full G11.rfn.full), (13, .read G13.rfn.read)]
theorem envOk5 : EnvOk Try.prog (envOf env5) := envOf_ok (all_cons ok6 (all_cons ok7 (all_cons ok9 (all_cons ok11 (all_cons ok13 (all_nil))))))
def h5_0 : Tpl := ⟨[none, none, none, some (.int .u16), none, none, none, none, none, some (.int .i64), some (.int .i64), some (.ptr 0 []), some (.int .i64), some (.int .i64), none, none, none, none, none, none, none, none, none, none, none, none, none, none, none, none, none, none, none, none, none, none, none, none, none, none, none, none, none, none, none, none, none, none, none, none, none, none, none, none, none, none, none, none, none, none, none, none, none, none], [some (.agg [.int .i64, .int .i64, .int .i64, .int .i64])], 1⟩
def e5_0 : Tpl := ⟨[none, none, none, some (.int .u16), none, none, none, none, none, some (.int .i64), some (.int .i64), some (.ptr 0 []), some (.int .i64), none, none, none, none, none, none, none, none, none, none, none, none, none, none, none, none, none, none, none, none, none, none, none, none, none, none, none, none, none, none, none, none, none, none, none, none, none, none, none, none, none, none, none, none, none, none, none, none, none, none, none], [some (.agg [.int .i64, .int .i64, .int .i64, .int .i64])], 1⟩
def r5_0 : Tpl := ⟨[none, none, none, none, none, none, none, none, some (.bool), none, none, none, none, none, none, none, none, none, none, none, none, none, none, none, none, none, none, none, none, none, none, none, none, none, none, none, none, none, none, none, none, none, none, none, none, none, none, none, none, none, none, none, none, none, none, none, none, none, none, none, none, none, none, none], [], 1⟩
def t5_0 (v0 : Int) (v1 : Int) (v2 : Int) (v3 : Int) (v4 : Int) (v5 : Int) (v6 : Int) (v7 : Int) (v8 : Int) : Option (Sum (List Hv) (Bool × List Hv)) := bif decide ((v4) < (v3)) then ((raw9 (v5) (v6) (v7) (v8)).bind fun r3 => bif !(hb r3 0) then (some (.inr (true, [.b (false)]))) else (some (.inl [.i (v0), .i (v1), .i (v2), .i (v3), .i (wr .i64 ((v4) + (1))), .i (hi r3 1), .i (hi r3 2), .i (hi r3 3), .i (hi r3 4)]))) else (some (.inr (false, [.i (v0), .i (v1), .i (v2), .i (v3), .i (v5), .i (v6), .i (v7), .i (v8)])))
def g5_0 : StepG := apH [.i, .i, .i, .i, .i, .i, .i, .i, .i] t5_0
theorem g5_0_at (v0 : Int) (v1 : Int) (v2 : Int) (v3 : Int) (v4 : Int) (v5 : Int) (v6 : Int) (v7 : Int) (v8 : Int) : g5_0 [.i v0, .i v1, .i v2, .i v3, .i v4, .i v5, .i v6, .i v7, .i v8] = t5_0 v0 v1 v2 v3 v4 v5 v6 v7 v8 := rfl
theorem l5_0 : LamOk Try.prog (lamOf []) (codeOf Try.f5) := lamOk_nil
theorem b5_0 : BlkSound Try.prog 0 (blkOf (codeOf Try.f5) 0) (loopR h5_0 e5_0 r5_0 g5_0) := loopR_at (u := 70) envOk5 mix 0 (by kernel_rfl) l5_0 (ks := [.i, .i, .i, .i, .i, .i, .i, .i, .i]) (t := t5_0) (fun _ => rfl) (fun _ => rfl) (fun _ => rfl) (fun v0 v1 v2 v3 v4 v5 v6 v7 v8 => by show _ = _; kernel_rfl)
def h5_2 : Tpl := ⟨[none, none, none, none, none, none, none, none, none, some (.int .i64), some (.int .i64), some (.ptr 0 []), some (.int .i64), none, some (.int .i64), some (.int .i64), none, none, none, none, none, none, none, none, none, none, none, none, none, none, none, none, none, none, none, none, none, none, none, none, none, none, none, none, none, none, none, none, none, none, none, none, none, none, none, none, none, none, none, none, none, none, none, none], [some (.agg [.int .i64, .int .i64, .int .i64, .int .i64])], 1⟩
def e5_2 : Tpl := ⟨[none, none, none, none, none, none, none, none, none, some (.int .i64), some (.int .i64), some (.ptr 0 []), some (.int .i64), none, some (.int .i64), none, none, none, none, none, none, none, none, none, none, none, none, none, none, none, none, none, none, none, none, none, none, none, none, none, none, none, none, none, none, none, none, none, none, none, none, none, none, none, none, none, none, none, none, none, none, none, none, none], [some (.agg [.int .i64, .int .i64, .int .i64, .int .i64])], 1⟩
def t5_2 (v0 : Int) (v1 : Int) (v2 : Int) (v3 : Int) (v4 : Int) (v5 : Int) (v6 : Int) (v7 : Int) (v8 : Int) : Option (Sum (List Hv) (Bool × List Hv)) := bif decide ((v4) < (v3)) then ((raw11 (v5) (v6) (v7) (v8)).bind fun r5 => some (.inl [.i (v0), .i (v1), .i (v2), .i (v3), .i (wr .i64 ((v4) + (1))), .i (hi r5 0), .i (hi r5 1), .i (hi r5 2), .i (hi r5 3)])) else (some (.inr (false, [.i (v0), .i (v1), .i (v2), .i (v3), .i (v5), .i (v6), .i (v7), .i (v8)])))
def g5_2 : StepG := apH [.i, .i, .i, .i, .i, .i, .i, .i, .i] t5_2
theorem g5_2_at (v0 : Int) (v1 : Int) (v2 : Int) (v3 : Int) (v4 : Int) (v5 : Int) (v6 : Int) (v7 : Int) (v8 : Int) : g5_2 [.i v0, .i v1, .i v2, .i v3, .i v4, .i v5, .i v6, .i v7, .i v8] = t5_2 v0 v1 v2 v3 v4 v5 v6 v7 v8 := rfl
theorem l5_2 : LamOk Try.prog (lamOf [(0, loopR h5_0 e5_0 r5_0 g5_0)]) (codeOf Try.f5) := lamOk_of (by kernel_rfl) (blk_cons b5_0 (blk_nil))
theorem b5_2 : BlkSound Try.prog 2 (blkOf (codeOf Try.f5) 2) (loopE h5_2 e5_2 g5_2) := loopE_at (u := 70) envOk5 mix 2 (by kernel_rfl) l5_2 (ks := [.i, .i, .i, .i, .i, .i, .i, .i, .i]) (t := t5_2) (fun _ => rfl) (fun _ => rfl) (fun v0 v1 v2 v3 v4 v5 v6 v7 v8 => by show _ = _; kernel_rfl)
def raw5 (a0 : Int) (a1 : Int) (a2 : Int) (a3 : Int) : Option (List Hv) := (raw6).bind fun r1 => bif !(hb r1 0) then (some [.b (false)]) else (let x1 : Int := wr .i64 ((wr .i64 ((a0).tmod (20))) + (1)); let x2 : Int := wr .i64 ((wr .i64 ((a1).tmod (9))) + (1)); (raw7 (x1) (x2)).bind fun r2 => let x3 : Int := wr .i64 ((x1) + (1)); bif (x3) == 0 then none else ((loopN g5_0 bigN [.i (a3), .i (x1), .i (x2), .i ((wr .i64 (a2)).tmod (x3)), .i (0), .i (hi r2 0), .i (hi r2 1), .i (hi r2 2), .i (hi r2 3)]).bind fun r4 => bif r4.1 then (some [.b (hb r4.2 0)]) else ((loopN g5_2 bigN [.i (hi r4.2 1), .i (hi r4.2 2), .i (hi r4.2 3), .i (wr .i64 ((hi r4.2 0).tmod (300))), .i (0), .i (hi r4.2 4), .i (hi r4.2 5), .i (hi r4.2 6), .i (hi r4.2 7)]).bind fun r6 => bif r6.1 then none else ((raw13 (hi r6.2 4) (hi r6.2 5) (hi r6.2 6) (hi r6.2 7)).bind fun r7 => bif (hi r6.2 1) == 0 then none else (let x4 : Int := wr .i64 ((wr .i64 ((hi r6.2 0) - (hi r6.2 2))) + (wr .i64 ((hi r6.2 3).tdiv (hi r6.2 1)))); some [.b ((hi r7 0) == (if (x4) < (hi r6.2 0) then (x4) else (hi r6.2 0)))])))))
theorem l5 : LamOk Try.prog (lamOf [(0, loopR h5_0 e5_0 r5_0 g5_0), (2, loopE h5_2 e5_2 g5_2)]) (codeOf Try.f5) := lamOk_of (by kernel_rfl) (blk_cons b5_0 (blk_cons b5_2 (blk_nil)))
theorem ev5 (a0 : Int) (a1 : Int) (a2 : Int) (a3 : Int) : evalF Try.prog (envOf env5) (lamOf [(0, loopR h5_0 e5_0 r5_0 g5_0), (2, loopE h5_2 e5_2 g5_2)]) 70 Try.f5 (codeOf Try.f5) [.int .u8 a0, .int .u8 a1, .int .u8 a2, .int .u16 a3] [] 0 (fun v _ => matchP .bool v) = raw5 a0 a1 a2 a3 := by kernel_rfl
end Go.Proofs.Ytllfkflclhnmgaa.Mtr
