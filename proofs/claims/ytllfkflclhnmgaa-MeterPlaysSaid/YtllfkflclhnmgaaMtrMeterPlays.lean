/- Any script of ticks and tokens comes to just the document's count. -/
import Derived.Test.YtllfkflclhnmgaaRows
import Derived.WalkKit
import Derived.ProofKit
import Derived.OpenShut
import Derived.Carry
import Derived.Below
import Derived.ChangeSame
import Derived.WideKeyArgs
import Derived.Test.YtllfkflclhnmgaaSimX7
import Derived.Test.YtllfkflclhnmgaaMtrX
namespace Go.Proofs.Ytllfkflclhnmgaa.meterPlays
open Go.ChangeShapes Go.WideShapes Go.ChangeAt Go.RowKit
set_option linter.unusedVariables false

theorem own : ownKnob Try.prog.godebug = none := by kernel_rfl

section
variable {H : Type} {enc : TypeId × Value → H} {P : Program}
/-- a row's end where the world below the call's own blocks is as it was -/
theorem post_below {f : Func} {s : ChangeSpec} {apart fresh handsOn again : Bool} {W W' : World} {args : Array Value} {v : Value} {ds gs : List (DataW H)} {before pa pv : List MemPlace}
    (hW : DataW.Whole enc P f.params.toList s.vars apart W args.toList ds gs before)
    (hres : ∀ (b : Nat) (sp : Nat → Bool) (hd : Bool), DataW.TrodAll enc P W' b sp hd f.resultTypes.toList (v.resultList f.resultTypes.size) (s.fn H (ds ++ gs)).results [])
    (hargs : ∀ sp : Nat → Bool, (∀ p ∈ before, sp p.block = true) → DataW.TrodAll enc P W' 0 sp true f.params.toList args.toList (s.fn H (ds ++ gs)).args pa)
    (hvars : ∀ sp : Nat → Bool, (∀ p ∈ before, sp p.block = true) → DataW.TrodVars enc P W' sp s.vars (s.fn H (ds ++ gs)).vars pv)
    (hps : before = pa ++ pv) (hb : Below W.heap.size W W')
    (hok : ∀ (j : Nat) (t : TypeId) (r : Value), f.resultTypes[j]? = some t → (v.resultList f.resultTypes.size)[j]? = some r → Value.okWide P W' .any 0 t r) :
    s.post enc P f apart fresh handsOn again W args v W' := by
  have hlt : ∀ p ∈ before, p.block < W.heap.size := fun p hp => hW.lt p hp
  have hold : ∀ p ∈ before, (fun b => decide (b < W.heap.size)) p.block = true := fun p hp => by simpa using hlt p hp
  refine ⟨ds, gs, before, [], pa, pv, hW, hres _ _ _, hargs _ hold, hvars _ hold, World.keptBut_mono (fun p hp => ⟨hp, ?_⟩) (hb.frame (· ∈ before)), fun _ => ?_⟩
  · rw [hps, List.mem_append] at hp
    exact Or.inr hp
  · obtain ⟨_, _, _, _, _, hz, hn⟩ := hW
    refine ⟨hok, _, _, ([] ++ pa) ++ pv, ⟨[] ++ pa, pv, trodAll_append (hargs _ (fun _ _ => rfl)) (hres _ _ _), hvars _ (fun _ _ => rfl), rfl, ?_, ?_⟩, ?_⟩
    · intro b off hp
      have hin : MemPlace.cell b off ∈ before := by rw [hps]; simpa using hp
      rw [hb.frozen (hlt _ hin)]
      exact hz b off hin
    · intro ha
      have := hn ha
      rw [hps] at this
      simpa using this
    · intro p hp _
      rw [hps]
      simpa using hp
end

/-- the walk -/
theorem walk (a0 a1 : Int) (w0 : (Lit.int .i64 a0).wf = true) (w1 : (Lit.int .i64 a1).wf = true) (W : World) {L : Sim.Loc} {l : List (List Sim.Hv)} (hl : l.length < 9223372036854775808) {c : Nat → List Value}
    (hc : ∀ i, i < l.length → Sim.RepE (Sim.allFz W) .bool (l.getD i []) 0 (c i)) (hr : Sim.RowRo (Sim.allFz W) L 1 l.length c) :
    Calls Try.prog 3 #[.int .i64 a0, .int .i64 a1, Sim.sliceV L l.length] W fun e w' => e = .returned (.bool true) ∧ Below W.heap.size W w' := by
  have get : ∀ n t, ([some (Sim.AV.x (.obj (.row .bool l false)))] : Sim.Hp).getD n none = some t → n = 0 ∧ t = .x (.obj (.row .bool l false)) := fun n t ht => by
    cases n with
    | zero => simp at ht; exact ⟨rfl, ht.symm⟩
    | succ n => simp at ht
  have hrep : Sim.RepW ⟨fun _ => L, Sim.allFz W⟩ [some (.x (.obj (.row .bool l false)))] W := by
    refine ⟨fun n t ht => ?_, fun m n vm vn h1 h2 h3 => ?_, fun _ _ _ h => h, fun n t b o ht q => ?_⟩
    · obtain ⟨rfl, rfl⟩ := get n t ht
      simp only [Sim.BlkRep]
      exact ⟨c, hc, hr⟩
    · obtain ⟨rfl, _⟩ := get m vm h1
      obtain ⟨rfl, _⟩ := get n vn h2
      exact absurd rfl h3
    · obtain ⟨rfl, rfl⟩ := get n t ht
      simp [Sim.rgn] at q
  have hlaw := Sim.law_mem (args := [.int .i64 a0, .int .i64 a1, .x (.sln 0 l.length)]) (hp := [some (.x (.obj (.row .bool l false)))]) (base := 1) Mtr2.envOk3 Mtr2.mix Try.func3 (by kernel_rfl) Mtr2.l3
    (fun v hv => by
      simp only [List.mem_cons, List.not_mem_nil, or_false] at hv
      rcases hv with rfl | rfl | rfl
      · exact Sim.lit_in w0
      · exact Sim.lit_in w1
      · simpa only [Sim.AV.wf, Sim.XV.wf] using hl)
    (fun n t ht => by
      obtain ⟨rfl, rfl⟩ := get n t ht
      simp only [Sim.AV.wf, Sim.XV.wf, Sim.HObj.wf]
      exact ⟨hl, fun h _ => trivial⟩)
    (fun n t ht m hm => by
      obtain ⟨rfl, rfl⟩ := get n t ht
      exact absurd hm (Sim.obj_has m))
    (fun v hv m hm => by
      simp only [List.mem_cons, List.not_mem_nil, or_false] at hv
      rcases hv with rfl | rfl | rfl
      · simp [Sim.AV.has] at hm
      · simp [Sim.AV.has] at hm
      · simp only [Sim.AV.has, Sim.XV.has] at hm
        rcases hm with rfl | rfl
        · exact ⟨_, rfl⟩
        · exact ⟨_, rfl, by simp only [Sim.AV.lenOk]⟩)
    ((Mtr2.ev3 a0 a1 l).trans (Mtr2.law3 a0 a1 l)) hrep
    (fun b o ⟨n, t, ht, q⟩ => by
      obtain ⟨rfl, rfl⟩ := get n t ht
      simp [Sim.rgn] at q)
  exact hlaw

set_option maxRecDepth 100000 in
theorem lifted (os : Os) (started : os.Started) (H : Type) (enc : TypeId × Value → H) :
    ReturnsInHanded {} Try.checked os 3 .any (Rows.meterPlaysSpec.pre6 enc Try.prog Try.f3 Rows.meterPlaysRow.domain false) (Rows.meterPlaysSpec.post enc Try.prog Try.f3 false true false false) := by
  refine returnsInHanded_of_change (C := Try.checked) own started (by kernel_rfl) Try.func3
    (ChangeSpec.witness6 (enc := enc) (C := Try.checked) false ⟨#[], #[.int .i64 0, .int .i64 0, .slice none 0 0], []⟩ 8 (by kernel_rfl) (by kernel_rfl) (by kernel_rfl) (by kernel_rfl)) ?_
  intro W base args ds gs before hval0 hW hcnd _
  have hval : ∀ (j : Nat) t v, Try.f3.params[j]? = some t → args[j]? = some v → Value.okWide Try.prog W .any base t v := hval0
  have hW' := hW
  obtain ⟨p, q, hA0, hV, rfl, hfz, hnd⟩ := hW
  have hA : DataW.TrodAll enc Try.prog W 0 (fun _ => true) true Try.f3.params.toList args.toList ds p := hA0
  rw [Try.params3] at hA hval
  obtain ⟨v0, vs0, d0, ds0, p0, q0, hargs, rfl, rfl, h0, r0⟩ := trodAll_cons hA
  obtain ⟨v1, vs1, d1, ds1, p1, q1, rfl, rfl, rfl, h1, r1⟩ := trodAll_cons r0
  obtain ⟨v2, vs2, d2, ds2, p2, q2, rfl, rfl, rfl, h2, r2⟩ := trodAll_cons r1
  obtain ⟨rfl, rfl, rfl⟩ := trodAll_nil r2
  obtain rfl : args = #[v0, v1, v2] := by cases args; simp_all
  obtain ⟨rfl, rfl⟩ := trodVars_none hV
  obtain ⟨a0, rfl, rfl, rfl, w0⟩ := open_int Try.underlying3 (hval 0 3 v0 rfl rfl) h0
  obtain ⟨a1, rfl, rfl, rfl, w1⟩ := open_int Try.underlying3 (hval 1 3 v1 rfl rfl) h1
  obtain ⟨L, l, hv, hl, c, hc, hr⟩ := Sim.open_bools Try.underlying22 Try.underlying4 (by kernel_rfl) (hval 2 22 v2 rfl rfl) h2
  clear hA0 hval0
  simp only [List.append_nil] at hW'
  have hwalk := walk a0 a1 w0 w1 W hl hc hr
  rw [← hv] at hwalk
  refine hwalk.mono fun e W' ⟨he, hg⟩ => ?_
  subst he
  have hlt : ∀ x ∈ p2, x.block < W.heap.size := fun x hx => hW'.lt x (by simpa using hx)
  exact ⟨_, rfl, post_below (pa := [] ++ ([] ++ (p2 ++ []))) (pv := []) hW' (fun _ _ _ => (trodAll_cons_mk (shut_bool Try.underlying4 _) trodAll_mk0))
    (fun sp hsp => (trodAll_cons_mk (shut_int Try.underlying3 w0) (trodAll_cons_mk (shut_int Try.underlying3 w1) (trodAll_cons_mk
      (WideElems.Trod_stays (by kernel_rfl) (by kernel_rfl) (of_decide_eq_true (by kernel_rfl)) h2 (fun x hx => hg.same (hlt x hx)) (fun x hx => hsp x (by simpa using hx))) trodAll_mk0))))
    (fun _ _ => rfl) (by simp) hg (ok_one (by kernel_rfl) rfl (okWide_bool_mk Try.underlying4 _))⟩

theorem over : Rows.meterPlaysRow.holds Try.pinned (OpenSpec.ofChange Rows.meterPlaysSpec) :=
  OpenClaim.holds_of_wide 3 Try.f3 rfl rfl rfl rfl rfl rfl rfl ⟨rfl, rfl, rfl, rfl, rfl⟩ rfl rfl rfl rfl rfl (by kernel_rfl) Try.func3 (by kernel_rfl)
    (of_decide_eq_true (by kernel_rfl)) (by unfold Func.isWrapper; first | (rw [if_pos (by decide +kernel)]; kernel_rfl) | (rw [if_neg (by decide +kernel)]; exact ⟨rfl, rfl⟩))
    (fun os started H enc _ => lifted os started H enc)

/-- the statement -/
theorem proved : Rows.MeterPlaysSaid :=
  over
#print axioms proved
end Go.Proofs.Ytllfkflclhnmgaa.meterPlays
