/- A number's point and another's make that of their sum by the order. No condition. -/
import Derived.Test.YtibldmjnddppaaaRows
import Derived.WalkKit
import Derived.ProofKit
import Derived.OpenShut
import Derived.Test.YtibldmjnddppaaaSimX2
import Derived.Test.YtibldmjnddppaaaScX
namespace Go.Proofs.Ytibldmjnddppaaa.pointGroup
open Go.ChangeShapes Go.WideShapes Go.ChangeAt Go.RowKit
set_option linter.unusedVariables false

theorem own : ownKnob Try.prog.godebug = none := by kernel_rfl

/-- the walk -/
theorem walk (a0 : List Int) (a1 : List Int) (w0 : a0.length = 32) (r0 : ∀ y ∈ a0, Sim.inK .u8 y) (w1 : a1.length = 32) (r1 : ∀ y ∈ a1, Sim.inK .u8 y) (w : World) :
    Calls Try.prog 5 #[.agg (Sim.arrCells .u8 32 a0).toArray, .agg (Sim.arrCells .u8 32 a1).toArray] w fun e w' => e = .returned (.bool true) ∧ Grown w w' := by
  have hw : ∀ v ∈ ([.arr .u8 32 a0, .arr .u8 32 a1] : List Sim.AV), v.wf := by
    intro v hv
    simp only [List.mem_cons, List.not_mem_nil, or_false] at hv
    rcases hv with rfl | rfl
    · exact Sim.arr_wf w0 r0
    · exact Sim.arr_wf w1 r1
  exact Sim.law_true Fld.envOk5 Fld.mix Try.func5 (by kernel_rfl) Fld.l5 (ps := [.arr .u8 32, .arr .u8 32]) rfl (args := [.arr .u8 32 a0, .arr .u8 32 a1]) rfl hw
    ((Fld.ev5 a0 a1).trans (Fld.law5 a0 a1 w0 r0 w1 r1)) (fun _ => (0, 0)) w

set_option maxRecDepth 100000 in
theorem lifted (os : Os) (started : os.Started) (H : Type) (enc : TypeId × Value → H) :
    ReturnsInHanded {} Try.checked os 5 .any (Rows.pointGroupSpec.pre6 enc Try.prog Try.f5 Rows.pointGroupRow.domain false) (Rows.pointGroupSpec.post enc Try.prog Try.f5 false true false false) := by
  refine returnsInHanded_of_change (C := Try.checked) own started (by kernel_rfl) Try.func5
    (ChangeSpec.witness6 (enc := enc) (C := Try.checked) false ⟨#[], #[.agg (Array.replicate 32 (.int .u8 0)), .agg (Array.replicate 32 (.int .u8 0))], []⟩ 8 (by kernel_rfl) (by kernel_rfl) (by kernel_rfl) (by kernel_rfl)) ?_
  intro W base args ds gs before hval0 hW hcnd _
  have hval : ∀ (j : Nat) t v, Try.f5.params[j]? = some t → args[j]? = some v → Value.okWide Try.prog W .any base t v := hval0
  have hW' := hW
  obtain ⟨p, q, hA0, hV, rfl, hfz, hnd⟩ := hW
  have hA : DataW.TrodAll enc Try.prog W 0 (fun _ => true) true Try.f5.params.toList args.toList ds p := hA0
  rw [Try.params5] at hA hval
  obtain ⟨v0, vs0, d0, ds0, p0, q0, hargs, rfl, rfl, h0, r0⟩ := trodAll_cons hA
  obtain ⟨v1, vs1, d1, ds1, p1, q1, rfl, rfl, rfl, h1, r1⟩ := trodAll_cons r0
  obtain ⟨rfl, rfl, rfl⟩ := trodAll_nil r1
  obtain rfl : args = #[v0, v1] := by cases args; simp_all
  obtain ⟨rfl, rfl⟩ := trodVars_none hV
  obtain ⟨a0, rfl, rfl, rfl, w0, g0⟩ := Sim.open_arr Try.underlying22 Try.underlying5 (by kernel_rfl) (by kernel_rfl) (hval 0 22 v0 rfl rfl) h0
  obtain ⟨a1, rfl, rfl, rfl, w1, g1⟩ := Sim.open_arr Try.underlying22 Try.underlying5 (by kernel_rfl) (by kernel_rfl) (hval 1 22 v1 rfl rfl) h1
  clear hA0 hval0
  simp only [List.append_nil] at hW'
  refine (walk a0 a1 w0 g0 w1 g1 W).mono fun e W' ⟨he, hg⟩ => ?_
  subst he
  exact ⟨_, rfl, post_of_same (pa := []) (pv := []) hW' (fun _ _ _ => (trodAll_cons_mk (shut_bool Try.underlying4 _) trodAll_mk0)) (fun sp _ => (trodAll_cons_mk (Sim.shut_arr Try.underlying22 Try.underlying5 (by kernel_rfl) (by kernel_rfl) w0 g0) (trodAll_cons_mk (Sim.shut_arr Try.underlying22 Try.underlying5 (by kernel_rfl) (by kernel_rfl) w1 g1) trodAll_mk0))) (fun _ _ => rfl) rfl
    (hg.frame _) hg.2.1 (ok_one (by kernel_rfl) rfl (okWide_bool_mk Try.underlying4 _))⟩

theorem over : Rows.pointGroupRow.holds Try.pinned (OpenSpec.ofChange Rows.pointGroupSpec) :=
  OpenClaim.holds_of_wide 5 Try.f5 rfl rfl rfl rfl rfl rfl rfl ⟨rfl, rfl, rfl, rfl, rfl⟩ rfl rfl rfl rfl rfl (by kernel_rfl) Try.func5 (by kernel_rfl)
    (of_decide_eq_true (by kernel_rfl)) (by unfold Func.isWrapper; first | (rw [if_pos (by decide +kernel)]; kernel_rfl) | (rw [if_neg (by decide +kernel)]; exact ⟨rfl, rfl⟩))
    (fun os started H enc _ => lifted os started H enc)

/-- the statement -/
theorem proved : Rows.PointGroupSaid :=
  over
#print axioms proved
end Go.Proofs.Ytibldmjnddppaaa.pointGroup
