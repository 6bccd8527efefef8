/- One way is known: the walk. Routes: what the rows share: a world in which both tables lie; from the condition to the tables. -/
import Derived.Test.YtfiillledfkdkaaDoorRtY5
import Derived.Test.YtfiillledfkdkaaDoorRtY6
import Derived.Test.YtfiillledfkdkaaDoorRows
import Derived.ProofKit
import Derived.LaidMore
import Derived.OpenShut
import Derived.Stop.Joined
import Derived.SizedLaws
import Derived.Lib.LaidU8
import Derived.Carry
import Derived.WideKeyArgs
import Derived.ChangeSame
import Derived.Below
set_option linter.unusedVariables false
set_option linter.unusedSimpArgs false
set_option linter.unusedSimpArgs false
namespace Go.Proofs
open Go.Shelf Go.RowKit Go.Lib Go.Rt Go.Nam Go.Tp
/-- A block that holds a route. -/
structure Rt.At (u : World) (B : Nat) (x : Rt.RV) (cs : Array Value) : Prop where
  row : Rt.Row u B 33 cs
  val : Rt.Val u x (.agg cs)
  size : cs.size = 79
theorem Rt.At.keep {u u' : World} {B : Nat} {x : Rt.RV} {cs : Array Value} (h : Rt.At u B x cs) (k : Below u.heap.size u u') : Rt.At u' B x cs := ⟨h.row.keep k, h.val.keep k, h.size⟩
/-- What is needed to store a route's cells. -/
structure Rt.Fit (cs : Array Value) : Prop where
  size : cs.size = 79
  eq : cs.size = Tryd.zeroCells33.size
  inf : (Tryd.prog.info? 33).map (·.size) = some cs.size
  one : cs.all (·.oneCell') = true
theorem Rt.Val.fit {w : World} {x : Rt.RV} {v : Value} (h : Rt.Val w x v) (hI : x.In) : ∃ cs, v = .agg cs ∧ Rt.Fit cs ∧ Rt.Val w x (.agg cs) := by
  obtain ⟨a, n, c, rfl, hz, hn⟩ := h
  have hs := x.size hI.cert.sg a n c
  exact ⟨_, rfl, ⟨hs, by rw [hs]; kernel_rfl, x.inf hI.cert.sg a n c, x.one a n c⟩, a, n, c, rfl, hz, hn⟩
theorem Rt.At.new {w u : World} {x : Rt.RV} {cs : Array Value} (h : Rt.Row u w.heap.size 33 cs) (hv : Rt.Val w x (.agg cs)) (hf : Rt.Fit cs) (hb : Below w.heap.size w u) : Rt.At u w.heap.size x cs := ⟨h, hv.keep hb, hf.size⟩
theorem Rt.At.co {u : World} {B : Nat} {x : Rt.RV} {cs : Array Value} (h : Rt.At u B x cs) : u.cell? ⟨B, 5, none⟩ = some (.int .u32 x.co) := by
  obtain ⟨a, n, c, e, _, _⟩ := h.val
  cases e
  exact h.row.cell 5 rfl
theorem Rt.At.path {u : World} {B : Nat} {x : Rt.RV} {cs : Array Value} (h : Rt.At u B x cs) : ∃ a c, u.cell? ⟨B, 4, none⟩ = some (.slice a x.path.length c) ∧ x.path.length ≤ c ∧ Rt.Strs u a x.path.length x.path := by
  obtain ⟨a, n, c, e, hz, hn⟩ := h.val
  cases e
  have := hz.len
  subst this
  exact ⟨a, c, h.row.cell 4 rfl, hn, hz⟩
theorem Rt.kA_in : Rt.kA.In := ⟨by decide, by decide, by decide, by decide, by decide, by decide, by decide, by decide, by decide⟩
theorem Rt.b_size : (⟨#[98]⟩ : ByteArray).size ≤ 255 := by decide
theorem Rt.k11 : Rt.ks.wrote.length ≤ 1099511627776 := by decide +kernel
theorem Rt.k12 : Rt.ks.wrote.all (fun z => decide (0 ≤ z) && decide (z < 256)) = true := by kernel_rfl
theorem Rt.k13 : Rt.Byt Rt.ks.wrote := fun z hz => by
  have := List.all_eq_true.1 Rt.k12 z hz
  simpa using this
set_option maxHeartbeats 10000000 in
set_option maxRecDepth 100000 in
theorem Rt.known (w : World) (hT : Utf8Tabs 0 1 w) : Calls Tryd.prog 10 #[] w (Rt.Says w true) := by
  obtain ⟨Q, hQ⟩ : ∃ Q, Rt.Says w true = Q := ⟨_, rfl⟩
  rw [hQ]
  have HQ := Lib.hid hQ
  have hr : Rt.kr.In := Rt.Ann.rv_in Rt.kA Rt.kA_in ⟨#[98]⟩ Rt.b_size
  have hs : Rt.ks.In := Rt.RV.thr_in Rt.kr hr ⟨#[97]⟩ 4
  have ht := Rt.RV.thr_in Rt.ks hs ⟨#[98]⟩ 1
  have hd := Rt.rdV_in Rt.ks.wrote Rt.k13
  have hA : ∀ (u : World) (a : Option Addr) (c : Nat), Sl u a 1 c [.int .u8 1] → Calls Tryd.prog 11 #[.agg #[.slice a 1 c, .int .u8 5, .int .u8 1, .int .u16 3, .int .u8 0], .string ⟨#[98]⟩] u fun e w' => ∃ v, e = .returned v ∧ Rt.Val w' Rt.kr v ∧ Below u.heap.size u w' := fun u a c hz => (Rt.annRoute Rt.kA Rt.kA_in ⟨#[98]⟩ Rt.b_size a 1 c u hz).mono fun _ _ ⟨v, h1, h2, h3⟩ => ⟨v, h1, h2.val, h3⟩
  have hth : ∀ u v, Rt.Val u Rt.kr v → Utf8Tabs 0 1 u → Calls Tryd.prog 15 #[v, .string ⟨#[97]⟩, .int .u32 4] u (Rt.Tells u Rt.ks 0) := fun u v hv hT => by
    have := Rt.V.through hv hr ⟨#[97]⟩ 4 (by decide) (by decide) hT
    rwa [Rt.k1] at this
  have hth2 : ∀ u v, Rt.Val u Rt.ks v → Utf8Tabs 0 1 u → Calls Tryd.prog 15 #[v, .string ⟨#[98]⟩, .int .u32 1] u (Rt.Tells u (Rt.ks.thr ⟨#[98]⟩ 1) 34) := fun u v hv hT => by
    have := Rt.V.through hv hs ⟨#[98]⟩ 1 (by decide) (by decide) hT
    rwa [Rt.k2] at this
  have hpu : ∀ u v, Rt.Val u Rt.ks v → Utf8Tabs 0 1 u → Calls Tryd.prog 23 #[v] u (Rt.Wrote u Rt.ks.wrote 0) := fun u v hv hT => by
    have := Rt.V.put hv hs hT
    rwa [Rt.k5] at this
  have hrd : ∀ u v, (Bs Rt.ks.wrote).p v u → Utf8Tabs 0 1 u → Calls Tryd.prog 25 #[v] u (Rt.Tells u (Rt.rdV Rt.ks.wrote) 0) := fun u v hv hT => by
    have := Rt.V.read hv Rt.k11 Rt.k13 hT
    rwa [Rt.k6] at this
  have hsm : ∀ u v v', Rt.Val u Rt.ks v → Rt.Val u (Rt.rdV Rt.ks.wrote) v' → Calls Tryd.prog 22 #[v, v'] u (Rt.Says u true) := fun u v v' h h' => by
    have := Rt.V.same h h' hs hd
    rwa [Rt.k7] at this
  have hbe : ∀ u v v', Rt.Val u Rt.kr v → Rt.Val u Rt.ks v' → Utf8Tabs 0 1 u → Calls Tryd.prog 20 #[v, v'] u (Rt.Says u true) := fun u v v' h h' hT => by
    have := Rt.V.better h h' hr hs hT
    rwa [Rt.k8] at this
  have hri : ∀ u v, Rt.Val u Rt.ks v → Utf8Tabs 0 1 u → Calls Tryd.prog 12 #[v] u (Rt.Says u true) := fun u v h hT => by
    have := Rt.V.right h hs hT
    rwa [Rt.k9] at this
  have hha : ∀ u v, Rt.Val u Rt.ks v → Calls Tryd.prog 18 #[v, .string ⟨#[97]⟩] u (Rt.Says u true) := fun u v h => by
    have := Rt.V.has h hs ⟨#[97]⟩
    rwa [Rt.k10] at this
  have HTH := Lib.hid hth
  have HTH2 := Lib.hid hth2
  have HPU := Lib.hid hpu
  have HRD := Lib.hid hrd
  have HSM := Lib.hid hsm
  have HBE := Lib.hid hbe
  have HRI := Lib.hid hri
  have HHA := Lib.hid hha
  have hk3 := Rt.k3
  have hk4 := Rt.k4
  generalize Rt.rdV Rt.ks.wrote = rv at *
  generalize Rt.ks.wrote = WB at *
  generalize Rt.ks.thr ⟨#[98]⟩ 1 = kt at *
  generalize Rt.kr = kr at *
  generalize Rt.ks = ks at *
  clear hQ hth hth2 hpu hrd hsm hbe hri hha
  go_enter Tryd.func10, Tryd.ntmps10
  go_wp2_with (first
    | (go_at_call 11; refine (hA _ (some ⟨w.heap.size, 0, none⟩) 1 (Sl.of_row (heap_alloc_new w _) 1 1 (by simp) (Nat.le_refl _) (by simp [maxLen]))).mono ?_; rintro e w2 ⟨v, rfl, hv, hb⟩; obtain ⟨c1, rfl, hf1, hv1⟩ := hv.fit hr; have BB := Lib.hid (Below.trans ((Below.refl w.heap.size w).alloc (Nat.le_refl _) _) (hb.mono (by simp))); have F1 := Lib.hid hf1; have V1 := Lib.hid hv1; clear hv hb hf1 hv1)
    | (have _t := F1; (with_reducible refine Rt.store_at 33 (x := .tmp 1) (v := .tmp 12) (cs := c1) ?_ w2.heap.size ?_ ?_ ?_ (Rt.Row.new w2 33 Tryd.zeroCells33) ?_ ?_ ?_ ?_); (with_reducible exact rfl); (exact rfl); (exact rfl); (kernel_rfl); (exact F1.out.eq); (exact F1.out.inf); (exact F1.out.one); (clear _t; intro w3 e1 e2 e3 e4; have b8 := e4 w2.heap.size w2 (Nat.le_refl _) ((Below.refl _ _).alloc (Nat.le_refl _) _); (have X1 := Lib.hid (Rt.At.new e1 V1.out F1.out b8)); (((try replace X1 := Lib.hid (X1.out.keep b8)); (try replace X2 := Lib.hid (X2.out.keep b8)); (try replace X8 := Lib.hid (X8.out.keep b8)); (try replace VB := Lib.hid ((Bs _).st _ _ _ VB.out b8)); replace BB := Lib.hid (BB.out.trans ((b8).mono BB.out.size)))); clear e1 e2 e3 e4 b8))
    | (have _t := X1; (with_reducible refine Rt.load_at 33 (x := .tmp 1) ?_ ⟨w2.heap.size, 0, none⟩ ?_ ?_ (X1.out.row.whole33 X1.out.size) ?_); (with_reducible exact rfl); (exact rfl); (kernel_rfl); clear _t)
    | (go_at_call 15; (with_reducible refine (HTH.out _ _ X1.out.val (Utf8Tabs_below hT BB.out)).mono ?_); rintro e w4 ⟨hb, v, rfl, hv⟩; obtain ⟨c2, rfl, hf, hv⟩ := hv.fit hs; have F2 := Lib.hid hf; have V2 := Lib.hid hv; (((try replace X1 := Lib.hid (X1.out.keep hb)); (try replace X2 := Lib.hid (X2.out.keep hb)); (try replace X8 := Lib.hid (X8.out.keep hb)); (try replace VB := Lib.hid ((Bs _).st _ _ _ VB.out hb)); replace BB := Lib.hid (BB.out.trans ((hb).mono BB.out.size)))); clear hf hv hb)
    | (have _t := F2; (with_reducible refine Rt.store_at 33 (x := .tmp 2) (v := .tmp 16) (cs := c2) ?_ w4.heap.size ?_ ?_ ?_ (Rt.Row.new w4 33 Tryd.zeroCells33) ?_ ?_ ?_ ?_); (with_reducible exact rfl); (exact rfl); (exact rfl); (kernel_rfl); (exact F2.out.eq); (exact F2.out.inf); (exact F2.out.one); (clear _t; intro w5 e1 e2 e3 e4; have b8 := e4 w4.heap.size w4 (Nat.le_refl _) ((Below.refl _ _).alloc (Nat.le_refl _) _); (have X2 := Lib.hid (Rt.At.new e1 V2.out F2.out b8)); (((try replace X1 := Lib.hid (X1.out.keep b8)); (try replace X2 := Lib.hid (X2.out.keep b8)); (try replace X8 := Lib.hid (X8.out.keep b8)); (try replace VB := Lib.hid ((Bs _).st _ _ _ VB.out b8)); replace BB := Lib.hid (BB.out.trans ((b8).mono BB.out.size)))); clear e1 e2 e3 e4 b8))
    | (have _t := X2; (with_reducible refine Rt.load_at 33 (x := .tmp 2) ?_ ⟨w4.heap.size, 0, none⟩ ?_ ?_ (X2.out.row.whole33 X2.out.size) ?_); (with_reducible exact rfl); (exact rfl); (kernel_rfl); clear _t)
    | (go_at_call 15; (with_reducible refine (HTH2.out _ _ X2.out.val (Utf8Tabs_below hT BB.out)).mono ?_); rintro e w6 ⟨hb, v, rfl, hv⟩; obtain ⟨c4, rfl, hf, hv⟩ := hv.fit ht; have F4 := Lib.hid hf; have V4 := Lib.hid hv; (((try replace X1 := Lib.hid (X1.out.keep hb)); (try replace X2 := Lib.hid (X2.out.keep hb)); (try replace X8 := Lib.hid (X8.out.keep hb)); (try replace VB := Lib.hid ((Bs _).st _ _ _ VB.out hb)); replace BB := Lib.hid (BB.out.trans ((hb).mono BB.out.size)))); clear hf hv hb)
    | (have _t := F4; (with_reducible refine Rt.store_at 33 (x := .tmp 4) (v := .tmp 21) (cs := c4) ?_ w6.heap.size ?_ ?_ ?_ (Rt.Row.new w6 33 Tryd.zeroCells33) ?_ ?_ ?_ ?_); (with_reducible exact rfl); (exact rfl); (exact rfl); (kernel_rfl); (exact F4.out.eq); (exact F4.out.inf); (exact F4.out.one); (clear _t; intro w7 e1 e2 e3 e4; have b8 := e4 w6.heap.size w6 (Nat.le_refl _) ((Below.refl _ _).alloc (Nat.le_refl _) _); (have X4 := Lib.hid (Rt.At.new e1 V4.out F4.out b8)); (((try replace X1 := Lib.hid (X1.out.keep b8)); (try replace X2 := Lib.hid (X2.out.keep b8)); (try replace X8 := Lib.hid (X8.out.keep b8)); (try replace VB := Lib.hid ((Bs _).st _ _ _ VB.out b8)); replace BB := Lib.hid (BB.out.trans ((b8).mono BB.out.size)))); clear e1 e2 e3 e4 b8))
    | (go_at_call 23; refine (HPU.out _ _ X2.out.val (Utf8Tabs_below hT BB.out)).mono ?_; rintro e w8 ⟨hb, vb, rfl, hv⟩; have VB := Lib.hid (ow_bs hv); (((try replace X1 := Lib.hid (X1.out.keep hb)); (try replace X2 := Lib.hid (X2.out.keep hb)); (try replace X8 := Lib.hid (X8.out.keep hb)); (try replace VB := Lib.hid ((Bs _).st _ _ _ VB.out hb)); replace BB := Lib.hid (BB.out.trans ((hb).mono BB.out.size)))); clear hv hb)
    | (go_at_call 25; refine (HRD.out _ _ VB.out (Utf8Tabs_below hT BB.out)).mono ?_; rintro e w9 ⟨hb, v, rfl, hv⟩; obtain ⟨c8, rfl, hf, hv⟩ := hv.fit hd; have F8 := Lib.hid hf; have V8 := Lib.hid hv; (((try replace X1 := Lib.hid (X1.out.keep hb)); (try replace X2 := Lib.hid (X2.out.keep hb)); (try replace X8 := Lib.hid (X8.out.keep hb)); (try replace VB := Lib.hid ((Bs _).st _ _ _ VB.out hb)); replace BB := Lib.hid (BB.out.trans ((hb).mono BB.out.size)))); clear hf hv hb)
    | ((have _t := F8; (with_reducible refine Rt.store_at 33 (x := .tmp 8) (v := .tmp 31) (cs := c8) ?_ w9.heap.size ?_ ?_ ?_ (Rt.Row.new w9 33 Tryd.zeroCells33) ?_ ?_ ?_ ?_); (with_reducible exact rfl); (exact rfl); (exact rfl); (kernel_rfl); (exact F8.out.eq); (exact F8.out.inf); (exact F8.out.one); (clear _t; intro w10 e1 e2 e3 e4; have b8 := e4 w9.heap.size w9 (Nat.le_refl _) ((Below.refl _ _).alloc (Nat.le_refl _) _); (have X8 := Lib.hid (Rt.At.new e1 V8.out F8.out b8)); (((try replace X1 := Lib.hid (X1.out.keep b8)); (try replace X2 := Lib.hid (X2.out.keep b8)); (try replace X8 := Lib.hid (X8.out.keep b8)); (try replace VB := Lib.hid ((Bs _).st _ _ _ VB.out b8)); replace BB := Lib.hid (BB.out.trans ((b8).mono BB.out.size)))); clear e1 e2 e3 e4 b8)); have kco := X2.out.co; obtain ⟨pa, pc, kpa, kpn, kst⟩ := X2.out.path; rw [hk4] at kpa kpn kst; rw [hk3] at kco; obtain ⟨pb, po, rfl, _⟩ := kst.at_ 0 (by decide); have ks0 : w10.cell? ⟨pb, po, none⟩ = some (.string ⟨#[97]⟩) := kst.cell pb po rfl 0 (by decide))
    | (have _t := X8; (with_reducible refine Rt.load_at 33 (x := .tmp 8) ?_ ⟨w9.heap.size, 0, none⟩ ?_ ?_ (X8.out.row.whole33 X8.out.size) ?_); (with_reducible exact rfl); (exact rfl); (kernel_rfl); clear _t)
    | (go_at_call 22; refine (HSM.out _ _ _ X2.out.val X8.out.val).mono ?_; rintro e w11 ⟨rfl, hb⟩; (((try replace X1 := Lib.hid (X1.out.keep hb)); (try replace X2 := Lib.hid (X2.out.keep hb)); (try replace X8 := Lib.hid (X8.out.keep hb)); (try replace VB := Lib.hid ((Bs _).st _ _ _ VB.out hb)); replace BB := Lib.hid (BB.out.trans ((hb).mono BB.out.size)))); clear hb)
    | (go_at_call 20; refine (HBE.out _ _ _ X1.out.val X2.out.val (Utf8Tabs_below hT BB.out)).mono ?_; rintro e w12 ⟨rfl, hb⟩; (((try replace X1 := Lib.hid (X1.out.keep hb)); (try replace X2 := Lib.hid (X2.out.keep hb)); (try replace X8 := Lib.hid (X8.out.keep hb)); (try replace VB := Lib.hid ((Bs _).st _ _ _ VB.out hb)); replace BB := Lib.hid (BB.out.trans ((hb).mono BB.out.size)))); clear hb)
    | (go_at_call 12; refine (HRI.out _ _ X2.out.val (Utf8Tabs_below hT BB.out)).mono ?_; rintro e w13 ⟨rfl, hb⟩; (((try replace X1 := Lib.hid (X1.out.keep hb)); (try replace X2 := Lib.hid (X2.out.keep hb)); (try replace X8 := Lib.hid (X8.out.keep hb)); (try replace VB := Lib.hid ((Bs _).st _ _ _ VB.out hb)); replace BB := Lib.hid (BB.out.trans ((hb).mono BB.out.size)))); clear hb)
    | (go_at_call 18; refine (HHA.out _ _ X2.out.val).mono ?_; rintro e w14 ⟨rfl, hb⟩; (((try replace X1 := Lib.hid (X1.out.keep hb)); (try replace X2 := Lib.hid (X2.out.keep hb)); (try replace X8 := Lib.hid (X8.out.keep hb)); (try replace VB := Lib.hid ((Bs _).st _ _ _ VB.out hb)); replace BB := Lib.hid (BB.out.trans ((hb).mono BB.out.size)))); clear hb))
  rw [← HQ.out]
  exact ⟨rfl, BB.out⟩
end Go.Proofs
namespace Go.Proofs.YtfiillledfkdkaaDoor
open Go.ChangeShapes Go.WideShapes Go.ChangeAt Go.RowKit Go.Lib Go.Shelf

theorem own : ownKnob Tryd.prog.godebug = none := by kernel_rfl
abbrev laidL : List (String × DataW Unit) := [("unicode/utf8.acceptRanges", Rows.laid_unicode_utf8_acceptRanges), ("unicode/utf8.first", Rows.laid_unicode_utf8_first)]
theorem accept_same : (Rows.laid_unicode_utf8_acceptRanges : DataW Unit) = Lib.acceptData := by kernel_rfl
theorem first_same : (Rows.laid_unicode_utf8_first : DataW Unit) = Lib.firstData := by kernel_rfl
/-- The settled world, both tables laid. -/
noncomputable def laidWorld (os : Os) : World :=
  let w0 := World.holding Tryd.prog os ⟨#[], #[], []⟩
  let put (h : Array Obj) (g : Nat) (cs : Array Value) : Array Obj := h.modify g fun
    | .cells _ t frozen => .cells cs t frozen
    | o => o
  let h1 := put w0.heap 0 (Lib.firstTab.map fun z => Value.int .u8 z).toArray
  let h2 := put h1 1 ((List.range 16).flatMap fun i => [Value.int .u8 (Lib.accLo i), Value.int .u8 (Lib.accHi i)]).toArray
  { w0 with heap := h2 }
theorem laid_met (os : Os) (args : Array Value) : laidMetH Tryd.prog laidL ((laidWorld os).forCall (fun _ _ => 0) ⟨#[], args, []⟩).memory :=
  laidMetH_of_parts3 (fuel := 8) (laidMet_of_run' 8 (by kernel_rfl) (by kernel_rfl)) (by kernel_rfl) (by kernel_rfl)
theorem tabs_of {W : World} (h : laidMetH Tryd.prog laidL W) : Lib.Utf8Tabs 0 1 W := by
  rw [MakeChecks.laidMetH_plain _ _ _ (by kernel_rfl)] at h
  have h1 := Lib.laidMet.reads h (.head _)
  have h2 := Lib.laidMet.reads h (.tail _ (.head _))
  rw [accept_same] at h1
  rw [first_same] at h2
  exact utf8Tabs_of_reads Tryd.lays260 ⟨by kernel_rfl, by kernel_rfl, by kernel_rfl, by kernel_rfl, by kernel_rfl, by kernel_rfl, by kernel_rfl⟩ h2 h1
theorem u8_nat {z : Int} (h : (Lit.int .u8 z).wf = true) : ∃ n : Nat, z = (n : Int) ∧ n < 256 := by
  simp only [Lit.wf, Bool.and_eq_true, decide_eq_true_eq] at h
  have h1 : (0 : Int) ≤ z := h.1
  have h2 : z ≤ 255 := h.2
  exact ⟨z.toNat, by omega, by omega⟩
theorem i64_in {z : Int} (h : (Lit.int .i64 z).wf = true) : -9223372036854775808 ≤ z ∧ z ≤ 9223372036854775807 := by
  simp only [Lit.wf, Bool.and_eq_true, decide_eq_true_eq] at h
  exact h
section
variable {H : Type} {enc : TypeId × Value → H} {P : Program}
/-- a row's end where the world below the call's own blocks is as it was -/
theorem post_below {f : Func} {s : ChangeSpec} {apart fresh handsOn again : Bool} {W W' : World} {args : Array Value} {v : Value} {ds gs : List (DataW H)} {before pa pv : List MemPlace}
    (hW : DataW.Whole enc P f.params.toList s.vars apart W args.toList ds gs before)
    (hres : ∀ (b : Nat) (sp : Nat → Bool) (hd : Bool), DataW.TrodAll enc P W' b sp hd f.resultTypes.toList (v.resultList f.resultTypes.size) (s.fn H (ds ++ gs)).results [])
    (hargs : ∀ sp : Nat → Bool, (∀ p ∈ before, sp p.block = true) → DataW.TrodAll enc P W' 0 sp true f.params.toList args.toList (s.fn H (ds ++ gs)).args pa)
    (hvars : ∀ sp : Nat → Bool, (∀ p ∈ before, sp p.block = true) → DataW.TrodVars enc P W' sp s.vars (s.fn H (ds ++ gs)).vars pv)
    (hps : before = pa ++ pv) (hb : Below W.heap.size W W')
    (hok : ∀ (j : Nat) (t : TypeId) (r : Value), f.resultTypes[j]? = some t → (v.resultList f.resultTypes.size)[j]? = some r → Value.okWide P W' .any 0 t r) :
    s.post enc P f apart fresh handsOn again W args v W' := by
  have hlt : ∀ p ∈ before, p.block < W.heap.size := fun p hp => hW.lt p hp
  have hold : ∀ p ∈ before, (fun b => decide (b < W.heap.size)) p.block = true := fun p hp => by simpa using hlt p hp
  refine ⟨ds, gs, before, [], pa, pv, hW, hres _ _ _, hargs _ hold, hvars _ hold, World.keptBut_mono (fun p hp => ⟨hp, ?_⟩) (hb.frame (· ∈ before)), fun _ => ?_⟩
  · rw [hps, List.mem_append] at hp
    exact Or.inr hp
  · obtain ⟨_, _, _, _, _, hz, hn⟩ := hW
    refine ⟨hok, _, _, ([] ++ pa) ++ pv, ⟨[] ++ pa, pv, trodAll_append (hargs _ (fun _ _ => rfl)) (hres _ _ _), hvars _ (fun _ _ => rfl), rfl, ?_, ?_⟩, ?_⟩
    · intro b off hp
      have hin : MemPlace.cell b off ∈ before := by rw [hps]; simpa using hp
      rw [hb.frozen (hlt _ hin)]
      exact hz b off hin
    · intro ha
      have := hn ha
      rw [hps] at this
      simpa using this
    · intro p hp _
      rw [hps]
      simpa using hp
end

end Go.Proofs.YtfiillledfkdkaaDoor
