/- Of three routes the best: the walk. -/
import Derived.Test.YtfiillledfkdkaaDoorRtY8
set_option linter.unusedVariables false
set_option linter.unusedSimpArgs false
set_option linter.unusedSimpArgs false
namespace Go.Proofs
open Go.Shelf Go.RowKit Go.Lib Go.Rt Go.Nam Go.Tp
set_option maxHeartbeats 10000000 in
set_option maxRecDepth 100000 in
theorem Rt.law9f (X Y Z : Rt.Ann) (hX : X.In) (hY : Y.In) (hZ : Z.In) (a1 a2 a3 : Option Addr) (m1 c1 m2 c2 m3 c3 : Nat) (w : World) (sX : Sl w a1 m1 c1 (X.path.map (Value.int .u8))) (sY : Sl w a2 m2 c2 (Y.path.map (Value.int .u8))) (sZ : Sl w a3 m3 c3 (Z.path.map (Value.int .u8))) (hT : Utf8Tabs 0 1 w) :
    Calls Tryd.prog 9 #[.agg (X.cells a1 m1 c1), .agg (Y.cells a2 m2 c2), .agg (Z.cells a3 m3 c3), .bool false] w (Rt.Says w true) := by
  obtain ⟨Q, hQ⟩ : ∃ Q, Rt.Says w true = Q := ⟨_, rfl⟩
  rw [hQ]
  have HQ := Lib.hid hQ
  clear hQ
  obtain ⟨w1, ew, r1, r2, r3, hb1⟩ := Rt.box3 w (X.cells a1 m1 c1) (Y.cells a2 m2 c2) (Z.cells a3 m3 c3) 37 37 37
  have R1 := Lib.hid r1
  have R2 := Lib.hid r2
  have R3 := Lib.hid r3
  have BB := Lib.hid hb1
  clear r1 r2 r3 hb1
  have asz : (⟨#[97]⟩ : ByteArray).size ≤ 255 := by decide
  have IX := Rt.Ann.rv_in X hX ⟨#[97]⟩ asz
  have IY := Rt.Ann.rv_in Y hY ⟨#[97]⟩ asz
  have IZ := Rt.Ann.rv_in Z hZ ⟨#[97]⟩ asz
  have hcX : ∀ u, Below w.heap.size w u → Calls Tryd.prog 11 #[.agg (X.cells a1 m1 c1), .string ⟨#[97]⟩] u (Ret (Rt.ValT (X.rv ⟨#[97]⟩)) u) := fun u hu => Rt.annRoute X hX ⟨#[97]⟩ asz a1 m1 c1 u (sX.keep hu)
  have hcY : ∀ u, Below w.heap.size w u → Calls Tryd.prog 11 #[.agg (Y.cells a2 m2 c2), .string ⟨#[97]⟩] u (Ret (Rt.ValT (Y.rv ⟨#[97]⟩)) u) := fun u hu => Rt.annRoute Y hY ⟨#[97]⟩ asz a2 m2 c2 u (sY.keep hu)
  have hcZ : ∀ u, Below w.heap.size w u → Calls Tryd.prog 11 #[.agg (Z.cells a3 m3 c3), .string ⟨#[97]⟩] u (Ret (Rt.ValT (Z.rv ⟨#[97]⟩)) u) := fun u hu => Rt.annRoute Z hZ ⟨#[97]⟩ asz a3 m3 c3 u (sZ.keep hu)
  have HX := Lib.hid hcX
  have HY := Lib.hid hcY
  have HZ := Lib.hid hcZ
  clear hcX hcY hcZ sX sY sZ
  go_enter Tryd.func9, Tryd.ntmps9
  go_wp2_with (go_at_call 10; refine (Rt.known _ (Utf8Tabs_below hT BB.out)).mono ?_; rintro e w2 ⟨rfl, hb⟩; replace R1 := Lib.hid (R1.out.keep hb); replace R2 := Lib.hid (R2.out.keep hb); replace R3 := Lib.hid (R3.out.keep hb); replace BB := Lib.hid (BB.out.trans (hb.mono BB.out.size)); clear hb)
  have L1 : Hid (∀ u, Below w2.heap.size w2 u → (loadVar 37 ⟨w.heap.size, 0, none⟩).run Tryd.prog u = .ok (.agg (X.cells a1 m1 c1)) u) := Lib.hid fun u hu => (R1.out.keep hu).whole37
  have L2 : Hid (∀ u, Below w2.heap.size w2 u → (loadVar 37 ⟨w.heap.size + 1, 0, none⟩).run Tryd.prog u = .ok (.agg (Y.cells a2 m2 c2)) u) := Lib.hid fun u hu => (R2.out.keep hu).whole37
  have L3 : Hid (∀ u, Below w2.heap.size w2 u → (loadVar 37 ⟨w.heap.size + 1 + 1, 0, none⟩).run Tryd.prog u = .ok (.agg (Z.cells a3 m3 c3)) u) := Lib.hid fun u hu => (R3.out.keep hu).whole37
  have UP : ∀ u, Below w2.heap.size w2 u → Below w.heap.size w u := fun u hu => BB.out.trans (hu.mono BB.out.size)
  refine Tp.region_n [6, 7, 8] (by kernel_rfl) 9 71 [[(4, none)], [(14, some 0)], [(5, none)], [(16, some 2)], [(6, none)], [(18, some 4)], [], [], []] (by kernel_rfl) (by kernel_rfl) rfl ?_
  apply Exists.intro [_, _, _, _, _, _, _, _, _]
  refine ⟨⟨?_, ?_, ?_, ?_, ?_, ?_, ?_, ?_, ?_, trivial⟩, ?_, ?_⟩
  · intro A u hC hG hF hu hR; clear hG
    refine Tp.facts_old (fun h4 => ?_) rfl; conv at h4 => rhs; whnf
    refine Tp.facts_nil ?_
    refine Tp.wants_plain rfl ?_
    refine Tp.aim_n (by decide) ?_
    refine Tp.load_var rfl h4 (L1.out u hu) ?_; exact rfl
  · intro A u hC hG hF hu hR; clear hG
    first | refine Tp.facts_is rfl (fun h14 => ?_) | refine Tp.facts_ty rfl (fun v14 h14 k14 => ?_)
    refine Tp.facts_nil ?_
    refine Tp.wants_plain rfl ?_
    refine Tp.aim_n (by decide) ?_
    (apply Tp.gives_run; (simp [go_sem, hC, hF, hu, h14]; exact rfl); (refine Tp.given_call ?_ (HX.out u (UP u hu)); exact rfl))
  · intro A u hC hG hF hu hR; clear hG
    refine Tp.facts_old (fun h5 => ?_) rfl; conv at h5 => rhs; whnf
    refine Tp.facts_nil ?_
    refine Tp.wants_plain rfl ?_
    refine Tp.aim_n (by decide) ?_
    refine Tp.load_var rfl h5 (L2.out u hu) ?_; exact rfl
  · intro A u hC hG hF hu hR; clear hG
    first | refine Tp.facts_is rfl (fun h16 => ?_) | refine Tp.facts_ty rfl (fun v16 h16 k16 => ?_)
    refine Tp.facts_nil ?_
    refine Tp.wants_plain rfl ?_
    refine Tp.aim_n (by decide) ?_
    (apply Tp.gives_run; (simp [go_sem, hC, hF, hu, h16]; exact rfl); (refine Tp.given_call ?_ (HY.out u (UP u hu)); exact rfl))
  · intro A u hC hG hF hu hR; clear hG
    refine Tp.facts_old (fun h6 => ?_) rfl; conv at h6 => rhs; whnf
    refine Tp.facts_nil ?_
    refine Tp.wants_plain rfl ?_
    refine Tp.aim_n (by decide) ?_
    refine Tp.load_var rfl h6 (L3.out u hu) ?_; exact rfl
  · intro A u hC hG hF hu hR; clear hG
    first | refine Tp.facts_is rfl (fun h18 => ?_) | refine Tp.facts_ty rfl (fun v18 h18 k18 => ?_)
    refine Tp.facts_nil ?_
    refine Tp.wants_plain rfl ?_
    refine Tp.aim_n (by decide) ?_
    (apply Tp.gives_run; (simp [go_sem, hC, hF, hu, h18]; exact rfl); (refine Tp.given_call ?_ (HZ.out u (UP u hu)); exact rfl))
  · intro A u hC hG hF hu hR; clear hG
    refine Tp.facts_nil ?_
    refine Tp.wants_plain rfl ?_
    (apply Tp.gives_run; (simp [go_sem, hC, hF, hu]; exact rfl); (refine Tp.given_new ?_ hu.size; exact rfl))
  · intro A u hC hG hF hu hR; clear hG
    refine Tp.facts_nil ?_
    refine Tp.wants_plain rfl ?_
    (apply Tp.gives_run; (simp [go_sem, hC, hF, hu]; exact rfl); (refine Tp.given_new ?_ hu.size; exact rfl))
  · intro A u hC hG hF hu hR; clear hG
    refine Tp.facts_nil ?_
    refine Tp.wants_plain rfl ?_
    (apply Tp.gives_run; (simp [go_sem, hC, hF, hu]; exact rfl); (refine Tp.given_new ?_ hu.size; exact rfl))
  · exact ⟨⟨fun h => absurd h (by decide), fun h => absurd h (by decide), fun h => absurd h (by decide), fun h => absurd h (by decide), fun h => absurd h (by decide), fun h => absurd h (by decide), fun _ => Tp.newrow_in, fun _ => Tp.newrow_in, fun _ => Tp.newrow_in, trivial⟩, Nat.le_refl _⟩
  intro wq1 bq1
  first | refine Tp.fin_is rfl rfl rfl ?_ | refine Tp.fin_ty rfl rfl rfl (fun y14 q14 => ?_)
  first | refine Tp.fin_is rfl rfl rfl ?_ | refine Tp.fin_ty rfl rfl rfl (fun y15 q15 => ?_)
  first | refine Tp.fin_is rfl rfl rfl ?_ | refine Tp.fin_ty rfl rfl rfl (fun y16 q16 => ?_)
  first | refine Tp.fin_is rfl rfl rfl ?_ | refine Tp.fin_ty rfl rfl rfl (fun y17 q17 => ?_)
  first | refine Tp.fin_is rfl rfl rfl ?_ | refine Tp.fin_ty rfl rfl rfl (fun y18 q18 => ?_)
  first | refine Tp.fin_is rfl rfl rfl ?_ | refine Tp.fin_ty rfl rfl rfl (fun y19 q19 => ?_)
  first | refine Tp.fin_is rfl rfl rfl ?_ | refine Tp.fin_ty rfl rfl rfl (fun y9 q9 => ?_)
  first | refine Tp.fin_is rfl rfl rfl ?_ | refine Tp.fin_ty rfl rfl rfl (fun y10 q10 => ?_)
  first | refine Tp.fin_is rfl rfl rfl ?_ | refine Tp.fin_ty rfl rfl rfl (fun y11 q11 => ?_)
  refine Tp.fin_nil ?_
  intro hdist
  have hd9_10 := Tp.dist_ne hdist 6 7 9 10 (x := y9) (y := y10) (by decide) (by decide) (by decide) (by kernel_rfl) (by kernel_rfl) (by kernel_rfl) (by kernel_rfl)
  have hd9_11 := Tp.dist_ne hdist 6 8 9 11 (x := y9) (y := y11) (by decide) (by decide) (by decide) (by kernel_rfl) (by kernel_rfl) (by kernel_rfl) (by kernel_rfl)
  have hd10_11 := Tp.dist_ne hdist 7 8 10 11 (x := y10) (y := y11) (by decide) (by decide) (by decide) (by kernel_rfl) (by kernel_rfl) (by kernel_rfl) (by kernel_rfl)
  clear hdist
  simp only [Act.put, List.setIfInBounds_toArray, List.set_cons_succ, List.set_cons_zero, List.drop_succ_cons, List.drop_zero, List.drop_nil]
  obtain ⟨g9, rfl, l9, k9⟩ := q9
  obtain ⟨g10, rfl, l10, k10⟩ := q10
  obtain ⟨g11, rfl, l11, k11⟩ := q11
  have n1 : g9 ≠ g10 := fun e => hd9_10 (by rw [e])
  have n2 : g9 ≠ g11 := fun e => hd9_11 (by rw [e])
  have n3 : g10 ≠ g11 := fun e => hd10_11 (by rw [e])
  clear hd9_10 hd9_11 hd10_11
  obtain ⟨cx, rfl, fx, vx⟩ := q15.fit IX
  obtain ⟨cy, rfl, fy, vy⟩ := q17.fit IY
  obtain ⟨cz, rfl, fz, vz⟩ := q19.fit IZ
  have BQ := Lib.hid (UP _ bq1)
  have lw := BB.out.size
  have K9 : Hid (Rt.Row wq1 g9 33 Tryd.zeroCells33) := Lib.hid k9
  have K10 : Hid (Rt.Row wq1 g10 33 Tryd.zeroCells33) := Lib.hid k10
  have K11 : Hid (Rt.Row wq1 g11 33 Tryd.zeroCells33) := Lib.hid k11
  have VX := Lib.hid vx
  have VY := Lib.hid vy
  have VZ := Lib.hid vz
  have FX := Lib.hid fx
  have FY := Lib.hid fy
  have FZ := Lib.hid fz
  clear k9 k10 k11 vx vy vz fx fy fz q15 q17 q19 bq1 UP L1 L2 L3 HX HY HZ R1 R2 R3 BB
  go_upto_region 6 with (first | (((have _t := K9; (with_reducible refine Rt.store_at 33 (x := .tmp 9) (v := .tmp 15) (cs := cx) ?_ g9 ?_ ?_ ?_ K9.out ?_ ?_ ?_ ?_); (with_reducible exact rfl); (exact rfl); (exact rfl); (kernel_rfl); (exact FX.out.eq); (exact FX.out.inf); (exact FX.out.one); clear _t)); (intro w4 e1 e2 e3 e4; have g := Rt.grown_eq e2 e3 (e4 _ _ (Nat.zero_le _) (Below.refl _ _)); have AX : Hid (Rt.AtN w4 g9 (X.rv ⟨#[97]⟩) cx) := Lib.hid ⟨e1, VX.out.by K9.out g, FX.out.size⟩; replace K10 := Lib.hid (K10.out.by g (by simpa using n1.symm)); replace K11 := Lib.hid (K11.out.by g (by simpa using n2.symm)); replace VY := Lib.hid (VY.out.by K9.out g); replace VZ := Lib.hid (VZ.out.by K9.out g); replace BQ := Lib.hid (e4 _ _ (by omega) BQ.out); clear e1 e2 e3 e4 g)) | (((have _t := K10; (with_reducible refine Rt.store_at 33 (x := .tmp 10) (v := .tmp 17) (cs := cy) ?_ g10 ?_ ?_ ?_ K10.out ?_ ?_ ?_ ?_); (with_reducible exact rfl); (exact rfl); (exact rfl); (kernel_rfl); (exact FY.out.eq); (exact FY.out.inf); (exact FY.out.one); clear _t)); (intro w5 e1 e2 e3 e4; have g := Rt.grown_eq e2 e3 (e4 _ _ (Nat.zero_le _) (Below.refl _ _)); have AY : Hid (Rt.AtN w5 g10 (Y.rv ⟨#[97]⟩) cy) := Lib.hid ⟨e1, VY.out.by K10.out g, FY.out.size⟩; replace AX := Lib.hid (AX.out.by K10.out g n1); replace K11 := Lib.hid (K11.out.by g (by simpa using n3.symm)); replace VZ := Lib.hid (VZ.out.by K10.out g); replace BQ := Lib.hid (e4 _ _ (by omega) BQ.out); clear e1 e2 e3 e4 g)) | (((have _t := K11; (with_reducible refine Rt.store_at 33 (x := .tmp 11) (v := .tmp 19) (cs := cz) ?_ g11 ?_ ?_ ?_ K11.out ?_ ?_ ?_ ?_); (with_reducible exact rfl); (exact rfl); (exact rfl); (kernel_rfl); (exact FZ.out.eq); (exact FZ.out.inf); (exact FZ.out.one); clear _t)); (intro w6 e1 e2 e3 e4; have g := Rt.grown_eq e2 e3 (e4 _ _ (Nat.zero_le _) (Below.refl _ _)); have AZ : Hid (Rt.AtN w6 g11 (Z.rv ⟨#[97]⟩) cz) := Lib.hid ⟨e1, VZ.out.by K11.out g, FZ.out.size⟩; replace AX := Lib.hid (AX.out.by K11.out g n2); replace AY := Lib.hid (AY.out.by K11.out g n3); replace BQ := Lib.hid (e4 _ _ (by omega) BQ.out); have xco := AX.out.co; have yco := AY.out.co; have zco := AZ.out.co; have yfr := AY.out.row.free 5; have zfr := AZ.out.row.free 5; have xlt := AX.out.row.lt; have ylt := AY.out.row.lt; have zlt := AZ.out.row.lt; clear e1 e2 e3 e4 g)))
  have IY1 := IY
  have IZ1 := IZ
  obtain ⟨x, hx⟩ : ∃ x, X.rv ⟨#[97]⟩ = x := ⟨_, rfl⟩
  rw [hx] at AX IX
  obtain ⟨y, hy, IY2, AY2⟩ : ∃ y : Rt.RV, True ∧ y.In ∧ Hid (Rt.AtN w6 g10 y _) := ⟨_, trivial, IY1, AY⟩
  obtain ⟨z, hz, IZ2, AZ2⟩ : ∃ z : Rt.RV, True ∧ z.In ∧ Hid (Rt.AtN w6 g11 z _) := ⟨_, trivial, IZ1, AZ⟩
  clear AY AZ hy hz xco yco zco
  have AY := AY2
  have AZ := AZ2
  clear AY2 AZ2
  have xco := AX.out.co
  have yco := AY.out.co
  obtain ⟨t1, t2, t3⟩ := Rt.bet_facts x y z
  obtain ⟨XY, hXY⟩ : ∃ b, x.better y = b := ⟨_, rfl⟩
  obtain ⟨YZ, hYZ⟩ : ∃ b, y.better z = b := ⟨_, rfl⟩
  obtain ⟨XZ, hXZ⟩ : ∃ b, x.better z = b := ⟨_, rfl⟩
  obtain ⟨YX, hYX⟩ : ∃ b, y.better x = b := ⟨_, rfl⟩
  have HXY := Lib.hid (Rt.better_at x y IX IY2 XY hXY)
  have HYZ := Lib.hid (Rt.better_at y z IY2 IZ2 YZ hYZ)
  have HXZ := Lib.hid (Rt.better_at x z IX IZ2 XZ hXZ)
  have HYX := Lib.hid (Rt.better_at y x IY2 IX YX hYX)
  rw [hXY, hYZ, hXZ] at t1
  rw [hXY, hYX, hXZ, hYZ] at t2
  rw [hXY] at t3
  clear hXY hYZ hXZ hYX
  cases XY
  · cases YX
    · obtain rfl := t2 rfl rfl
      clear t1 t2 t3
      cases XZ
      ·
        go_upto_region 8 with (first | (have _t := AX; (with_reducible refine Rt.load_at 33 (x := .tmp 9) ?_ ⟨g9, 0, none⟩ ?_ ?_ (AX.out.row.whole33 AX.out.size) ?_); (with_reducible exact rfl); (exact rfl); (exact rfl); clear _t) | (have _t := AY; (with_reducible refine Rt.load_at 33 (x := .tmp 10) ?_ ⟨g10, 0, none⟩ ?_ ?_ (AY.out.row.whole33 AY.out.size) ?_); (with_reducible exact rfl); (exact rfl); (exact rfl); clear _t) | (have _t := AZ; (with_reducible refine Rt.load_at 33 (x := .tmp 11) ?_ ⟨g11, 0, none⟩ ?_ ?_ (AZ.out.row.whole33 AZ.out.size) ?_); (with_reducible exact rfl); (exact rfl); (exact rfl); clear _t) | (go_at_call 20; (with_reducible refine (HXY.out _ _ _ AX.out.val.val AY.out.val.val (Utf8Tabs_below hT BQ.out)).mono ?_); rintro e w9 ⟨rfl, hb⟩; (replace AX := Lib.hid (AX.out.keep hb); replace AY := Lib.hid (AY.out.keep hb); replace AZ := Lib.hid (AZ.out.keep hb); replace BQ := Lib.hid (BQ.out.trans ((hb).mono BQ.out.size)); clear xco yco hb; have xco := AX.out.co; have yco := AY.out.co)) | (go_at_call 20; (with_reducible refine (HYZ.out _ _ _ AY.out.val.val AZ.out.val.val (Utf8Tabs_below hT BQ.out)).mono ?_); rintro e w9 ⟨rfl, hb⟩; (replace AX := Lib.hid (AX.out.keep hb); replace AY := Lib.hid (AY.out.keep hb); replace AZ := Lib.hid (AZ.out.keep hb); replace BQ := Lib.hid (BQ.out.trans ((hb).mono BQ.out.size)); clear xco yco hb; have xco := AX.out.co; have yco := AY.out.co)) | (go_at_call 20; (with_reducible refine (HXZ.out _ _ _ AX.out.val.val AZ.out.val.val (Utf8Tabs_below hT BQ.out)).mono ?_); rintro e w9 ⟨rfl, hb⟩; (replace AX := Lib.hid (AX.out.keep hb); replace AY := Lib.hid (AY.out.keep hb); replace AZ := Lib.hid (AZ.out.keep hb); replace BQ := Lib.hid (BQ.out.trans ((hb).mono BQ.out.size)); clear xco yco hb; have xco := AX.out.co; have yco := AY.out.co)) | (go_at_call 20; (with_reducible refine (HYX.out _ _ _ AY.out.val.val AX.out.val.val (Utf8Tabs_below hT BQ.out)).mono ?_); rintro e w9 ⟨rfl, hb⟩; (replace AX := Lib.hid (AX.out.keep hb); replace AY := Lib.hid (AY.out.keep hb); replace AZ := Lib.hid (AZ.out.keep hb); replace BQ := Lib.hid (BQ.out.trans ((hb).mono BQ.out.size)); clear xco yco hb; have xco := AX.out.co; have yco := AY.out.co)))
        have UP8 := fun u (hu : Below _ _ u) => BQ.out.trans (hu.mono BQ.out.size)
        refine Tp.region_ex (by kernel_rfl) 19 71 [[(9, none)], [(10, none)], [(41, some 0), (42, some 1)], [(43, some 2)], [(44, some 3)], [(10, none), (45, some 4)], [(9, none), (45, some 4)], [(46, some 5), (47, some 6), (45, some 4)], [(48, some 7), (45, some 4)], [(45, some 4), (49, some 8)], [(50, some 9)], [(9, none), (51, some 10)], [(11, none), (51, some 10)], [(52, some 11), (53, some 12), (51, some 10)], [(10, none), (51, some 10)], [(11, none), (51, some 10)], [(55, some 14), (56, some 15), (51, some 10)], [(54, some 13), (57, some 16), (51, some 10)], [(51, some 10), (58, some 17)]] (by kernel_rfl) rfl ?_
        apply Exists.intro [_, _, _, _, _, _, _, _, _, _, _, _, _, _, _, _, _, _, _]
        refine ⟨⟨?_, ?_, ?_, ?_, ?_, ?_, ?_, ?_, ?_, ?_, ?_, ?_, ?_, ?_, ?_, ?_, ?_, ?_, ?_, trivial⟩, ?_⟩
        · intro A u hC hG hF hu hR; clear hG
          refine Tp.facts_old (fun h9 => ?_) rfl; conv at h9 => rhs; whnf
          refine Tp.facts_nil ?_
          refine Tp.wants_plain rfl ?_
          refine Tp.load_var rfl h9 ((AX.out.keep hu).row.whole33 AX.out.size) ?_; exact rfl
        · intro A u hC hG hF hu hR; clear hG
          refine Tp.facts_old (fun h10 => ?_) rfl; conv at h10 => rhs; whnf
          refine Tp.facts_nil ?_
          refine Tp.wants_plain rfl ?_
          refine Tp.load_var rfl h10 ((AY.out.keep hu).row.whole33 AY.out.size) ?_; exact rfl
        · intro A u hC hG hF hu hR; clear hG
          first | refine Tp.facts_is rfl (fun h41 => ?_) | refine Tp.facts_ty rfl (fun v41 h41 k41 => ?_)
          first | refine Tp.facts_is rfl (fun h42 => ?_) | refine Tp.facts_ty rfl (fun v42 h42 k42 => ?_)
          refine Tp.facts_nil ?_
          refine Tp.wants_plain rfl ?_
          (apply Tp.gives_run; (simp [go_sem, hC, hF, hu, h41, h42]; exact rfl); (refine Tp.given_call ?_ (Rt.says_ret (HXY.out _ _ _ (AX.out.keep hu).val.val (AY.out.keep hu).val.val (Utf8Tabs_below hT (UP8 u hu)))); exact rfl))
        · intro A u hC hG hF hu hR; clear hG
          first | refine Tp.facts_is rfl (fun h43 => ?_) | refine Tp.facts_ty rfl (fun v43 h43 k43 => ?_)
          refine Tp.facts_nil ?_
          refine Tp.wants_plain rfl ?_
          (apply Tp.gives_run; (simp [go_sem, hC, hF, hu, h43]; exact rfl); (refine Tp.given_is ?_; exact rfl))
        · intro A u hC hG hF hu hR; clear hG
          first | refine Tp.facts_is rfl (fun h44 => ?_) | refine Tp.facts_ty rfl (fun v44 h44 k44 => ?_)
          refine Tp.facts_nil ?_
          refine Tp.wants_plain rfl ?_
          first | (apply Tp.gives_run; (simp [go_sem, hC, hF, hu, h44]; exact rfl); (refine Tp.given_is ?_; exact rfl)) | (apply Tp.gives_run; (simp [go_sem, hC, hF, h44]; exact rfl); (refine Tp.given_ty ?_ k44 (Below.refl _ _); exact rfl))
        · intro A u hC hG hF hu hR; clear hG
          refine Tp.facts_old (fun h10 => ?_) rfl; conv at h10 => rhs; whnf
          first | refine Tp.facts_is rfl (fun h45 => ?_) | refine Tp.facts_ty rfl (fun v45 h45 k45 => ?_)
          refine Tp.facts_nil ?_
          first
          | (refine Tp.wants_skip rfl rfl h45 ?_; exact Tp.skip_t rfl)
          | (refine Tp.wants_go rfl rfl h45 ?_; (refine Tp.load_var rfl h10 ((AY.out.keep hu).row.whole33 AY.out.size) ?_; exact rfl))
        · intro A u hC hG hF hu hR; clear hG
          refine Tp.facts_old (fun h9 => ?_) rfl; conv at h9 => rhs; whnf
          first | refine Tp.facts_is rfl (fun h45 => ?_) | refine Tp.facts_ty rfl (fun v45 h45 k45 => ?_)
          refine Tp.facts_nil ?_
          first
          | (refine Tp.wants_skip rfl rfl h45 ?_; exact Tp.skip_t rfl)
          | (refine Tp.wants_go rfl rfl h45 ?_; (refine Tp.load_var rfl h9 ((AX.out.keep hu).row.whole33 AX.out.size) ?_; exact rfl))
        · intro A u hC hG hF hu hR; clear hG
          first | refine Tp.facts_is rfl (fun h46 => ?_) | refine Tp.facts_ty rfl (fun v46 h46 k46 => ?_)
          first | refine Tp.facts_is rfl (fun h47 => ?_) | refine Tp.facts_ty rfl (fun v47 h47 k47 => ?_)
          first | refine Tp.facts_is rfl (fun h45 => ?_) | refine Tp.facts_ty rfl (fun v45 h45 k45 => ?_)
          refine Tp.facts_nil ?_
          first
          | (refine Tp.wants_skip rfl rfl h45 ?_; exact Tp.skip_t rfl)
          | (refine Tp.wants_go rfl rfl h45 ?_; ((apply Tp.gives_run; (simp [go_sem, hC, hF, hu, h46, h47, h45]; exact rfl); (refine Tp.given_call ?_ (Rt.says_ret (HYX.out _ _ _ (AY.out.keep hu).val.val (AX.out.keep hu).val.val (Utf8Tabs_below hT (UP8 u hu)))); exact rfl))))
        · intro A u hC hG hF hu hR; clear hG
          first | refine Tp.facts_is rfl (fun h48 => ?_) | refine Tp.facts_ty rfl (fun v48 h48 k48 => ?_)
          first | refine Tp.facts_is rfl (fun h45 => ?_) | refine Tp.facts_ty rfl (fun v45 h45 k45 => ?_)
          refine Tp.facts_nil ?_
          first
          | (refine Tp.wants_skip rfl rfl h45 ?_; exact Tp.skip_t rfl)
          | (refine Tp.wants_go rfl rfl h45 ?_; ((apply Tp.gives_run; (simp [go_sem, hC, hF, hu, h48, h45]; exact rfl); (refine Tp.given_is ?_; exact rfl))))
        · intro A u hC hG hF hu hR; clear hG
          first | refine Tp.facts_is rfl (fun h45 => ?_) | refine Tp.facts_ty rfl (fun v45 h45 k45 => ?_)
          first | refine Tp.facts_is rfl (fun h49 => ?_) | refine Tp.facts_ty rfl (fun v49 h49 k49 => ?_)
          refine Tp.facts_nil ?_
          refine Tp.wants_plain rfl ?_
          (apply Tp.gives_run; (simp [go_sem, hC, hF, hu, h45, h49]; exact rfl); (refine Tp.given_is ?_; exact rfl))
        · intro A u hC hG hF hu hR; clear hG
          first | refine Tp.facts_is rfl (fun h50 => ?_) | refine Tp.facts_ty rfl (fun v50 h50 k50 => ?_)
          refine Tp.facts_nil ?_
          refine Tp.wants_plain rfl ?_
          first | (apply Tp.gives_run; (simp [go_sem, hC, hF, hu, h50]; exact rfl); (refine Tp.given_is ?_; exact rfl)) | (apply Tp.gives_run; (simp [go_sem, hC, hF, h50]; exact rfl); (refine Tp.given_ty ?_ k50 (Below.refl _ _); exact rfl))
        · intro A u hC hG hF hu hR; clear hG
          refine Tp.facts_old (fun h9 => ?_) rfl; conv at h9 => rhs; whnf
          first | refine Tp.facts_is rfl (fun h51 => ?_) | refine Tp.facts_ty rfl (fun v51 h51 k51 => ?_)
          refine Tp.facts_nil ?_
          first
          | (refine Tp.wants_skip rfl rfl h51 ?_; exact Tp.skip_t rfl)
          | (refine Tp.wants_go rfl rfl h51 ?_; (refine Tp.load_var rfl h9 ((AX.out.keep hu).row.whole33 AX.out.size) ?_; exact rfl))
        · intro A u hC hG hF hu hR; clear hG
          refine Tp.facts_old (fun h11 => ?_) rfl; conv at h11 => rhs; whnf
          first | refine Tp.facts_is rfl (fun h51 => ?_) | refine Tp.facts_ty rfl (fun v51 h51 k51 => ?_)
          refine Tp.facts_nil ?_
          first
          | (refine Tp.wants_skip rfl rfl h51 ?_; exact Tp.skip_t rfl)
          | (refine Tp.wants_go rfl rfl h51 ?_; (refine Tp.load_var rfl h11 ((AZ.out.keep hu).row.whole33 AZ.out.size) ?_; exact rfl))
        · intro A u hC hG hF hu hR; clear hG
          first | refine Tp.facts_is rfl (fun h52 => ?_) | refine Tp.facts_ty rfl (fun v52 h52 k52 => ?_)
          first | refine Tp.facts_is rfl (fun h53 => ?_) | refine Tp.facts_ty rfl (fun v53 h53 k53 => ?_)
          first | refine Tp.facts_is rfl (fun h51 => ?_) | refine Tp.facts_ty rfl (fun v51 h51 k51 => ?_)
          refine Tp.facts_nil ?_
          first
          | (refine Tp.wants_skip rfl rfl h51 ?_; exact Tp.skip_t rfl)
          | (refine Tp.wants_go rfl rfl h51 ?_; ((apply Tp.gives_run; (simp [go_sem, hC, hF, hu, h52, h53, h51]; exact rfl); (refine Tp.given_call ?_ (Rt.says_ret (HXZ.out _ _ _ (AX.out.keep hu).val.val (AZ.out.keep hu).val.val (Utf8Tabs_below hT (UP8 u hu)))); exact rfl))))
        · intro A u hC hG hF hu hR; clear hG
          refine Tp.facts_old (fun h10 => ?_) rfl; conv at h10 => rhs; whnf
          first | refine Tp.facts_is rfl (fun h51 => ?_) | refine Tp.facts_ty rfl (fun v51 h51 k51 => ?_)
          refine Tp.facts_nil ?_
          first
          | (refine Tp.wants_skip rfl rfl h51 ?_; exact Tp.skip_t rfl)
          | (refine Tp.wants_go rfl rfl h51 ?_; (refine Tp.load_var rfl h10 ((AY.out.keep hu).row.whole33 AY.out.size) ?_; exact rfl))
        · intro A u hC hG hF hu hR; clear hG
          refine Tp.facts_old (fun h11 => ?_) rfl; conv at h11 => rhs; whnf
          first | refine Tp.facts_is rfl (fun h51 => ?_) | refine Tp.facts_ty rfl (fun v51 h51 k51 => ?_)
          refine Tp.facts_nil ?_
          first
          | (refine Tp.wants_skip rfl rfl h51 ?_; exact Tp.skip_t rfl)
          | (refine Tp.wants_go rfl rfl h51 ?_; (refine Tp.load_var rfl h11 ((AZ.out.keep hu).row.whole33 AZ.out.size) ?_; exact rfl))
        · intro A u hC hG hF hu hR; clear hG
          first | refine Tp.facts_is rfl (fun h55 => ?_) | refine Tp.facts_ty rfl (fun v55 h55 k55 => ?_)
          first | refine Tp.facts_is rfl (fun h56 => ?_) | refine Tp.facts_ty rfl (fun v56 h56 k56 => ?_)
          first | refine Tp.facts_is rfl (fun h51 => ?_) | refine Tp.facts_ty rfl (fun v51 h51 k51 => ?_)
          refine Tp.facts_nil ?_
          first
          | (refine Tp.wants_skip rfl rfl h51 ?_; exact Tp.skip_t rfl)
          | (refine Tp.wants_go rfl rfl h51 ?_; ((apply Tp.gives_run; (simp [go_sem, hC, hF, hu, h55, h56, h51]; exact rfl); (refine Tp.given_call ?_ (Rt.says_ret (HYZ.out _ _ _ (AY.out.keep hu).val.val (AZ.out.keep hu).val.val (Utf8Tabs_below hT (UP8 u hu)))); exact rfl))))
        · intro A u hC hG hF hu hR; clear hG
          first | refine Tp.facts_is rfl (fun h54 => ?_) | refine Tp.facts_ty rfl (fun v54 h54 k54 => ?_)
          first | refine Tp.facts_is rfl (fun h57 => ?_) | refine Tp.facts_ty rfl (fun v57 h57 k57 => ?_)
          first | refine Tp.facts_is rfl (fun h51 => ?_) | refine Tp.facts_ty rfl (fun v51 h51 k51 => ?_)
          refine Tp.facts_nil ?_
          first
          | (refine Tp.wants_skip rfl rfl h51 ?_; exact Tp.skip_t rfl)
          | (refine Tp.wants_go rfl rfl h51 ?_; ((apply Tp.gives_run; (simp [go_sem, hC, hF, hu, h54, h57, h51]; exact rfl); (refine Tp.given_is ?_; exact rfl))))
        · intro A u hC hG hF hu hR; clear hG
          first | refine Tp.facts_is rfl (fun h51 => ?_) | refine Tp.facts_ty rfl (fun v51 h51 k51 => ?_)
          first | refine Tp.facts_is rfl (fun h58 => ?_) | refine Tp.facts_ty rfl (fun v58 h58 k58 => ?_)
          refine Tp.facts_nil ?_
          refine Tp.wants_plain rfl ?_
          (apply Tp.gives_run; (simp [go_sem, hC, hF, hu, h51, h58]; exact rfl); (refine Tp.given_is ?_; exact rfl))
        intro wqz bqz
        first | refine Tp.fin_is rfl rfl rfl ?_ | refine Tp.fin_ty rfl rfl rfl (fun y41 q41 => ?_)
        first | refine Tp.fin_is rfl rfl rfl ?_ | refine Tp.fin_ty rfl rfl rfl (fun y42 q42 => ?_)
        first | refine Tp.fin_is rfl rfl rfl ?_ | refine Tp.fin_ty rfl rfl rfl (fun y43 q43 => ?_)
        first | refine Tp.fin_is rfl rfl rfl ?_ | refine Tp.fin_ty rfl rfl rfl (fun y44 q44 => ?_)
        first | refine Tp.fin_is rfl rfl rfl ?_ | refine Tp.fin_ty rfl rfl rfl (fun y45 q45 => ?_)
        first | refine Tp.fin_is rfl rfl rfl ?_ | refine Tp.fin_ty rfl rfl rfl (fun y46 q46 => ?_)
        first | refine Tp.fin_is rfl rfl rfl ?_ | refine Tp.fin_ty rfl rfl rfl (fun y47 q47 => ?_)
        first | refine Tp.fin_is rfl rfl rfl ?_ | refine Tp.fin_ty rfl rfl rfl (fun y48 q48 => ?_)
        first | refine Tp.fin_is rfl rfl rfl ?_ | refine Tp.fin_ty rfl rfl rfl (fun y49 q49 => ?_)
        first | refine Tp.fin_is rfl rfl rfl ?_ | refine Tp.fin_ty rfl rfl rfl (fun y50 q50 => ?_)
        first | refine Tp.fin_is rfl rfl rfl ?_ | refine Tp.fin_ty rfl rfl rfl (fun y51 q51 => ?_)
        first | refine Tp.fin_is rfl rfl rfl ?_ | refine Tp.fin_ty rfl rfl rfl (fun y52 q52 => ?_)
        first | refine Tp.fin_is rfl rfl rfl ?_ | refine Tp.fin_ty rfl rfl rfl (fun y53 q53 => ?_)
        first | refine Tp.fin_is rfl rfl rfl ?_ | refine Tp.fin_ty rfl rfl rfl (fun y54 q54 => ?_)
        first | refine Tp.fin_is rfl rfl rfl ?_ | refine Tp.fin_ty rfl rfl rfl (fun y55 q55 => ?_)
        first | refine Tp.fin_is rfl rfl rfl ?_ | refine Tp.fin_ty rfl rfl rfl (fun y56 q56 => ?_)
        first | refine Tp.fin_is rfl rfl rfl ?_ | refine Tp.fin_ty rfl rfl rfl (fun y57 q57 => ?_)
        first | refine Tp.fin_is rfl rfl rfl ?_ | refine Tp.fin_ty rfl rfl rfl (fun y58 q58 => ?_)
        first | refine Tp.fin_is rfl rfl rfl ?_ | refine Tp.fin_ty rfl rfl rfl (fun y59 q59 => ?_)
        refine Tp.fin_nil ?_
        simp only [Act.put, List.setIfInBounds_toArray, List.set_cons_succ, List.set_cons_zero, List.drop_succ_cons, List.drop_zero, List.drop_nil]
        replace AX := Lib.hid (AX.out.keep bqz)
        replace AY := Lib.hid (AY.out.keep bqz)
        replace AZ := Lib.hid (AZ.out.keep bqz)
        replace BQ := Lib.hid (UP8 _ bqz)
        clear UP8 bqz xco yco
        have xco := AX.out.co
        have yco := AY.out.co
        go_wp2_with (first | (have _t := AX; (with_reducible refine Rt.load_at 33 (x := .tmp 9) ?_ ⟨g9, 0, none⟩ ?_ ?_ (AX.out.row.whole33 AX.out.size) ?_); (with_reducible exact rfl); (exact rfl); (exact rfl); clear _t) | (have _t := AY; (with_reducible refine Rt.load_at 33 (x := .tmp 10) ?_ ⟨g10, 0, none⟩ ?_ ?_ (AY.out.row.whole33 AY.out.size) ?_); (with_reducible exact rfl); (exact rfl); (exact rfl); clear _t) | (go_at_call 20; (with_reducible refine (HXY.out _ _ _ AX.out.val.val AY.out.val.val (Utf8Tabs_below hT BQ.out)).mono ?_); rintro e w9 ⟨rfl, hb⟩; (replace AX := Lib.hid (AX.out.keep hb); replace AY := Lib.hid (AY.out.keep hb); replace AZ := Lib.hid (AZ.out.keep hb); replace BQ := Lib.hid (BQ.out.trans ((hb).mono BQ.out.size)); clear xco yco hb; have xco := AX.out.co; have yco := AY.out.co)))
        rw [← HQ.out]
        exact ⟨rfl, BQ.out⟩
      ·
        go_upto_region 8 with (first | (have _t := AX; (with_reducible refine Rt.load_at 33 (x := .tmp 9) ?_ ⟨g9, 0, none⟩ ?_ ?_ (AX.out.row.whole33 AX.out.size) ?_); (with_reducible exact rfl); (exact rfl); (exact rfl); clear _t) | (have _t := AY; (with_reducible refine Rt.load_at 33 (x := .tmp 10) ?_ ⟨g10, 0, none⟩ ?_ ?_ (AY.out.row.whole33 AY.out.size) ?_); (with_reducible exact rfl); (exact rfl); (exact rfl); clear _t) | (have _t := AZ; (with_reducible refine Rt.load_at 33 (x := .tmp 11) ?_ ⟨g11, 0, none⟩ ?_ ?_ (AZ.out.row.whole33 AZ.out.size) ?_); (with_reducible exact rfl); (exact rfl); (exact rfl); clear _t) | (go_at_call 20; (with_reducible refine (HXY.out _ _ _ AX.out.val.val AY.out.val.val (Utf8Tabs_below hT BQ.out)).mono ?_); rintro e w9 ⟨rfl, hb⟩; (replace AX := Lib.hid (AX.out.keep hb); replace AY := Lib.hid (AY.out.keep hb); replace AZ := Lib.hid (AZ.out.keep hb); replace BQ := Lib.hid (BQ.out.trans ((hb).mono BQ.out.size)); clear xco yco hb; have xco := AX.out.co; have yco := AY.out.co)) | (go_at_call 20; (with_reducible refine (HYZ.out _ _ _ AY.out.val.val AZ.out.val.val (Utf8Tabs_below hT BQ.out)).mono ?_); rintro e w9 ⟨rfl, hb⟩; (replace AX := Lib.hid (AX.out.keep hb); replace AY := Lib.hid (AY.out.keep hb); replace AZ := Lib.hid (AZ.out.keep hb); replace BQ := Lib.hid (BQ.out.trans ((hb).mono BQ.out.size)); clear xco yco hb; have xco := AX.out.co; have yco := AY.out.co)) | (go_at_call 20; (with_reducible refine (HXZ.out _ _ _ AX.out.val.val AZ.out.val.val (Utf8Tabs_below hT BQ.out)).mono ?_); rintro e w9 ⟨rfl, hb⟩; (replace AX := Lib.hid (AX.out.keep hb); replace AY := Lib.hid (AY.out.keep hb); replace AZ := Lib.hid (AZ.out.keep hb); replace BQ := Lib.hid (BQ.out.trans ((hb).mono BQ.out.size)); clear xco yco hb; have xco := AX.out.co; have yco := AY.out.co)) | (go_at_call 20; (with_reducible refine (HYX.out _ _ _ AY.out.val.val AX.out.val.val (Utf8Tabs_below hT BQ.out)).mono ?_); rintro e w9 ⟨rfl, hb⟩; (replace AX := Lib.hid (AX.out.keep hb); replace AY := Lib.hid (AY.out.keep hb); replace AZ := Lib.hid (AZ.out.keep hb); replace BQ := Lib.hid (BQ.out.trans ((hb).mono BQ.out.size)); clear xco yco hb; have xco := AX.out.co; have yco := AY.out.co)))
        have UP8 := fun u (hu : Below _ _ u) => BQ.out.trans (hu.mono BQ.out.size)
        refine Tp.region_ex (by kernel_rfl) 19 71 [[(9, none)], [(10, none)], [(41, some 0), (42, some 1)], [(43, some 2)], [(44, some 3)], [(10, none), (45, some 4)], [(9, none), (45, some 4)], [(46, some 5), (47, some 6), (45, some 4)], [(48, some 7), (45, some 4)], [(45, some 4), (49, some 8)], [(50, some 9)], [(9, none), (51, some 10)], [(11, none), (51, some 10)], [(52, some 11), (53, some 12), (51, some 10)], [(10, none), (51, some 10)], [(11, none), (51, some 10)], [(55, some 14), (56, some 15), (51, some 10)], [(54, some 13), (57, some 16), (51, some 10)], [(51, some 10), (58, some 17)]] (by kernel_rfl) rfl ?_
        apply Exists.intro [_, _, _, _, _, _, _, _, _, _, _, _, _, _, _, _, _, _, _]
        refine ⟨⟨?_, ?_, ?_, ?_, ?_, ?_, ?_, ?_, ?_, ?_, ?_, ?_, ?_, ?_, ?_, ?_, ?_, ?_, ?_, trivial⟩, ?_⟩
        · intro A u hC hG hF hu hR; clear hG
          refine Tp.facts_old (fun h9 => ?_) rfl; conv at h9 => rhs; whnf
          refine Tp.facts_nil ?_
          refine Tp.wants_plain rfl ?_
          refine Tp.load_var rfl h9 ((AX.out.keep hu).row.whole33 AX.out.size) ?_; exact rfl
        · intro A u hC hG hF hu hR; clear hG
          refine Tp.facts_old (fun h10 => ?_) rfl; conv at h10 => rhs; whnf
          refine Tp.facts_nil ?_
          refine Tp.wants_plain rfl ?_
          refine Tp.load_var rfl h10 ((AY.out.keep hu).row.whole33 AY.out.size) ?_; exact rfl
        · intro A u hC hG hF hu hR; clear hG
          first | refine Tp.facts_is rfl (fun h41 => ?_) | refine Tp.facts_ty rfl (fun v41 h41 k41 => ?_)
          first | refine Tp.facts_is rfl (fun h42 => ?_) | refine Tp.facts_ty rfl (fun v42 h42 k42 => ?_)
          refine Tp.facts_nil ?_
          refine Tp.wants_plain rfl ?_
          (apply Tp.gives_run; (simp [go_sem, hC, hF, hu, h41, h42]; exact rfl); (refine Tp.given_call ?_ (Rt.says_ret (HXY.out _ _ _ (AX.out.keep hu).val.val (AY.out.keep hu).val.val (Utf8Tabs_below hT (UP8 u hu)))); exact rfl))
        · intro A u hC hG hF hu hR; clear hG
          first | refine Tp.facts_is rfl (fun h43 => ?_) | refine Tp.facts_ty rfl (fun v43 h43 k43 => ?_)
          refine Tp.facts_nil ?_
          refine Tp.wants_plain rfl ?_
          (apply Tp.gives_run; (simp [go_sem, hC, hF, hu, h43]; exact rfl); (refine Tp.given_is ?_; exact rfl))
        · intro A u hC hG hF hu hR; clear hG
          first | refine Tp.facts_is rfl (fun h44 => ?_) | refine Tp.facts_ty rfl (fun v44 h44 k44 => ?_)
          refine Tp.facts_nil ?_
          refine Tp.wants_plain rfl ?_
          first | (apply Tp.gives_run; (simp [go_sem, hC, hF, hu, h44]; exact rfl); (refine Tp.given_is ?_; exact rfl)) | (apply Tp.gives_run; (simp [go_sem, hC, hF, h44]; exact rfl); (refine Tp.given_ty ?_ k44 (Below.refl _ _); exact rfl))
        · intro A u hC hG hF hu hR; clear hG
          refine Tp.facts_old (fun h10 => ?_) rfl; conv at h10 => rhs; whnf
          first | refine Tp.facts_is rfl (fun h45 => ?_) | refine Tp.facts_ty rfl (fun v45 h45 k45 => ?_)
          refine Tp.facts_nil ?_
          first
          | (refine Tp.wants_skip rfl rfl h45 ?_; exact Tp.skip_t rfl)
          | (refine Tp.wants_go rfl rfl h45 ?_; (refine Tp.load_var rfl h10 ((AY.out.keep hu).row.whole33 AY.out.size) ?_; exact rfl))
        · intro A u hC hG hF hu hR; clear hG
          refine Tp.facts_old (fun h9 => ?_) rfl; conv at h9 => rhs; whnf
          first | refine Tp.facts_is rfl (fun h45 => ?_) | refine Tp.facts_ty rfl (fun v45 h45 k45 => ?_)
          refine Tp.facts_nil ?_
          first
          | (refine Tp.wants_skip rfl rfl h45 ?_; exact Tp.skip_t rfl)
          | (refine Tp.wants_go rfl rfl h45 ?_; (refine Tp.load_var rfl h9 ((AX.out.keep hu).row.whole33 AX.out.size) ?_; exact rfl))
        · intro A u hC hG hF hu hR; clear hG
          first | refine Tp.facts_is rfl (fun h46 => ?_) | refine Tp.facts_ty rfl (fun v46 h46 k46 => ?_)
          first | refine Tp.facts_is rfl (fun h47 => ?_) | refine Tp.facts_ty rfl (fun v47 h47 k47 => ?_)
          first | refine Tp.facts_is rfl (fun h45 => ?_) | refine Tp.facts_ty rfl (fun v45 h45 k45 => ?_)
          refine Tp.facts_nil ?_
          first
          | (refine Tp.wants_skip rfl rfl h45 ?_; exact Tp.skip_t rfl)
          | (refine Tp.wants_go rfl rfl h45 ?_; ((apply Tp.gives_run; (simp [go_sem, hC, hF, hu, h46, h47, h45]; exact rfl); (refine Tp.given_call ?_ (Rt.says_ret (HYX.out _ _ _ (AY.out.keep hu).val.val (AX.out.keep hu).val.val (Utf8Tabs_below hT (UP8 u hu)))); exact rfl))))
        · intro A u hC hG hF hu hR; clear hG
          first | refine Tp.facts_is rfl (fun h48 => ?_) | refine Tp.facts_ty rfl (fun v48 h48 k48 => ?_)
          first | refine Tp.facts_is rfl (fun h45 => ?_) | refine Tp.facts_ty rfl (fun v45 h45 k45 => ?_)
          refine Tp.facts_nil ?_
          first
          | (refine Tp.wants_skip rfl rfl h45 ?_; exact Tp.skip_t rfl)
          | (refine Tp.wants_go rfl rfl h45 ?_; ((apply Tp.gives_run; (simp [go_sem, hC, hF, hu, h48, h45]; exact rfl); (refine Tp.given_is ?_; exact rfl))))
        · intro A u hC hG hF hu hR; clear hG
          first | refine Tp.facts_is rfl (fun h45 => ?_) | refine Tp.facts_ty rfl (fun v45 h45 k45 => ?_)
          first | refine Tp.facts_is rfl (fun h49 => ?_) | refine Tp.facts_ty rfl (fun v49 h49 k49 => ?_)
          refine Tp.facts_nil ?_
          refine Tp.wants_plain rfl ?_
          (apply Tp.gives_run; (simp [go_sem, hC, hF, hu, h45, h49]; exact rfl); (refine Tp.given_is ?_; exact rfl))
        · intro A u hC hG hF hu hR; clear hG
          first | refine Tp.facts_is rfl (fun h50 => ?_) | refine Tp.facts_ty rfl (fun v50 h50 k50 => ?_)
          refine Tp.facts_nil ?_
          refine Tp.wants_plain rfl ?_
          first | (apply Tp.gives_run; (simp [go_sem, hC, hF, hu, h50]; exact rfl); (refine Tp.given_is ?_; exact rfl)) | (apply Tp.gives_run; (simp [go_sem, hC, hF, h50]; exact rfl); (refine Tp.given_ty ?_ k50 (Below.refl _ _); exact rfl))
        · intro A u hC hG hF hu hR; clear hG
          refine Tp.facts_old (fun h9 => ?_) rfl; conv at h9 => rhs; whnf
          first | refine Tp.facts_is rfl (fun h51 => ?_) | refine Tp.facts_ty rfl (fun v51 h51 k51 => ?_)
          refine Tp.facts_nil ?_
          first
          | (refine Tp.wants_skip rfl rfl h51 ?_; exact Tp.skip_t rfl)
          | (refine Tp.wants_go rfl rfl h51 ?_; (refine Tp.load_var rfl h9 ((AX.out.keep hu).row.whole33 AX.out.size) ?_; exact rfl))
        · intro A u hC hG hF hu hR; clear hG
          refine Tp.facts_old (fun h11 => ?_) rfl; conv at h11 => rhs; whnf
          first | refine Tp.facts_is rfl (fun h51 => ?_) | refine Tp.facts_ty rfl (fun v51 h51 k51 => ?_)
          refine Tp.facts_nil ?_
          first
          | (refine Tp.wants_skip rfl rfl h51 ?_; exact Tp.skip_t rfl)
          | (refine Tp.wants_go rfl rfl h51 ?_; (refine Tp.load_var rfl h11 ((AZ.out.keep hu).row.whole33 AZ.out.size) ?_; exact rfl))
        · intro A u hC hG hF hu hR; clear hG
          first | refine Tp.facts_is rfl (fun h52 => ?_) | refine Tp.facts_ty rfl (fun v52 h52 k52 => ?_)
          first | refine Tp.facts_is rfl (fun h53 => ?_) | refine Tp.facts_ty rfl (fun v53 h53 k53 => ?_)
          first | refine Tp.facts_is rfl (fun h51 => ?_) | refine Tp.facts_ty rfl (fun v51 h51 k51 => ?_)
          refine Tp.facts_nil ?_
          first
          | (refine Tp.wants_skip rfl rfl h51 ?_; exact Tp.skip_t rfl)
          | (refine Tp.wants_go rfl rfl h51 ?_; ((apply Tp.gives_run; (simp [go_sem, hC, hF, hu, h52, h53, h51]; exact rfl); (refine Tp.given_call ?_ (Rt.says_ret (HXZ.out _ _ _ (AX.out.keep hu).val.val (AZ.out.keep hu).val.val (Utf8Tabs_below hT (UP8 u hu)))); exact rfl))))
        · intro A u hC hG hF hu hR; clear hG
          refine Tp.facts_old (fun h10 => ?_) rfl; conv at h10 => rhs; whnf
          first | refine Tp.facts_is rfl (fun h51 => ?_) | refine Tp.facts_ty rfl (fun v51 h51 k51 => ?_)
          refine Tp.facts_nil ?_
          first
          | (refine Tp.wants_skip rfl rfl h51 ?_; exact Tp.skip_t rfl)
          | (refine Tp.wants_go rfl rfl h51 ?_; (refine Tp.load_var rfl h10 ((AY.out.keep hu).row.whole33 AY.out.size) ?_; exact rfl))
        · intro A u hC hG hF hu hR; clear hG
          refine Tp.facts_old (fun h11 => ?_) rfl; conv at h11 => rhs; whnf
          first | refine Tp.facts_is rfl (fun h51 => ?_) | refine Tp.facts_ty rfl (fun v51 h51 k51 => ?_)
          refine Tp.facts_nil ?_
          first
          | (refine Tp.wants_skip rfl rfl h51 ?_; exact Tp.skip_t rfl)
          | (refine Tp.wants_go rfl rfl h51 ?_; (refine Tp.load_var rfl h11 ((AZ.out.keep hu).row.whole33 AZ.out.size) ?_; exact rfl))
        · intro A u hC hG hF hu hR; clear hG
          first | refine Tp.facts_is rfl (fun h55 => ?_) | refine Tp.facts_ty rfl (fun v55 h55 k55 => ?_)
          first | refine Tp.facts_is rfl (fun h56 => ?_) | refine Tp.facts_ty rfl (fun v56 h56 k56 => ?_)
          first | refine Tp.facts_is rfl (fun h51 => ?_) | refine Tp.facts_ty rfl (fun v51 h51 k51 => ?_)
          refine Tp.facts_nil ?_
          first
          | (refine Tp.wants_skip rfl rfl h51 ?_; exact Tp.skip_t rfl)
          | (refine Tp.wants_go rfl rfl h51 ?_; ((apply Tp.gives_run; (simp [go_sem, hC, hF, hu, h55, h56, h51]; exact rfl); (refine Tp.given_call ?_ (Rt.says_ret (HYZ.out _ _ _ (AY.out.keep hu).val.val (AZ.out.keep hu).val.val (Utf8Tabs_below hT (UP8 u hu)))); exact rfl))))
        · intro A u hC hG hF hu hR; clear hG
          first | refine Tp.facts_is rfl (fun h54 => ?_) | refine Tp.facts_ty rfl (fun v54 h54 k54 => ?_)
          first | refine Tp.facts_is rfl (fun h57 => ?_) | refine Tp.facts_ty rfl (fun v57 h57 k57 => ?_)
          first | refine Tp.facts_is rfl (fun h51 => ?_) | refine Tp.facts_ty rfl (fun v51 h51 k51 => ?_)
          refine Tp.facts_nil ?_
          first
          | (refine Tp.wants_skip rfl rfl h51 ?_; exact Tp.skip_t rfl)
          | (refine Tp.wants_go rfl rfl h51 ?_; ((apply Tp.gives_run; (simp [go_sem, hC, hF, hu, h54, h57, h51]; exact rfl); (refine Tp.given_is ?_; exact rfl))))
        · intro A u hC hG hF hu hR; clear hG
          first | refine Tp.facts_is rfl (fun h51 => ?_) | refine Tp.facts_ty rfl (fun v51 h51 k51 => ?_)
          first | refine Tp.facts_is rfl (fun h58 => ?_) | refine Tp.facts_ty rfl (fun v58 h58 k58 => ?_)
          refine Tp.facts_nil ?_
          refine Tp.wants_plain rfl ?_
          (apply Tp.gives_run; (simp [go_sem, hC, hF, hu, h51, h58]; exact rfl); (refine Tp.given_is ?_; exact rfl))
        intro wqz bqz
        first | refine Tp.fin_is rfl rfl rfl ?_ | refine Tp.fin_ty rfl rfl rfl (fun y41 q41 => ?_)
        first | refine Tp.fin_is rfl rfl rfl ?_ | refine Tp.fin_ty rfl rfl rfl (fun y42 q42 => ?_)
        first | refine Tp.fin_is rfl rfl rfl ?_ | refine Tp.fin_ty rfl rfl rfl (fun y43 q43 => ?_)
        first | refine Tp.fin_is rfl rfl rfl ?_ | refine Tp.fin_ty rfl rfl rfl (fun y44 q44 => ?_)
        first | refine Tp.fin_is rfl rfl rfl ?_ | refine Tp.fin_ty rfl rfl rfl (fun y45 q45 => ?_)
        first | refine Tp.fin_is rfl rfl rfl ?_ | refine Tp.fin_ty rfl rfl rfl (fun y46 q46 => ?_)
        first | refine Tp.fin_is rfl rfl rfl ?_ | refine Tp.fin_ty rfl rfl rfl (fun y47 q47 => ?_)
        first | refine Tp.fin_is rfl rfl rfl ?_ | refine Tp.fin_ty rfl rfl rfl (fun y48 q48 => ?_)
        first | refine Tp.fin_is rfl rfl rfl ?_ | refine Tp.fin_ty rfl rfl rfl (fun y49 q49 => ?_)
        first | refine Tp.fin_is rfl rfl rfl ?_ | refine Tp.fin_ty rfl rfl rfl (fun y50 q50 => ?_)
        first | refine Tp.fin_is rfl rfl rfl ?_ | refine Tp.fin_ty rfl rfl rfl (fun y51 q51 => ?_)
        first | refine Tp.fin_is rfl rfl rfl ?_ | refine Tp.fin_ty rfl rfl rfl (fun y52 q52 => ?_)
        first | refine Tp.fin_is rfl rfl rfl ?_ | refine Tp.fin_ty rfl rfl rfl (fun y53 q53 => ?_)
        first | refine Tp.fin_is rfl rfl rfl ?_ | refine Tp.fin_ty rfl rfl rfl (fun y54 q54 => ?_)
        first | refine Tp.fin_is rfl rfl rfl ?_ | refine Tp.fin_ty rfl rfl rfl (fun y55 q55 => ?_)
        first | refine Tp.fin_is rfl rfl rfl ?_ | refine Tp.fin_ty rfl rfl rfl (fun y56 q56 => ?_)
        first | refine Tp.fin_is rfl rfl rfl ?_ | refine Tp.fin_ty rfl rfl rfl (fun y57 q57 => ?_)
        first | refine Tp.fin_is rfl rfl rfl ?_ | refine Tp.fin_ty rfl rfl rfl (fun y58 q58 => ?_)
        first | refine Tp.fin_is rfl rfl rfl ?_ | refine Tp.fin_ty rfl rfl rfl (fun y59 q59 => ?_)
        refine Tp.fin_nil ?_
        simp only [Act.put, List.setIfInBounds_toArray, List.set_cons_succ, List.set_cons_zero, List.drop_succ_cons, List.drop_zero, List.drop_nil]
        replace AX := Lib.hid (AX.out.keep bqz)
        replace AY := Lib.hid (AY.out.keep bqz)
        replace AZ := Lib.hid (AZ.out.keep bqz)
        replace BQ := Lib.hid (UP8 _ bqz)
        clear UP8 bqz xco yco
        have xco := AX.out.co
        have yco := AY.out.co
        go_wp2_with (first | (have _t := AX; (with_reducible refine Rt.load_at 33 (x := .tmp 9) ?_ ⟨g9, 0, none⟩ ?_ ?_ (AX.out.row.whole33 AX.out.size) ?_); (with_reducible exact rfl); (exact rfl); (exact rfl); clear _t) | (have _t := AY; (with_reducible refine Rt.load_at 33 (x := .tmp 10) ?_ ⟨g10, 0, none⟩ ?_ ?_ (AY.out.row.whole33 AY.out.size) ?_); (with_reducible exact rfl); (exact rfl); (exact rfl); clear _t) | (go_at_call 20; (with_reducible refine (HXY.out _ _ _ AX.out.val.val AY.out.val.val (Utf8Tabs_below hT BQ.out)).mono ?_); rintro e w9 ⟨rfl, hb⟩; (replace AX := Lib.hid (AX.out.keep hb); replace AY := Lib.hid (AY.out.keep hb); replace AZ := Lib.hid (AZ.out.keep hb); replace BQ := Lib.hid (BQ.out.trans ((hb).mono BQ.out.size)); clear xco yco hb; have xco := AX.out.co; have yco := AY.out.co)))
        rw [← HQ.out]
        exact ⟨rfl, BQ.out⟩
    · clear t1 t2 t3
      go_upto_region 8 with (first | (have _t := AX; (with_reducible refine Rt.load_at 33 (x := .tmp 9) ?_ ⟨g9, 0, none⟩ ?_ ?_ (AX.out.row.whole33 AX.out.size) ?_); (with_reducible exact rfl); (exact rfl); (exact rfl); clear _t) | (have _t := AY; (with_reducible refine Rt.load_at 33 (x := .tmp 10) ?_ ⟨g10, 0, none⟩ ?_ ?_ (AY.out.row.whole33 AY.out.size) ?_); (with_reducible exact rfl); (exact rfl); (exact rfl); clear _t) | (have _t := AZ; (with_reducible refine Rt.load_at 33 (x := .tmp 11) ?_ ⟨g11, 0, none⟩ ?_ ?_ (AZ.out.row.whole33 AZ.out.size) ?_); (with_reducible exact rfl); (exact rfl); (exact rfl); clear _t) | (go_at_call 20; (with_reducible refine (HXY.out _ _ _ AX.out.val.val AY.out.val.val (Utf8Tabs_below hT BQ.out)).mono ?_); rintro e w9 ⟨rfl, hb⟩; (replace AX := Lib.hid (AX.out.keep hb); replace AY := Lib.hid (AY.out.keep hb); replace AZ := Lib.hid (AZ.out.keep hb); replace BQ := Lib.hid (BQ.out.trans ((hb).mono BQ.out.size)); clear xco yco hb; have xco := AX.out.co; have yco := AY.out.co)) | (go_at_call 20; (with_reducible refine (HYZ.out _ _ _ AY.out.val.val AZ.out.val.val (Utf8Tabs_below hT BQ.out)).mono ?_); rintro e w9 ⟨rfl, hb⟩; (replace AX := Lib.hid (AX.out.keep hb); replace AY := Lib.hid (AY.out.keep hb); replace AZ := Lib.hid (AZ.out.keep hb); replace BQ := Lib.hid (BQ.out.trans ((hb).mono BQ.out.size)); clear xco yco hb; have xco := AX.out.co; have yco := AY.out.co)) | (go_at_call 20; (with_reducible refine (HXZ.out _ _ _ AX.out.val.val AZ.out.val.val (Utf8Tabs_below hT BQ.out)).mono ?_); rintro e w9 ⟨rfl, hb⟩; (replace AX := Lib.hid (AX.out.keep hb); replace AY := Lib.hid (AY.out.keep hb); replace AZ := Lib.hid (AZ.out.keep hb); replace BQ := Lib.hid (BQ.out.trans ((hb).mono BQ.out.size)); clear xco yco hb; have xco := AX.out.co; have yco := AY.out.co)) | (go_at_call 20; (with_reducible refine (HYX.out _ _ _ AY.out.val.val AX.out.val.val (Utf8Tabs_below hT BQ.out)).mono ?_); rintro e w9 ⟨rfl, hb⟩; (replace AX := Lib.hid (AX.out.keep hb); replace AY := Lib.hid (AY.out.keep hb); replace AZ := Lib.hid (AZ.out.keep hb); replace BQ := Lib.hid (BQ.out.trans ((hb).mono BQ.out.size)); clear xco yco hb; have xco := AX.out.co; have yco := AY.out.co)))
      have UP8 := fun u (hu : Below _ _ u) => BQ.out.trans (hu.mono BQ.out.size)
      refine Tp.region_ex (by kernel_rfl) 19 71 [[(9, none)], [(10, none)], [(41, some 0), (42, some 1)], [(43, some 2)], [(44, some 3)], [(10, none), (45, some 4)], [(9, none), (45, some 4)], [(46, some 5), (47, some 6), (45, some 4)], [(48, some 7), (45, some 4)], [(45, some 4), (49, some 8)], [(50, some 9)], [(9, none), (51, some 10)], [(11, none), (51, some 10)], [(52, some 11), (53, some 12), (51, some 10)], [(10, none), (51, some 10)], [(11, none), (51, some 10)], [(55, some 14), (56, some 15), (51, some 10)], [(54, some 13), (57, some 16), (51, some 10)], [(51, some 10), (58, some 17)]] (by kernel_rfl) rfl ?_
      apply Exists.intro [_, _, _, _, _, _, _, _, _, _, _, _, _, _, _, _, _, _, _]
      refine ⟨⟨?_, ?_, ?_, ?_, ?_, ?_, ?_, ?_, ?_, ?_, ?_, ?_, ?_, ?_, ?_, ?_, ?_, ?_, ?_, trivial⟩, ?_⟩
      · intro A u hC hG hF hu hR; clear hG
        refine Tp.facts_old (fun h9 => ?_) rfl; conv at h9 => rhs; whnf
        refine Tp.facts_nil ?_
        refine Tp.wants_plain rfl ?_
        refine Tp.load_var rfl h9 ((AX.out.keep hu).row.whole33 AX.out.size) ?_; exact rfl
      · intro A u hC hG hF hu hR; clear hG
        refine Tp.facts_old (fun h10 => ?_) rfl; conv at h10 => rhs; whnf
        refine Tp.facts_nil ?_
        refine Tp.wants_plain rfl ?_
        refine Tp.load_var rfl h10 ((AY.out.keep hu).row.whole33 AY.out.size) ?_; exact rfl
      · intro A u hC hG hF hu hR; clear hG
        first | refine Tp.facts_is rfl (fun h41 => ?_) | refine Tp.facts_ty rfl (fun v41 h41 k41 => ?_)
        first | refine Tp.facts_is rfl (fun h42 => ?_) | refine Tp.facts_ty rfl (fun v42 h42 k42 => ?_)
        refine Tp.facts_nil ?_
        refine Tp.wants_plain rfl ?_
        (apply Tp.gives_run; (simp [go_sem, hC, hF, hu, h41, h42]; exact rfl); (refine Tp.given_call ?_ (Rt.says_ret (HXY.out _ _ _ (AX.out.keep hu).val.val (AY.out.keep hu).val.val (Utf8Tabs_below hT (UP8 u hu)))); exact rfl))
      · intro A u hC hG hF hu hR; clear hG
        first | refine Tp.facts_is rfl (fun h43 => ?_) | refine Tp.facts_ty rfl (fun v43 h43 k43 => ?_)
        refine Tp.facts_nil ?_
        refine Tp.wants_plain rfl ?_
        (apply Tp.gives_run; (simp [go_sem, hC, hF, hu, h43]; exact rfl); (refine Tp.given_is ?_; exact rfl))
      · intro A u hC hG hF hu hR; clear hG
        first | refine Tp.facts_is rfl (fun h44 => ?_) | refine Tp.facts_ty rfl (fun v44 h44 k44 => ?_)
        refine Tp.facts_nil ?_
        refine Tp.wants_plain rfl ?_
        first | (apply Tp.gives_run; (simp [go_sem, hC, hF, hu, h44]; exact rfl); (refine Tp.given_is ?_; exact rfl)) | (apply Tp.gives_run; (simp [go_sem, hC, hF, h44]; exact rfl); (refine Tp.given_ty ?_ k44 (Below.refl _ _); exact rfl))
      · intro A u hC hG hF hu hR; clear hG
        refine Tp.facts_old (fun h10 => ?_) rfl; conv at h10 => rhs; whnf
        first | refine Tp.facts_is rfl (fun h45 => ?_) | refine Tp.facts_ty rfl (fun v45 h45 k45 => ?_)
        refine Tp.facts_nil ?_
        first
        | (refine Tp.wants_skip rfl rfl h45 ?_; exact Tp.skip_t rfl)
        | (refine Tp.wants_go rfl rfl h45 ?_; (refine Tp.load_var rfl h10 ((AY.out.keep hu).row.whole33 AY.out.size) ?_; exact rfl))
      · intro A u hC hG hF hu hR; clear hG
        refine Tp.facts_old (fun h9 => ?_) rfl; conv at h9 => rhs; whnf
        first | refine Tp.facts_is rfl (fun h45 => ?_) | refine Tp.facts_ty rfl (fun v45 h45 k45 => ?_)
        refine Tp.facts_nil ?_
        first
        | (refine Tp.wants_skip rfl rfl h45 ?_; exact Tp.skip_t rfl)
        | (refine Tp.wants_go rfl rfl h45 ?_; (refine Tp.load_var rfl h9 ((AX.out.keep hu).row.whole33 AX.out.size) ?_; exact rfl))
      · intro A u hC hG hF hu hR; clear hG
        first | refine Tp.facts_is rfl (fun h46 => ?_) | refine Tp.facts_ty rfl (fun v46 h46 k46 => ?_)
        first | refine Tp.facts_is rfl (fun h47 => ?_) | refine Tp.facts_ty rfl (fun v47 h47 k47 => ?_)
        first | refine Tp.facts_is rfl (fun h45 => ?_) | refine Tp.facts_ty rfl (fun v45 h45 k45 => ?_)
        refine Tp.facts_nil ?_
        first
        | (refine Tp.wants_skip rfl rfl h45 ?_; exact Tp.skip_t rfl)
        | (refine Tp.wants_go rfl rfl h45 ?_; ((apply Tp.gives_run; (simp [go_sem, hC, hF, hu, h46, h47, h45]; exact rfl); (refine Tp.given_call ?_ (Rt.says_ret (HYX.out _ _ _ (AY.out.keep hu).val.val (AX.out.keep hu).val.val (Utf8Tabs_below hT (UP8 u hu)))); exact rfl))))
      · intro A u hC hG hF hu hR; clear hG
        first | refine Tp.facts_is rfl (fun h48 => ?_) | refine Tp.facts_ty rfl (fun v48 h48 k48 => ?_)
        first | refine Tp.facts_is rfl (fun h45 => ?_) | refine Tp.facts_ty rfl (fun v45 h45 k45 => ?_)
        refine Tp.facts_nil ?_
        first
        | (refine Tp.wants_skip rfl rfl h45 ?_; exact Tp.skip_t rfl)
        | (refine Tp.wants_go rfl rfl h45 ?_; ((apply Tp.gives_run; (simp [go_sem, hC, hF, hu, h48, h45]; exact rfl); (refine Tp.given_is ?_; exact rfl))))
      · intro A u hC hG hF hu hR; clear hG
        first | refine Tp.facts_is rfl (fun h45 => ?_) | refine Tp.facts_ty rfl (fun v45 h45 k45 => ?_)
        first | refine Tp.facts_is rfl (fun h49 => ?_) | refine Tp.facts_ty rfl (fun v49 h49 k49 => ?_)
        refine Tp.facts_nil ?_
        refine Tp.wants_plain rfl ?_
        (apply Tp.gives_run; (simp [go_sem, hC, hF, hu, h45, h49]; exact rfl); (refine Tp.given_is ?_; exact rfl))
      · intro A u hC hG hF hu hR; clear hG
        first | refine Tp.facts_is rfl (fun h50 => ?_) | refine Tp.facts_ty rfl (fun v50 h50 k50 => ?_)
        refine Tp.facts_nil ?_
        refine Tp.wants_plain rfl ?_
        first | (apply Tp.gives_run; (simp [go_sem, hC, hF, hu, h50]; exact rfl); (refine Tp.given_is ?_; exact rfl)) | (apply Tp.gives_run; (simp [go_sem, hC, hF, h50]; exact rfl); (refine Tp.given_ty ?_ k50 (Below.refl _ _); exact rfl))
      · intro A u hC hG hF hu hR; clear hG
        refine Tp.facts_old (fun h9 => ?_) rfl; conv at h9 => rhs; whnf
        first | refine Tp.facts_is rfl (fun h51 => ?_) | refine Tp.facts_ty rfl (fun v51 h51 k51 => ?_)
        refine Tp.facts_nil ?_
        first
        | (refine Tp.wants_skip rfl rfl h51 ?_; exact Tp.skip_t rfl)
        | (refine Tp.wants_go rfl rfl h51 ?_; (refine Tp.load_var rfl h9 ((AX.out.keep hu).row.whole33 AX.out.size) ?_; exact rfl))
      · intro A u hC hG hF hu hR; clear hG
        refine Tp.facts_old (fun h11 => ?_) rfl; conv at h11 => rhs; whnf
        first | refine Tp.facts_is rfl (fun h51 => ?_) | refine Tp.facts_ty rfl (fun v51 h51 k51 => ?_)
        refine Tp.facts_nil ?_
        first
        | (refine Tp.wants_skip rfl rfl h51 ?_; exact Tp.skip_t rfl)
        | (refine Tp.wants_go rfl rfl h51 ?_; (refine Tp.load_var rfl h11 ((AZ.out.keep hu).row.whole33 AZ.out.size) ?_; exact rfl))
      · intro A u hC hG hF hu hR; clear hG
        first | refine Tp.facts_is rfl (fun h52 => ?_) | refine Tp.facts_ty rfl (fun v52 h52 k52 => ?_)
        first | refine Tp.facts_is rfl (fun h53 => ?_) | refine Tp.facts_ty rfl (fun v53 h53 k53 => ?_)
        first | refine Tp.facts_is rfl (fun h51 => ?_) | refine Tp.facts_ty rfl (fun v51 h51 k51 => ?_)
        refine Tp.facts_nil ?_
        first
        | (refine Tp.wants_skip rfl rfl h51 ?_; exact Tp.skip_t rfl)
        | (refine Tp.wants_go rfl rfl h51 ?_; ((apply Tp.gives_run; (simp [go_sem, hC, hF, hu, h52, h53, h51]; exact rfl); (refine Tp.given_call ?_ (Rt.says_ret (HXZ.out _ _ _ (AX.out.keep hu).val.val (AZ.out.keep hu).val.val (Utf8Tabs_below hT (UP8 u hu)))); exact rfl))))
      · intro A u hC hG hF hu hR; clear hG
        refine Tp.facts_old (fun h10 => ?_) rfl; conv at h10 => rhs; whnf
        first | refine Tp.facts_is rfl (fun h51 => ?_) | refine Tp.facts_ty rfl (fun v51 h51 k51 => ?_)
        refine Tp.facts_nil ?_
        first
        | (refine Tp.wants_skip rfl rfl h51 ?_; exact Tp.skip_t rfl)
        | (refine Tp.wants_go rfl rfl h51 ?_; (refine Tp.load_var rfl h10 ((AY.out.keep hu).row.whole33 AY.out.size) ?_; exact rfl))
      · intro A u hC hG hF hu hR; clear hG
        refine Tp.facts_old (fun h11 => ?_) rfl; conv at h11 => rhs; whnf
        first | refine Tp.facts_is rfl (fun h51 => ?_) | refine Tp.facts_ty rfl (fun v51 h51 k51 => ?_)
        refine Tp.facts_nil ?_
        first
        | (refine Tp.wants_skip rfl rfl h51 ?_; exact Tp.skip_t rfl)
        | (refine Tp.wants_go rfl rfl h51 ?_; (refine Tp.load_var rfl h11 ((AZ.out.keep hu).row.whole33 AZ.out.size) ?_; exact rfl))
      · intro A u hC hG hF hu hR; clear hG
        first | refine Tp.facts_is rfl (fun h55 => ?_) | refine Tp.facts_ty rfl (fun v55 h55 k55 => ?_)
        first | refine Tp.facts_is rfl (fun h56 => ?_) | refine Tp.facts_ty rfl (fun v56 h56 k56 => ?_)
        first | refine Tp.facts_is rfl (fun h51 => ?_) | refine Tp.facts_ty rfl (fun v51 h51 k51 => ?_)
        refine Tp.facts_nil ?_
        first
        | (refine Tp.wants_skip rfl rfl h51 ?_; exact Tp.skip_t rfl)
        | (refine Tp.wants_go rfl rfl h51 ?_; ((apply Tp.gives_run; (simp [go_sem, hC, hF, hu, h55, h56, h51]; exact rfl); (refine Tp.given_call ?_ (Rt.says_ret (HYZ.out _ _ _ (AY.out.keep hu).val.val (AZ.out.keep hu).val.val (Utf8Tabs_below hT (UP8 u hu)))); exact rfl))))
      · intro A u hC hG hF hu hR; clear hG
        first | refine Tp.facts_is rfl (fun h54 => ?_) | refine Tp.facts_ty rfl (fun v54 h54 k54 => ?_)
        first | refine Tp.facts_is rfl (fun h57 => ?_) | refine Tp.facts_ty rfl (fun v57 h57 k57 => ?_)
        first | refine Tp.facts_is rfl (fun h51 => ?_) | refine Tp.facts_ty rfl (fun v51 h51 k51 => ?_)
        refine Tp.facts_nil ?_
        first
        | (refine Tp.wants_skip rfl rfl h51 ?_; exact Tp.skip_t rfl)
        | (refine Tp.wants_go rfl rfl h51 ?_; ((apply Tp.gives_run; (simp [go_sem, hC, hF, hu, h54, h57, h51]; exact rfl); (refine Tp.given_is ?_; exact rfl))))
      · intro A u hC hG hF hu hR; clear hG
        first | refine Tp.facts_is rfl (fun h51 => ?_) | refine Tp.facts_ty rfl (fun v51 h51 k51 => ?_)
        first | refine Tp.facts_is rfl (fun h58 => ?_) | refine Tp.facts_ty rfl (fun v58 h58 k58 => ?_)
        refine Tp.facts_nil ?_
        refine Tp.wants_plain rfl ?_
        (apply Tp.gives_run; (simp [go_sem, hC, hF, hu, h51, h58]; exact rfl); (refine Tp.given_is ?_; exact rfl))
      intro wqz bqz
      first | refine Tp.fin_is rfl rfl rfl ?_ | refine Tp.fin_ty rfl rfl rfl (fun y41 q41 => ?_)
      first | refine Tp.fin_is rfl rfl rfl ?_ | refine Tp.fin_ty rfl rfl rfl (fun y42 q42 => ?_)
      first | refine Tp.fin_is rfl rfl rfl ?_ | refine Tp.fin_ty rfl rfl rfl (fun y43 q43 => ?_)
      first | refine Tp.fin_is rfl rfl rfl ?_ | refine Tp.fin_ty rfl rfl rfl (fun y44 q44 => ?_)
      first | refine Tp.fin_is rfl rfl rfl ?_ | refine Tp.fin_ty rfl rfl rfl (fun y45 q45 => ?_)
      first | refine Tp.fin_is rfl rfl rfl ?_ | refine Tp.fin_ty rfl rfl rfl (fun y46 q46 => ?_)
      first | refine Tp.fin_is rfl rfl rfl ?_ | refine Tp.fin_ty rfl rfl rfl (fun y47 q47 => ?_)
      first | refine Tp.fin_is rfl rfl rfl ?_ | refine Tp.fin_ty rfl rfl rfl (fun y48 q48 => ?_)
      first | refine Tp.fin_is rfl rfl rfl ?_ | refine Tp.fin_ty rfl rfl rfl (fun y49 q49 => ?_)
      first | refine Tp.fin_is rfl rfl rfl ?_ | refine Tp.fin_ty rfl rfl rfl (fun y50 q50 => ?_)
      first | refine Tp.fin_is rfl rfl rfl ?_ | refine Tp.fin_ty rfl rfl rfl (fun y51 q51 => ?_)
      first | refine Tp.fin_is rfl rfl rfl ?_ | refine Tp.fin_ty rfl rfl rfl (fun y52 q52 => ?_)
      first | refine Tp.fin_is rfl rfl rfl ?_ | refine Tp.fin_ty rfl rfl rfl (fun y53 q53 => ?_)
      first | refine Tp.fin_is rfl rfl rfl ?_ | refine Tp.fin_ty rfl rfl rfl (fun y54 q54 => ?_)
      first | refine Tp.fin_is rfl rfl rfl ?_ | refine Tp.fin_ty rfl rfl rfl (fun y55 q55 => ?_)
      first | refine Tp.fin_is rfl rfl rfl ?_ | refine Tp.fin_ty rfl rfl rfl (fun y56 q56 => ?_)
      first | refine Tp.fin_is rfl rfl rfl ?_ | refine Tp.fin_ty rfl rfl rfl (fun y57 q57 => ?_)
      first | refine Tp.fin_is rfl rfl rfl ?_ | refine Tp.fin_ty rfl rfl rfl (fun y58 q58 => ?_)
      first | refine Tp.fin_is rfl rfl rfl ?_ | refine Tp.fin_ty rfl rfl rfl (fun y59 q59 => ?_)
      refine Tp.fin_nil ?_
      simp only [Act.put, List.setIfInBounds_toArray, List.set_cons_succ, List.set_cons_zero, List.drop_succ_cons, List.drop_zero, List.drop_nil]
      replace AX := Lib.hid (AX.out.keep bqz)
      replace AY := Lib.hid (AY.out.keep bqz)
      replace AZ := Lib.hid (AZ.out.keep bqz)
      replace BQ := Lib.hid (UP8 _ bqz)
      clear UP8 bqz xco yco
      have xco := AX.out.co
      have yco := AY.out.co
      go_wp2_with (first | (have _t := AX; (with_reducible refine Rt.load_at 33 (x := .tmp 9) ?_ ⟨g9, 0, none⟩ ?_ ?_ (AX.out.row.whole33 AX.out.size) ?_); (with_reducible exact rfl); (exact rfl); (exact rfl); clear _t) | (have _t := AY; (with_reducible refine Rt.load_at 33 (x := .tmp 10) ?_ ⟨g10, 0, none⟩ ?_ ?_ (AY.out.row.whole33 AY.out.size) ?_); (with_reducible exact rfl); (exact rfl); (exact rfl); clear _t) | (go_at_call 20; (with_reducible refine (HXY.out _ _ _ AX.out.val.val AY.out.val.val (Utf8Tabs_below hT BQ.out)).mono ?_); rintro e w9 ⟨rfl, hb⟩; (replace AX := Lib.hid (AX.out.keep hb); replace AY := Lib.hid (AY.out.keep hb); replace AZ := Lib.hid (AZ.out.keep hb); replace BQ := Lib.hid (BQ.out.trans ((hb).mono BQ.out.size)); clear xco yco hb; have xco := AX.out.co; have yco := AY.out.co)))
      rw [← HQ.out]
      exact ⟨rfl, BQ.out⟩
  · have hle := t3 rfl
    cases YZ
    · clear t1 t2 t3
      go_upto_region 8 with (first | (have _t := AX; (with_reducible refine Rt.load_at 33 (x := .tmp 9) ?_ ⟨g9, 0, none⟩ ?_ ?_ (AX.out.row.whole33 AX.out.size) ?_); (with_reducible exact rfl); (exact rfl); (exact rfl); clear _t) | (have _t := AY; (with_reducible refine Rt.load_at 33 (x := .tmp 10) ?_ ⟨g10, 0, none⟩ ?_ ?_ (AY.out.row.whole33 AY.out.size) ?_); (with_reducible exact rfl); (exact rfl); (exact rfl); clear _t) | (have _t := AZ; (with_reducible refine Rt.load_at 33 (x := .tmp 11) ?_ ⟨g11, 0, none⟩ ?_ ?_ (AZ.out.row.whole33 AZ.out.size) ?_); (with_reducible exact rfl); (exact rfl); (exact rfl); clear _t) | (go_at_call 20; (with_reducible refine (HXY.out _ _ _ AX.out.val.val AY.out.val.val (Utf8Tabs_below hT BQ.out)).mono ?_); rintro e w9 ⟨rfl, hb⟩; (replace AX := Lib.hid (AX.out.keep hb); replace AY := Lib.hid (AY.out.keep hb); replace AZ := Lib.hid (AZ.out.keep hb); replace BQ := Lib.hid (BQ.out.trans ((hb).mono BQ.out.size)); clear xco yco hb; have xco := AX.out.co; have yco := AY.out.co)) | (go_at_call 20; (with_reducible refine (HYZ.out _ _ _ AY.out.val.val AZ.out.val.val (Utf8Tabs_below hT BQ.out)).mono ?_); rintro e w9 ⟨rfl, hb⟩; (replace AX := Lib.hid (AX.out.keep hb); replace AY := Lib.hid (AY.out.keep hb); replace AZ := Lib.hid (AZ.out.keep hb); replace BQ := Lib.hid (BQ.out.trans ((hb).mono BQ.out.size)); clear xco yco hb; have xco := AX.out.co; have yco := AY.out.co)) | (go_at_call 20; (with_reducible refine (HXZ.out _ _ _ AX.out.val.val AZ.out.val.val (Utf8Tabs_below hT BQ.out)).mono ?_); rintro e w9 ⟨rfl, hb⟩; (replace AX := Lib.hid (AX.out.keep hb); replace AY := Lib.hid (AY.out.keep hb); replace AZ := Lib.hid (AZ.out.keep hb); replace BQ := Lib.hid (BQ.out.trans ((hb).mono BQ.out.size)); clear xco yco hb; have xco := AX.out.co; have yco := AY.out.co)) | (go_at_call 20; (with_reducible refine (HYX.out _ _ _ AY.out.val.val AX.out.val.val (Utf8Tabs_below hT BQ.out)).mono ?_); rintro e w9 ⟨rfl, hb⟩; (replace AX := Lib.hid (AX.out.keep hb); replace AY := Lib.hid (AY.out.keep hb); replace AZ := Lib.hid (AZ.out.keep hb); replace BQ := Lib.hid (BQ.out.trans ((hb).mono BQ.out.size)); clear xco yco hb; have xco := AX.out.co; have yco := AY.out.co)))
      have UP8 := fun u (hu : Below _ _ u) => BQ.out.trans (hu.mono BQ.out.size)
      refine Tp.region_ex (by kernel_rfl) 19 71 [[(9, none)], [(10, none)], [(41, some 0), (42, some 1)], [(43, some 2)], [(44, some 3)], [(10, none), (45, some 4)], [(9, none), (45, some 4)], [(46, some 5), (47, some 6), (45, some 4)], [(48, some 7), (45, some 4)], [(45, some 4), (49, some 8)], [(50, some 9)], [(9, none), (51, some 10)], [(11, none), (51, some 10)], [(52, some 11), (53, some 12), (51, some 10)], [(10, none), (51, some 10)], [(11, none), (51, some 10)], [(55, some 14), (56, some 15), (51, some 10)], [(54, some 13), (57, some 16), (51, some 10)], [(51, some 10), (58, some 17)]] (by kernel_rfl) rfl ?_
      apply Exists.intro [_, _, _, _, _, _, _, _, _, _, _, _, _, _, _, _, _, _, _]
      refine ⟨⟨?_, ?_, ?_, ?_, ?_, ?_, ?_, ?_, ?_, ?_, ?_, ?_, ?_, ?_, ?_, ?_, ?_, ?_, ?_, trivial⟩, ?_⟩
      · intro A u hC hG hF hu hR; clear hG
        refine Tp.facts_old (fun h9 => ?_) rfl; conv at h9 => rhs; whnf
        refine Tp.facts_nil ?_
        refine Tp.wants_plain rfl ?_
        refine Tp.load_var rfl h9 ((AX.out.keep hu).row.whole33 AX.out.size) ?_; exact rfl
      · intro A u hC hG hF hu hR; clear hG
        refine Tp.facts_old (fun h10 => ?_) rfl; conv at h10 => rhs; whnf
        refine Tp.facts_nil ?_
        refine Tp.wants_plain rfl ?_
        refine Tp.load_var rfl h10 ((AY.out.keep hu).row.whole33 AY.out.size) ?_; exact rfl
      · intro A u hC hG hF hu hR; clear hG
        first | refine Tp.facts_is rfl (fun h41 => ?_) | refine Tp.facts_ty rfl (fun v41 h41 k41 => ?_)
        first | refine Tp.facts_is rfl (fun h42 => ?_) | refine Tp.facts_ty rfl (fun v42 h42 k42 => ?_)
        refine Tp.facts_nil ?_
        refine Tp.wants_plain rfl ?_
        (apply Tp.gives_run; (simp [go_sem, hC, hF, hu, h41, h42]; exact rfl); (refine Tp.given_call ?_ (Rt.says_ret (HXY.out _ _ _ (AX.out.keep hu).val.val (AY.out.keep hu).val.val (Utf8Tabs_below hT (UP8 u hu)))); exact rfl))
      · intro A u hC hG hF hu hR; clear hG
        first | refine Tp.facts_is rfl (fun h43 => ?_) | refine Tp.facts_ty rfl (fun v43 h43 k43 => ?_)
        refine Tp.facts_nil ?_
        refine Tp.wants_plain rfl ?_
        (apply Tp.gives_run; (simp [go_sem, hC, hF, hu, h43]; exact rfl); (refine Tp.given_is ?_; exact rfl))
      · intro A u hC hG hF hu hR; clear hG
        first | refine Tp.facts_is rfl (fun h44 => ?_) | refine Tp.facts_ty rfl (fun v44 h44 k44 => ?_)
        refine Tp.facts_nil ?_
        refine Tp.wants_plain rfl ?_
        first | (apply Tp.gives_run; (simp [go_sem, hC, hF, hu, h44]; exact rfl); (refine Tp.given_is ?_; exact rfl)) | (apply Tp.gives_run; (simp [go_sem, hC, hF, h44]; exact rfl); (refine Tp.given_ty ?_ k44 (Below.refl _ _); exact rfl))
      · intro A u hC hG hF hu hR; clear hG
        refine Tp.facts_old (fun h10 => ?_) rfl; conv at h10 => rhs; whnf
        first | refine Tp.facts_is rfl (fun h45 => ?_) | refine Tp.facts_ty rfl (fun v45 h45 k45 => ?_)
        refine Tp.facts_nil ?_
        first
        | (refine Tp.wants_skip rfl rfl h45 ?_; exact Tp.skip_t rfl)
        | (refine Tp.wants_go rfl rfl h45 ?_; (refine Tp.load_var rfl h10 ((AY.out.keep hu).row.whole33 AY.out.size) ?_; exact rfl))
      · intro A u hC hG hF hu hR; clear hG
        refine Tp.facts_old (fun h9 => ?_) rfl; conv at h9 => rhs; whnf
        first | refine Tp.facts_is rfl (fun h45 => ?_) | refine Tp.facts_ty rfl (fun v45 h45 k45 => ?_)
        refine Tp.facts_nil ?_
        first
        | (refine Tp.wants_skip rfl rfl h45 ?_; exact Tp.skip_t rfl)
        | (refine Tp.wants_go rfl rfl h45 ?_; (refine Tp.load_var rfl h9 ((AX.out.keep hu).row.whole33 AX.out.size) ?_; exact rfl))
      · intro A u hC hG hF hu hR; clear hG
        first | refine Tp.facts_is rfl (fun h46 => ?_) | refine Tp.facts_ty rfl (fun v46 h46 k46 => ?_)
        first | refine Tp.facts_is rfl (fun h47 => ?_) | refine Tp.facts_ty rfl (fun v47 h47 k47 => ?_)
        first | refine Tp.facts_is rfl (fun h45 => ?_) | refine Tp.facts_ty rfl (fun v45 h45 k45 => ?_)
        refine Tp.facts_nil ?_
        first
        | (refine Tp.wants_skip rfl rfl h45 ?_; exact Tp.skip_t rfl)
        | (refine Tp.wants_go rfl rfl h45 ?_; ((apply Tp.gives_run; (simp [go_sem, hC, hF, hu, h46, h47, h45]; exact rfl); (refine Tp.given_call ?_ (Rt.says_ret (HYX.out _ _ _ (AY.out.keep hu).val.val (AX.out.keep hu).val.val (Utf8Tabs_below hT (UP8 u hu)))); exact rfl))))
      · intro A u hC hG hF hu hR; clear hG
        first | refine Tp.facts_is rfl (fun h48 => ?_) | refine Tp.facts_ty rfl (fun v48 h48 k48 => ?_)
        first | refine Tp.facts_is rfl (fun h45 => ?_) | refine Tp.facts_ty rfl (fun v45 h45 k45 => ?_)
        refine Tp.facts_nil ?_
        first
        | (refine Tp.wants_skip rfl rfl h45 ?_; exact Tp.skip_t rfl)
        | (refine Tp.wants_go rfl rfl h45 ?_; ((apply Tp.gives_run; (simp [go_sem, hC, hF, hu, h48, h45]; exact rfl); (refine Tp.given_is ?_; exact rfl))))
      · intro A u hC hG hF hu hR; clear hG
        first | refine Tp.facts_is rfl (fun h45 => ?_) | refine Tp.facts_ty rfl (fun v45 h45 k45 => ?_)
        first | refine Tp.facts_is rfl (fun h49 => ?_) | refine Tp.facts_ty rfl (fun v49 h49 k49 => ?_)
        refine Tp.facts_nil ?_
        refine Tp.wants_plain rfl ?_
        (apply Tp.gives_run; (simp [go_sem, hC, hF, hu, h45, h49]; exact rfl); (refine Tp.given_is ?_; exact rfl))
      · intro A u hC hG hF hu hR; clear hG
        first | refine Tp.facts_is rfl (fun h50 => ?_) | refine Tp.facts_ty rfl (fun v50 h50 k50 => ?_)
        refine Tp.facts_nil ?_
        refine Tp.wants_plain rfl ?_
        first | (apply Tp.gives_run; (simp [go_sem, hC, hF, hu, h50]; exact rfl); (refine Tp.given_is ?_; exact rfl)) | (apply Tp.gives_run; (simp [go_sem, hC, hF, h50]; exact rfl); (refine Tp.given_ty ?_ k50 (Below.refl _ _); exact rfl))
      · intro A u hC hG hF hu hR; clear hG
        refine Tp.facts_old (fun h9 => ?_) rfl; conv at h9 => rhs; whnf
        first | refine Tp.facts_is rfl (fun h51 => ?_) | refine Tp.facts_ty rfl (fun v51 h51 k51 => ?_)
        refine Tp.facts_nil ?_
        first
        | (refine Tp.wants_skip rfl rfl h51 ?_; exact Tp.skip_t rfl)
        | (refine Tp.wants_go rfl rfl h51 ?_; (refine Tp.load_var rfl h9 ((AX.out.keep hu).row.whole33 AX.out.size) ?_; exact rfl))
      · intro A u hC hG hF hu hR; clear hG
        refine Tp.facts_old (fun h11 => ?_) rfl; conv at h11 => rhs; whnf
        first | refine Tp.facts_is rfl (fun h51 => ?_) | refine Tp.facts_ty rfl (fun v51 h51 k51 => ?_)
        refine Tp.facts_nil ?_
        first
        | (refine Tp.wants_skip rfl rfl h51 ?_; exact Tp.skip_t rfl)
        | (refine Tp.wants_go rfl rfl h51 ?_; (refine Tp.load_var rfl h11 ((AZ.out.keep hu).row.whole33 AZ.out.size) ?_; exact rfl))
      · intro A u hC hG hF hu hR; clear hG
        first | refine Tp.facts_is rfl (fun h52 => ?_) | refine Tp.facts_ty rfl (fun v52 h52 k52 => ?_)
        first | refine Tp.facts_is rfl (fun h53 => ?_) | refine Tp.facts_ty rfl (fun v53 h53 k53 => ?_)
        first | refine Tp.facts_is rfl (fun h51 => ?_) | refine Tp.facts_ty rfl (fun v51 h51 k51 => ?_)
        refine Tp.facts_nil ?_
        first
        | (refine Tp.wants_skip rfl rfl h51 ?_; exact Tp.skip_t rfl)
        | (refine Tp.wants_go rfl rfl h51 ?_; ((apply Tp.gives_run; (simp [go_sem, hC, hF, hu, h52, h53, h51]; exact rfl); (refine Tp.given_call ?_ (Rt.says_ret (HXZ.out _ _ _ (AX.out.keep hu).val.val (AZ.out.keep hu).val.val (Utf8Tabs_below hT (UP8 u hu)))); exact rfl))))
      · intro A u hC hG hF hu hR; clear hG
        refine Tp.facts_old (fun h10 => ?_) rfl; conv at h10 => rhs; whnf
        first | refine Tp.facts_is rfl (fun h51 => ?_) | refine Tp.facts_ty rfl (fun v51 h51 k51 => ?_)
        refine Tp.facts_nil ?_
        first
        | (refine Tp.wants_skip rfl rfl h51 ?_; exact Tp.skip_t rfl)
        | (refine Tp.wants_go rfl rfl h51 ?_; (refine Tp.load_var rfl h10 ((AY.out.keep hu).row.whole33 AY.out.size) ?_; exact rfl))
      · intro A u hC hG hF hu hR; clear hG
        refine Tp.facts_old (fun h11 => ?_) rfl; conv at h11 => rhs; whnf
        first | refine Tp.facts_is rfl (fun h51 => ?_) | refine Tp.facts_ty rfl (fun v51 h51 k51 => ?_)
        refine Tp.facts_nil ?_
        first
        | (refine Tp.wants_skip rfl rfl h51 ?_; exact Tp.skip_t rfl)
        | (refine Tp.wants_go rfl rfl h51 ?_; (refine Tp.load_var rfl h11 ((AZ.out.keep hu).row.whole33 AZ.out.size) ?_; exact rfl))
      · intro A u hC hG hF hu hR; clear hG
        first | refine Tp.facts_is rfl (fun h55 => ?_) | refine Tp.facts_ty rfl (fun v55 h55 k55 => ?_)
        first | refine Tp.facts_is rfl (fun h56 => ?_) | refine Tp.facts_ty rfl (fun v56 h56 k56 => ?_)
        first | refine Tp.facts_is rfl (fun h51 => ?_) | refine Tp.facts_ty rfl (fun v51 h51 k51 => ?_)
        refine Tp.facts_nil ?_
        first
        | (refine Tp.wants_skip rfl rfl h51 ?_; exact Tp.skip_t rfl)
        | (refine Tp.wants_go rfl rfl h51 ?_; ((apply Tp.gives_run; (simp [go_sem, hC, hF, hu, h55, h56, h51]; exact rfl); (refine Tp.given_call ?_ (Rt.says_ret (HYZ.out _ _ _ (AY.out.keep hu).val.val (AZ.out.keep hu).val.val (Utf8Tabs_below hT (UP8 u hu)))); exact rfl))))
      · intro A u hC hG hF hu hR; clear hG
        first | refine Tp.facts_is rfl (fun h54 => ?_) | refine Tp.facts_ty rfl (fun v54 h54 k54 => ?_)
        first | refine Tp.facts_is rfl (fun h57 => ?_) | refine Tp.facts_ty rfl (fun v57 h57 k57 => ?_)
        first | refine Tp.facts_is rfl (fun h51 => ?_) | refine Tp.facts_ty rfl (fun v51 h51 k51 => ?_)
        refine Tp.facts_nil ?_
        first
        | (refine Tp.wants_skip rfl rfl h51 ?_; exact Tp.skip_t rfl)
        | (refine Tp.wants_go rfl rfl h51 ?_; ((apply Tp.gives_run; (simp [go_sem, hC, hF, hu, h54, h57, h51]; exact rfl); (refine Tp.given_is ?_; exact rfl))))
      · intro A u hC hG hF hu hR; clear hG
        first | refine Tp.facts_is rfl (fun h51 => ?_) | refine Tp.facts_ty rfl (fun v51 h51 k51 => ?_)
        first | refine Tp.facts_is rfl (fun h58 => ?_) | refine Tp.facts_ty rfl (fun v58 h58 k58 => ?_)
        refine Tp.facts_nil ?_
        refine Tp.wants_plain rfl ?_
        (apply Tp.gives_run; (simp [go_sem, hC, hF, hu, h51, h58]; exact rfl); (refine Tp.given_is ?_; exact rfl))
      intro wqz bqz
      first | refine Tp.fin_is rfl rfl rfl ?_ | refine Tp.fin_ty rfl rfl rfl (fun y41 q41 => ?_)
      first | refine Tp.fin_is rfl rfl rfl ?_ | refine Tp.fin_ty rfl rfl rfl (fun y42 q42 => ?_)
      first | refine Tp.fin_is rfl rfl rfl ?_ | refine Tp.fin_ty rfl rfl rfl (fun y43 q43 => ?_)
      first | refine Tp.fin_is rfl rfl rfl ?_ | refine Tp.fin_ty rfl rfl rfl (fun y44 q44 => ?_)
      first | refine Tp.fin_is rfl rfl rfl ?_ | refine Tp.fin_ty rfl rfl rfl (fun y45 q45 => ?_)
      first | refine Tp.fin_is rfl rfl rfl ?_ | refine Tp.fin_ty rfl rfl rfl (fun y46 q46 => ?_)
      first | refine Tp.fin_is rfl rfl rfl ?_ | refine Tp.fin_ty rfl rfl rfl (fun y47 q47 => ?_)
      first | refine Tp.fin_is rfl rfl rfl ?_ | refine Tp.fin_ty rfl rfl rfl (fun y48 q48 => ?_)
      first | refine Tp.fin_is rfl rfl rfl ?_ | refine Tp.fin_ty rfl rfl rfl (fun y49 q49 => ?_)
      first | refine Tp.fin_is rfl rfl rfl ?_ | refine Tp.fin_ty rfl rfl rfl (fun y50 q50 => ?_)
      first | refine Tp.fin_is rfl rfl rfl ?_ | refine Tp.fin_ty rfl rfl rfl (fun y51 q51 => ?_)
      first | refine Tp.fin_is rfl rfl rfl ?_ | refine Tp.fin_ty rfl rfl rfl (fun y52 q52 => ?_)
      first | refine Tp.fin_is rfl rfl rfl ?_ | refine Tp.fin_ty rfl rfl rfl (fun y53 q53 => ?_)
      first | refine Tp.fin_is rfl rfl rfl ?_ | refine Tp.fin_ty rfl rfl rfl (fun y54 q54 => ?_)
      first | refine Tp.fin_is rfl rfl rfl ?_ | refine Tp.fin_ty rfl rfl rfl (fun y55 q55 => ?_)
      first | refine Tp.fin_is rfl rfl rfl ?_ | refine Tp.fin_ty rfl rfl rfl (fun y56 q56 => ?_)
      first | refine Tp.fin_is rfl rfl rfl ?_ | refine Tp.fin_ty rfl rfl rfl (fun y57 q57 => ?_)
      first | refine Tp.fin_is rfl rfl rfl ?_ | refine Tp.fin_ty rfl rfl rfl (fun y58 q58 => ?_)
      first | refine Tp.fin_is rfl rfl rfl ?_ | refine Tp.fin_ty rfl rfl rfl (fun y59 q59 => ?_)
      refine Tp.fin_nil ?_
      simp only [Act.put, List.setIfInBounds_toArray, List.set_cons_succ, List.set_cons_zero, List.drop_succ_cons, List.drop_zero, List.drop_nil]
      replace AX := Lib.hid (AX.out.keep bqz)
      replace AY := Lib.hid (AY.out.keep bqz)
      replace AZ := Lib.hid (AZ.out.keep bqz)
      replace BQ := Lib.hid (UP8 _ bqz)
      clear UP8 bqz xco yco
      have xco := AX.out.co
      have yco := AY.out.co
      go_wp2_with (first | (have _t := AX; (with_reducible refine Rt.load_at 33 (x := .tmp 9) ?_ ⟨g9, 0, none⟩ ?_ ?_ (AX.out.row.whole33 AX.out.size) ?_); (with_reducible exact rfl); (exact rfl); (exact rfl); clear _t) | (have _t := AY; (with_reducible refine Rt.load_at 33 (x := .tmp 10) ?_ ⟨g10, 0, none⟩ ?_ ?_ (AY.out.row.whole33 AY.out.size) ?_); (with_reducible exact rfl); (exact rfl); (exact rfl); clear _t) | (go_at_call 20; (with_reducible refine (HXY.out _ _ _ AX.out.val.val AY.out.val.val (Utf8Tabs_below hT BQ.out)).mono ?_); rintro e w9 ⟨rfl, hb⟩; (replace AX := Lib.hid (AX.out.keep hb); replace AY := Lib.hid (AY.out.keep hb); replace AZ := Lib.hid (AZ.out.keep hb); replace BQ := Lib.hid (BQ.out.trans ((hb).mono BQ.out.size)); clear xco yco hb; have xco := AX.out.co; have yco := AY.out.co)))
      rw [← HQ.out]
      exact ⟨rfl, BQ.out⟩
    · obtain rfl := t1 rfl rfl
      clear t1 t2 t3
      go_upto_region 8 with (first | (have _t := AX; (with_reducible refine Rt.load_at 33 (x := .tmp 9) ?_ ⟨g9, 0, none⟩ ?_ ?_ (AX.out.row.whole33 AX.out.size) ?_); (with_reducible exact rfl); (exact rfl); (exact rfl); clear _t) | (have _t := AY; (with_reducible refine Rt.load_at 33 (x := .tmp 10) ?_ ⟨g10, 0, none⟩ ?_ ?_ (AY.out.row.whole33 AY.out.size) ?_); (with_reducible exact rfl); (exact rfl); (exact rfl); clear _t) | (have _t := AZ; (with_reducible refine Rt.load_at 33 (x := .tmp 11) ?_ ⟨g11, 0, none⟩ ?_ ?_ (AZ.out.row.whole33 AZ.out.size) ?_); (with_reducible exact rfl); (exact rfl); (exact rfl); clear _t) | (go_at_call 20; (with_reducible refine (HXY.out _ _ _ AX.out.val.val AY.out.val.val (Utf8Tabs_below hT BQ.out)).mono ?_); rintro e w9 ⟨rfl, hb⟩; (replace AX := Lib.hid (AX.out.keep hb); replace AY := Lib.hid (AY.out.keep hb); replace AZ := Lib.hid (AZ.out.keep hb); replace BQ := Lib.hid (BQ.out.trans ((hb).mono BQ.out.size)); clear xco yco hb; have xco := AX.out.co; have yco := AY.out.co)) | (go_at_call 20; (with_reducible refine (HYZ.out _ _ _ AY.out.val.val AZ.out.val.val (Utf8Tabs_below hT BQ.out)).mono ?_); rintro e w9 ⟨rfl, hb⟩; (replace AX := Lib.hid (AX.out.keep hb); replace AY := Lib.hid (AY.out.keep hb); replace AZ := Lib.hid (AZ.out.keep hb); replace BQ := Lib.hid (BQ.out.trans ((hb).mono BQ.out.size)); clear xco yco hb; have xco := AX.out.co; have yco := AY.out.co)) | (go_at_call 20; (with_reducible refine (HXZ.out _ _ _ AX.out.val.val AZ.out.val.val (Utf8Tabs_below hT BQ.out)).mono ?_); rintro e w9 ⟨rfl, hb⟩; (replace AX := Lib.hid (AX.out.keep hb); replace AY := Lib.hid (AY.out.keep hb); replace AZ := Lib.hid (AZ.out.keep hb); replace BQ := Lib.hid (BQ.out.trans ((hb).mono BQ.out.size)); clear xco yco hb; have xco := AX.out.co; have yco := AY.out.co)) | (go_at_call 20; (with_reducible refine (HYX.out _ _ _ AY.out.val.val AX.out.val.val (Utf8Tabs_below hT BQ.out)).mono ?_); rintro e w9 ⟨rfl, hb⟩; (replace AX := Lib.hid (AX.out.keep hb); replace AY := Lib.hid (AY.out.keep hb); replace AZ := Lib.hid (AZ.out.keep hb); replace BQ := Lib.hid (BQ.out.trans ((hb).mono BQ.out.size)); clear xco yco hb; have xco := AX.out.co; have yco := AY.out.co)))
      have UP8 := fun u (hu : Below _ _ u) => BQ.out.trans (hu.mono BQ.out.size)
      refine Tp.region_ex (by kernel_rfl) 19 71 [[(9, none)], [(10, none)], [(41, some 0), (42, some 1)], [(43, some 2)], [(44, some 3)], [(10, none), (45, some 4)], [(9, none), (45, some 4)], [(46, some 5), (47, some 6), (45, some 4)], [(48, some 7), (45, some 4)], [(45, some 4), (49, some 8)], [(50, some 9)], [(9, none), (51, some 10)], [(11, none), (51, some 10)], [(52, some 11), (53, some 12), (51, some 10)], [(10, none), (51, some 10)], [(11, none), (51, some 10)], [(55, some 14), (56, some 15), (51, some 10)], [(54, some 13), (57, some 16), (51, some 10)], [(51, some 10), (58, some 17)]] (by kernel_rfl) rfl ?_
      apply Exists.intro [_, _, _, _, _, _, _, _, _, _, _, _, _, _, _, _, _, _, _]
      refine ⟨⟨?_, ?_, ?_, ?_, ?_, ?_, ?_, ?_, ?_, ?_, ?_, ?_, ?_, ?_, ?_, ?_, ?_, ?_, ?_, trivial⟩, ?_⟩
      · intro A u hC hG hF hu hR; clear hG
        refine Tp.facts_old (fun h9 => ?_) rfl; conv at h9 => rhs; whnf
        refine Tp.facts_nil ?_
        refine Tp.wants_plain rfl ?_
        refine Tp.load_var rfl h9 ((AX.out.keep hu).row.whole33 AX.out.size) ?_; exact rfl
      · intro A u hC hG hF hu hR; clear hG
        refine Tp.facts_old (fun h10 => ?_) rfl; conv at h10 => rhs; whnf
        refine Tp.facts_nil ?_
        refine Tp.wants_plain rfl ?_
        refine Tp.load_var rfl h10 ((AY.out.keep hu).row.whole33 AY.out.size) ?_; exact rfl
      · intro A u hC hG hF hu hR; clear hG
        first | refine Tp.facts_is rfl (fun h41 => ?_) | refine Tp.facts_ty rfl (fun v41 h41 k41 => ?_)
        first | refine Tp.facts_is rfl (fun h42 => ?_) | refine Tp.facts_ty rfl (fun v42 h42 k42 => ?_)
        refine Tp.facts_nil ?_
        refine Tp.wants_plain rfl ?_
        (apply Tp.gives_run; (simp [go_sem, hC, hF, hu, h41, h42]; exact rfl); (refine Tp.given_call ?_ (Rt.says_ret (HXY.out _ _ _ (AX.out.keep hu).val.val (AY.out.keep hu).val.val (Utf8Tabs_below hT (UP8 u hu)))); exact rfl))
      · intro A u hC hG hF hu hR; clear hG
        first | refine Tp.facts_is rfl (fun h43 => ?_) | refine Tp.facts_ty rfl (fun v43 h43 k43 => ?_)
        refine Tp.facts_nil ?_
        refine Tp.wants_plain rfl ?_
        (apply Tp.gives_run; (simp [go_sem, hC, hF, hu, h43]; exact rfl); (refine Tp.given_is ?_; exact rfl))
      · intro A u hC hG hF hu hR; clear hG
        first | refine Tp.facts_is rfl (fun h44 => ?_) | refine Tp.facts_ty rfl (fun v44 h44 k44 => ?_)
        refine Tp.facts_nil ?_
        refine Tp.wants_plain rfl ?_
        first | (apply Tp.gives_run; (simp [go_sem, hC, hF, hu, h44]; exact rfl); (refine Tp.given_is ?_; exact rfl)) | (apply Tp.gives_run; (simp [go_sem, hC, hF, h44]; exact rfl); (refine Tp.given_ty ?_ k44 (Below.refl _ _); exact rfl))
      · intro A u hC hG hF hu hR; clear hG
        refine Tp.facts_old (fun h10 => ?_) rfl; conv at h10 => rhs; whnf
        first | refine Tp.facts_is rfl (fun h45 => ?_) | refine Tp.facts_ty rfl (fun v45 h45 k45 => ?_)
        refine Tp.facts_nil ?_
        first
        | (refine Tp.wants_skip rfl rfl h45 ?_; exact Tp.skip_t rfl)
        | (refine Tp.wants_go rfl rfl h45 ?_; (refine Tp.load_var rfl h10 ((AY.out.keep hu).row.whole33 AY.out.size) ?_; exact rfl))
      · intro A u hC hG hF hu hR; clear hG
        refine Tp.facts_old (fun h9 => ?_) rfl; conv at h9 => rhs; whnf
        first | refine Tp.facts_is rfl (fun h45 => ?_) | refine Tp.facts_ty rfl (fun v45 h45 k45 => ?_)
        refine Tp.facts_nil ?_
        first
        | (refine Tp.wants_skip rfl rfl h45 ?_; exact Tp.skip_t rfl)
        | (refine Tp.wants_go rfl rfl h45 ?_; (refine Tp.load_var rfl h9 ((AX.out.keep hu).row.whole33 AX.out.size) ?_; exact rfl))
      · intro A u hC hG hF hu hR; clear hG
        first | refine Tp.facts_is rfl (fun h46 => ?_) | refine Tp.facts_ty rfl (fun v46 h46 k46 => ?_)
        first | refine Tp.facts_is rfl (fun h47 => ?_) | refine Tp.facts_ty rfl (fun v47 h47 k47 => ?_)
        first | refine Tp.facts_is rfl (fun h45 => ?_) | refine Tp.facts_ty rfl (fun v45 h45 k45 => ?_)
        refine Tp.facts_nil ?_
        first
        | (refine Tp.wants_skip rfl rfl h45 ?_; exact Tp.skip_t rfl)
        | (refine Tp.wants_go rfl rfl h45 ?_; ((apply Tp.gives_run; (simp [go_sem, hC, hF, hu, h46, h47, h45]; exact rfl); (refine Tp.given_call ?_ (Rt.says_ret (HYX.out _ _ _ (AY.out.keep hu).val.val (AX.out.keep hu).val.val (Utf8Tabs_below hT (UP8 u hu)))); exact rfl))))
      · intro A u hC hG hF hu hR; clear hG
        first | refine Tp.facts_is rfl (fun h48 => ?_) | refine Tp.facts_ty rfl (fun v48 h48 k48 => ?_)
        first | refine Tp.facts_is rfl (fun h45 => ?_) | refine Tp.facts_ty rfl (fun v45 h45 k45 => ?_)
        refine Tp.facts_nil ?_
        first
        | (refine Tp.wants_skip rfl rfl h45 ?_; exact Tp.skip_t rfl)
        | (refine Tp.wants_go rfl rfl h45 ?_; ((apply Tp.gives_run; (simp [go_sem, hC, hF, hu, h48, h45]; exact rfl); (refine Tp.given_is ?_; exact rfl))))
      · intro A u hC hG hF hu hR; clear hG
        first | refine Tp.facts_is rfl (fun h45 => ?_) | refine Tp.facts_ty rfl (fun v45 h45 k45 => ?_)
        first | refine Tp.facts_is rfl (fun h49 => ?_) | refine Tp.facts_ty rfl (fun v49 h49 k49 => ?_)
        refine Tp.facts_nil ?_
        refine Tp.wants_plain rfl ?_
        (apply Tp.gives_run; (simp [go_sem, hC, hF, hu, h45, h49]; exact rfl); (refine Tp.given_is ?_; exact rfl))
      · intro A u hC hG hF hu hR; clear hG
        first | refine Tp.facts_is rfl (fun h50 => ?_) | refine Tp.facts_ty rfl (fun v50 h50 k50 => ?_)
        refine Tp.facts_nil ?_
        refine Tp.wants_plain rfl ?_
        first | (apply Tp.gives_run; (simp [go_sem, hC, hF, hu, h50]; exact rfl); (refine Tp.given_is ?_; exact rfl)) | (apply Tp.gives_run; (simp [go_sem, hC, hF, h50]; exact rfl); (refine Tp.given_ty ?_ k50 (Below.refl _ _); exact rfl))
      · intro A u hC hG hF hu hR; clear hG
        refine Tp.facts_old (fun h9 => ?_) rfl; conv at h9 => rhs; whnf
        first | refine Tp.facts_is rfl (fun h51 => ?_) | refine Tp.facts_ty rfl (fun v51 h51 k51 => ?_)
        refine Tp.facts_nil ?_
        first
        | (refine Tp.wants_skip rfl rfl h51 ?_; exact Tp.skip_t rfl)
        | (refine Tp.wants_go rfl rfl h51 ?_; (refine Tp.load_var rfl h9 ((AX.out.keep hu).row.whole33 AX.out.size) ?_; exact rfl))
      · intro A u hC hG hF hu hR; clear hG
        refine Tp.facts_old (fun h11 => ?_) rfl; conv at h11 => rhs; whnf
        first | refine Tp.facts_is rfl (fun h51 => ?_) | refine Tp.facts_ty rfl (fun v51 h51 k51 => ?_)
        refine Tp.facts_nil ?_
        first
        | (refine Tp.wants_skip rfl rfl h51 ?_; exact Tp.skip_t rfl)
        | (refine Tp.wants_go rfl rfl h51 ?_; (refine Tp.load_var rfl h11 ((AZ.out.keep hu).row.whole33 AZ.out.size) ?_; exact rfl))
      · intro A u hC hG hF hu hR; clear hG
        first | refine Tp.facts_is rfl (fun h52 => ?_) | refine Tp.facts_ty rfl (fun v52 h52 k52 => ?_)
        first | refine Tp.facts_is rfl (fun h53 => ?_) | refine Tp.facts_ty rfl (fun v53 h53 k53 => ?_)
        first | refine Tp.facts_is rfl (fun h51 => ?_) | refine Tp.facts_ty rfl (fun v51 h51 k51 => ?_)
        refine Tp.facts_nil ?_
        first
        | (refine Tp.wants_skip rfl rfl h51 ?_; exact Tp.skip_t rfl)
        | (refine Tp.wants_go rfl rfl h51 ?_; ((apply Tp.gives_run; (simp [go_sem, hC, hF, hu, h52, h53, h51]; exact rfl); (refine Tp.given_call ?_ (Rt.says_ret (HXZ.out _ _ _ (AX.out.keep hu).val.val (AZ.out.keep hu).val.val (Utf8Tabs_below hT (UP8 u hu)))); exact rfl))))
      · intro A u hC hG hF hu hR; clear hG
        refine Tp.facts_old (fun h10 => ?_) rfl; conv at h10 => rhs; whnf
        first | refine Tp.facts_is rfl (fun h51 => ?_) | refine Tp.facts_ty rfl (fun v51 h51 k51 => ?_)
        refine Tp.facts_nil ?_
        first
        | (refine Tp.wants_skip rfl rfl h51 ?_; exact Tp.skip_t rfl)
        | (refine Tp.wants_go rfl rfl h51 ?_; (refine Tp.load_var rfl h10 ((AY.out.keep hu).row.whole33 AY.out.size) ?_; exact rfl))
      · intro A u hC hG hF hu hR; clear hG
        refine Tp.facts_old (fun h11 => ?_) rfl; conv at h11 => rhs; whnf
        first | refine Tp.facts_is rfl (fun h51 => ?_) | refine Tp.facts_ty rfl (fun v51 h51 k51 => ?_)
        refine Tp.facts_nil ?_
        first
        | (refine Tp.wants_skip rfl rfl h51 ?_; exact Tp.skip_t rfl)
        | (refine Tp.wants_go rfl rfl h51 ?_; (refine Tp.load_var rfl h11 ((AZ.out.keep hu).row.whole33 AZ.out.size) ?_; exact rfl))
      · intro A u hC hG hF hu hR; clear hG
        first | refine Tp.facts_is rfl (fun h55 => ?_) | refine Tp.facts_ty rfl (fun v55 h55 k55 => ?_)
        first | refine Tp.facts_is rfl (fun h56 => ?_) | refine Tp.facts_ty rfl (fun v56 h56 k56 => ?_)
        first | refine Tp.facts_is rfl (fun h51 => ?_) | refine Tp.facts_ty rfl (fun v51 h51 k51 => ?_)
        refine Tp.facts_nil ?_
        first
        | (refine Tp.wants_skip rfl rfl h51 ?_; exact Tp.skip_t rfl)
        | (refine Tp.wants_go rfl rfl h51 ?_; ((apply Tp.gives_run; (simp [go_sem, hC, hF, hu, h55, h56, h51]; exact rfl); (refine Tp.given_call ?_ (Rt.says_ret (HYZ.out _ _ _ (AY.out.keep hu).val.val (AZ.out.keep hu).val.val (Utf8Tabs_below hT (UP8 u hu)))); exact rfl))))
      · intro A u hC hG hF hu hR; clear hG
        first | refine Tp.facts_is rfl (fun h54 => ?_) | refine Tp.facts_ty rfl (fun v54 h54 k54 => ?_)
        first | refine Tp.facts_is rfl (fun h57 => ?_) | refine Tp.facts_ty rfl (fun v57 h57 k57 => ?_)
        first | refine Tp.facts_is rfl (fun h51 => ?_) | refine Tp.facts_ty rfl (fun v51 h51 k51 => ?_)
        refine Tp.facts_nil ?_
        first
        | (refine Tp.wants_skip rfl rfl h51 ?_; exact Tp.skip_t rfl)
        | (refine Tp.wants_go rfl rfl h51 ?_; ((apply Tp.gives_run; (simp [go_sem, hC, hF, hu, h54, h57, h51]; exact rfl); (refine Tp.given_is ?_; exact rfl))))
      · intro A u hC hG hF hu hR; clear hG
        first | refine Tp.facts_is rfl (fun h51 => ?_) | refine Tp.facts_ty rfl (fun v51 h51 k51 => ?_)
        first | refine Tp.facts_is rfl (fun h58 => ?_) | refine Tp.facts_ty rfl (fun v58 h58 k58 => ?_)
        refine Tp.facts_nil ?_
        refine Tp.wants_plain rfl ?_
        (apply Tp.gives_run; (simp [go_sem, hC, hF, hu, h51, h58]; exact rfl); (refine Tp.given_is ?_; exact rfl))
      intro wqz bqz
      first | refine Tp.fin_is rfl rfl rfl ?_ | refine Tp.fin_ty rfl rfl rfl (fun y41 q41 => ?_)
      first | refine Tp.fin_is rfl rfl rfl ?_ | refine Tp.fin_ty rfl rfl rfl (fun y42 q42 => ?_)
      first | refine Tp.fin_is rfl rfl rfl ?_ | refine Tp.fin_ty rfl rfl rfl (fun y43 q43 => ?_)
      first | refine Tp.fin_is rfl rfl rfl ?_ | refine Tp.fin_ty rfl rfl rfl (fun y44 q44 => ?_)
      first | refine Tp.fin_is rfl rfl rfl ?_ | refine Tp.fin_ty rfl rfl rfl (fun y45 q45 => ?_)
      first | refine Tp.fin_is rfl rfl rfl ?_ | refine Tp.fin_ty rfl rfl rfl (fun y46 q46 => ?_)
      first | refine Tp.fin_is rfl rfl rfl ?_ | refine Tp.fin_ty rfl rfl rfl (fun y47 q47 => ?_)
      first | refine Tp.fin_is rfl rfl rfl ?_ | refine Tp.fin_ty rfl rfl rfl (fun y48 q48 => ?_)
      first | refine Tp.fin_is rfl rfl rfl ?_ | refine Tp.fin_ty rfl rfl rfl (fun y49 q49 => ?_)
      first | refine Tp.fin_is rfl rfl rfl ?_ | refine Tp.fin_ty rfl rfl rfl (fun y50 q50 => ?_)
      first | refine Tp.fin_is rfl rfl rfl ?_ | refine Tp.fin_ty rfl rfl rfl (fun y51 q51 => ?_)
      first | refine Tp.fin_is rfl rfl rfl ?_ | refine Tp.fin_ty rfl rfl rfl (fun y52 q52 => ?_)
      first | refine Tp.fin_is rfl rfl rfl ?_ | refine Tp.fin_ty rfl rfl rfl (fun y53 q53 => ?_)
      first | refine Tp.fin_is rfl rfl rfl ?_ | refine Tp.fin_ty rfl rfl rfl (fun y54 q54 => ?_)
      first | refine Tp.fin_is rfl rfl rfl ?_ | refine Tp.fin_ty rfl rfl rfl (fun y55 q55 => ?_)
      first | refine Tp.fin_is rfl rfl rfl ?_ | refine Tp.fin_ty rfl rfl rfl (fun y56 q56 => ?_)
      first | refine Tp.fin_is rfl rfl rfl ?_ | refine Tp.fin_ty rfl rfl rfl (fun y57 q57 => ?_)
      first | refine Tp.fin_is rfl rfl rfl ?_ | refine Tp.fin_ty rfl rfl rfl (fun y58 q58 => ?_)
      first | refine Tp.fin_is rfl rfl rfl ?_ | refine Tp.fin_ty rfl rfl rfl (fun y59 q59 => ?_)
      refine Tp.fin_nil ?_
      simp only [Act.put, List.setIfInBounds_toArray, List.set_cons_succ, List.set_cons_zero, List.drop_succ_cons, List.drop_zero, List.drop_nil]
      replace AX := Lib.hid (AX.out.keep bqz)
      replace AY := Lib.hid (AY.out.keep bqz)
      replace AZ := Lib.hid (AZ.out.keep bqz)
      replace BQ := Lib.hid (UP8 _ bqz)
      clear UP8 bqz xco yco
      have xco := AX.out.co
      have yco := AY.out.co
      go_wp2_with (first | (have _t := AX; (with_reducible refine Rt.load_at 33 (x := .tmp 9) ?_ ⟨g9, 0, none⟩ ?_ ?_ (AX.out.row.whole33 AX.out.size) ?_); (with_reducible exact rfl); (exact rfl); (exact rfl); clear _t) | (have _t := AY; (with_reducible refine Rt.load_at 33 (x := .tmp 10) ?_ ⟨g10, 0, none⟩ ?_ ?_ (AY.out.row.whole33 AY.out.size) ?_); (with_reducible exact rfl); (exact rfl); (exact rfl); clear _t) | (go_at_call 20; (with_reducible refine (HXY.out _ _ _ AX.out.val.val AY.out.val.val (Utf8Tabs_below hT BQ.out)).mono ?_); rintro e w9 ⟨rfl, hb⟩; (replace AX := Lib.hid (AX.out.keep hb); replace AY := Lib.hid (AY.out.keep hb); replace AZ := Lib.hid (AZ.out.keep hb); replace BQ := Lib.hid (BQ.out.trans ((hb).mono BQ.out.size)); clear xco yco hb; have xco := AX.out.co; have yco := AY.out.co)))
      rw [← HQ.out]
      exact ⟨rfl, BQ.out⟩
end Go.Proofs
