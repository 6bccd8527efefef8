/- Which of two routes is better: the walk, costs alike. -/
import Derived.Test.YtfiillledfkdkaaDoorRtW1
set_option linter.unusedVariables false
set_option linter.unusedSimpArgs false
set_option linter.unusedSimpArgs false
namespace Go.Proofs
open Go.Shelf Go.RowKit Go.Lib Go.Rt Go.Nam Go.Tp
set_option maxHeartbeats 10000000 in
set_option maxRecDepth 100000 in
theorem Rt.law4t (X Y : Rt.Ann) (hX : X.In) (hY : Y.In) (a1 a2 : Option Addr) (m1 c1 m2 c2 : Nat) (w : World) (sX : Sl w a1 m1 c1 (X.path.map (Value.int .u8))) (sY : Sl w a2 m2 c2 (Y.path.map (Value.int .u8))) (hT : Utf8Tabs 0 1 w) :
    Calls Tryd.prog 4 #[.agg (X.cells a1 m1 c1), .agg (Y.cells a2 m2 c2), .bool true] w (Rt.Says w true) := by
  obtain ⟨Q, hQ⟩ : ∃ Q, Rt.Says w true = Q := ⟨_, rfl⟩
  rw [hQ]
  have HQ := Lib.hid hQ
  clear hQ
  obtain ⟨w1, ew, r1, r2, hb1⟩ := Rt.box2 w (X.cells a1 m1 c1) (Y.cells a2 m2 c2) 37 37
  have R1 := Lib.hid r1
  have R2 := Lib.hid r2
  have BB := Lib.hid hb1
  clear r1 r2 hb1
  have asz : (⟨#[97]⟩ : ByteArray).size ≤ 255 := by decide
  have IX := Rt.Ann.rv_in X hX ⟨#[97]⟩ asz
  have IY := Rt.Ann.rv_in Y hY ⟨#[97]⟩ asz
  have hcX : ∀ u, Below w.heap.size w u → Calls Tryd.prog 11 #[.agg (X.cells a1 m1 c1), .string ⟨#[97]⟩] u (Ret (Rt.ValT (X.rv ⟨#[97]⟩)) u) := fun u hu => Rt.annRoute X hX ⟨#[97]⟩ asz a1 m1 c1 u (sX.keep hu)
  have hcY : ∀ u, Below w.heap.size w u → Calls Tryd.prog 11 #[.agg (Y.cells a2 m2 c2), .string ⟨#[97]⟩] u (Ret (Rt.ValT (Y.rv ⟨#[97]⟩)) u) := fun u hu => Rt.annRoute Y hY ⟨#[97]⟩ asz a2 m2 c2 u (sY.keep hu)
  have HX := Lib.hid hcX
  have HY := Lib.hid hcY
  clear hcX hcY sX sY
  go_enter Tryd.func4, Tryd.ntmps4
  go_wp2_with (go_at_call 10; refine (Rt.known _ (Utf8Tabs_below hT BB.out)).mono ?_; rintro e w2 ⟨rfl, hb⟩; replace R1 := Lib.hid (R1.out.keep hb); replace R2 := Lib.hid (R2.out.keep hb); replace BB := Lib.hid (BB.out.trans (hb.mono BB.out.size)); clear hb)
  have L1 : Hid (∀ u, Below w2.heap.size w2 u → (loadVar 37 ⟨w.heap.size, 0, none⟩).run Tryd.prog u = .ok (.agg (X.cells a1 m1 c1)) u) := Lib.hid fun u hu => (R1.out.keep hu).whole37
  have L2 : Hid (∀ u, Below w2.heap.size w2 u → (loadVar 37 ⟨w.heap.size + 1, 0, none⟩).run Tryd.prog u = .ok (.agg (Y.cells a2 m2 c2)) u) := Lib.hid fun u hu => (R2.out.keep hu).whole37
  have UP : ∀ u, Below w2.heap.size w2 u → Below w.heap.size w u := fun u hu => BB.out.trans (hu.mono BB.out.size)
  refine Tp.region_n [4, 5] (by kernel_rfl) 6 103 [[(3, none)], [(15, some 0)], [(4, none)], [(17, some 2)], [], []] (by kernel_rfl) (by kernel_rfl) rfl ?_
  apply Exists.intro [_, _, _, _, _, _]
  refine ⟨⟨?_, ?_, ?_, ?_, ?_, ?_, trivial⟩, ?_, ?_⟩
  · intro A u hC hG hF hu hR; clear hG
    refine Tp.facts_old (fun h3 => ?_) rfl; conv at h3 => rhs; whnf
    refine Tp.facts_nil ?_
    refine Tp.wants_plain rfl ?_
    refine Tp.aim_n (by decide) ?_
    refine Tp.load_var rfl h3 (L1.out u hu) ?_; exact rfl
  · intro A u hC hG hF hu hR; clear hG
    first | refine Tp.facts_is rfl (fun h15 => ?_) | refine Tp.facts_ty rfl (fun v15 h15 k15 => ?_)
    refine Tp.facts_nil ?_
    refine Tp.wants_plain rfl ?_
    refine Tp.aim_n (by decide) ?_
    (apply Tp.gives_run; (simp [go_sem, hC, hF, hu, h15]; exact rfl); (refine Tp.given_call ?_ (HX.out u (UP u hu)); exact rfl))
  · intro A u hC hG hF hu hR; clear hG
    refine Tp.facts_old (fun h4 => ?_) rfl; conv at h4 => rhs; whnf
    refine Tp.facts_nil ?_
    refine Tp.wants_plain rfl ?_
    refine Tp.aim_n (by decide) ?_
    refine Tp.load_var rfl h4 (L2.out u hu) ?_; exact rfl
  · intro A u hC hG hF hu hR; clear hG
    first | refine Tp.facts_is rfl (fun h17 => ?_) | refine Tp.facts_ty rfl (fun v17 h17 k17 => ?_)
    refine Tp.facts_nil ?_
    refine Tp.wants_plain rfl ?_
    refine Tp.aim_n (by decide) ?_
    (apply Tp.gives_run; (simp [go_sem, hC, hF, hu, h17]; exact rfl); (refine Tp.given_call ?_ (HY.out u (UP u hu)); exact rfl))
  · intro A u hC hG hF hu hR; clear hG
    refine Tp.facts_nil ?_
    refine Tp.wants_plain rfl ?_
    (apply Tp.gives_run; (simp [go_sem, hC, hF, hu]; exact rfl); (refine Tp.given_new ?_ hu.size; exact rfl))
  · intro A u hC hG hF hu hR; clear hG
    refine Tp.facts_nil ?_
    refine Tp.wants_plain rfl ?_
    (apply Tp.gives_run; (simp [go_sem, hC, hF, hu]; exact rfl); (refine Tp.given_new ?_ hu.size; exact rfl))
  · exact ⟨⟨fun h => absurd h (by decide), fun h => absurd h (by decide), fun h => absurd h (by decide), fun h => absurd h (by decide), fun _ => Tp.newrow_in, fun _ => Tp.newrow_in, trivial⟩, Nat.le_refl _⟩
  intro wq1 bq1
  first | refine Tp.fin_is rfl rfl rfl ?_ | refine Tp.fin_ty rfl rfl rfl (fun y15 q15 => ?_)
  first | refine Tp.fin_is rfl rfl rfl ?_ | refine Tp.fin_ty rfl rfl rfl (fun y16 q16 => ?_)
  first | refine Tp.fin_is rfl rfl rfl ?_ | refine Tp.fin_ty rfl rfl rfl (fun y17 q17 => ?_)
  first | refine Tp.fin_is rfl rfl rfl ?_ | refine Tp.fin_ty rfl rfl rfl (fun y18 q18 => ?_)
  first | refine Tp.fin_is rfl rfl rfl ?_ | refine Tp.fin_ty rfl rfl rfl (fun y7 q7 => ?_)
  first | refine Tp.fin_is rfl rfl rfl ?_ | refine Tp.fin_ty rfl rfl rfl (fun y8 q8 => ?_)
  refine Tp.fin_nil ?_
  intro hdist
  have hd7_8 := Tp.dist_ne hdist 4 5 7 8 (x := y7) (y := y8) (by decide) (by decide) (by decide) (by kernel_rfl) (by kernel_rfl) (by kernel_rfl) (by kernel_rfl)
  clear hdist
  simp only [Act.put, List.setIfInBounds_toArray, List.set_cons_succ, List.set_cons_zero, List.drop_succ_cons, List.drop_zero, List.drop_nil]
  obtain ⟨g7, rfl, l7, k7⟩ := q7
  obtain ⟨g8, rfl, l8, k8⟩ := q8
  have n1 : g7 ≠ g8 := fun e => hd7_8 (by rw [e])
  clear hd7_8
  obtain ⟨cx, rfl, fx, vx⟩ := q16.fit IX
  obtain ⟨cy, rfl, fy, vy⟩ := q18.fit IY
  have BQ := Lib.hid (UP _ bq1)
  have lw := BB.out.size
  have K7 : Hid (Rt.Row wq1 g7 33 Tryd.zeroCells33) := Lib.hid k7
  have K8 : Hid (Rt.Row wq1 g8 33 Tryd.zeroCells33) := Lib.hid k8
  have VX := Lib.hid vx
  have VY := Lib.hid vy
  have FX := Lib.hid fx
  have FY := Lib.hid fy
  clear k7 k8 vx vy fx fy q16 q18 bq1 UP L1 L2 HX HY R1 R2 BB
  obtain ⟨x, hx⟩ : ∃ x, X.rv ⟨#[97]⟩ = x := ⟨_, rfl⟩
  go_upto_region 6 with (first | (((have _t := K7; (with_reducible refine Rt.store_at 33 (x := .tmp 7) (v := .tmp 16) (cs := cx) ?_ g7 ?_ ?_ ?_ K7.out ?_ ?_ ?_ ?_); (with_reducible exact rfl); (exact rfl); (exact rfl); (kernel_rfl); (exact FX.out.eq); (exact FX.out.inf); (exact FX.out.one); clear _t)); (intro w4 e1 e2 e3 e4; have g := Rt.grown_eq e2 e3 (e4 _ _ (Nat.zero_le _) (Below.refl _ _)); have AX : Hid (Rt.AtN w4 g7 (X.rv ⟨#[97]⟩) cx) := Lib.hid ⟨e1, VX.out.by K7.out g, FX.out.size⟩; replace K8 := Lib.hid (K8.out.by g (by simpa using n1.symm)); replace VY := Lib.hid (VY.out.by K7.out g); replace BQ := Lib.hid (e4 _ _ (by omega) BQ.out); clear e1 e2 e3 e4 g)) | (((have _t := K8; (with_reducible refine Rt.store_at 33 (x := .tmp 8) (v := .tmp 18) (cs := cy) ?_ g8 ?_ ?_ ?_ K8.out ?_ ?_ ?_ ?_); (with_reducible exact rfl); (exact rfl); (exact rfl); (kernel_rfl); (exact FY.out.eq); (exact FY.out.inf); (exact FY.out.one); clear _t)); (intro w5 e1 e2 e3 e4; have g := Rt.grown_eq e2 e3 (e4 _ _ (Nat.zero_le _) (Below.refl _ _)); have AY : Hid (Rt.AtN w5 g8 (Y.rv ⟨#[97]⟩) cy) := Lib.hid ⟨e1, VY.out.by K8.out g, FY.out.size⟩; replace AX := Lib.hid (AX.out.by K8.out g n1); replace BQ := Lib.hid (e4 _ _ (by omega) BQ.out); have xco := AX.out.co; have yco := AY.out.co; have yfr := AY.out.row.free 5; have xlt := AX.out.row.lt; have ylt := AY.out.row.lt; clear e1 e2 e3 e4 g)))
  have IY1 := Rt.RV.co_in IY (y := x) (by rw [← hx]; exact IX)
  obtain ⟨w7, hw7⟩ : ∃ w7, w5.setCell ⟨g8, 5, none⟩ (.int .u32 x.co) = w7 := ⟨_, rfl⟩
  rw [hw7]
  have g1 : w5.grownBy w7 (some g8) := by rw [← hw7]; exact grown_setCell w5 ⟨g8, 5, none⟩ _
  have y1 := AY.out.setCo (by rw [← hw7]; exact AY.out.row.set 5 (.int .u32 x.co)) g1
  have x1 := AX.out.by AY.out.row g1 n1
  have b1 := BQ.out.grown g1 BQ.out.size (fun b e => by cases e; omega)
  replace AX := Lib.hid x1
  replace AY := Lib.hid y1
  replace BQ := Lib.hid b1
  clear hw7 g1 y1 x1 b1 xco yco yfr xlt ylt
  have xco := AX.out.co
  have yco := AY.out.co
  obtain ⟨y, dy, hy, IY2, AY2⟩ : ∃ (y : Rt.RV) (dy : Array Value), True ∧ y.In ∧ Hid (Rt.AtN _ g8 y dy) := ⟨_, _, trivial, IY1, AY⟩
  clear AY hy xco yco
  rw [hx] at AX IX
  have AY := AY2
  clear AY2
  have xco := AX.out.co
  have yco := AY.out.co
  obtain ⟨t1, t2, t3⟩ := Rt.bet_two x y
  obtain ⟨XY, hXY⟩ : ∃ b, x.better y = b := ⟨_, rfl⟩
  obtain ⟨YX, hYX⟩ : ∃ b, y.better x = b := ⟨_, rfl⟩
  obtain ⟨SM, hSM⟩ : ∃ b, x.same y = b := ⟨_, rfl⟩
  have HXY := Lib.hid (Rt.better_at x y IX IY2 XY hXY)
  have HYX := Lib.hid (Rt.better_at y x IY2 IX YX hYX)
  have HXX := Lib.hid (Rt.better_at x x IX IX false t3)
  have RXY := Lib.hid (Rt.betterR_at x y IX IY2 XY hXY)
  have RYX := Lib.hid (Rt.betterR_at y x IY2 IX YX hYX)
  have SXY := Lib.hid (Rt.same_at x y IX IY2 SM hSM)
  have SRX := Lib.hid (Rt.sameR_at x y IX IY2 SM hSM)
  rw [hXY, hYX] at t1 t2
  have T1 := Lib.hid t1
  clear hXY hYX hSM t1 t3
  have UP8 := fun u (hu : Below _ _ u) => BQ.out.trans (hu.mono BQ.out.size)
  refine Tp.region_ex (by kernel_rfl) 8 103 [[(7, none)], [(8, none)], [(23, some 0), (24, some 1)], [(8, none)], [(7, none)], [(26, some 3), (27, some 4)], [(25, some 2)], [(28, some 5)]] (by kernel_rfl) rfl ?_
  apply Exists.intro [_, _, _, _, _, _, _, _]
  refine ⟨⟨?_, ?_, ?_, ?_, ?_, ?_, ?_, ?_, trivial⟩, ?_⟩
  · intro A u hC hG hF hu hR; clear hG
    refine Tp.facts_old (fun h7 => ?_) rfl; conv at h7 => rhs; whnf
    refine Tp.facts_nil ?_
    refine Tp.wants_plain rfl ?_
    refine Tp.load_var rfl h7 ((AX.out.keep hu).row.whole33 AX.out.size) ?_; exact rfl
  · intro A u hC hG hF hu hR; clear hG
    refine Tp.facts_old (fun h8 => ?_) rfl; conv at h8 => rhs; whnf
    refine Tp.facts_nil ?_
    refine Tp.wants_plain rfl ?_
    refine Tp.load_var rfl h8 ((AY.out.keep hu).row.whole33 AY.out.size) ?_; exact rfl
  · intro A u hC hG hF hu hR; clear hG
    first | refine Tp.facts_is rfl (fun h23 => ?_) | refine Tp.facts_ty rfl (fun v23 h23 k23 => ?_)
    first | refine Tp.facts_is rfl (fun h24 => ?_) | refine Tp.facts_ty rfl (fun v24 h24 k24 => ?_)
    refine Tp.facts_nil ?_
    refine Tp.wants_plain rfl ?_
    (apply Tp.gives_run; (simp [go_sem, hC, hF, hu, h23, h24]; exact rfl); (refine Tp.given_call ?_ (Rt.says_ret (HXY.out _ _ _ (AX.out.keep hu).val.val (AY.out.keep hu).val.val (Utf8Tabs_below hT (UP8 u hu)))); exact rfl))
  · intro A u hC hG hF hu hR; clear hG
    refine Tp.facts_old (fun h8 => ?_) rfl; conv at h8 => rhs; whnf
    refine Tp.facts_nil ?_
    refine Tp.wants_plain rfl ?_
    refine Tp.load_var rfl h8 ((AY.out.keep hu).row.whole33 AY.out.size) ?_; exact rfl
  · intro A u hC hG hF hu hR; clear hG
    refine Tp.facts_old (fun h7 => ?_) rfl; conv at h7 => rhs; whnf
    refine Tp.facts_nil ?_
    refine Tp.wants_plain rfl ?_
    refine Tp.load_var rfl h7 ((AX.out.keep hu).row.whole33 AX.out.size) ?_; exact rfl
  · intro A u hC hG hF hu hR; clear hG
    first | refine Tp.facts_is rfl (fun h26 => ?_) | refine Tp.facts_ty rfl (fun v26 h26 k26 => ?_)
    first | refine Tp.facts_is rfl (fun h27 => ?_) | refine Tp.facts_ty rfl (fun v27 h27 k27 => ?_)
    refine Tp.facts_nil ?_
    refine Tp.wants_plain rfl ?_
    (apply Tp.gives_run; (simp [go_sem, hC, hF, hu, h26, h27]; exact rfl); (refine Tp.given_call ?_ (Rt.says_ret (HYX.out _ _ _ (AY.out.keep hu).val.val (AX.out.keep hu).val.val (Utf8Tabs_below hT (UP8 u hu)))); exact rfl))
  · intro A u hC hG hF hu hR; clear hG
    first | refine Tp.facts_is rfl (fun h25 => ?_) | refine Tp.facts_ty rfl (fun v25 h25 k25 => ?_)
    refine Tp.facts_nil ?_
    refine Tp.wants_plain rfl ?_
    first | (apply Tp.gives_run; (simp [go_sem, hC, hF, hu, h25]; exact rfl); (refine Tp.given_is ?_; exact rfl)) | (apply Tp.gives_run; (simp [go_sem, hC, hF, h25]; exact rfl); (refine Tp.given_ty ?_ k25 (Below.refl _ _); exact rfl))
  · intro A u hC hG hF hu hR; clear hG
    first | refine Tp.facts_is rfl (fun h28 => ?_) | refine Tp.facts_ty rfl (fun v28 h28 k28 => ?_)
    refine Tp.facts_nil ?_
    refine Tp.wants_plain rfl ?_
    first | (apply Tp.gives_run; (simp [go_sem, hC, hF, hu, h28]; exact rfl); (refine Tp.given_is ?_; exact rfl)) | (apply Tp.gives_run; (simp [go_sem, hC, hF, h28]; exact rfl); (refine Tp.given_ty ?_ k28 (Below.refl _ _); exact rfl))
  intro wqz bqz
  first | refine Tp.fin_is rfl rfl rfl ?_ | refine Tp.fin_ty rfl rfl rfl (fun y23 q23 => ?_)
  first | refine Tp.fin_is rfl rfl rfl ?_ | refine Tp.fin_ty rfl rfl rfl (fun y24 q24 => ?_)
  first | refine Tp.fin_is rfl rfl rfl ?_ | refine Tp.fin_ty rfl rfl rfl (fun y25 q25 => ?_)
  first | refine Tp.fin_is rfl rfl rfl ?_ | refine Tp.fin_ty rfl rfl rfl (fun y26 q26 => ?_)
  first | refine Tp.fin_is rfl rfl rfl ?_ | refine Tp.fin_ty rfl rfl rfl (fun y27 q27 => ?_)
  first | refine Tp.fin_is rfl rfl rfl ?_ | refine Tp.fin_ty rfl rfl rfl (fun y28 q28 => ?_)
  first | refine Tp.fin_is rfl rfl rfl ?_ | refine Tp.fin_ty rfl rfl rfl (fun y9 q9 => ?_)
  first | refine Tp.fin_is rfl rfl rfl ?_ | refine Tp.fin_ty rfl rfl rfl (fun y10 q10 => ?_)
  refine Tp.fin_nil ?_
  simp only [Act.put, List.setIfInBounds_toArray, List.set_cons_succ, List.set_cons_zero, List.drop_succ_cons, List.drop_zero, List.drop_nil]
  replace AX := Lib.hid (AX.out.keep bqz)
  replace AY := Lib.hid (AY.out.keep bqz)
  replace BQ := Lib.hid (UP8 _ bqz)
  clear UP8 bqz xco yco
  obtain ⟨ax, px, hx4, lx4⟩ := AX.out.c4
  obtain ⟨ay, py, hy4, ly4⟩ := AY.out.c4
  have hx5 := AX.out.c5
  have hy5 := AY.out.c5
  obtain ⟨C1, e1⟩ : ∃ c, x.co = c := ⟨_, rfl⟩
  obtain ⟨C2, e2⟩ : ∃ c, y.co = c := ⟨_, rfl⟩
  obtain ⟨N1, e3⟩ : ∃ c, x.path.length = c := ⟨_, rfl⟩
  obtain ⟨N2, e4⟩ : ∃ c, y.path.length = c := ⟨_, rfl⟩
  have HB0 := Lib.hid (Rt.alike_zero x y)
  rw [e1, e2, e3, e4] at HB0
  rw [e1] at hx5
  rw [e2] at hy5
  rw [e3] at hx4 lx4
  rw [e4] at hy4 ly4
  have E3 := Lib.hid e3
  have E4 := Lib.hid e4
  have HX4 := Lib.hid hx4
  have HY4 := Lib.hid hy4
  have HX5 := Lib.hid hx5
  have HY5 := Lib.hid hy5
  clear e1 e2 e3 e4 hx4 hy4 hx5 hy5
  have xco := AX.out.row.cell 5 HX5.out
  have yco := AY.out.row.cell 5 HY5.out
  have kx4 := AX.out.row.cell 4 HX4.out
  have ky4 := AY.out.row.cell 4 HY4.out
  cases XY
  · cases YX
    ·
      by_cases hco : C1 = C2
      · subst hco
        by_cases hln : N1 = N2
        · subst hln
          have hB0 : Hid (true = Rt.alike x y 0) := Lib.hid (by rw [HB0.out]; simp)
          go_wp2_with (first | (have _t := AX; (with_reducible refine Rt.load_at 33 (x := .tmp 7) ?_ ⟨g7, 0, none⟩ ?_ ?_ (AX.out.row.whole33 AX.out.size) ?_); (with_reducible exact rfl); (exact rfl); (exact rfl); clear _t) | (have _t := AY; (with_reducible refine Rt.load_at 33 (x := .tmp 8) ?_ ⟨g8, 0, none⟩ ?_ ?_ (AY.out.row.whole33 AY.out.size) ?_); (with_reducible exact rfl); (exact rfl); (exact rfl); clear _t) | (go_at_call 21; (with_reducible refine (RXY.out _ _ _ AX.out.val.val AY.out.val.val (Utf8Tabs_below hT BQ.out)).mono ?_); rintro e w9 ⟨rfl, hb⟩; (replace AX := Lib.hid (AX.out.keep hb); replace AY := Lib.hid (AY.out.keep hb); replace BQ := Lib.hid (BQ.out.trans ((hb).mono BQ.out.size)); clear xco yco kx4 ky4 hb; have xco := AX.out.row.cell 5 HX5.out; have yco := AY.out.row.cell 5 HY5.out; have kx4 := AX.out.row.cell 4 HX4.out; have ky4 := AY.out.row.cell 4 HY4.out)) | (go_at_call 21; (with_reducible refine (RYX.out _ _ _ AY.out.val.val AX.out.val.val (Utf8Tabs_below hT BQ.out)).mono ?_); rintro e w9 ⟨rfl, hb⟩; (replace AX := Lib.hid (AX.out.keep hb); replace AY := Lib.hid (AY.out.keep hb); replace BQ := Lib.hid (BQ.out.trans ((hb).mono BQ.out.size)); clear xco yco kx4 ky4 hb; have xco := AX.out.row.cell 5 HX5.out; have yco := AY.out.row.cell 5 HY5.out; have kx4 := AX.out.row.cell 4 HX4.out; have ky4 := AY.out.row.cell 4 HY4.out)) | (go_at_call 20; (with_reducible refine (HXX.out _ _ _ AX.out.val.val AX.out.val.val (Utf8Tabs_below hT BQ.out)).mono ?_); rintro e w9 ⟨rfl, hb⟩; (replace AX := Lib.hid (AX.out.keep hb); replace AY := Lib.hid (AY.out.keep hb); replace BQ := Lib.hid (BQ.out.trans ((hb).mono BQ.out.size)); clear xco yco kx4 ky4 hb; have xco := AX.out.row.cell 5 HX5.out; have yco := AY.out.row.cell 5 HY5.out; have kx4 := AX.out.row.cell 4 HX4.out; have ky4 := AY.out.row.cell 4 HY4.out)))
          clear kx4 ky4 xco yco
          go_loopw [11, 12] (fun b i wr => ∃ (k : Nat) (B : Bool), k ≤ N1 ∧ i = .int .i64 (k : Int) ∧ b = .bool B ∧ B = Rt.alike x y k ∧ Rt.AtN wr g7 x cx ∧ Rt.AtN wr g8 y dy ∧ Below w.heap.size w wr) (fun _ i _ => N1 - (Go.RowKit.intOf i).toNat)
          case atStart => exact ⟨0, _, Nat.zero_le _, rfl, rfl, (by first | exact hB0.out | (rw [← hB0.out]; exact beq_false_of_ne (by omega))), AX.out, AY.out, BQ.out⟩
          case round =>
            obtain ⟨k, B, hk, rfl, rfl, hBB, hx', hy', hbq⟩ := hrel
            have hB := Lib.hid hBB
            clear hBB
            have AX := Lib.hid hx'
            have AY := Lib.hid hy'
            have BQ := Lib.hid hbq
            clear hx' hy' hbq hB0
            have kx4 := AX.out.row.cell 4 HX4.out
            have ky4 := AY.out.row.cell 4 HY4.out
            cases B
            · have h14 := T1.out
              rw [Rt.alike_false x y k hB.out.symm] at h14
              first
              | (exfalso; revert h14; decide)
              | (clear h14
                 go_wp2_with fail
                 have UP8 := fun u (hu : Below _ _ u) => BQ.out.trans (hu.mono BQ.out.size)
                 refine Tp.region_ex (by kernel_rfl) 17 103 [[(9, none)], [(87, some 0)], [(10, none), (88, some 1)], [(88, some 1), (89, some 2)], [(11, none)], [(91, some 4)], [(90, some 3), (92, some 5)], [(93, some 6)], [(7, none), (94, some 7)], [(8, none), (94, some 7)], [(95, some 8), (96, some 9), (94, some 7)], [(7, none), (94, some 7)], [(8, none), (94, some 7)], [(98, some 11), (99, some 12), (94, some 7)], [(97, some 10), (100, some 13), (94, some 7)], [(94, some 7), (101, some 14)], [(102, some 15)]] (by kernel_rfl) rfl ?_
                 apply Exists.intro [_, _, _, _, _, _, _, _, _, _, _, _, _, _, _, _, _]
                 refine ⟨⟨?_, ?_, ?_, ?_, ?_, ?_, ?_, ?_, ?_, ?_, ?_, ?_, ?_, ?_, ?_, ?_, ?_, trivial⟩, ?_⟩
                 · intro A u hC hG hF hu hR; clear hG
                   refine Tp.facts_old (fun h9 => ?_) rfl; conv at h9 => rhs; whnf
                   refine Tp.facts_nil ?_
                   refine Tp.wants_plain rfl ?_
                   (apply Tp.gives_run; (simp [go_sem, hC, hF, hu, h9]; exact rfl); (refine Tp.given_is ?_; exact rfl))
                 · intro A u hC hG hF hu hR; clear hG
                   first | refine Tp.facts_is rfl (fun h87 => ?_) | refine Tp.facts_ty rfl (fun v87 h87 k87 => ?_)
                   refine Tp.facts_nil ?_
                   refine Tp.wants_plain rfl ?_
                   first | (apply Tp.gives_run; (simp [go_sem, hC, hF, hu, h87]; exact rfl); (refine Tp.given_is ?_; exact rfl)) | (apply Tp.gives_run; (simp [go_sem, hC, hF, h87]; exact rfl); (refine Tp.given_ty ?_ k87 (Below.refl _ _); exact rfl))
                 · intro A u hC hG hF hu hR; clear hG
                   refine Tp.facts_old (fun h10 => ?_) rfl; conv at h10 => rhs; whnf
                   first | refine Tp.facts_is rfl (fun h88 => ?_) | refine Tp.facts_ty rfl (fun v88 h88 k88 => ?_)
                   refine Tp.facts_nil ?_
                   first
                   | (refine Tp.wants_skip rfl rfl h88 ?_; exact Tp.skip_t rfl)
                   | (refine Tp.wants_go rfl rfl h88 ?_; ((apply Tp.gives_run; (simp [go_sem, hC, hF, hu, h10, h88]; exact rfl); (refine Tp.given_is ?_; exact rfl))))
                 · intro A u hC hG hF hu hR; clear hG
                   first | refine Tp.facts_is rfl (fun h88 => ?_) | refine Tp.facts_ty rfl (fun v88 h88 k88 => ?_)
                   first | refine Tp.facts_is rfl (fun h89 => ?_) | refine Tp.facts_ty rfl (fun v89 h89 k89 => ?_)
                   refine Tp.facts_nil ?_
                   refine Tp.wants_plain rfl ?_
                   (apply Tp.gives_run; (simp [go_sem, hC, hF, hu, h88, h89]; exact rfl); (refine Tp.given_is ?_; exact rfl))
                 · intro A u hC hG hF hu hR; clear hG
                   refine Tp.facts_old (fun h11 => ?_) rfl; conv at h11 => rhs; whnf
                   refine Tp.facts_nil ?_
                   refine Tp.wants_plain rfl ?_
                   (apply Tp.gives_run; (simp [go_sem, hC, hF, hu, h11]; exact rfl); (refine Tp.given_is ?_; exact rfl))
                 · intro A u hC hG hF hu hR; clear hG
                   first | refine Tp.facts_is rfl (fun h91 => ?_) | refine Tp.facts_ty rfl (fun v91 h91 k91 => ?_)
                   refine Tp.facts_nil ?_
                   refine Tp.wants_plain rfl ?_
                   (apply Tp.gives_run; (simp [go_sem, hC, hF, hu, h91]; exact rfl); (refine Tp.given_is ?_; exact rfl))
                 · intro A u hC hG hF hu hR; clear hG
                   first | refine Tp.facts_is rfl (fun h90 => ?_) | refine Tp.facts_ty rfl (fun v90 h90 k90 => ?_)
                   first | refine Tp.facts_is rfl (fun h92 => ?_) | refine Tp.facts_ty rfl (fun v92 h92 k92 => ?_)
                   refine Tp.facts_nil ?_
                   refine Tp.wants_plain rfl ?_
                   (apply Tp.gives_run; (simp [go_sem, hC, hF, hu, h90, h92]; exact rfl); (refine Tp.given_is ?_; exact rfl))
                 · intro A u hC hG hF hu hR; clear hG
                   first | refine Tp.facts_is rfl (fun h93 => ?_) | refine Tp.facts_ty rfl (fun v93 h93 k93 => ?_)
                   refine Tp.facts_nil ?_
                   refine Tp.wants_plain rfl ?_
                   first | (apply Tp.gives_run; (simp [go_sem, hC, hF, hu, h93]; exact rfl); (refine Tp.given_is ?_; exact rfl)) | (apply Tp.gives_run; (simp [go_sem, hC, hF, h93]; exact rfl); (refine Tp.given_ty ?_ k93 (Below.refl _ _); exact rfl))
                 · intro A u hC hG hF hu hR; clear hG
                   refine Tp.facts_old (fun h7 => ?_) rfl; conv at h7 => rhs; whnf
                   first | refine Tp.facts_is rfl (fun h94 => ?_) | refine Tp.facts_ty rfl (fun v94 h94 k94 => ?_)
                   refine Tp.facts_nil ?_
                   first
                   | (refine Tp.wants_skip rfl rfl h94 ?_; exact Tp.skip_t rfl)
                   | (refine Tp.wants_go rfl rfl h94 ?_; (refine Tp.load_var rfl h7 ((AX.out.keep hu).row.whole33 AX.out.size) ?_; exact rfl))
                 · intro A u hC hG hF hu hR; clear hG
                   refine Tp.facts_old (fun h8 => ?_) rfl; conv at h8 => rhs; whnf
                   first | refine Tp.facts_is rfl (fun h94 => ?_) | refine Tp.facts_ty rfl (fun v94 h94 k94 => ?_)
                   refine Tp.facts_nil ?_
                   first
                   | (refine Tp.wants_skip rfl rfl h94 ?_; exact Tp.skip_t rfl)
                   | (refine Tp.wants_go rfl rfl h94 ?_; (refine Tp.load_var rfl h8 ((AY.out.keep hu).row.whole33 AY.out.size) ?_; exact rfl))
                 · intro A u hC hG hF hu hR; clear hG
                   first | refine Tp.facts_is rfl (fun h95 => ?_) | refine Tp.facts_ty rfl (fun v95 h95 k95 => ?_)
                   first | refine Tp.facts_is rfl (fun h96 => ?_) | refine Tp.facts_ty rfl (fun v96 h96 k96 => ?_)
                   first | refine Tp.facts_is rfl (fun h94 => ?_) | refine Tp.facts_ty rfl (fun v94 h94 k94 => ?_)
                   refine Tp.facts_nil ?_
                   first
                   | (refine Tp.wants_skip rfl rfl h94 ?_; exact Tp.skip_t rfl)
                   | (refine Tp.wants_go rfl rfl h94 ?_; ((apply Tp.gives_run; (simp [go_sem, hC, hF, hu, h95, h96, h94]; exact rfl); (refine Tp.given_call ?_ (Rt.says_ret (SXY.out _ _ _ (AX.out.keep hu).val.val (AY.out.keep hu).val.val)); exact rfl))))
                 · intro A u hC hG hF hu hR; clear hG
                   refine Tp.facts_old (fun h7 => ?_) rfl; conv at h7 => rhs; whnf
                   first | refine Tp.facts_is rfl (fun h94 => ?_) | refine Tp.facts_ty rfl (fun v94 h94 k94 => ?_)
                   refine Tp.facts_nil ?_
                   first
                   | (refine Tp.wants_skip rfl rfl h94 ?_; exact Tp.skip_t rfl)
                   | (refine Tp.wants_go rfl rfl h94 ?_; (refine Tp.load_var rfl h7 ((AX.out.keep hu).row.whole33 AX.out.size) ?_; exact rfl))
                 · intro A u hC hG hF hu hR; clear hG
                   refine Tp.facts_old (fun h8 => ?_) rfl; conv at h8 => rhs; whnf
                   first | refine Tp.facts_is rfl (fun h94 => ?_) | refine Tp.facts_ty rfl (fun v94 h94 k94 => ?_)
                   refine Tp.facts_nil ?_
                   first
                   | (refine Tp.wants_skip rfl rfl h94 ?_; exact Tp.skip_t rfl)
                   | (refine Tp.wants_go rfl rfl h94 ?_; (refine Tp.load_var rfl h8 ((AY.out.keep hu).row.whole33 AY.out.size) ?_; exact rfl))
                 · intro A u hC hG hF hu hR; clear hG
                   first | refine Tp.facts_is rfl (fun h98 => ?_) | refine Tp.facts_ty rfl (fun v98 h98 k98 => ?_)
                   first | refine Tp.facts_is rfl (fun h99 => ?_) | refine Tp.facts_ty rfl (fun v99 h99 k99 => ?_)
                   first | refine Tp.facts_is rfl (fun h94 => ?_) | refine Tp.facts_ty rfl (fun v94 h94 k94 => ?_)
                   refine Tp.facts_nil ?_
                   first
                   | (refine Tp.wants_skip rfl rfl h94 ?_; exact Tp.skip_t rfl)
                   | (refine Tp.wants_go rfl rfl h94 ?_; ((apply Tp.gives_run; (simp [go_sem, hC, hF, hu, h98, h99, h94]; exact rfl); (refine Tp.given_call ?_ (Rt.says_ret (SRX.out _ _ _ (AX.out.keep hu).val.val (AY.out.keep hu).val.val)); exact rfl))))
                 · intro A u hC hG hF hu hR; clear hG
                   first | refine Tp.facts_is rfl (fun h97 => ?_) | refine Tp.facts_ty rfl (fun v97 h97 k97 => ?_)
                   first | refine Tp.facts_is rfl (fun h100 => ?_) | refine Tp.facts_ty rfl (fun v100 h100 k100 => ?_)
                   first | refine Tp.facts_is rfl (fun h94 => ?_) | refine Tp.facts_ty rfl (fun v94 h94 k94 => ?_)
                   refine Tp.facts_nil ?_
                   first
                   | (refine Tp.wants_skip rfl rfl h94 ?_; exact Tp.skip_t rfl)
                   | (refine Tp.wants_go rfl rfl h94 ?_; ((apply Tp.gives_run; (simp [go_sem, hC, hF, hu, h97, h100, h94]; exact rfl); (refine Tp.given_is ?_; exact rfl))))
                 · intro A u hC hG hF hu hR; clear hG
                   first | refine Tp.facts_is rfl (fun h94 => ?_) | refine Tp.facts_ty rfl (fun v94 h94 k94 => ?_)
                   first | refine Tp.facts_is rfl (fun h101 => ?_) | refine Tp.facts_ty rfl (fun v101 h101 k101 => ?_)
                   refine Tp.facts_nil ?_
                   refine Tp.wants_plain rfl ?_
                   (apply Tp.gives_run; (simp [go_sem, hC, hF, hu, h94, h101]; exact rfl); (refine Tp.given_is ?_; exact rfl))
                 · intro A u hC hG hF hu hR; clear hG
                   first | refine Tp.facts_is rfl (fun h102 => ?_) | refine Tp.facts_ty rfl (fun v102 h102 k102 => ?_)
                   refine Tp.facts_nil ?_
                   refine Tp.wants_plain rfl ?_
                   first | (apply Tp.gives_run; (simp [go_sem, hC, hF, hu, h102]; exact rfl); (refine Tp.given_is ?_; exact rfl)) | (apply Tp.gives_run; (simp [go_sem, hC, hF, h102]; exact rfl); (refine Tp.given_ty ?_ k102 (Below.refl _ _); exact rfl))
                 intro wqz bqz
                 first | refine Tp.fin_is rfl rfl rfl ?_ | refine Tp.fin_ty rfl rfl rfl (fun y87 q87 => ?_)
                 first | refine Tp.fin_is rfl rfl rfl ?_ | refine Tp.fin_ty rfl rfl rfl (fun y88 q88 => ?_)
                 first | refine Tp.fin_is rfl rfl rfl ?_ | refine Tp.fin_ty rfl rfl rfl (fun y89 q89 => ?_)
                 first | refine Tp.fin_is rfl rfl rfl ?_ | refine Tp.fin_ty rfl rfl rfl (fun y90 q90 => ?_)
                 first | refine Tp.fin_is rfl rfl rfl ?_ | refine Tp.fin_ty rfl rfl rfl (fun y91 q91 => ?_)
                 first | refine Tp.fin_is rfl rfl rfl ?_ | refine Tp.fin_ty rfl rfl rfl (fun y92 q92 => ?_)
                 first | refine Tp.fin_is rfl rfl rfl ?_ | refine Tp.fin_ty rfl rfl rfl (fun y93 q93 => ?_)
                 first | refine Tp.fin_is rfl rfl rfl ?_ | refine Tp.fin_ty rfl rfl rfl (fun y94 q94 => ?_)
                 first | refine Tp.fin_is rfl rfl rfl ?_ | refine Tp.fin_ty rfl rfl rfl (fun y95 q95 => ?_)
                 first | refine Tp.fin_is rfl rfl rfl ?_ | refine Tp.fin_ty rfl rfl rfl (fun y96 q96 => ?_)
                 first | refine Tp.fin_is rfl rfl rfl ?_ | refine Tp.fin_ty rfl rfl rfl (fun y97 q97 => ?_)
                 first | refine Tp.fin_is rfl rfl rfl ?_ | refine Tp.fin_ty rfl rfl rfl (fun y98 q98 => ?_)
                 first | refine Tp.fin_is rfl rfl rfl ?_ | refine Tp.fin_ty rfl rfl rfl (fun y99 q99 => ?_)
                 first | refine Tp.fin_is rfl rfl rfl ?_ | refine Tp.fin_ty rfl rfl rfl (fun y100 q100 => ?_)
                 first | refine Tp.fin_is rfl rfl rfl ?_ | refine Tp.fin_ty rfl rfl rfl (fun y101 q101 => ?_)
                 first | refine Tp.fin_is rfl rfl rfl ?_ | refine Tp.fin_ty rfl rfl rfl (fun y102 q102 => ?_)
                 first | refine Tp.fin_is rfl rfl rfl ?_ | refine Tp.fin_ty rfl rfl rfl (fun y6 q6 => ?_)
                 refine Tp.fin_nil ?_
                 simp only [Act.put, List.setIfInBounds_toArray, List.set_cons_succ, List.set_cons_zero, List.drop_succ_cons, List.drop_zero, List.drop_nil]
                 have BZ := UP8 _ bqz
                 cases SM
                 · go_wp2_with fail
                   rw [← HQ.out]
                   exact ⟨rfl, BZ⟩
                 · go_wp2_with fail
                   rw [← HQ.out]
                   exact ⟨rfl, BZ⟩)
            · by_cases hkn : k < N1
              · have hkx : k < x.path.length := by rw [E3.out]; exact hkn
                obtain ⟨hky, hst⟩ := Rt.alike_step x y k hB.out.symm hkx
                have HST := Lib.hid hst
                have sx := AX.out.strs HX4.out
                have sy := AY.out.strs HY4.out
                obtain ⟨bx, ox, rfl, lbx⟩ := sx.at_ k (by have := sx.len; omega)
                obtain ⟨by_, oy, rfl, lby⟩ := sy.at_ k (by have := sy.len; omega)
                have kcx := sx.cell bx ox rfl k (by have := sx.len; omega)
                have kcy := sy.cell by_ oy rfl k (by have := sy.len; omega)
                have hk2 := hky
                rw [E4.out] at hk2
                have q0 : (0 : Int) ≤ (k : Int) := Int.natCast_nonneg _
                have q1 : (k : Int) < (N1 : Int) := by omega
                have q2 := Int.ofNat_lt.2 hk2
                have hbig := sx.big
                clear sx sy hst
                have hbz := Rt.beqL (x.path.getD k ByteArray.empty) (y.path.getD k ByteArray.empty)
                generalize x.path.getD k ByteArray.empty = S1 at *
                generalize y.path.getD k ByteArray.empty = S2 at *
                obtain ⟨EB, hEB⟩ : ∃ b, (S1 == S2) = b := ⟨_, rfl⟩
                rw [hEB] at hbz HST
                go_wp2_with fail
                go_region
                go_wp2_with fail
                go_roundw
                case rel => exact ⟨k + 1, EB, by omega, by simp, rfl, HST.out.symm, AX.out.keep (Below.refl _ _).drew, AY.out.keep (Below.refl _ _).drew, BQ.out.drew⟩
                case measure => simp [Go.RowKit.intOf]; omega
              · have h14 := T1.out
                rw [← Rt.alike_end x y k (by rw [E3.out]; omega), ← hB.out] at h14
                have q1 : ¬ (k : Int) < (N1 : Int) := by omega
                first
                | (exfalso; revert h14; decide)
                | (clear h14
                   go_wp2_with fail
                   have UP8 := fun u (hu : Below _ _ u) => BQ.out.trans (hu.mono BQ.out.size)
                   refine Tp.region_ex (by kernel_rfl) 17 103 [[(9, none)], [(87, some 0)], [(10, none), (88, some 1)], [(88, some 1), (89, some 2)], [(11, none)], [(91, some 4)], [(90, some 3), (92, some 5)], [(93, some 6)], [(7, none), (94, some 7)], [(8, none), (94, some 7)], [(95, some 8), (96, some 9), (94, some 7)], [(7, none), (94, some 7)], [(8, none), (94, some 7)], [(98, some 11), (99, some 12), (94, some 7)], [(97, some 10), (100, some 13), (94, some 7)], [(94, some 7), (101, some 14)], [(102, some 15)]] (by kernel_rfl) rfl ?_
                   apply Exists.intro [_, _, _, _, _, _, _, _, _, _, _, _, _, _, _, _, _]
                   refine ⟨⟨?_, ?_, ?_, ?_, ?_, ?_, ?_, ?_, ?_, ?_, ?_, ?_, ?_, ?_, ?_, ?_, ?_, trivial⟩, ?_⟩
                   · intro A u hC hG hF hu hR; clear hG
                     refine Tp.facts_old (fun h9 => ?_) rfl; conv at h9 => rhs; whnf
                     refine Tp.facts_nil ?_
                     refine Tp.wants_plain rfl ?_
                     (apply Tp.gives_run; (simp [go_sem, hC, hF, hu, h9]; exact rfl); (refine Tp.given_is ?_; exact rfl))
                   · intro A u hC hG hF hu hR; clear hG
                     first | refine Tp.facts_is rfl (fun h87 => ?_) | refine Tp.facts_ty rfl (fun v87 h87 k87 => ?_)
                     refine Tp.facts_nil ?_
                     refine Tp.wants_plain rfl ?_
                     first | (apply Tp.gives_run; (simp [go_sem, hC, hF, hu, h87]; exact rfl); (refine Tp.given_is ?_; exact rfl)) | (apply Tp.gives_run; (simp [go_sem, hC, hF, h87]; exact rfl); (refine Tp.given_ty ?_ k87 (Below.refl _ _); exact rfl))
                   · intro A u hC hG hF hu hR; clear hG
                     refine Tp.facts_old (fun h10 => ?_) rfl; conv at h10 => rhs; whnf
                     first | refine Tp.facts_is rfl (fun h88 => ?_) | refine Tp.facts_ty rfl (fun v88 h88 k88 => ?_)
                     refine Tp.facts_nil ?_
                     first
                     | (refine Tp.wants_skip rfl rfl h88 ?_; exact Tp.skip_t rfl)
                     | (refine Tp.wants_go rfl rfl h88 ?_; ((apply Tp.gives_run; (simp [go_sem, hC, hF, hu, h10, h88]; exact rfl); (refine Tp.given_is ?_; exact rfl))))
                   · intro A u hC hG hF hu hR; clear hG
                     first | refine Tp.facts_is rfl (fun h88 => ?_) | refine Tp.facts_ty rfl (fun v88 h88 k88 => ?_)
                     first | refine Tp.facts_is rfl (fun h89 => ?_) | refine Tp.facts_ty rfl (fun v89 h89 k89 => ?_)
                     refine Tp.facts_nil ?_
                     refine Tp.wants_plain rfl ?_
                     (apply Tp.gives_run; (simp [go_sem, hC, hF, hu, h88, h89]; exact rfl); (refine Tp.given_is ?_; exact rfl))
                   · intro A u hC hG hF hu hR; clear hG
                     refine Tp.facts_old (fun h11 => ?_) rfl; conv at h11 => rhs; whnf
                     refine Tp.facts_nil ?_
                     refine Tp.wants_plain rfl ?_
                     (apply Tp.gives_run; (simp [go_sem, hC, hF, hu, h11]; exact rfl); (refine Tp.given_is ?_; exact rfl))
                   · intro A u hC hG hF hu hR; clear hG
                     first | refine Tp.facts_is rfl (fun h91 => ?_) | refine Tp.facts_ty rfl (fun v91 h91 k91 => ?_)
                     refine Tp.facts_nil ?_
                     refine Tp.wants_plain rfl ?_
                     (apply Tp.gives_run; (simp [go_sem, hC, hF, hu, h91]; exact rfl); (refine Tp.given_is ?_; exact rfl))
                   · intro A u hC hG hF hu hR; clear hG
                     first | refine Tp.facts_is rfl (fun h90 => ?_) | refine Tp.facts_ty rfl (fun v90 h90 k90 => ?_)
                     first | refine Tp.facts_is rfl (fun h92 => ?_) | refine Tp.facts_ty rfl (fun v92 h92 k92 => ?_)
                     refine Tp.facts_nil ?_
                     refine Tp.wants_plain rfl ?_
                     (apply Tp.gives_run; (simp [go_sem, hC, hF, hu, h90, h92]; exact rfl); (refine Tp.given_is ?_; exact rfl))
                   · intro A u hC hG hF hu hR; clear hG
                     first | refine Tp.facts_is rfl (fun h93 => ?_) | refine Tp.facts_ty rfl (fun v93 h93 k93 => ?_)
                     refine Tp.facts_nil ?_
                     refine Tp.wants_plain rfl ?_
                     first | (apply Tp.gives_run; (simp [go_sem, hC, hF, hu, h93]; exact rfl); (refine Tp.given_is ?_; exact rfl)) | (apply Tp.gives_run; (simp [go_sem, hC, hF, h93]; exact rfl); (refine Tp.given_ty ?_ k93 (Below.refl _ _); exact rfl))
                   · intro A u hC hG hF hu hR; clear hG
                     refine Tp.facts_old (fun h7 => ?_) rfl; conv at h7 => rhs; whnf
                     first | refine Tp.facts_is rfl (fun h94 => ?_) | refine Tp.facts_ty rfl (fun v94 h94 k94 => ?_)
                     refine Tp.facts_nil ?_
                     first
                     | (refine Tp.wants_skip rfl rfl h94 ?_; exact Tp.skip_t rfl)
                     | (refine Tp.wants_go rfl rfl h94 ?_; (refine Tp.load_var rfl h7 ((AX.out.keep hu).row.whole33 AX.out.size) ?_; exact rfl))
                   · intro A u hC hG hF hu hR; clear hG
                     refine Tp.facts_old (fun h8 => ?_) rfl; conv at h8 => rhs; whnf
                     first | refine Tp.facts_is rfl (fun h94 => ?_) | refine Tp.facts_ty rfl (fun v94 h94 k94 => ?_)
                     refine Tp.facts_nil ?_
                     first
                     | (refine Tp.wants_skip rfl rfl h94 ?_; exact Tp.skip_t rfl)
                     | (refine Tp.wants_go rfl rfl h94 ?_; (refine Tp.load_var rfl h8 ((AY.out.keep hu).row.whole33 AY.out.size) ?_; exact rfl))
                   · intro A u hC hG hF hu hR; clear hG
                     first | refine Tp.facts_is rfl (fun h95 => ?_) | refine Tp.facts_ty rfl (fun v95 h95 k95 => ?_)
                     first | refine Tp.facts_is rfl (fun h96 => ?_) | refine Tp.facts_ty rfl (fun v96 h96 k96 => ?_)
                     first | refine Tp.facts_is rfl (fun h94 => ?_) | refine Tp.facts_ty rfl (fun v94 h94 k94 => ?_)
                     refine Tp.facts_nil ?_
                     first
                     | (refine Tp.wants_skip rfl rfl h94 ?_; exact Tp.skip_t rfl)
                     | (refine Tp.wants_go rfl rfl h94 ?_; ((apply Tp.gives_run; (simp [go_sem, hC, hF, hu, h95, h96, h94]; exact rfl); (refine Tp.given_call ?_ (Rt.says_ret (SXY.out _ _ _ (AX.out.keep hu).val.val (AY.out.keep hu).val.val)); exact rfl))))
                   · intro A u hC hG hF hu hR; clear hG
                     refine Tp.facts_old (fun h7 => ?_) rfl; conv at h7 => rhs; whnf
                     first | refine Tp.facts_is rfl (fun h94 => ?_) | refine Tp.facts_ty rfl (fun v94 h94 k94 => ?_)
                     refine Tp.facts_nil ?_
                     first
                     | (refine Tp.wants_skip rfl rfl h94 ?_; exact Tp.skip_t rfl)
                     | (refine Tp.wants_go rfl rfl h94 ?_; (refine Tp.load_var rfl h7 ((AX.out.keep hu).row.whole33 AX.out.size) ?_; exact rfl))
                   · intro A u hC hG hF hu hR; clear hG
                     refine Tp.facts_old (fun h8 => ?_) rfl; conv at h8 => rhs; whnf
                     first | refine Tp.facts_is rfl (fun h94 => ?_) | refine Tp.facts_ty rfl (fun v94 h94 k94 => ?_)
                     refine Tp.facts_nil ?_
                     first
                     | (refine Tp.wants_skip rfl rfl h94 ?_; exact Tp.skip_t rfl)
                     | (refine Tp.wants_go rfl rfl h94 ?_; (refine Tp.load_var rfl h8 ((AY.out.keep hu).row.whole33 AY.out.size) ?_; exact rfl))
                   · intro A u hC hG hF hu hR; clear hG
                     first | refine Tp.facts_is rfl (fun h98 => ?_) | refine Tp.facts_ty rfl (fun v98 h98 k98 => ?_)
                     first | refine Tp.facts_is rfl (fun h99 => ?_) | refine Tp.facts_ty rfl (fun v99 h99 k99 => ?_)
                     first | refine Tp.facts_is rfl (fun h94 => ?_) | refine Tp.facts_ty rfl (fun v94 h94 k94 => ?_)
                     refine Tp.facts_nil ?_
                     first
                     | (refine Tp.wants_skip rfl rfl h94 ?_; exact Tp.skip_t rfl)
                     | (refine Tp.wants_go rfl rfl h94 ?_; ((apply Tp.gives_run; (simp [go_sem, hC, hF, hu, h98, h99, h94]; exact rfl); (refine Tp.given_call ?_ (Rt.says_ret (SRX.out _ _ _ (AX.out.keep hu).val.val (AY.out.keep hu).val.val)); exact rfl))))
                   · intro A u hC hG hF hu hR; clear hG
                     first | refine Tp.facts_is rfl (fun h97 => ?_) | refine Tp.facts_ty rfl (fun v97 h97 k97 => ?_)
                     first | refine Tp.facts_is rfl (fun h100 => ?_) | refine Tp.facts_ty rfl (fun v100 h100 k100 => ?_)
                     first | refine Tp.facts_is rfl (fun h94 => ?_) | refine Tp.facts_ty rfl (fun v94 h94 k94 => ?_)
                     refine Tp.facts_nil ?_
                     first
                     | (refine Tp.wants_skip rfl rfl h94 ?_; exact Tp.skip_t rfl)
                     | (refine Tp.wants_go rfl rfl h94 ?_; ((apply Tp.gives_run; (simp [go_sem, hC, hF, hu, h97, h100, h94]; exact rfl); (refine Tp.given_is ?_; exact rfl))))
                   · intro A u hC hG hF hu hR; clear hG
                     first | refine Tp.facts_is rfl (fun h94 => ?_) | refine Tp.facts_ty rfl (fun v94 h94 k94 => ?_)
                     first | refine Tp.facts_is rfl (fun h101 => ?_) | refine Tp.facts_ty rfl (fun v101 h101 k101 => ?_)
                     refine Tp.facts_nil ?_
                     refine Tp.wants_plain rfl ?_
                     (apply Tp.gives_run; (simp [go_sem, hC, hF, hu, h94, h101]; exact rfl); (refine Tp.given_is ?_; exact rfl))
                   · intro A u hC hG hF hu hR; clear hG
                     first | refine Tp.facts_is rfl (fun h102 => ?_) | refine Tp.facts_ty rfl (fun v102 h102 k102 => ?_)
                     refine Tp.facts_nil ?_
                     refine Tp.wants_plain rfl ?_
                     first | (apply Tp.gives_run; (simp [go_sem, hC, hF, hu, h102]; exact rfl); (refine Tp.given_is ?_; exact rfl)) | (apply Tp.gives_run; (simp [go_sem, hC, hF, h102]; exact rfl); (refine Tp.given_ty ?_ k102 (Below.refl _ _); exact rfl))
                   intro wqz bqz
                   first | refine Tp.fin_is rfl rfl rfl ?_ | refine Tp.fin_ty rfl rfl rfl (fun y87 q87 => ?_)
                   first | refine Tp.fin_is rfl rfl rfl ?_ | refine Tp.fin_ty rfl rfl rfl (fun y88 q88 => ?_)
                   first | refine Tp.fin_is rfl rfl rfl ?_ | refine Tp.fin_ty rfl rfl rfl (fun y89 q89 => ?_)
                   first | refine Tp.fin_is rfl rfl rfl ?_ | refine Tp.fin_ty rfl rfl rfl (fun y90 q90 => ?_)
                   first | refine Tp.fin_is rfl rfl rfl ?_ | refine Tp.fin_ty rfl rfl rfl (fun y91 q91 => ?_)
                   first | refine Tp.fin_is rfl rfl rfl ?_ | refine Tp.fin_ty rfl rfl rfl (fun y92 q92 => ?_)
                   first | refine Tp.fin_is rfl rfl rfl ?_ | refine Tp.fin_ty rfl rfl rfl (fun y93 q93 => ?_)
                   first | refine Tp.fin_is rfl rfl rfl ?_ | refine Tp.fin_ty rfl rfl rfl (fun y94 q94 => ?_)
                   first | refine Tp.fin_is rfl rfl rfl ?_ | refine Tp.fin_ty rfl rfl rfl (fun y95 q95 => ?_)
                   first | refine Tp.fin_is rfl rfl rfl ?_ | refine Tp.fin_ty rfl rfl rfl (fun y96 q96 => ?_)
                   first | refine Tp.fin_is rfl rfl rfl ?_ | refine Tp.fin_ty rfl rfl rfl (fun y97 q97 => ?_)
                   first | refine Tp.fin_is rfl rfl rfl ?_ | refine Tp.fin_ty rfl rfl rfl (fun y98 q98 => ?_)
                   first | refine Tp.fin_is rfl rfl rfl ?_ | refine Tp.fin_ty rfl rfl rfl (fun y99 q99 => ?_)
                   first | refine Tp.fin_is rfl rfl rfl ?_ | refine Tp.fin_ty rfl rfl rfl (fun y100 q100 => ?_)
                   first | refine Tp.fin_is rfl rfl rfl ?_ | refine Tp.fin_ty rfl rfl rfl (fun y101 q101 => ?_)
                   first | refine Tp.fin_is rfl rfl rfl ?_ | refine Tp.fin_ty rfl rfl rfl (fun y102 q102 => ?_)
                   first | refine Tp.fin_is rfl rfl rfl ?_ | refine Tp.fin_ty rfl rfl rfl (fun y6 q6 => ?_)
                   refine Tp.fin_nil ?_
                   simp only [Act.put, List.setIfInBounds_toArray, List.set_cons_succ, List.set_cons_zero, List.drop_succ_cons, List.drop_zero, List.drop_nil]
                   have BZ := UP8 _ bqz
                   cases SM
                   · go_wp2_with fail
                     rw [← HQ.out]
                     exact ⟨rfl, BZ⟩
                   · go_wp2_with fail
                     rw [← HQ.out]
                     exact ⟨rfl, BZ⟩)
        · have hB0 : Hid (false = Rt.alike x y 0) := Lib.hid (by rw [HB0.out]; simp [hln])
          have hln2 : ¬ (N1 : Int) = (N2 : Int) := by omega
          go_wp2_with (first | (have _t := AX; (with_reducible refine Rt.load_at 33 (x := .tmp 7) ?_ ⟨g7, 0, none⟩ ?_ ?_ (AX.out.row.whole33 AX.out.size) ?_); (with_reducible exact rfl); (exact rfl); (exact rfl); clear _t) | (have _t := AY; (with_reducible refine Rt.load_at 33 (x := .tmp 8) ?_ ⟨g8, 0, none⟩ ?_ ?_ (AY.out.row.whole33 AY.out.size) ?_); (with_reducible exact rfl); (exact rfl); (exact rfl); clear _t) | (go_at_call 21; (with_reducible refine (RXY.out _ _ _ AX.out.val.val AY.out.val.val (Utf8Tabs_below hT BQ.out)).mono ?_); rintro e w9 ⟨rfl, hb⟩; (replace AX := Lib.hid (AX.out.keep hb); replace AY := Lib.hid (AY.out.keep hb); replace BQ := Lib.hid (BQ.out.trans ((hb).mono BQ.out.size)); clear xco yco kx4 ky4 hb; have xco := AX.out.row.cell 5 HX5.out; have yco := AY.out.row.cell 5 HY5.out; have kx4 := AX.out.row.cell 4 HX4.out; have ky4 := AY.out.row.cell 4 HY4.out)) | (go_at_call 21; (with_reducible refine (RYX.out _ _ _ AY.out.val.val AX.out.val.val (Utf8Tabs_below hT BQ.out)).mono ?_); rintro e w9 ⟨rfl, hb⟩; (replace AX := Lib.hid (AX.out.keep hb); replace AY := Lib.hid (AY.out.keep hb); replace BQ := Lib.hid (BQ.out.trans ((hb).mono BQ.out.size)); clear xco yco kx4 ky4 hb; have xco := AX.out.row.cell 5 HX5.out; have yco := AY.out.row.cell 5 HY5.out; have kx4 := AX.out.row.cell 4 HX4.out; have ky4 := AY.out.row.cell 4 HY4.out)) | (go_at_call 20; (with_reducible refine (HXX.out _ _ _ AX.out.val.val AX.out.val.val (Utf8Tabs_below hT BQ.out)).mono ?_); rintro e w9 ⟨rfl, hb⟩; (replace AX := Lib.hid (AX.out.keep hb); replace AY := Lib.hid (AY.out.keep hb); replace BQ := Lib.hid (BQ.out.trans ((hb).mono BQ.out.size)); clear xco yco kx4 ky4 hb; have xco := AX.out.row.cell 5 HX5.out; have yco := AY.out.row.cell 5 HY5.out; have kx4 := AX.out.row.cell 4 HX4.out; have ky4 := AY.out.row.cell 4 HY4.out)))
          clear kx4 ky4 xco yco
          go_loopw [11, 12] (fun b i wr => ∃ (k : Nat) (B : Bool), k ≤ N1 ∧ i = .int .i64 (k : Int) ∧ b = .bool B ∧ B = Rt.alike x y k ∧ Rt.AtN wr g7 x cx ∧ Rt.AtN wr g8 y dy ∧ Below w.heap.size w wr) (fun _ i _ => N1 - (Go.RowKit.intOf i).toNat)
          case atStart => exact ⟨0, _, Nat.zero_le _, rfl, rfl, (by first | exact hB0.out | (rw [← hB0.out]; exact beq_false_of_ne (by omega))), AX.out, AY.out, BQ.out⟩
          case round =>
            obtain ⟨k, B, hk, rfl, rfl, hBB, hx', hy', hbq⟩ := hrel
            have hB := Lib.hid hBB
            clear hBB
            have AX := Lib.hid hx'
            have AY := Lib.hid hy'
            have BQ := Lib.hid hbq
            clear hx' hy' hbq hB0
            have kx4 := AX.out.row.cell 4 HX4.out
            have ky4 := AY.out.row.cell 4 HY4.out
            cases B
            · have h14 := T1.out
              rw [Rt.alike_false x y k hB.out.symm] at h14
              first
              | (exfalso; revert h14; decide)
              | (clear h14
                 go_wp2_with fail
                 have UP8 := fun u (hu : Below _ _ u) => BQ.out.trans (hu.mono BQ.out.size)
                 refine Tp.region_ex (by kernel_rfl) 17 103 [[(9, none)], [(87, some 0)], [(10, none), (88, some 1)], [(88, some 1), (89, some 2)], [(11, none)], [(91, some 4)], [(90, some 3), (92, some 5)], [(93, some 6)], [(7, none), (94, some 7)], [(8, none), (94, some 7)], [(95, some 8), (96, some 9), (94, some 7)], [(7, none), (94, some 7)], [(8, none), (94, some 7)], [(98, some 11), (99, some 12), (94, some 7)], [(97, some 10), (100, some 13), (94, some 7)], [(94, some 7), (101, some 14)], [(102, some 15)]] (by kernel_rfl) rfl ?_
                 apply Exists.intro [_, _, _, _, _, _, _, _, _, _, _, _, _, _, _, _, _]
                 refine ⟨⟨?_, ?_, ?_, ?_, ?_, ?_, ?_, ?_, ?_, ?_, ?_, ?_, ?_, ?_, ?_, ?_, ?_, trivial⟩, ?_⟩
                 · intro A u hC hG hF hu hR; clear hG
                   refine Tp.facts_old (fun h9 => ?_) rfl; conv at h9 => rhs; whnf
                   refine Tp.facts_nil ?_
                   refine Tp.wants_plain rfl ?_
                   (apply Tp.gives_run; (simp [go_sem, hC, hF, hu, h9]; exact rfl); (refine Tp.given_is ?_; exact rfl))
                 · intro A u hC hG hF hu hR; clear hG
                   first | refine Tp.facts_is rfl (fun h87 => ?_) | refine Tp.facts_ty rfl (fun v87 h87 k87 => ?_)
                   refine Tp.facts_nil ?_
                   refine Tp.wants_plain rfl ?_
                   first | (apply Tp.gives_run; (simp [go_sem, hC, hF, hu, h87]; exact rfl); (refine Tp.given_is ?_; exact rfl)) | (apply Tp.gives_run; (simp [go_sem, hC, hF, h87]; exact rfl); (refine Tp.given_ty ?_ k87 (Below.refl _ _); exact rfl))
                 · intro A u hC hG hF hu hR; clear hG
                   refine Tp.facts_old (fun h10 => ?_) rfl; conv at h10 => rhs; whnf
                   first | refine Tp.facts_is rfl (fun h88 => ?_) | refine Tp.facts_ty rfl (fun v88 h88 k88 => ?_)
                   refine Tp.facts_nil ?_
                   first
                   | (refine Tp.wants_skip rfl rfl h88 ?_; exact Tp.skip_t rfl)
                   | (refine Tp.wants_go rfl rfl h88 ?_; ((apply Tp.gives_run; (simp [go_sem, hC, hF, hu, h10, h88]; exact rfl); (refine Tp.given_is ?_; exact rfl))))
                 · intro A u hC hG hF hu hR; clear hG
                   first | refine Tp.facts_is rfl (fun h88 => ?_) | refine Tp.facts_ty rfl (fun v88 h88 k88 => ?_)
                   first | refine Tp.facts_is rfl (fun h89 => ?_) | refine Tp.facts_ty rfl (fun v89 h89 k89 => ?_)
                   refine Tp.facts_nil ?_
                   refine Tp.wants_plain rfl ?_
                   (apply Tp.gives_run; (simp [go_sem, hC, hF, hu, h88, h89]; exact rfl); (refine Tp.given_is ?_; exact rfl))
                 · intro A u hC hG hF hu hR; clear hG
                   refine Tp.facts_old (fun h11 => ?_) rfl; conv at h11 => rhs; whnf
                   refine Tp.facts_nil ?_
                   refine Tp.wants_plain rfl ?_
                   (apply Tp.gives_run; (simp [go_sem, hC, hF, hu, h11]; exact rfl); (refine Tp.given_is ?_; exact rfl))
                 · intro A u hC hG hF hu hR; clear hG
                   first | refine Tp.facts_is rfl (fun h91 => ?_) | refine Tp.facts_ty rfl (fun v91 h91 k91 => ?_)
                   refine Tp.facts_nil ?_
                   refine Tp.wants_plain rfl ?_
                   (apply Tp.gives_run; (simp [go_sem, hC, hF, hu, h91]; exact rfl); (refine Tp.given_is ?_; exact rfl))
                 · intro A u hC hG hF hu hR; clear hG
                   first | refine Tp.facts_is rfl (fun h90 => ?_) | refine Tp.facts_ty rfl (fun v90 h90 k90 => ?_)
                   first | refine Tp.facts_is rfl (fun h92 => ?_) | refine Tp.facts_ty rfl (fun v92 h92 k92 => ?_)
                   refine Tp.facts_nil ?_
                   refine Tp.wants_plain rfl ?_
                   (apply Tp.gives_run; (simp [go_sem, hC, hF, hu, h90, h92]; exact rfl); (refine Tp.given_is ?_; exact rfl))
                 · intro A u hC hG hF hu hR; clear hG
                   first | refine Tp.facts_is rfl (fun h93 => ?_) | refine Tp.facts_ty rfl (fun v93 h93 k93 => ?_)
                   refine Tp.facts_nil ?_
                   refine Tp.wants_plain rfl ?_
                   first | (apply Tp.gives_run; (simp [go_sem, hC, hF, hu, h93]; exact rfl); (refine Tp.given_is ?_; exact rfl)) | (apply Tp.gives_run; (simp [go_sem, hC, hF, h93]; exact rfl); (refine Tp.given_ty ?_ k93 (Below.refl _ _); exact rfl))
                 · intro A u hC hG hF hu hR; clear hG
                   refine Tp.facts_old (fun h7 => ?_) rfl; conv at h7 => rhs; whnf
                   first | refine Tp.facts_is rfl (fun h94 => ?_) | refine Tp.facts_ty rfl (fun v94 h94 k94 => ?_)
                   refine Tp.facts_nil ?_
                   first
                   | (refine Tp.wants_skip rfl rfl h94 ?_; exact Tp.skip_t rfl)
                   | (refine Tp.wants_go rfl rfl h94 ?_; (refine Tp.load_var rfl h7 ((AX.out.keep hu).row.whole33 AX.out.size) ?_; exact rfl))
                 · intro A u hC hG hF hu hR; clear hG
                   refine Tp.facts_old (fun h8 => ?_) rfl; conv at h8 => rhs; whnf
                   first | refine Tp.facts_is rfl (fun h94 => ?_) | refine Tp.facts_ty rfl (fun v94 h94 k94 => ?_)
                   refine Tp.facts_nil ?_
                   first
                   | (refine Tp.wants_skip rfl rfl h94 ?_; exact Tp.skip_t rfl)
                   | (refine Tp.wants_go rfl rfl h94 ?_; (refine Tp.load_var rfl h8 ((AY.out.keep hu).row.whole33 AY.out.size) ?_; exact rfl))
                 · intro A u hC hG hF hu hR; clear hG
                   first | refine Tp.facts_is rfl (fun h95 => ?_) | refine Tp.facts_ty rfl (fun v95 h95 k95 => ?_)
                   first | refine Tp.facts_is rfl (fun h96 => ?_) | refine Tp.facts_ty rfl (fun v96 h96 k96 => ?_)
                   first | refine Tp.facts_is rfl (fun h94 => ?_) | refine Tp.facts_ty rfl (fun v94 h94 k94 => ?_)
                   refine Tp.facts_nil ?_
                   first
                   | (refine Tp.wants_skip rfl rfl h94 ?_; exact Tp.skip_t rfl)
                   | (refine Tp.wants_go rfl rfl h94 ?_; ((apply Tp.gives_run; (simp [go_sem, hC, hF, hu, h95, h96, h94]; exact rfl); (refine Tp.given_call ?_ (Rt.says_ret (SXY.out _ _ _ (AX.out.keep hu).val.val (AY.out.keep hu).val.val)); exact rfl))))
                 · intro A u hC hG hF hu hR; clear hG
                   refine Tp.facts_old (fun h7 => ?_) rfl; conv at h7 => rhs; whnf
                   first | refine Tp.facts_is rfl (fun h94 => ?_) | refine Tp.facts_ty rfl (fun v94 h94 k94 => ?_)
                   refine Tp.facts_nil ?_
                   first
                   | (refine Tp.wants_skip rfl rfl h94 ?_; exact Tp.skip_t rfl)
                   | (refine Tp.wants_go rfl rfl h94 ?_; (refine Tp.load_var rfl h7 ((AX.out.keep hu).row.whole33 AX.out.size) ?_; exact rfl))
                 · intro A u hC hG hF hu hR; clear hG
                   refine Tp.facts_old (fun h8 => ?_) rfl; conv at h8 => rhs; whnf
                   first | refine Tp.facts_is rfl (fun h94 => ?_) | refine Tp.facts_ty rfl (fun v94 h94 k94 => ?_)
                   refine Tp.facts_nil ?_
                   first
                   | (refine Tp.wants_skip rfl rfl h94 ?_; exact Tp.skip_t rfl)
                   | (refine Tp.wants_go rfl rfl h94 ?_; (refine Tp.load_var rfl h8 ((AY.out.keep hu).row.whole33 AY.out.size) ?_; exact rfl))
                 · intro A u hC hG hF hu hR; clear hG
                   first | refine Tp.facts_is rfl (fun h98 => ?_) | refine Tp.facts_ty rfl (fun v98 h98 k98 => ?_)
                   first | refine Tp.facts_is rfl (fun h99 => ?_) | refine Tp.facts_ty rfl (fun v99 h99 k99 => ?_)
                   first | refine Tp.facts_is rfl (fun h94 => ?_) | refine Tp.facts_ty rfl (fun v94 h94 k94 => ?_)
                   refine Tp.facts_nil ?_
                   first
                   | (refine Tp.wants_skip rfl rfl h94 ?_; exact Tp.skip_t rfl)
                   | (refine Tp.wants_go rfl rfl h94 ?_; ((apply Tp.gives_run; (simp [go_sem, hC, hF, hu, h98, h99, h94]; exact rfl); (refine Tp.given_call ?_ (Rt.says_ret (SRX.out _ _ _ (AX.out.keep hu).val.val (AY.out.keep hu).val.val)); exact rfl))))
                 · intro A u hC hG hF hu hR; clear hG
                   first | refine Tp.facts_is rfl (fun h97 => ?_) | refine Tp.facts_ty rfl (fun v97 h97 k97 => ?_)
                   first | refine Tp.facts_is rfl (fun h100 => ?_) | refine Tp.facts_ty rfl (fun v100 h100 k100 => ?_)
                   first | refine Tp.facts_is rfl (fun h94 => ?_) | refine Tp.facts_ty rfl (fun v94 h94 k94 => ?_)
                   refine Tp.facts_nil ?_
                   first
                   | (refine Tp.wants_skip rfl rfl h94 ?_; exact Tp.skip_t rfl)
                   | (refine Tp.wants_go rfl rfl h94 ?_; ((apply Tp.gives_run; (simp [go_sem, hC, hF, hu, h97, h100, h94]; exact rfl); (refine Tp.given_is ?_; exact rfl))))
                 · intro A u hC hG hF hu hR; clear hG
                   first | refine Tp.facts_is rfl (fun h94 => ?_) | refine Tp.facts_ty rfl (fun v94 h94 k94 => ?_)
                   first | refine Tp.facts_is rfl (fun h101 => ?_) | refine Tp.facts_ty rfl (fun v101 h101 k101 => ?_)
                   refine Tp.facts_nil ?_
                   refine Tp.wants_plain rfl ?_
                   (apply Tp.gives_run; (simp [go_sem, hC, hF, hu, h94, h101]; exact rfl); (refine Tp.given_is ?_; exact rfl))
                 · intro A u hC hG hF hu hR; clear hG
                   first | refine Tp.facts_is rfl (fun h102 => ?_) | refine Tp.facts_ty rfl (fun v102 h102 k102 => ?_)
                   refine Tp.facts_nil ?_
                   refine Tp.wants_plain rfl ?_
                   first | (apply Tp.gives_run; (simp [go_sem, hC, hF, hu, h102]; exact rfl); (refine Tp.given_is ?_; exact rfl)) | (apply Tp.gives_run; (simp [go_sem, hC, hF, h102]; exact rfl); (refine Tp.given_ty ?_ k102 (Below.refl _ _); exact rfl))
                 intro wqz bqz
                 first | refine Tp.fin_is rfl rfl rfl ?_ | refine Tp.fin_ty rfl rfl rfl (fun y87 q87 => ?_)
                 first | refine Tp.fin_is rfl rfl rfl ?_ | refine Tp.fin_ty rfl rfl rfl (fun y88 q88 => ?_)
                 first | refine Tp.fin_is rfl rfl rfl ?_ | refine Tp.fin_ty rfl rfl rfl (fun y89 q89 => ?_)
                 first | refine Tp.fin_is rfl rfl rfl ?_ | refine Tp.fin_ty rfl rfl rfl (fun y90 q90 => ?_)
                 first | refine Tp.fin_is rfl rfl rfl ?_ | refine Tp.fin_ty rfl rfl rfl (fun y91 q91 => ?_)
                 first | refine Tp.fin_is rfl rfl rfl ?_ | refine Tp.fin_ty rfl rfl rfl (fun y92 q92 => ?_)
                 first | refine Tp.fin_is rfl rfl rfl ?_ | refine Tp.fin_ty rfl rfl rfl (fun y93 q93 => ?_)
                 first | refine Tp.fin_is rfl rfl rfl ?_ | refine Tp.fin_ty rfl rfl rfl (fun y94 q94 => ?_)
                 first | refine Tp.fin_is rfl rfl rfl ?_ | refine Tp.fin_ty rfl rfl rfl (fun y95 q95 => ?_)
                 first | refine Tp.fin_is rfl rfl rfl ?_ | refine Tp.fin_ty rfl rfl rfl (fun y96 q96 => ?_)
                 first | refine Tp.fin_is rfl rfl rfl ?_ | refine Tp.fin_ty rfl rfl rfl (fun y97 q97 => ?_)
                 first | refine Tp.fin_is rfl rfl rfl ?_ | refine Tp.fin_ty rfl rfl rfl (fun y98 q98 => ?_)
                 first | refine Tp.fin_is rfl rfl rfl ?_ | refine Tp.fin_ty rfl rfl rfl (fun y99 q99 => ?_)
                 first | refine Tp.fin_is rfl rfl rfl ?_ | refine Tp.fin_ty rfl rfl rfl (fun y100 q100 => ?_)
                 first | refine Tp.fin_is rfl rfl rfl ?_ | refine Tp.fin_ty rfl rfl rfl (fun y101 q101 => ?_)
                 first | refine Tp.fin_is rfl rfl rfl ?_ | refine Tp.fin_ty rfl rfl rfl (fun y102 q102 => ?_)
                 first | refine Tp.fin_is rfl rfl rfl ?_ | refine Tp.fin_ty rfl rfl rfl (fun y6 q6 => ?_)
                 refine Tp.fin_nil ?_
                 simp only [Act.put, List.setIfInBounds_toArray, List.set_cons_succ, List.set_cons_zero, List.drop_succ_cons, List.drop_zero, List.drop_nil]
                 have BZ := UP8 _ bqz
                 cases SM
                 · go_wp2_with fail
                   rw [← HQ.out]
                   exact ⟨rfl, BZ⟩
                 · go_wp2_with fail
                   rw [← HQ.out]
                   exact ⟨rfl, BZ⟩)
            · by_cases hkn : k < N1
              · have hkx : k < x.path.length := by rw [E3.out]; exact hkn
                obtain ⟨hky, hst⟩ := Rt.alike_step x y k hB.out.symm hkx
                have HST := Lib.hid hst
                have sx := AX.out.strs HX4.out
                have sy := AY.out.strs HY4.out
                obtain ⟨bx, ox, rfl, lbx⟩ := sx.at_ k (by have := sx.len; omega)
                obtain ⟨by_, oy, rfl, lby⟩ := sy.at_ k (by have := sy.len; omega)
                have kcx := sx.cell bx ox rfl k (by have := sx.len; omega)
                have kcy := sy.cell by_ oy rfl k (by have := sy.len; omega)
                have hk2 := hky
                rw [E4.out] at hk2
                have q0 : (0 : Int) ≤ (k : Int) := Int.natCast_nonneg _
                have q1 : (k : Int) < (N1 : Int) := by omega
                have q2 := Int.ofNat_lt.2 hk2
                have hbig := sx.big
                clear sx sy hst
                have hbz := Rt.beqL (x.path.getD k ByteArray.empty) (y.path.getD k ByteArray.empty)
                generalize x.path.getD k ByteArray.empty = S1 at *
                generalize y.path.getD k ByteArray.empty = S2 at *
                obtain ⟨EB, hEB⟩ : ∃ b, (S1 == S2) = b := ⟨_, rfl⟩
                rw [hEB] at hbz HST
                go_wp2_with fail
                go_region
                go_wp2_with fail
                go_roundw
                case rel => exact ⟨k + 1, EB, by omega, by simp, rfl, HST.out.symm, AX.out.keep (Below.refl _ _).drew, AY.out.keep (Below.refl _ _).drew, BQ.out.drew⟩
                case measure => simp [Go.RowKit.intOf]; omega
              · have h14 := T1.out
                rw [← Rt.alike_end x y k (by rw [E3.out]; omega), ← hB.out] at h14
                have q1 : ¬ (k : Int) < (N1 : Int) := by omega
                first
                | (exfalso; revert h14; decide)
                | (clear h14
                   go_wp2_with fail
                   have UP8 := fun u (hu : Below _ _ u) => BQ.out.trans (hu.mono BQ.out.size)
                   refine Tp.region_ex (by kernel_rfl) 17 103 [[(9, none)], [(87, some 0)], [(10, none), (88, some 1)], [(88, some 1), (89, some 2)], [(11, none)], [(91, some 4)], [(90, some 3), (92, some 5)], [(93, some 6)], [(7, none), (94, some 7)], [(8, none), (94, some 7)], [(95, some 8), (96, some 9), (94, some 7)], [(7, none), (94, some 7)], [(8, none), (94, some 7)], [(98, some 11), (99, some 12), (94, some 7)], [(97, some 10), (100, some 13), (94, some 7)], [(94, some 7), (101, some 14)], [(102, some 15)]] (by kernel_rfl) rfl ?_
                   apply Exists.intro [_, _, _, _, _, _, _, _, _, _, _, _, _, _, _, _, _]
                   refine ⟨⟨?_, ?_, ?_, ?_, ?_, ?_, ?_, ?_, ?_, ?_, ?_, ?_, ?_, ?_, ?_, ?_, ?_, trivial⟩, ?_⟩
                   · intro A u hC hG hF hu hR; clear hG
                     refine Tp.facts_old (fun h9 => ?_) rfl; conv at h9 => rhs; whnf
                     refine Tp.facts_nil ?_
                     refine Tp.wants_plain rfl ?_
                     (apply Tp.gives_run; (simp [go_sem, hC, hF, hu, h9]; exact rfl); (refine Tp.given_is ?_; exact rfl))
                   · intro A u hC hG hF hu hR; clear hG
                     first | refine Tp.facts_is rfl (fun h87 => ?_) | refine Tp.facts_ty rfl (fun v87 h87 k87 => ?_)
                     refine Tp.facts_nil ?_
                     refine Tp.wants_plain rfl ?_
                     first | (apply Tp.gives_run; (simp [go_sem, hC, hF, hu, h87]; exact rfl); (refine Tp.given_is ?_; exact rfl)) | (apply Tp.gives_run; (simp [go_sem, hC, hF, h87]; exact rfl); (refine Tp.given_ty ?_ k87 (Below.refl _ _); exact rfl))
                   · intro A u hC hG hF hu hR; clear hG
                     refine Tp.facts_old (fun h10 => ?_) rfl; conv at h10 => rhs; whnf
                     first | refine Tp.facts_is rfl (fun h88 => ?_) | refine Tp.facts_ty rfl (fun v88 h88 k88 => ?_)
                     refine Tp.facts_nil ?_
                     first
                     | (refine Tp.wants_skip rfl rfl h88 ?_; exact Tp.skip_t rfl)
                     | (refine Tp.wants_go rfl rfl h88 ?_; ((apply Tp.gives_run; (simp [go_sem, hC, hF, hu, h10, h88]; exact rfl); (refine Tp.given_is ?_; exact rfl))))
                   · intro A u hC hG hF hu hR; clear hG
                     first | refine Tp.facts_is rfl (fun h88 => ?_) | refine Tp.facts_ty rfl (fun v88 h88 k88 => ?_)
                     first | refine Tp.facts_is rfl (fun h89 => ?_) | refine Tp.facts_ty rfl (fun v89 h89 k89 => ?_)
                     refine Tp.facts_nil ?_
                     refine Tp.wants_plain rfl ?_
                     (apply Tp.gives_run; (simp [go_sem, hC, hF, hu, h88, h89]; exact rfl); (refine Tp.given_is ?_; exact rfl))
                   · intro A u hC hG hF hu hR; clear hG
                     refine Tp.facts_old (fun h11 => ?_) rfl; conv at h11 => rhs; whnf
                     refine Tp.facts_nil ?_
                     refine Tp.wants_plain rfl ?_
                     (apply Tp.gives_run; (simp [go_sem, hC, hF, hu, h11]; exact rfl); (refine Tp.given_is ?_; exact rfl))
                   · intro A u hC hG hF hu hR; clear hG
                     first | refine Tp.facts_is rfl (fun h91 => ?_) | refine Tp.facts_ty rfl (fun v91 h91 k91 => ?_)
                     refine Tp.facts_nil ?_
                     refine Tp.wants_plain rfl ?_
                     (apply Tp.gives_run; (simp [go_sem, hC, hF, hu, h91]; exact rfl); (refine Tp.given_is ?_; exact rfl))
                   · intro A u hC hG hF hu hR; clear hG
                     first | refine Tp.facts_is rfl (fun h90 => ?_) | refine Tp.facts_ty rfl (fun v90 h90 k90 => ?_)
                     first | refine Tp.facts_is rfl (fun h92 => ?_) | refine Tp.facts_ty rfl (fun v92 h92 k92 => ?_)
                     refine Tp.facts_nil ?_
                     refine Tp.wants_plain rfl ?_
                     (apply Tp.gives_run; (simp [go_sem, hC, hF, hu, h90, h92]; exact rfl); (refine Tp.given_is ?_; exact rfl))
                   · intro A u hC hG hF hu hR; clear hG
                     first | refine Tp.facts_is rfl (fun h93 => ?_) | refine Tp.facts_ty rfl (fun v93 h93 k93 => ?_)
                     refine Tp.facts_nil ?_
                     refine Tp.wants_plain rfl ?_
                     first | (apply Tp.gives_run; (simp [go_sem, hC, hF, hu, h93]; exact rfl); (refine Tp.given_is ?_; exact rfl)) | (apply Tp.gives_run; (simp [go_sem, hC, hF, h93]; exact rfl); (refine Tp.given_ty ?_ k93 (Below.refl _ _); exact rfl))
                   · intro A u hC hG hF hu hR; clear hG
                     refine Tp.facts_old (fun h7 => ?_) rfl; conv at h7 => rhs; whnf
                     first | refine Tp.facts_is rfl (fun h94 => ?_) | refine Tp.facts_ty rfl (fun v94 h94 k94 => ?_)
                     refine Tp.facts_nil ?_
                     first
                     | (refine Tp.wants_skip rfl rfl h94 ?_; exact Tp.skip_t rfl)
                     | (refine Tp.wants_go rfl rfl h94 ?_; (refine Tp.load_var rfl h7 ((AX.out.keep hu).row.whole33 AX.out.size) ?_; exact rfl))
                   · intro A u hC hG hF hu hR; clear hG
                     refine Tp.facts_old (fun h8 => ?_) rfl; conv at h8 => rhs; whnf
                     first | refine Tp.facts_is rfl (fun h94 => ?_) | refine Tp.facts_ty rfl (fun v94 h94 k94 => ?_)
                     refine Tp.facts_nil ?_
                     first
                     | (refine Tp.wants_skip rfl rfl h94 ?_; exact Tp.skip_t rfl)
                     | (refine Tp.wants_go rfl rfl h94 ?_; (refine Tp.load_var rfl h8 ((AY.out.keep hu).row.whole33 AY.out.size) ?_; exact rfl))
                   · intro A u hC hG hF hu hR; clear hG
                     first | refine Tp.facts_is rfl (fun h95 => ?_) | refine Tp.facts_ty rfl (fun v95 h95 k95 => ?_)
                     first | refine Tp.facts_is rfl (fun h96 => ?_) | refine Tp.facts_ty rfl (fun v96 h96 k96 => ?_)
                     first | refine Tp.facts_is rfl (fun h94 => ?_) | refine Tp.facts_ty rfl (fun v94 h94 k94 => ?_)
                     refine Tp.facts_nil ?_
                     first
                     | (refine Tp.wants_skip rfl rfl h94 ?_; exact Tp.skip_t rfl)
                     | (refine Tp.wants_go rfl rfl h94 ?_; ((apply Tp.gives_run; (simp [go_sem, hC, hF, hu, h95, h96, h94]; exact rfl); (refine Tp.given_call ?_ (Rt.says_ret (SXY.out _ _ _ (AX.out.keep hu).val.val (AY.out.keep hu).val.val)); exact rfl))))
                   · intro A u hC hG hF hu hR; clear hG
                     refine Tp.facts_old (fun h7 => ?_) rfl; conv at h7 => rhs; whnf
                     first | refine Tp.facts_is rfl (fun h94 => ?_) | refine Tp.facts_ty rfl (fun v94 h94 k94 => ?_)
                     refine Tp.facts_nil ?_
                     first
                     | (refine Tp.wants_skip rfl rfl h94 ?_; exact Tp.skip_t rfl)
                     | (refine Tp.wants_go rfl rfl h94 ?_; (refine Tp.load_var rfl h7 ((AX.out.keep hu).row.whole33 AX.out.size) ?_; exact rfl))
                   · intro A u hC hG hF hu hR; clear hG
                     refine Tp.facts_old (fun h8 => ?_) rfl; conv at h8 => rhs; whnf
                     first | refine Tp.facts_is rfl (fun h94 => ?_) | refine Tp.facts_ty rfl (fun v94 h94 k94 => ?_)
                     refine Tp.facts_nil ?_
                     first
                     | (refine Tp.wants_skip rfl rfl h94 ?_; exact Tp.skip_t rfl)
                     | (refine Tp.wants_go rfl rfl h94 ?_; (refine Tp.load_var rfl h8 ((AY.out.keep hu).row.whole33 AY.out.size) ?_; exact rfl))
                   · intro A u hC hG hF hu hR; clear hG
                     first | refine Tp.facts_is rfl (fun h98 => ?_) | refine Tp.facts_ty rfl (fun v98 h98 k98 => ?_)
                     first | refine Tp.facts_is rfl (fun h99 => ?_) | refine Tp.facts_ty rfl (fun v99 h99 k99 => ?_)
                     first | refine Tp.facts_is rfl (fun h94 => ?_) | refine Tp.facts_ty rfl (fun v94 h94 k94 => ?_)
                     refine Tp.facts_nil ?_
                     first
                     | (refine Tp.wants_skip rfl rfl h94 ?_; exact Tp.skip_t rfl)
                     | (refine Tp.wants_go rfl rfl h94 ?_; ((apply Tp.gives_run; (simp [go_sem, hC, hF, hu, h98, h99, h94]; exact rfl); (refine Tp.given_call ?_ (Rt.says_ret (SRX.out _ _ _ (AX.out.keep hu).val.val (AY.out.keep hu).val.val)); exact rfl))))
                   · intro A u hC hG hF hu hR; clear hG
                     first | refine Tp.facts_is rfl (fun h97 => ?_) | refine Tp.facts_ty rfl (fun v97 h97 k97 => ?_)
                     first | refine Tp.facts_is rfl (fun h100 => ?_) | refine Tp.facts_ty rfl (fun v100 h100 k100 => ?_)
                     first | refine Tp.facts_is rfl (fun h94 => ?_) | refine Tp.facts_ty rfl (fun v94 h94 k94 => ?_)
                     refine Tp.facts_nil ?_
                     first
                     | (refine Tp.wants_skip rfl rfl h94 ?_; exact Tp.skip_t rfl)
                     | (refine Tp.wants_go rfl rfl h94 ?_; ((apply Tp.gives_run; (simp [go_sem, hC, hF, hu, h97, h100, h94]; exact rfl); (refine Tp.given_is ?_; exact rfl))))
                   · intro A u hC hG hF hu hR; clear hG
                     first | refine Tp.facts_is rfl (fun h94 => ?_) | refine Tp.facts_ty rfl (fun v94 h94 k94 => ?_)
                     first | refine Tp.facts_is rfl (fun h101 => ?_) | refine Tp.facts_ty rfl (fun v101 h101 k101 => ?_)
                     refine Tp.facts_nil ?_
                     refine Tp.wants_plain rfl ?_
                     (apply Tp.gives_run; (simp [go_sem, hC, hF, hu, h94, h101]; exact rfl); (refine Tp.given_is ?_; exact rfl))
                   · intro A u hC hG hF hu hR; clear hG
                     first | refine Tp.facts_is rfl (fun h102 => ?_) | refine Tp.facts_ty rfl (fun v102 h102 k102 => ?_)
                     refine Tp.facts_nil ?_
                     refine Tp.wants_plain rfl ?_
                     first | (apply Tp.gives_run; (simp [go_sem, hC, hF, hu, h102]; exact rfl); (refine Tp.given_is ?_; exact rfl)) | (apply Tp.gives_run; (simp [go_sem, hC, hF, h102]; exact rfl); (refine Tp.given_ty ?_ k102 (Below.refl _ _); exact rfl))
                   intro wqz bqz
                   first | refine Tp.fin_is rfl rfl rfl ?_ | refine Tp.fin_ty rfl rfl rfl (fun y87 q87 => ?_)
                   first | refine Tp.fin_is rfl rfl rfl ?_ | refine Tp.fin_ty rfl rfl rfl (fun y88 q88 => ?_)
                   first | refine Tp.fin_is rfl rfl rfl ?_ | refine Tp.fin_ty rfl rfl rfl (fun y89 q89 => ?_)
                   first | refine Tp.fin_is rfl rfl rfl ?_ | refine Tp.fin_ty rfl rfl rfl (fun y90 q90 => ?_)
                   first | refine Tp.fin_is rfl rfl rfl ?_ | refine Tp.fin_ty rfl rfl rfl (fun y91 q91 => ?_)
                   first | refine Tp.fin_is rfl rfl rfl ?_ | refine Tp.fin_ty rfl rfl rfl (fun y92 q92 => ?_)
                   first | refine Tp.fin_is rfl rfl rfl ?_ | refine Tp.fin_ty rfl rfl rfl (fun y93 q93 => ?_)
                   first | refine Tp.fin_is rfl rfl rfl ?_ | refine Tp.fin_ty rfl rfl rfl (fun y94 q94 => ?_)
                   first | refine Tp.fin_is rfl rfl rfl ?_ | refine Tp.fin_ty rfl rfl rfl (fun y95 q95 => ?_)
                   first | refine Tp.fin_is rfl rfl rfl ?_ | refine Tp.fin_ty rfl rfl rfl (fun y96 q96 => ?_)
                   first | refine Tp.fin_is rfl rfl rfl ?_ | refine Tp.fin_ty rfl rfl rfl (fun y97 q97 => ?_)
                   first | refine Tp.fin_is rfl rfl rfl ?_ | refine Tp.fin_ty rfl rfl rfl (fun y98 q98 => ?_)
                   first | refine Tp.fin_is rfl rfl rfl ?_ | refine Tp.fin_ty rfl rfl rfl (fun y99 q99 => ?_)
                   first | refine Tp.fin_is rfl rfl rfl ?_ | refine Tp.fin_ty rfl rfl rfl (fun y100 q100 => ?_)
                   first | refine Tp.fin_is rfl rfl rfl ?_ | refine Tp.fin_ty rfl rfl rfl (fun y101 q101 => ?_)
                   first | refine Tp.fin_is rfl rfl rfl ?_ | refine Tp.fin_ty rfl rfl rfl (fun y102 q102 => ?_)
                   first | refine Tp.fin_is rfl rfl rfl ?_ | refine Tp.fin_ty rfl rfl rfl (fun y6 q6 => ?_)
                   refine Tp.fin_nil ?_
                   simp only [Act.put, List.setIfInBounds_toArray, List.set_cons_succ, List.set_cons_zero, List.drop_succ_cons, List.drop_zero, List.drop_nil]
                   have BZ := UP8 _ bqz
                   cases SM
                   · go_wp2_with fail
                     rw [← HQ.out]
                     exact ⟨rfl, BZ⟩
                   · go_wp2_with fail
                     rw [← HQ.out]
                     exact ⟨rfl, BZ⟩)
      · have hB0 : Hid (false = Rt.alike x y 0) := Lib.hid (by rw [HB0.out]; simp [hco])
        go_wp2_with (first | (have _t := AX; (with_reducible refine Rt.load_at 33 (x := .tmp 7) ?_ ⟨g7, 0, none⟩ ?_ ?_ (AX.out.row.whole33 AX.out.size) ?_); (with_reducible exact rfl); (exact rfl); (exact rfl); clear _t) | (have _t := AY; (with_reducible refine Rt.load_at 33 (x := .tmp 8) ?_ ⟨g8, 0, none⟩ ?_ ?_ (AY.out.row.whole33 AY.out.size) ?_); (with_reducible exact rfl); (exact rfl); (exact rfl); clear _t) | (go_at_call 21; (with_reducible refine (RXY.out _ _ _ AX.out.val.val AY.out.val.val (Utf8Tabs_below hT BQ.out)).mono ?_); rintro e w9 ⟨rfl, hb⟩; (replace AX := Lib.hid (AX.out.keep hb); replace AY := Lib.hid (AY.out.keep hb); replace BQ := Lib.hid (BQ.out.trans ((hb).mono BQ.out.size)); clear xco yco kx4 ky4 hb; have xco := AX.out.row.cell 5 HX5.out; have yco := AY.out.row.cell 5 HY5.out; have kx4 := AX.out.row.cell 4 HX4.out; have ky4 := AY.out.row.cell 4 HY4.out)) | (go_at_call 21; (with_reducible refine (RYX.out _ _ _ AY.out.val.val AX.out.val.val (Utf8Tabs_below hT BQ.out)).mono ?_); rintro e w9 ⟨rfl, hb⟩; (replace AX := Lib.hid (AX.out.keep hb); replace AY := Lib.hid (AY.out.keep hb); replace BQ := Lib.hid (BQ.out.trans ((hb).mono BQ.out.size)); clear xco yco kx4 ky4 hb; have xco := AX.out.row.cell 5 HX5.out; have yco := AY.out.row.cell 5 HY5.out; have kx4 := AX.out.row.cell 4 HX4.out; have ky4 := AY.out.row.cell 4 HY4.out)) | (go_at_call 20; (with_reducible refine (HXX.out _ _ _ AX.out.val.val AX.out.val.val (Utf8Tabs_below hT BQ.out)).mono ?_); rintro e w9 ⟨rfl, hb⟩; (replace AX := Lib.hid (AX.out.keep hb); replace AY := Lib.hid (AY.out.keep hb); replace BQ := Lib.hid (BQ.out.trans ((hb).mono BQ.out.size)); clear xco yco kx4 ky4 hb; have xco := AX.out.row.cell 5 HX5.out; have yco := AY.out.row.cell 5 HY5.out; have kx4 := AX.out.row.cell 4 HX4.out; have ky4 := AY.out.row.cell 4 HY4.out)))
        clear kx4 ky4 xco yco
        go_loopw [11, 12] (fun b i wr => ∃ (k : Nat) (B : Bool), k ≤ N1 ∧ i = .int .i64 (k : Int) ∧ b = .bool B ∧ B = Rt.alike x y k ∧ Rt.AtN wr g7 x cx ∧ Rt.AtN wr g8 y dy ∧ Below w.heap.size w wr) (fun _ i _ => N1 - (Go.RowKit.intOf i).toNat)
        case atStart => exact ⟨0, _, Nat.zero_le _, rfl, rfl, (by first | exact hB0.out | (rw [← hB0.out]; exact beq_false_of_ne (by omega))), AX.out, AY.out, BQ.out⟩
        case round =>
          obtain ⟨k, B, hk, rfl, rfl, hBB, hx', hy', hbq⟩ := hrel
          have hB := Lib.hid hBB
          clear hBB
          have AX := Lib.hid hx'
          have AY := Lib.hid hy'
          have BQ := Lib.hid hbq
          clear hx' hy' hbq hB0
          have kx4 := AX.out.row.cell 4 HX4.out
          have ky4 := AY.out.row.cell 4 HY4.out
          cases B
          · have h14 := T1.out
            rw [Rt.alike_false x y k hB.out.symm] at h14
            first
            | (exfalso; revert h14; decide)
            | (clear h14
               go_wp2_with fail
               have UP8 := fun u (hu : Below _ _ u) => BQ.out.trans (hu.mono BQ.out.size)
               refine Tp.region_ex (by kernel_rfl) 17 103 [[(9, none)], [(87, some 0)], [(10, none), (88, some 1)], [(88, some 1), (89, some 2)], [(11, none)], [(91, some 4)], [(90, some 3), (92, some 5)], [(93, some 6)], [(7, none), (94, some 7)], [(8, none), (94, some 7)], [(95, some 8), (96, some 9), (94, some 7)], [(7, none), (94, some 7)], [(8, none), (94, some 7)], [(98, some 11), (99, some 12), (94, some 7)], [(97, some 10), (100, some 13), (94, some 7)], [(94, some 7), (101, some 14)], [(102, some 15)]] (by kernel_rfl) rfl ?_
               apply Exists.intro [_, _, _, _, _, _, _, _, _, _, _, _, _, _, _, _, _]
               refine ⟨⟨?_, ?_, ?_, ?_, ?_, ?_, ?_, ?_, ?_, ?_, ?_, ?_, ?_, ?_, ?_, ?_, ?_, trivial⟩, ?_⟩
               · intro A u hC hG hF hu hR; clear hG
                 refine Tp.facts_old (fun h9 => ?_) rfl; conv at h9 => rhs; whnf
                 refine Tp.facts_nil ?_
                 refine Tp.wants_plain rfl ?_
                 (apply Tp.gives_run; (simp [go_sem, hC, hF, hu, h9]; exact rfl); (refine Tp.given_is ?_; exact rfl))
               · intro A u hC hG hF hu hR; clear hG
                 first | refine Tp.facts_is rfl (fun h87 => ?_) | refine Tp.facts_ty rfl (fun v87 h87 k87 => ?_)
                 refine Tp.facts_nil ?_
                 refine Tp.wants_plain rfl ?_
                 first | (apply Tp.gives_run; (simp [go_sem, hC, hF, hu, h87]; exact rfl); (refine Tp.given_is ?_; exact rfl)) | (apply Tp.gives_run; (simp [go_sem, hC, hF, h87]; exact rfl); (refine Tp.given_ty ?_ k87 (Below.refl _ _); exact rfl))
               · intro A u hC hG hF hu hR; clear hG
                 refine Tp.facts_old (fun h10 => ?_) rfl; conv at h10 => rhs; whnf
                 first | refine Tp.facts_is rfl (fun h88 => ?_) | refine Tp.facts_ty rfl (fun v88 h88 k88 => ?_)
                 refine Tp.facts_nil ?_
                 first
                 | (refine Tp.wants_skip rfl rfl h88 ?_; exact Tp.skip_t rfl)
                 | (refine Tp.wants_go rfl rfl h88 ?_; ((apply Tp.gives_run; (simp [go_sem, hC, hF, hu, h10, h88]; exact rfl); (refine Tp.given_is ?_; exact rfl))))
               · intro A u hC hG hF hu hR; clear hG
                 first | refine Tp.facts_is rfl (fun h88 => ?_) | refine Tp.facts_ty rfl (fun v88 h88 k88 => ?_)
                 first | refine Tp.facts_is rfl (fun h89 => ?_) | refine Tp.facts_ty rfl (fun v89 h89 k89 => ?_)
                 refine Tp.facts_nil ?_
                 refine Tp.wants_plain rfl ?_
                 (apply Tp.gives_run; (simp [go_sem, hC, hF, hu, h88, h89]; exact rfl); (refine Tp.given_is ?_; exact rfl))
               · intro A u hC hG hF hu hR; clear hG
                 refine Tp.facts_old (fun h11 => ?_) rfl; conv at h11 => rhs; whnf
                 refine Tp.facts_nil ?_
                 refine Tp.wants_plain rfl ?_
                 (apply Tp.gives_run; (simp [go_sem, hC, hF, hu, h11]; exact rfl); (refine Tp.given_is ?_; exact rfl))
               · intro A u hC hG hF hu hR; clear hG
                 first | refine Tp.facts_is rfl (fun h91 => ?_) | refine Tp.facts_ty rfl (fun v91 h91 k91 => ?_)
                 refine Tp.facts_nil ?_
                 refine Tp.wants_plain rfl ?_
                 (apply Tp.gives_run; (simp [go_sem, hC, hF, hu, h91]; exact rfl); (refine Tp.given_is ?_; exact rfl))
               · intro A u hC hG hF hu hR; clear hG
                 first | refine Tp.facts_is rfl (fun h90 => ?_) | refine Tp.facts_ty rfl (fun v90 h90 k90 => ?_)
                 first | refine Tp.facts_is rfl (fun h92 => ?_) | refine Tp.facts_ty rfl (fun v92 h92 k92 => ?_)
                 refine Tp.facts_nil ?_
                 refine Tp.wants_plain rfl ?_
                 (apply Tp.gives_run; (simp [go_sem, hC, hF, hu, h90, h92]; exact rfl); (refine Tp.given_is ?_; exact rfl))
               · intro A u hC hG hF hu hR; clear hG
                 first | refine Tp.facts_is rfl (fun h93 => ?_) | refine Tp.facts_ty rfl (fun v93 h93 k93 => ?_)
                 refine Tp.facts_nil ?_
                 refine Tp.wants_plain rfl ?_
                 first | (apply Tp.gives_run; (simp [go_sem, hC, hF, hu, h93]; exact rfl); (refine Tp.given_is ?_; exact rfl)) | (apply Tp.gives_run; (simp [go_sem, hC, hF, h93]; exact rfl); (refine Tp.given_ty ?_ k93 (Below.refl _ _); exact rfl))
               · intro A u hC hG hF hu hR; clear hG
                 refine Tp.facts_old (fun h7 => ?_) rfl; conv at h7 => rhs; whnf
                 first | refine Tp.facts_is rfl (fun h94 => ?_) | refine Tp.facts_ty rfl (fun v94 h94 k94 => ?_)
                 refine Tp.facts_nil ?_
                 first
                 | (refine Tp.wants_skip rfl rfl h94 ?_; exact Tp.skip_t rfl)
                 | (refine Tp.wants_go rfl rfl h94 ?_; (refine Tp.load_var rfl h7 ((AX.out.keep hu).row.whole33 AX.out.size) ?_; exact rfl))
               · intro A u hC hG hF hu hR; clear hG
                 refine Tp.facts_old (fun h8 => ?_) rfl; conv at h8 => rhs; whnf
                 first | refine Tp.facts_is rfl (fun h94 => ?_) | refine Tp.facts_ty rfl (fun v94 h94 k94 => ?_)
                 refine Tp.facts_nil ?_
                 first
                 | (refine Tp.wants_skip rfl rfl h94 ?_; exact Tp.skip_t rfl)
                 | (refine Tp.wants_go rfl rfl h94 ?_; (refine Tp.load_var rfl h8 ((AY.out.keep hu).row.whole33 AY.out.size) ?_; exact rfl))
               · intro A u hC hG hF hu hR; clear hG
                 first | refine Tp.facts_is rfl (fun h95 => ?_) | refine Tp.facts_ty rfl (fun v95 h95 k95 => ?_)
                 first | refine Tp.facts_is rfl (fun h96 => ?_) | refine Tp.facts_ty rfl (fun v96 h96 k96 => ?_)
                 first | refine Tp.facts_is rfl (fun h94 => ?_) | refine Tp.facts_ty rfl (fun v94 h94 k94 => ?_)
                 refine Tp.facts_nil ?_
                 first
                 | (refine Tp.wants_skip rfl rfl h94 ?_; exact Tp.skip_t rfl)
                 | (refine Tp.wants_go rfl rfl h94 ?_; ((apply Tp.gives_run; (simp [go_sem, hC, hF, hu, h95, h96, h94]; exact rfl); (refine Tp.given_call ?_ (Rt.says_ret (SXY.out _ _ _ (AX.out.keep hu).val.val (AY.out.keep hu).val.val)); exact rfl))))
               · intro A u hC hG hF hu hR; clear hG
                 refine Tp.facts_old (fun h7 => ?_) rfl; conv at h7 => rhs; whnf
                 first | refine Tp.facts_is rfl (fun h94 => ?_) | refine Tp.facts_ty rfl (fun v94 h94 k94 => ?_)
                 refine Tp.facts_nil ?_
                 first
                 | (refine Tp.wants_skip rfl rfl h94 ?_; exact Tp.skip_t rfl)
                 | (refine Tp.wants_go rfl rfl h94 ?_; (refine Tp.load_var rfl h7 ((AX.out.keep hu).row.whole33 AX.out.size) ?_; exact rfl))
               · intro A u hC hG hF hu hR; clear hG
                 refine Tp.facts_old (fun h8 => ?_) rfl; conv at h8 => rhs; whnf
                 first | refine Tp.facts_is rfl (fun h94 => ?_) | refine Tp.facts_ty rfl (fun v94 h94 k94 => ?_)
                 refine Tp.facts_nil ?_
                 first
                 | (refine Tp.wants_skip rfl rfl h94 ?_; exact Tp.skip_t rfl)
                 | (refine Tp.wants_go rfl rfl h94 ?_; (refine Tp.load_var rfl h8 ((AY.out.keep hu).row.whole33 AY.out.size) ?_; exact rfl))
               · intro A u hC hG hF hu hR; clear hG
                 first | refine Tp.facts_is rfl (fun h98 => ?_) | refine Tp.facts_ty rfl (fun v98 h98 k98 => ?_)
                 first | refine Tp.facts_is rfl (fun h99 => ?_) | refine Tp.facts_ty rfl (fun v99 h99 k99 => ?_)
                 first | refine Tp.facts_is rfl (fun h94 => ?_) | refine Tp.facts_ty rfl (fun v94 h94 k94 => ?_)
                 refine Tp.facts_nil ?_
                 first
                 | (refine Tp.wants_skip rfl rfl h94 ?_; exact Tp.skip_t rfl)
                 | (refine Tp.wants_go rfl rfl h94 ?_; ((apply Tp.gives_run; (simp [go_sem, hC, hF, hu, h98, h99, h94]; exact rfl); (refine Tp.given_call ?_ (Rt.says_ret (SRX.out _ _ _ (AX.out.keep hu).val.val (AY.out.keep hu).val.val)); exact rfl))))
               · intro A u hC hG hF hu hR; clear hG
                 first | refine Tp.facts_is rfl (fun h97 => ?_) | refine Tp.facts_ty rfl (fun v97 h97 k97 => ?_)
                 first | refine Tp.facts_is rfl (fun h100 => ?_) | refine Tp.facts_ty rfl (fun v100 h100 k100 => ?_)
                 first | refine Tp.facts_is rfl (fun h94 => ?_) | refine Tp.facts_ty rfl (fun v94 h94 k94 => ?_)
                 refine Tp.facts_nil ?_
                 first
                 | (refine Tp.wants_skip rfl rfl h94 ?_; exact Tp.skip_t rfl)
                 | (refine Tp.wants_go rfl rfl h94 ?_; ((apply Tp.gives_run; (simp [go_sem, hC, hF, hu, h97, h100, h94]; exact rfl); (refine Tp.given_is ?_; exact rfl))))
               · intro A u hC hG hF hu hR; clear hG
                 first | refine Tp.facts_is rfl (fun h94 => ?_) | refine Tp.facts_ty rfl (fun v94 h94 k94 => ?_)
                 first | refine Tp.facts_is rfl (fun h101 => ?_) | refine Tp.facts_ty rfl (fun v101 h101 k101 => ?_)
                 refine Tp.facts_nil ?_
                 refine Tp.wants_plain rfl ?_
                 (apply Tp.gives_run; (simp [go_sem, hC, hF, hu, h94, h101]; exact rfl); (refine Tp.given_is ?_; exact rfl))
               · intro A u hC hG hF hu hR; clear hG
                 first | refine Tp.facts_is rfl (fun h102 => ?_) | refine Tp.facts_ty rfl (fun v102 h102 k102 => ?_)
                 refine Tp.facts_nil ?_
                 refine Tp.wants_plain rfl ?_
                 first | (apply Tp.gives_run; (simp [go_sem, hC, hF, hu, h102]; exact rfl); (refine Tp.given_is ?_; exact rfl)) | (apply Tp.gives_run; (simp [go_sem, hC, hF, h102]; exact rfl); (refine Tp.given_ty ?_ k102 (Below.refl _ _); exact rfl))
               intro wqz bqz
               first | refine Tp.fin_is rfl rfl rfl ?_ | refine Tp.fin_ty rfl rfl rfl (fun y87 q87 => ?_)
               first | refine Tp.fin_is rfl rfl rfl ?_ | refine Tp.fin_ty rfl rfl rfl (fun y88 q88 => ?_)
               first | refine Tp.fin_is rfl rfl rfl ?_ | refine Tp.fin_ty rfl rfl rfl (fun y89 q89 => ?_)
               first | refine Tp.fin_is rfl rfl rfl ?_ | refine Tp.fin_ty rfl rfl rfl (fun y90 q90 => ?_)
               first | refine Tp.fin_is rfl rfl rfl ?_ | refine Tp.fin_ty rfl rfl rfl (fun y91 q91 => ?_)
               first | refine Tp.fin_is rfl rfl rfl ?_ | refine Tp.fin_ty rfl rfl rfl (fun y92 q92 => ?_)
               first | refine Tp.fin_is rfl rfl rfl ?_ | refine Tp.fin_ty rfl rfl rfl (fun y93 q93 => ?_)
               first | refine Tp.fin_is rfl rfl rfl ?_ | refine Tp.fin_ty rfl rfl rfl (fun y94 q94 => ?_)
               first | refine Tp.fin_is rfl rfl rfl ?_ | refine Tp.fin_ty rfl rfl rfl (fun y95 q95 => ?_)
               first | refine Tp.fin_is rfl rfl rfl ?_ | refine Tp.fin_ty rfl rfl rfl (fun y96 q96 => ?_)
               first | refine Tp.fin_is rfl rfl rfl ?_ | refine Tp.fin_ty rfl rfl rfl (fun y97 q97 => ?_)
               first | refine Tp.fin_is rfl rfl rfl ?_ | refine Tp.fin_ty rfl rfl rfl (fun y98 q98 => ?_)
               first | refine Tp.fin_is rfl rfl rfl ?_ | refine Tp.fin_ty rfl rfl rfl (fun y99 q99 => ?_)
               first | refine Tp.fin_is rfl rfl rfl ?_ | refine Tp.fin_ty rfl rfl rfl (fun y100 q100 => ?_)
               first | refine Tp.fin_is rfl rfl rfl ?_ | refine Tp.fin_ty rfl rfl rfl (fun y101 q101 => ?_)
               first | refine Tp.fin_is rfl rfl rfl ?_ | refine Tp.fin_ty rfl rfl rfl (fun y102 q102 => ?_)
               first | refine Tp.fin_is rfl rfl rfl ?_ | refine Tp.fin_ty rfl rfl rfl (fun y6 q6 => ?_)
               refine Tp.fin_nil ?_
               simp only [Act.put, List.setIfInBounds_toArray, List.set_cons_succ, List.set_cons_zero, List.drop_succ_cons, List.drop_zero, List.drop_nil]
               have BZ := UP8 _ bqz
               cases SM
               · go_wp2_with fail
                 rw [← HQ.out]
                 exact ⟨rfl, BZ⟩
               · go_wp2_with fail
                 rw [← HQ.out]
                 exact ⟨rfl, BZ⟩)
          · by_cases hkn : k < N1
            · have hkx : k < x.path.length := by rw [E3.out]; exact hkn
              obtain ⟨hky, hst⟩ := Rt.alike_step x y k hB.out.symm hkx
              have HST := Lib.hid hst
              have sx := AX.out.strs HX4.out
              have sy := AY.out.strs HY4.out
              obtain ⟨bx, ox, rfl, lbx⟩ := sx.at_ k (by have := sx.len; omega)
              obtain ⟨by_, oy, rfl, lby⟩ := sy.at_ k (by have := sy.len; omega)
              have kcx := sx.cell bx ox rfl k (by have := sx.len; omega)
              have kcy := sy.cell by_ oy rfl k (by have := sy.len; omega)
              have hk2 := hky
              rw [E4.out] at hk2
              have q0 : (0 : Int) ≤ (k : Int) := Int.natCast_nonneg _
              have q1 : (k : Int) < (N1 : Int) := by omega
              have q2 := Int.ofNat_lt.2 hk2
              have hbig := sx.big
              clear sx sy hst
              have hbz := Rt.beqL (x.path.getD k ByteArray.empty) (y.path.getD k ByteArray.empty)
              generalize x.path.getD k ByteArray.empty = S1 at *
              generalize y.path.getD k ByteArray.empty = S2 at *
              obtain ⟨EB, hEB⟩ : ∃ b, (S1 == S2) = b := ⟨_, rfl⟩
              rw [hEB] at hbz HST
              go_wp2_with fail
              go_region
              go_wp2_with fail
              go_roundw
              case rel => exact ⟨k + 1, EB, by omega, by simp, rfl, HST.out.symm, AX.out.keep (Below.refl _ _).drew, AY.out.keep (Below.refl _ _).drew, BQ.out.drew⟩
              case measure => simp [Go.RowKit.intOf]; omega
            · have h14 := T1.out
              rw [← Rt.alike_end x y k (by rw [E3.out]; omega), ← hB.out] at h14
              have q1 : ¬ (k : Int) < (N1 : Int) := by omega
              first
              | (exfalso; revert h14; decide)
              | (clear h14
                 go_wp2_with fail
                 have UP8 := fun u (hu : Below _ _ u) => BQ.out.trans (hu.mono BQ.out.size)
                 refine Tp.region_ex (by kernel_rfl) 17 103 [[(9, none)], [(87, some 0)], [(10, none), (88, some 1)], [(88, some 1), (89, some 2)], [(11, none)], [(91, some 4)], [(90, some 3), (92, some 5)], [(93, some 6)], [(7, none), (94, some 7)], [(8, none), (94, some 7)], [(95, some 8), (96, some 9), (94, some 7)], [(7, none), (94, some 7)], [(8, none), (94, some 7)], [(98, some 11), (99, some 12), (94, some 7)], [(97, some 10), (100, some 13), (94, some 7)], [(94, some 7), (101, some 14)], [(102, some 15)]] (by kernel_rfl) rfl ?_
                 apply Exists.intro [_, _, _, _, _, _, _, _, _, _, _, _, _, _, _, _, _]
                 refine ⟨⟨?_, ?_, ?_, ?_, ?_, ?_, ?_, ?_, ?_, ?_, ?_, ?_, ?_, ?_, ?_, ?_, ?_, trivial⟩, ?_⟩
                 · intro A u hC hG hF hu hR; clear hG
                   refine Tp.facts_old (fun h9 => ?_) rfl; conv at h9 => rhs; whnf
                   refine Tp.facts_nil ?_
                   refine Tp.wants_plain rfl ?_
                   (apply Tp.gives_run; (simp [go_sem, hC, hF, hu, h9]; exact rfl); (refine Tp.given_is ?_; exact rfl))
                 · intro A u hC hG hF hu hR; clear hG
                   first | refine Tp.facts_is rfl (fun h87 => ?_) | refine Tp.facts_ty rfl (fun v87 h87 k87 => ?_)
                   refine Tp.facts_nil ?_
                   refine Tp.wants_plain rfl ?_
                   first | (apply Tp.gives_run; (simp [go_sem, hC, hF, hu, h87]; exact rfl); (refine Tp.given_is ?_; exact rfl)) | (apply Tp.gives_run; (simp [go_sem, hC, hF, h87]; exact rfl); (refine Tp.given_ty ?_ k87 (Below.refl _ _); exact rfl))
                 · intro A u hC hG hF hu hR; clear hG
                   refine Tp.facts_old (fun h10 => ?_) rfl; conv at h10 => rhs; whnf
                   first | refine Tp.facts_is rfl (fun h88 => ?_) | refine Tp.facts_ty rfl (fun v88 h88 k88 => ?_)
                   refine Tp.facts_nil ?_
                   first
                   | (refine Tp.wants_skip rfl rfl h88 ?_; exact Tp.skip_t rfl)
                   | (refine Tp.wants_go rfl rfl h88 ?_; ((apply Tp.gives_run; (simp [go_sem, hC, hF, hu, h10, h88]; exact rfl); (refine Tp.given_is ?_; exact rfl))))
                 · intro A u hC hG hF hu hR; clear hG
                   first | refine Tp.facts_is rfl (fun h88 => ?_) | refine Tp.facts_ty rfl (fun v88 h88 k88 => ?_)
                   first | refine Tp.facts_is rfl (fun h89 => ?_) | refine Tp.facts_ty rfl (fun v89 h89 k89 => ?_)
                   refine Tp.facts_nil ?_
                   refine Tp.wants_plain rfl ?_
                   (apply Tp.gives_run; (simp [go_sem, hC, hF, hu, h88, h89]; exact rfl); (refine Tp.given_is ?_; exact rfl))
                 · intro A u hC hG hF hu hR; clear hG
                   refine Tp.facts_old (fun h11 => ?_) rfl; conv at h11 => rhs; whnf
                   refine Tp.facts_nil ?_
                   refine Tp.wants_plain rfl ?_
                   (apply Tp.gives_run; (simp [go_sem, hC, hF, hu, h11]; exact rfl); (refine Tp.given_is ?_; exact rfl))
                 · intro A u hC hG hF hu hR; clear hG
                   first | refine Tp.facts_is rfl (fun h91 => ?_) | refine Tp.facts_ty rfl (fun v91 h91 k91 => ?_)
                   refine Tp.facts_nil ?_
                   refine Tp.wants_plain rfl ?_
                   (apply Tp.gives_run; (simp [go_sem, hC, hF, hu, h91]; exact rfl); (refine Tp.given_is ?_; exact rfl))
                 · intro A u hC hG hF hu hR; clear hG
                   first | refine Tp.facts_is rfl (fun h90 => ?_) | refine Tp.facts_ty rfl (fun v90 h90 k90 => ?_)
                   first | refine Tp.facts_is rfl (fun h92 => ?_) | refine Tp.facts_ty rfl (fun v92 h92 k92 => ?_)
                   refine Tp.facts_nil ?_
                   refine Tp.wants_plain rfl ?_
                   (apply Tp.gives_run; (simp [go_sem, hC, hF, hu, h90, h92]; exact rfl); (refine Tp.given_is ?_; exact rfl))
                 · intro A u hC hG hF hu hR; clear hG
                   first | refine Tp.facts_is rfl (fun h93 => ?_) | refine Tp.facts_ty rfl (fun v93 h93 k93 => ?_)
                   refine Tp.facts_nil ?_
                   refine Tp.wants_plain rfl ?_
                   first | (apply Tp.gives_run; (simp [go_sem, hC, hF, hu, h93]; exact rfl); (refine Tp.given_is ?_; exact rfl)) | (apply Tp.gives_run; (simp [go_sem, hC, hF, h93]; exact rfl); (refine Tp.given_ty ?_ k93 (Below.refl _ _); exact rfl))
                 · intro A u hC hG hF hu hR; clear hG
                   refine Tp.facts_old (fun h7 => ?_) rfl; conv at h7 => rhs; whnf
                   first | refine Tp.facts_is rfl (fun h94 => ?_) | refine Tp.facts_ty rfl (fun v94 h94 k94 => ?_)
                   refine Tp.facts_nil ?_
                   first
                   | (refine Tp.wants_skip rfl rfl h94 ?_; exact Tp.skip_t rfl)
                   | (refine Tp.wants_go rfl rfl h94 ?_; (refine Tp.load_var rfl h7 ((AX.out.keep hu).row.whole33 AX.out.size) ?_; exact rfl))
                 · intro A u hC hG hF hu hR; clear hG
                   refine Tp.facts_old (fun h8 => ?_) rfl; conv at h8 => rhs; whnf
                   first | refine Tp.facts_is rfl (fun h94 => ?_) | refine Tp.facts_ty rfl (fun v94 h94 k94 => ?_)
                   refine Tp.facts_nil ?_
                   first
                   | (refine Tp.wants_skip rfl rfl h94 ?_; exact Tp.skip_t rfl)
                   | (refine Tp.wants_go rfl rfl h94 ?_; (refine Tp.load_var rfl h8 ((AY.out.keep hu).row.whole33 AY.out.size) ?_; exact rfl))
                 · intro A u hC hG hF hu hR; clear hG
                   first | refine Tp.facts_is rfl (fun h95 => ?_) | refine Tp.facts_ty rfl (fun v95 h95 k95 => ?_)
                   first | refine Tp.facts_is rfl (fun h96 => ?_) | refine Tp.facts_ty rfl (fun v96 h96 k96 => ?_)
                   first | refine Tp.facts_is rfl (fun h94 => ?_) | refine Tp.facts_ty rfl (fun v94 h94 k94 => ?_)
                   refine Tp.facts_nil ?_
                   first
                   | (refine Tp.wants_skip rfl rfl h94 ?_; exact Tp.skip_t rfl)
                   | (refine Tp.wants_go rfl rfl h94 ?_; ((apply Tp.gives_run; (simp [go_sem, hC, hF, hu, h95, h96, h94]; exact rfl); (refine Tp.given_call ?_ (Rt.says_ret (SXY.out _ _ _ (AX.out.keep hu).val.val (AY.out.keep hu).val.val)); exact rfl))))
                 · intro A u hC hG hF hu hR; clear hG
                   refine Tp.facts_old (fun h7 => ?_) rfl; conv at h7 => rhs; whnf
                   first | refine Tp.facts_is rfl (fun h94 => ?_) | refine Tp.facts_ty rfl (fun v94 h94 k94 => ?_)
                   refine Tp.facts_nil ?_
                   first
                   | (refine Tp.wants_skip rfl rfl h94 ?_; exact Tp.skip_t rfl)
                   | (refine Tp.wants_go rfl rfl h94 ?_; (refine Tp.load_var rfl h7 ((AX.out.keep hu).row.whole33 AX.out.size) ?_; exact rfl))
                 · intro A u hC hG hF hu hR; clear hG
                   refine Tp.facts_old (fun h8 => ?_) rfl; conv at h8 => rhs; whnf
                   first | refine Tp.facts_is rfl (fun h94 => ?_) | refine Tp.facts_ty rfl (fun v94 h94 k94 => ?_)
                   refine Tp.facts_nil ?_
                   first
                   | (refine Tp.wants_skip rfl rfl h94 ?_; exact Tp.skip_t rfl)
                   | (refine Tp.wants_go rfl rfl h94 ?_; (refine Tp.load_var rfl h8 ((AY.out.keep hu).row.whole33 AY.out.size) ?_; exact rfl))
                 · intro A u hC hG hF hu hR; clear hG
                   first | refine Tp.facts_is rfl (fun h98 => ?_) | refine Tp.facts_ty rfl (fun v98 h98 k98 => ?_)
                   first | refine Tp.facts_is rfl (fun h99 => ?_) | refine Tp.facts_ty rfl (fun v99 h99 k99 => ?_)
                   first | refine Tp.facts_is rfl (fun h94 => ?_) | refine Tp.facts_ty rfl (fun v94 h94 k94 => ?_)
                   refine Tp.facts_nil ?_
                   first
                   | (refine Tp.wants_skip rfl rfl h94 ?_; exact Tp.skip_t rfl)
                   | (refine Tp.wants_go rfl rfl h94 ?_; ((apply Tp.gives_run; (simp [go_sem, hC, hF, hu, h98, h99, h94]; exact rfl); (refine Tp.given_call ?_ (Rt.says_ret (SRX.out _ _ _ (AX.out.keep hu).val.val (AY.out.keep hu).val.val)); exact rfl))))
                 · intro A u hC hG hF hu hR; clear hG
                   first | refine Tp.facts_is rfl (fun h97 => ?_) | refine Tp.facts_ty rfl (fun v97 h97 k97 => ?_)
                   first | refine Tp.facts_is rfl (fun h100 => ?_) | refine Tp.facts_ty rfl (fun v100 h100 k100 => ?_)
                   first | refine Tp.facts_is rfl (fun h94 => ?_) | refine Tp.facts_ty rfl (fun v94 h94 k94 => ?_)
                   refine Tp.facts_nil ?_
                   first
                   | (refine Tp.wants_skip rfl rfl h94 ?_; exact Tp.skip_t rfl)
                   | (refine Tp.wants_go rfl rfl h94 ?_; ((apply Tp.gives_run; (simp [go_sem, hC, hF, hu, h97, h100, h94]; exact rfl); (refine Tp.given_is ?_; exact rfl))))
                 · intro A u hC hG hF hu hR; clear hG
                   first | refine Tp.facts_is rfl (fun h94 => ?_) | refine Tp.facts_ty rfl (fun v94 h94 k94 => ?_)
                   first | refine Tp.facts_is rfl (fun h101 => ?_) | refine Tp.facts_ty rfl (fun v101 h101 k101 => ?_)
                   refine Tp.facts_nil ?_
                   refine Tp.wants_plain rfl ?_
                   (apply Tp.gives_run; (simp [go_sem, hC, hF, hu, h94, h101]; exact rfl); (refine Tp.given_is ?_; exact rfl))
                 · intro A u hC hG hF hu hR; clear hG
                   first | refine Tp.facts_is rfl (fun h102 => ?_) | refine Tp.facts_ty rfl (fun v102 h102 k102 => ?_)
                   refine Tp.facts_nil ?_
                   refine Tp.wants_plain rfl ?_
                   first | (apply Tp.gives_run; (simp [go_sem, hC, hF, hu, h102]; exact rfl); (refine Tp.given_is ?_; exact rfl)) | (apply Tp.gives_run; (simp [go_sem, hC, hF, h102]; exact rfl); (refine Tp.given_ty ?_ k102 (Below.refl _ _); exact rfl))
                 intro wqz bqz
                 first | refine Tp.fin_is rfl rfl rfl ?_ | refine Tp.fin_ty rfl rfl rfl (fun y87 q87 => ?_)
                 first | refine Tp.fin_is rfl rfl rfl ?_ | refine Tp.fin_ty rfl rfl rfl (fun y88 q88 => ?_)
                 first | refine Tp.fin_is rfl rfl rfl ?_ | refine Tp.fin_ty rfl rfl rfl (fun y89 q89 => ?_)
                 first | refine Tp.fin_is rfl rfl rfl ?_ | refine Tp.fin_ty rfl rfl rfl (fun y90 q90 => ?_)
                 first | refine Tp.fin_is rfl rfl rfl ?_ | refine Tp.fin_ty rfl rfl rfl (fun y91 q91 => ?_)
                 first | refine Tp.fin_is rfl rfl rfl ?_ | refine Tp.fin_ty rfl rfl rfl (fun y92 q92 => ?_)
                 first | refine Tp.fin_is rfl rfl rfl ?_ | refine Tp.fin_ty rfl rfl rfl (fun y93 q93 => ?_)
                 first | refine Tp.fin_is rfl rfl rfl ?_ | refine Tp.fin_ty rfl rfl rfl (fun y94 q94 => ?_)
                 first | refine Tp.fin_is rfl rfl rfl ?_ | refine Tp.fin_ty rfl rfl rfl (fun y95 q95 => ?_)
                 first | refine Tp.fin_is rfl rfl rfl ?_ | refine Tp.fin_ty rfl rfl rfl (fun y96 q96 => ?_)
                 first | refine Tp.fin_is rfl rfl rfl ?_ | refine Tp.fin_ty rfl rfl rfl (fun y97 q97 => ?_)
                 first | refine Tp.fin_is rfl rfl rfl ?_ | refine Tp.fin_ty rfl rfl rfl (fun y98 q98 => ?_)
                 first | refine Tp.fin_is rfl rfl rfl ?_ | refine Tp.fin_ty rfl rfl rfl (fun y99 q99 => ?_)
                 first | refine Tp.fin_is rfl rfl rfl ?_ | refine Tp.fin_ty rfl rfl rfl (fun y100 q100 => ?_)
                 first | refine Tp.fin_is rfl rfl rfl ?_ | refine Tp.fin_ty rfl rfl rfl (fun y101 q101 => ?_)
                 first | refine Tp.fin_is rfl rfl rfl ?_ | refine Tp.fin_ty rfl rfl rfl (fun y102 q102 => ?_)
                 first | refine Tp.fin_is rfl rfl rfl ?_ | refine Tp.fin_ty rfl rfl rfl (fun y6 q6 => ?_)
                 refine Tp.fin_nil ?_
                 simp only [Act.put, List.setIfInBounds_toArray, List.set_cons_succ, List.set_cons_zero, List.drop_succ_cons, List.drop_zero, List.drop_nil]
                 have BZ := UP8 _ bqz
                 cases SM
                 · go_wp2_with fail
                   rw [← HQ.out]
                   exact ⟨rfl, BZ⟩
                 · go_wp2_with fail
                   rw [← HQ.out]
                   exact ⟨rfl, BZ⟩)
    ·
      by_cases hco : C1 = C2
      · subst hco
        by_cases hln : N1 = N2
        · subst hln
          have hB0 : Hid (true = Rt.alike x y 0) := Lib.hid (by rw [HB0.out]; simp)
          go_wp2_with (first | (have _t := AX; (with_reducible refine Rt.load_at 33 (x := .tmp 7) ?_ ⟨g7, 0, none⟩ ?_ ?_ (AX.out.row.whole33 AX.out.size) ?_); (with_reducible exact rfl); (exact rfl); (exact rfl); clear _t) | (have _t := AY; (with_reducible refine Rt.load_at 33 (x := .tmp 8) ?_ ⟨g8, 0, none⟩ ?_ ?_ (AY.out.row.whole33 AY.out.size) ?_); (with_reducible exact rfl); (exact rfl); (exact rfl); clear _t) | (go_at_call 21; (with_reducible refine (RXY.out _ _ _ AX.out.val.val AY.out.val.val (Utf8Tabs_below hT BQ.out)).mono ?_); rintro e w9 ⟨rfl, hb⟩; (replace AX := Lib.hid (AX.out.keep hb); replace AY := Lib.hid (AY.out.keep hb); replace BQ := Lib.hid (BQ.out.trans ((hb).mono BQ.out.size)); clear xco yco kx4 ky4 hb; have xco := AX.out.row.cell 5 HX5.out; have yco := AY.out.row.cell 5 HY5.out; have kx4 := AX.out.row.cell 4 HX4.out; have ky4 := AY.out.row.cell 4 HY4.out)) | (go_at_call 21; (with_reducible refine (RYX.out _ _ _ AY.out.val.val AX.out.val.val (Utf8Tabs_below hT BQ.out)).mono ?_); rintro e w9 ⟨rfl, hb⟩; (replace AX := Lib.hid (AX.out.keep hb); replace AY := Lib.hid (AY.out.keep hb); replace BQ := Lib.hid (BQ.out.trans ((hb).mono BQ.out.size)); clear xco yco kx4 ky4 hb; have xco := AX.out.row.cell 5 HX5.out; have yco := AY.out.row.cell 5 HY5.out; have kx4 := AX.out.row.cell 4 HX4.out; have ky4 := AY.out.row.cell 4 HY4.out)) | (go_at_call 20; (with_reducible refine (HXX.out _ _ _ AX.out.val.val AX.out.val.val (Utf8Tabs_below hT BQ.out)).mono ?_); rintro e w9 ⟨rfl, hb⟩; (replace AX := Lib.hid (AX.out.keep hb); replace AY := Lib.hid (AY.out.keep hb); replace BQ := Lib.hid (BQ.out.trans ((hb).mono BQ.out.size)); clear xco yco kx4 ky4 hb; have xco := AX.out.row.cell 5 HX5.out; have yco := AY.out.row.cell 5 HY5.out; have kx4 := AX.out.row.cell 4 HX4.out; have ky4 := AY.out.row.cell 4 HY4.out)))
          clear kx4 ky4 xco yco
          go_loopw [11, 12] (fun b i wr => ∃ (k : Nat) (B : Bool), k ≤ N1 ∧ i = .int .i64 (k : Int) ∧ b = .bool B ∧ B = Rt.alike x y k ∧ Rt.AtN wr g7 x cx ∧ Rt.AtN wr g8 y dy ∧ Below w.heap.size w wr) (fun _ i _ => N1 - (Go.RowKit.intOf i).toNat)
          case atStart => exact ⟨0, _, Nat.zero_le _, rfl, rfl, (by first | exact hB0.out | (rw [← hB0.out]; exact beq_false_of_ne (by omega))), AX.out, AY.out, BQ.out⟩
          case round =>
            obtain ⟨k, B, hk, rfl, rfl, hBB, hx', hy', hbq⟩ := hrel
            have hB := Lib.hid hBB
            clear hBB
            have AX := Lib.hid hx'
            have AY := Lib.hid hy'
            have BQ := Lib.hid hbq
            clear hx' hy' hbq hB0
            have kx4 := AX.out.row.cell 4 HX4.out
            have ky4 := AY.out.row.cell 4 HY4.out
            cases B
            · have h14 := T1.out
              rw [Rt.alike_false x y k hB.out.symm] at h14
              first
              | (exfalso; revert h14; decide)
              | (clear h14
                 go_wp2_with fail
                 have UP8 := fun u (hu : Below _ _ u) => BQ.out.trans (hu.mono BQ.out.size)
                 refine Tp.region_ex (by kernel_rfl) 17 103 [[(9, none)], [(87, some 0)], [(10, none), (88, some 1)], [(88, some 1), (89, some 2)], [(11, none)], [(91, some 4)], [(90, some 3), (92, some 5)], [(93, some 6)], [(7, none), (94, some 7)], [(8, none), (94, some 7)], [(95, some 8), (96, some 9), (94, some 7)], [(7, none), (94, some 7)], [(8, none), (94, some 7)], [(98, some 11), (99, some 12), (94, some 7)], [(97, some 10), (100, some 13), (94, some 7)], [(94, some 7), (101, some 14)], [(102, some 15)]] (by kernel_rfl) rfl ?_
                 apply Exists.intro [_, _, _, _, _, _, _, _, _, _, _, _, _, _, _, _, _]
                 refine ⟨⟨?_, ?_, ?_, ?_, ?_, ?_, ?_, ?_, ?_, ?_, ?_, ?_, ?_, ?_, ?_, ?_, ?_, trivial⟩, ?_⟩
                 · intro A u hC hG hF hu hR; clear hG
                   refine Tp.facts_old (fun h9 => ?_) rfl; conv at h9 => rhs; whnf
                   refine Tp.facts_nil ?_
                   refine Tp.wants_plain rfl ?_
                   (apply Tp.gives_run; (simp [go_sem, hC, hF, hu, h9]; exact rfl); (refine Tp.given_is ?_; exact rfl))
                 · intro A u hC hG hF hu hR; clear hG
                   first | refine Tp.facts_is rfl (fun h87 => ?_) | refine Tp.facts_ty rfl (fun v87 h87 k87 => ?_)
                   refine Tp.facts_nil ?_
                   refine Tp.wants_plain rfl ?_
                   first | (apply Tp.gives_run; (simp [go_sem, hC, hF, hu, h87]; exact rfl); (refine Tp.given_is ?_; exact rfl)) | (apply Tp.gives_run; (simp [go_sem, hC, hF, h87]; exact rfl); (refine Tp.given_ty ?_ k87 (Below.refl _ _); exact rfl))
                 · intro A u hC hG hF hu hR; clear hG
                   refine Tp.facts_old (fun h10 => ?_) rfl; conv at h10 => rhs; whnf
                   first | refine Tp.facts_is rfl (fun h88 => ?_) | refine Tp.facts_ty rfl (fun v88 h88 k88 => ?_)
                   refine Tp.facts_nil ?_
                   first
                   | (refine Tp.wants_skip rfl rfl h88 ?_; exact Tp.skip_t rfl)
                   | (refine Tp.wants_go rfl rfl h88 ?_; ((apply Tp.gives_run; (simp [go_sem, hC, hF, hu, h10, h88]; exact rfl); (refine Tp.given_is ?_; exact rfl))))
                 · intro A u hC hG hF hu hR; clear hG
                   first | refine Tp.facts_is rfl (fun h88 => ?_) | refine Tp.facts_ty rfl (fun v88 h88 k88 => ?_)
                   first | refine Tp.facts_is rfl (fun h89 => ?_) | refine Tp.facts_ty rfl (fun v89 h89 k89 => ?_)
                   refine Tp.facts_nil ?_
                   refine Tp.wants_plain rfl ?_
                   (apply Tp.gives_run; (simp [go_sem, hC, hF, hu, h88, h89]; exact rfl); (refine Tp.given_is ?_; exact rfl))
                 · intro A u hC hG hF hu hR; clear hG
                   refine Tp.facts_old (fun h11 => ?_) rfl; conv at h11 => rhs; whnf
                   refine Tp.facts_nil ?_
                   refine Tp.wants_plain rfl ?_
                   (apply Tp.gives_run; (simp [go_sem, hC, hF, hu, h11]; exact rfl); (refine Tp.given_is ?_; exact rfl))
                 · intro A u hC hG hF hu hR; clear hG
                   first | refine Tp.facts_is rfl (fun h91 => ?_) | refine Tp.facts_ty rfl (fun v91 h91 k91 => ?_)
                   refine Tp.facts_nil ?_
                   refine Tp.wants_plain rfl ?_
                   (apply Tp.gives_run; (simp [go_sem, hC, hF, hu, h91]; exact rfl); (refine Tp.given_is ?_; exact rfl))
                 · intro A u hC hG hF hu hR; clear hG
                   first | refine Tp.facts_is rfl (fun h90 => ?_) | refine Tp.facts_ty rfl (fun v90 h90 k90 => ?_)
                   first | refine Tp.facts_is rfl (fun h92 => ?_) | refine Tp.facts_ty rfl (fun v92 h92 k92 => ?_)
                   refine Tp.facts_nil ?_
                   refine Tp.wants_plain rfl ?_
                   (apply Tp.gives_run; (simp [go_sem, hC, hF, hu, h90, h92]; exact rfl); (refine Tp.given_is ?_; exact rfl))
                 · intro A u hC hG hF hu hR; clear hG
                   first | refine Tp.facts_is rfl (fun h93 => ?_) | refine Tp.facts_ty rfl (fun v93 h93 k93 => ?_)
                   refine Tp.facts_nil ?_
                   refine Tp.wants_plain rfl ?_
                   first | (apply Tp.gives_run; (simp [go_sem, hC, hF, hu, h93]; exact rfl); (refine Tp.given_is ?_; exact rfl)) | (apply Tp.gives_run; (simp [go_sem, hC, hF, h93]; exact rfl); (refine Tp.given_ty ?_ k93 (Below.refl _ _); exact rfl))
                 · intro A u hC hG hF hu hR; clear hG
                   refine Tp.facts_old (fun h7 => ?_) rfl; conv at h7 => rhs; whnf
                   first | refine Tp.facts_is rfl (fun h94 => ?_) | refine Tp.facts_ty rfl (fun v94 h94 k94 => ?_)
                   refine Tp.facts_nil ?_
                   first
                   | (refine Tp.wants_skip rfl rfl h94 ?_; exact Tp.skip_t rfl)
                   | (refine Tp.wants_go rfl rfl h94 ?_; (refine Tp.load_var rfl h7 ((AX.out.keep hu).row.whole33 AX.out.size) ?_; exact rfl))
                 · intro A u hC hG hF hu hR; clear hG
                   refine Tp.facts_old (fun h8 => ?_) rfl; conv at h8 => rhs; whnf
                   first | refine Tp.facts_is rfl (fun h94 => ?_) | refine Tp.facts_ty rfl (fun v94 h94 k94 => ?_)
                   refine Tp.facts_nil ?_
                   first
                   | (refine Tp.wants_skip rfl rfl h94 ?_; exact Tp.skip_t rfl)
                   | (refine Tp.wants_go rfl rfl h94 ?_; (refine Tp.load_var rfl h8 ((AY.out.keep hu).row.whole33 AY.out.size) ?_; exact rfl))
                 · intro A u hC hG hF hu hR; clear hG
                   first | refine Tp.facts_is rfl (fun h95 => ?_) | refine Tp.facts_ty rfl (fun v95 h95 k95 => ?_)
                   first | refine Tp.facts_is rfl (fun h96 => ?_) | refine Tp.facts_ty rfl (fun v96 h96 k96 => ?_)
                   first | refine Tp.facts_is rfl (fun h94 => ?_) | refine Tp.facts_ty rfl (fun v94 h94 k94 => ?_)
                   refine Tp.facts_nil ?_
                   first
                   | (refine Tp.wants_skip rfl rfl h94 ?_; exact Tp.skip_t rfl)
                   | (refine Tp.wants_go rfl rfl h94 ?_; ((apply Tp.gives_run; (simp [go_sem, hC, hF, hu, h95, h96, h94]; exact rfl); (refine Tp.given_call ?_ (Rt.says_ret (SXY.out _ _ _ (AX.out.keep hu).val.val (AY.out.keep hu).val.val)); exact rfl))))
                 · intro A u hC hG hF hu hR; clear hG
                   refine Tp.facts_old (fun h7 => ?_) rfl; conv at h7 => rhs; whnf
                   first | refine Tp.facts_is rfl (fun h94 => ?_) | refine Tp.facts_ty rfl (fun v94 h94 k94 => ?_)
                   refine Tp.facts_nil ?_
                   first
                   | (refine Tp.wants_skip rfl rfl h94 ?_; exact Tp.skip_t rfl)
                   | (refine Tp.wants_go rfl rfl h94 ?_; (refine Tp.load_var rfl h7 ((AX.out.keep hu).row.whole33 AX.out.size) ?_; exact rfl))
                 · intro A u hC hG hF hu hR; clear hG
                   refine Tp.facts_old (fun h8 => ?_) rfl; conv at h8 => rhs; whnf
                   first | refine Tp.facts_is rfl (fun h94 => ?_) | refine Tp.facts_ty rfl (fun v94 h94 k94 => ?_)
                   refine Tp.facts_nil ?_
                   first
                   | (refine Tp.wants_skip rfl rfl h94 ?_; exact Tp.skip_t rfl)
                   | (refine Tp.wants_go rfl rfl h94 ?_; (refine Tp.load_var rfl h8 ((AY.out.keep hu).row.whole33 AY.out.size) ?_; exact rfl))
                 · intro A u hC hG hF hu hR; clear hG
                   first | refine Tp.facts_is rfl (fun h98 => ?_) | refine Tp.facts_ty rfl (fun v98 h98 k98 => ?_)
                   first | refine Tp.facts_is rfl (fun h99 => ?_) | refine Tp.facts_ty rfl (fun v99 h99 k99 => ?_)
                   first | refine Tp.facts_is rfl (fun h94 => ?_) | refine Tp.facts_ty rfl (fun v94 h94 k94 => ?_)
                   refine Tp.facts_nil ?_
                   first
                   | (refine Tp.wants_skip rfl rfl h94 ?_; exact Tp.skip_t rfl)
                   | (refine Tp.wants_go rfl rfl h94 ?_; ((apply Tp.gives_run; (simp [go_sem, hC, hF, hu, h98, h99, h94]; exact rfl); (refine Tp.given_call ?_ (Rt.says_ret (SRX.out _ _ _ (AX.out.keep hu).val.val (AY.out.keep hu).val.val)); exact rfl))))
                 · intro A u hC hG hF hu hR; clear hG
                   first | refine Tp.facts_is rfl (fun h97 => ?_) | refine Tp.facts_ty rfl (fun v97 h97 k97 => ?_)
                   first | refine Tp.facts_is rfl (fun h100 => ?_) | refine Tp.facts_ty rfl (fun v100 h100 k100 => ?_)
                   first | refine Tp.facts_is rfl (fun h94 => ?_) | refine Tp.facts_ty rfl (fun v94 h94 k94 => ?_)
                   refine Tp.facts_nil ?_
                   first
                   | (refine Tp.wants_skip rfl rfl h94 ?_; exact Tp.skip_t rfl)
                   | (refine Tp.wants_go rfl rfl h94 ?_; ((apply Tp.gives_run; (simp [go_sem, hC, hF, hu, h97, h100, h94]; exact rfl); (refine Tp.given_is ?_; exact rfl))))
                 · intro A u hC hG hF hu hR; clear hG
                   first | refine Tp.facts_is rfl (fun h94 => ?_) | refine Tp.facts_ty rfl (fun v94 h94 k94 => ?_)
                   first | refine Tp.facts_is rfl (fun h101 => ?_) | refine Tp.facts_ty rfl (fun v101 h101 k101 => ?_)
                   refine Tp.facts_nil ?_
                   refine Tp.wants_plain rfl ?_
                   (apply Tp.gives_run; (simp [go_sem, hC, hF, hu, h94, h101]; exact rfl); (refine Tp.given_is ?_; exact rfl))
                 · intro A u hC hG hF hu hR; clear hG
                   first | refine Tp.facts_is rfl (fun h102 => ?_) | refine Tp.facts_ty rfl (fun v102 h102 k102 => ?_)
                   refine Tp.facts_nil ?_
                   refine Tp.wants_plain rfl ?_
                   first | (apply Tp.gives_run; (simp [go_sem, hC, hF, hu, h102]; exact rfl); (refine Tp.given_is ?_; exact rfl)) | (apply Tp.gives_run; (simp [go_sem, hC, hF, h102]; exact rfl); (refine Tp.given_ty ?_ k102 (Below.refl _ _); exact rfl))
                 intro wqz bqz
                 first | refine Tp.fin_is rfl rfl rfl ?_ | refine Tp.fin_ty rfl rfl rfl (fun y87 q87 => ?_)
                 first | refine Tp.fin_is rfl rfl rfl ?_ | refine Tp.fin_ty rfl rfl rfl (fun y88 q88 => ?_)
                 first | refine Tp.fin_is rfl rfl rfl ?_ | refine Tp.fin_ty rfl rfl rfl (fun y89 q89 => ?_)
                 first | refine Tp.fin_is rfl rfl rfl ?_ | refine Tp.fin_ty rfl rfl rfl (fun y90 q90 => ?_)
                 first | refine Tp.fin_is rfl rfl rfl ?_ | refine Tp.fin_ty rfl rfl rfl (fun y91 q91 => ?_)
                 first | refine Tp.fin_is rfl rfl rfl ?_ | refine Tp.fin_ty rfl rfl rfl (fun y92 q92 => ?_)
                 first | refine Tp.fin_is rfl rfl rfl ?_ | refine Tp.fin_ty rfl rfl rfl (fun y93 q93 => ?_)
                 first | refine Tp.fin_is rfl rfl rfl ?_ | refine Tp.fin_ty rfl rfl rfl (fun y94 q94 => ?_)
                 first | refine Tp.fin_is rfl rfl rfl ?_ | refine Tp.fin_ty rfl rfl rfl (fun y95 q95 => ?_)
                 first | refine Tp.fin_is rfl rfl rfl ?_ | refine Tp.fin_ty rfl rfl rfl (fun y96 q96 => ?_)
                 first | refine Tp.fin_is rfl rfl rfl ?_ | refine Tp.fin_ty rfl rfl rfl (fun y97 q97 => ?_)
                 first | refine Tp.fin_is rfl rfl rfl ?_ | refine Tp.fin_ty rfl rfl rfl (fun y98 q98 => ?_)
                 first | refine Tp.fin_is rfl rfl rfl ?_ | refine Tp.fin_ty rfl rfl rfl (fun y99 q99 => ?_)
                 first | refine Tp.fin_is rfl rfl rfl ?_ | refine Tp.fin_ty rfl rfl rfl (fun y100 q100 => ?_)
                 first | refine Tp.fin_is rfl rfl rfl ?_ | refine Tp.fin_ty rfl rfl rfl (fun y101 q101 => ?_)
                 first | refine Tp.fin_is rfl rfl rfl ?_ | refine Tp.fin_ty rfl rfl rfl (fun y102 q102 => ?_)
                 first | refine Tp.fin_is rfl rfl rfl ?_ | refine Tp.fin_ty rfl rfl rfl (fun y6 q6 => ?_)
                 refine Tp.fin_nil ?_
                 simp only [Act.put, List.setIfInBounds_toArray, List.set_cons_succ, List.set_cons_zero, List.drop_succ_cons, List.drop_zero, List.drop_nil]
                 have BZ := UP8 _ bqz
                 cases SM
                 · go_wp2_with fail
                   rw [← HQ.out]
                   exact ⟨rfl, BZ⟩
                 · go_wp2_with fail
                   rw [← HQ.out]
                   exact ⟨rfl, BZ⟩)
            · by_cases hkn : k < N1
              · have hkx : k < x.path.length := by rw [E3.out]; exact hkn
                obtain ⟨hky, hst⟩ := Rt.alike_step x y k hB.out.symm hkx
                have HST := Lib.hid hst
                have sx := AX.out.strs HX4.out
                have sy := AY.out.strs HY4.out
                obtain ⟨bx, ox, rfl, lbx⟩ := sx.at_ k (by have := sx.len; omega)
                obtain ⟨by_, oy, rfl, lby⟩ := sy.at_ k (by have := sy.len; omega)
                have kcx := sx.cell bx ox rfl k (by have := sx.len; omega)
                have kcy := sy.cell by_ oy rfl k (by have := sy.len; omega)
                have hk2 := hky
                rw [E4.out] at hk2
                have q0 : (0 : Int) ≤ (k : Int) := Int.natCast_nonneg _
                have q1 : (k : Int) < (N1 : Int) := by omega
                have q2 := Int.ofNat_lt.2 hk2
                have hbig := sx.big
                clear sx sy hst
                have hbz := Rt.beqL (x.path.getD k ByteArray.empty) (y.path.getD k ByteArray.empty)
                generalize x.path.getD k ByteArray.empty = S1 at *
                generalize y.path.getD k ByteArray.empty = S2 at *
                obtain ⟨EB, hEB⟩ : ∃ b, (S1 == S2) = b := ⟨_, rfl⟩
                rw [hEB] at hbz HST
                go_wp2_with fail
                go_region
                go_wp2_with fail
                go_roundw
                case rel => exact ⟨k + 1, EB, by omega, by simp, rfl, HST.out.symm, AX.out.keep (Below.refl _ _).drew, AY.out.keep (Below.refl _ _).drew, BQ.out.drew⟩
                case measure => simp [Go.RowKit.intOf]; omega
              · have h14 := T1.out
                rw [← Rt.alike_end x y k (by rw [E3.out]; omega), ← hB.out] at h14
                have q1 : ¬ (k : Int) < (N1 : Int) := by omega
                first
                | (exfalso; revert h14; decide)
                | (clear h14
                   go_wp2_with fail
                   have UP8 := fun u (hu : Below _ _ u) => BQ.out.trans (hu.mono BQ.out.size)
                   refine Tp.region_ex (by kernel_rfl) 17 103 [[(9, none)], [(87, some 0)], [(10, none), (88, some 1)], [(88, some 1), (89, some 2)], [(11, none)], [(91, some 4)], [(90, some 3), (92, some 5)], [(93, some 6)], [(7, none), (94, some 7)], [(8, none), (94, some 7)], [(95, some 8), (96, some 9), (94, some 7)], [(7, none), (94, some 7)], [(8, none), (94, some 7)], [(98, some 11), (99, some 12), (94, some 7)], [(97, some 10), (100, some 13), (94, some 7)], [(94, some 7), (101, some 14)], [(102, some 15)]] (by kernel_rfl) rfl ?_
                   apply Exists.intro [_, _, _, _, _, _, _, _, _, _, _, _, _, _, _, _, _]
                   refine ⟨⟨?_, ?_, ?_, ?_, ?_, ?_, ?_, ?_, ?_, ?_, ?_, ?_, ?_, ?_, ?_, ?_, ?_, trivial⟩, ?_⟩
                   · intro A u hC hG hF hu hR; clear hG
                     refine Tp.facts_old (fun h9 => ?_) rfl; conv at h9 => rhs; whnf
                     refine Tp.facts_nil ?_
                     refine Tp.wants_plain rfl ?_
                     (apply Tp.gives_run; (simp [go_sem, hC, hF, hu, h9]; exact rfl); (refine Tp.given_is ?_; exact rfl))
                   · intro A u hC hG hF hu hR; clear hG
                     first | refine Tp.facts_is rfl (fun h87 => ?_) | refine Tp.facts_ty rfl (fun v87 h87 k87 => ?_)
                     refine Tp.facts_nil ?_
                     refine Tp.wants_plain rfl ?_
                     first | (apply Tp.gives_run; (simp [go_sem, hC, hF, hu, h87]; exact rfl); (refine Tp.given_is ?_; exact rfl)) | (apply Tp.gives_run; (simp [go_sem, hC, hF, h87]; exact rfl); (refine Tp.given_ty ?_ k87 (Below.refl _ _); exact rfl))
                   · intro A u hC hG hF hu hR; clear hG
                     refine Tp.facts_old (fun h10 => ?_) rfl; conv at h10 => rhs; whnf
                     first | refine Tp.facts_is rfl (fun h88 => ?_) | refine Tp.facts_ty rfl (fun v88 h88 k88 => ?_)
                     refine Tp.facts_nil ?_
                     first
                     | (refine Tp.wants_skip rfl rfl h88 ?_; exact Tp.skip_t rfl)
                     | (refine Tp.wants_go rfl rfl h88 ?_; ((apply Tp.gives_run; (simp [go_sem, hC, hF, hu, h10, h88]; exact rfl); (refine Tp.given_is ?_; exact rfl))))
                   · intro A u hC hG hF hu hR; clear hG
                     first | refine Tp.facts_is rfl (fun h88 => ?_) | refine Tp.facts_ty rfl (fun v88 h88 k88 => ?_)
                     first | refine Tp.facts_is rfl (fun h89 => ?_) | refine Tp.facts_ty rfl (fun v89 h89 k89 => ?_)
                     refine Tp.facts_nil ?_
                     refine Tp.wants_plain rfl ?_
                     (apply Tp.gives_run; (simp [go_sem, hC, hF, hu, h88, h89]; exact rfl); (refine Tp.given_is ?_; exact rfl))
                   · intro A u hC hG hF hu hR; clear hG
                     refine Tp.facts_old (fun h11 => ?_) rfl; conv at h11 => rhs; whnf
                     refine Tp.facts_nil ?_
                     refine Tp.wants_plain rfl ?_
                     (apply Tp.gives_run; (simp [go_sem, hC, hF, hu, h11]; exact rfl); (refine Tp.given_is ?_; exact rfl))
                   · intro A u hC hG hF hu hR; clear hG
                     first | refine Tp.facts_is rfl (fun h91 => ?_) | refine Tp.facts_ty rfl (fun v91 h91 k91 => ?_)
                     refine Tp.facts_nil ?_
                     refine Tp.wants_plain rfl ?_
                     (apply Tp.gives_run; (simp [go_sem, hC, hF, hu, h91]; exact rfl); (refine Tp.given_is ?_; exact rfl))
                   · intro A u hC hG hF hu hR; clear hG
                     first | refine Tp.facts_is rfl (fun h90 => ?_) | refine Tp.facts_ty rfl (fun v90 h90 k90 => ?_)
                     first | refine Tp.facts_is rfl (fun h92 => ?_) | refine Tp.facts_ty rfl (fun v92 h92 k92 => ?_)
                     refine Tp.facts_nil ?_
                     refine Tp.wants_plain rfl ?_
                     (apply Tp.gives_run; (simp [go_sem, hC, hF, hu, h90, h92]; exact rfl); (refine Tp.given_is ?_; exact rfl))
                   · intro A u hC hG hF hu hR; clear hG
                     first | refine Tp.facts_is rfl (fun h93 => ?_) | refine Tp.facts_ty rfl (fun v93 h93 k93 => ?_)
                     refine Tp.facts_nil ?_
                     refine Tp.wants_plain rfl ?_
                     first | (apply Tp.gives_run; (simp [go_sem, hC, hF, hu, h93]; exact rfl); (refine Tp.given_is ?_; exact rfl)) | (apply Tp.gives_run; (simp [go_sem, hC, hF, h93]; exact rfl); (refine Tp.given_ty ?_ k93 (Below.refl _ _); exact rfl))
                   · intro A u hC hG hF hu hR; clear hG
                     refine Tp.facts_old (fun h7 => ?_) rfl; conv at h7 => rhs; whnf
                     first | refine Tp.facts_is rfl (fun h94 => ?_) | refine Tp.facts_ty rfl (fun v94 h94 k94 => ?_)
                     refine Tp.facts_nil ?_
                     first
                     | (refine Tp.wants_skip rfl rfl h94 ?_; exact Tp.skip_t rfl)
                     | (refine Tp.wants_go rfl rfl h94 ?_; (refine Tp.load_var rfl h7 ((AX.out.keep hu).row.whole33 AX.out.size) ?_; exact rfl))
                   · intro A u hC hG hF hu hR; clear hG
                     refine Tp.facts_old (fun h8 => ?_) rfl; conv at h8 => rhs; whnf
                     first | refine Tp.facts_is rfl (fun h94 => ?_) | refine Tp.facts_ty rfl (fun v94 h94 k94 => ?_)
                     refine Tp.facts_nil ?_
                     first
                     | (refine Tp.wants_skip rfl rfl h94 ?_; exact Tp.skip_t rfl)
                     | (refine Tp.wants_go rfl rfl h94 ?_; (refine Tp.load_var rfl h8 ((AY.out.keep hu).row.whole33 AY.out.size) ?_; exact rfl))
                   · intro A u hC hG hF hu hR; clear hG
                     first | refine Tp.facts_is rfl (fun h95 => ?_) | refine Tp.facts_ty rfl (fun v95 h95 k95 => ?_)
                     first | refine Tp.facts_is rfl (fun h96 => ?_) | refine Tp.facts_ty rfl (fun v96 h96 k96 => ?_)
                     first | refine Tp.facts_is rfl (fun h94 => ?_) | refine Tp.facts_ty rfl (fun v94 h94 k94 => ?_)
                     refine Tp.facts_nil ?_
                     first
                     | (refine Tp.wants_skip rfl rfl h94 ?_; exact Tp.skip_t rfl)
                     | (refine Tp.wants_go rfl rfl h94 ?_; ((apply Tp.gives_run; (simp [go_sem, hC, hF, hu, h95, h96, h94]; exact rfl); (refine Tp.given_call ?_ (Rt.says_ret (SXY.out _ _ _ (AX.out.keep hu).val.val (AY.out.keep hu).val.val)); exact rfl))))
                   · intro A u hC hG hF hu hR; clear hG
                     refine Tp.facts_old (fun h7 => ?_) rfl; conv at h7 => rhs; whnf
                     first | refine Tp.facts_is rfl (fun h94 => ?_) | refine Tp.facts_ty rfl (fun v94 h94 k94 => ?_)
                     refine Tp.facts_nil ?_
                     first
                     | (refine Tp.wants_skip rfl rfl h94 ?_; exact Tp.skip_t rfl)
                     | (refine Tp.wants_go rfl rfl h94 ?_; (refine Tp.load_var rfl h7 ((AX.out.keep hu).row.whole33 AX.out.size) ?_; exact rfl))
                   · intro A u hC hG hF hu hR; clear hG
                     refine Tp.facts_old (fun h8 => ?_) rfl; conv at h8 => rhs; whnf
                     first | refine Tp.facts_is rfl (fun h94 => ?_) | refine Tp.facts_ty rfl (fun v94 h94 k94 => ?_)
                     refine Tp.facts_nil ?_
                     first
                     | (refine Tp.wants_skip rfl rfl h94 ?_; exact Tp.skip_t rfl)
                     | (refine Tp.wants_go rfl rfl h94 ?_; (refine Tp.load_var rfl h8 ((AY.out.keep hu).row.whole33 AY.out.size) ?_; exact rfl))
                   · intro A u hC hG hF hu hR; clear hG
                     first | refine Tp.facts_is rfl (fun h98 => ?_) | refine Tp.facts_ty rfl (fun v98 h98 k98 => ?_)
                     first | refine Tp.facts_is rfl (fun h99 => ?_) | refine Tp.facts_ty rfl (fun v99 h99 k99 => ?_)
                     first | refine Tp.facts_is rfl (fun h94 => ?_) | refine Tp.facts_ty rfl (fun v94 h94 k94 => ?_)
                     refine Tp.facts_nil ?_
                     first
                     | (refine Tp.wants_skip rfl rfl h94 ?_; exact Tp.skip_t rfl)
                     | (refine Tp.wants_go rfl rfl h94 ?_; ((apply Tp.gives_run; (simp [go_sem, hC, hF, hu, h98, h99, h94]; exact rfl); (refine Tp.given_call ?_ (Rt.says_ret (SRX.out _ _ _ (AX.out.keep hu).val.val (AY.out.keep hu).val.val)); exact rfl))))
                   · intro A u hC hG hF hu hR; clear hG
                     first | refine Tp.facts_is rfl (fun h97 => ?_) | refine Tp.facts_ty rfl (fun v97 h97 k97 => ?_)
                     first | refine Tp.facts_is rfl (fun h100 => ?_) | refine Tp.facts_ty rfl (fun v100 h100 k100 => ?_)
                     first | refine Tp.facts_is rfl (fun h94 => ?_) | refine Tp.facts_ty rfl (fun v94 h94 k94 => ?_)
                     refine Tp.facts_nil ?_
                     first
                     | (refine Tp.wants_skip rfl rfl h94 ?_; exact Tp.skip_t rfl)
                     | (refine Tp.wants_go rfl rfl h94 ?_; ((apply Tp.gives_run; (simp [go_sem, hC, hF, hu, h97, h100, h94]; exact rfl); (refine Tp.given_is ?_; exact rfl))))
                   · intro A u hC hG hF hu hR; clear hG
                     first | refine Tp.facts_is rfl (fun h94 => ?_) | refine Tp.facts_ty rfl (fun v94 h94 k94 => ?_)
                     first | refine Tp.facts_is rfl (fun h101 => ?_) | refine Tp.facts_ty rfl (fun v101 h101 k101 => ?_)
                     refine Tp.facts_nil ?_
                     refine Tp.wants_plain rfl ?_
                     (apply Tp.gives_run; (simp [go_sem, hC, hF, hu, h94, h101]; exact rfl); (refine Tp.given_is ?_; exact rfl))
                   · intro A u hC hG hF hu hR; clear hG
                     first | refine Tp.facts_is rfl (fun h102 => ?_) | refine Tp.facts_ty rfl (fun v102 h102 k102 => ?_)
                     refine Tp.facts_nil ?_
                     refine Tp.wants_plain rfl ?_
                     first | (apply Tp.gives_run; (simp [go_sem, hC, hF, hu, h102]; exact rfl); (refine Tp.given_is ?_; exact rfl)) | (apply Tp.gives_run; (simp [go_sem, hC, hF, h102]; exact rfl); (refine Tp.given_ty ?_ k102 (Below.refl _ _); exact rfl))
                   intro wqz bqz
                   first | refine Tp.fin_is rfl rfl rfl ?_ | refine Tp.fin_ty rfl rfl rfl (fun y87 q87 => ?_)
                   first | refine Tp.fin_is rfl rfl rfl ?_ | refine Tp.fin_ty rfl rfl rfl (fun y88 q88 => ?_)
                   first | refine Tp.fin_is rfl rfl rfl ?_ | refine Tp.fin_ty rfl rfl rfl (fun y89 q89 => ?_)
                   first | refine Tp.fin_is rfl rfl rfl ?_ | refine Tp.fin_ty rfl rfl rfl (fun y90 q90 => ?_)
                   first | refine Tp.fin_is rfl rfl rfl ?_ | refine Tp.fin_ty rfl rfl rfl (fun y91 q91 => ?_)
                   first | refine Tp.fin_is rfl rfl rfl ?_ | refine Tp.fin_ty rfl rfl rfl (fun y92 q92 => ?_)
                   first | refine Tp.fin_is rfl rfl rfl ?_ | refine Tp.fin_ty rfl rfl rfl (fun y93 q93 => ?_)
                   first | refine Tp.fin_is rfl rfl rfl ?_ | refine Tp.fin_ty rfl rfl rfl (fun y94 q94 => ?_)
                   first | refine Tp.fin_is rfl rfl rfl ?_ | refine Tp.fin_ty rfl rfl rfl (fun y95 q95 => ?_)
                   first | refine Tp.fin_is rfl rfl rfl ?_ | refine Tp.fin_ty rfl rfl rfl (fun y96 q96 => ?_)
                   first | refine Tp.fin_is rfl rfl rfl ?_ | refine Tp.fin_ty rfl rfl rfl (fun y97 q97 => ?_)
                   first | refine Tp.fin_is rfl rfl rfl ?_ | refine Tp.fin_ty rfl rfl rfl (fun y98 q98 => ?_)
                   first | refine Tp.fin_is rfl rfl rfl ?_ | refine Tp.fin_ty rfl rfl rfl (fun y99 q99 => ?_)
                   first | refine Tp.fin_is rfl rfl rfl ?_ | refine Tp.fin_ty rfl rfl rfl (fun y100 q100 => ?_)
                   first | refine Tp.fin_is rfl rfl rfl ?_ | refine Tp.fin_ty rfl rfl rfl (fun y101 q101 => ?_)
                   first | refine Tp.fin_is rfl rfl rfl ?_ | refine Tp.fin_ty rfl rfl rfl (fun y102 q102 => ?_)
                   first | refine Tp.fin_is rfl rfl rfl ?_ | refine Tp.fin_ty rfl rfl rfl (fun y6 q6 => ?_)
                   refine Tp.fin_nil ?_
                   simp only [Act.put, List.setIfInBounds_toArray, List.set_cons_succ, List.set_cons_zero, List.drop_succ_cons, List.drop_zero, List.drop_nil]
                   have BZ := UP8 _ bqz
                   cases SM
                   · go_wp2_with fail
                     rw [← HQ.out]
                     exact ⟨rfl, BZ⟩
                   · go_wp2_with fail
                     rw [← HQ.out]
                     exact ⟨rfl, BZ⟩)
        · have hB0 : Hid (false = Rt.alike x y 0) := Lib.hid (by rw [HB0.out]; simp [hln])
          have hln2 : ¬ (N1 : Int) = (N2 : Int) := by omega
          go_wp2_with (first | (have _t := AX; (with_reducible refine Rt.load_at 33 (x := .tmp 7) ?_ ⟨g7, 0, none⟩ ?_ ?_ (AX.out.row.whole33 AX.out.size) ?_); (with_reducible exact rfl); (exact rfl); (exact rfl); clear _t) | (have _t := AY; (with_reducible refine Rt.load_at 33 (x := .tmp 8) ?_ ⟨g8, 0, none⟩ ?_ ?_ (AY.out.row.whole33 AY.out.size) ?_); (with_reducible exact rfl); (exact rfl); (exact rfl); clear _t) | (go_at_call 21; (with_reducible refine (RXY.out _ _ _ AX.out.val.val AY.out.val.val (Utf8Tabs_below hT BQ.out)).mono ?_); rintro e w9 ⟨rfl, hb⟩; (replace AX := Lib.hid (AX.out.keep hb); replace AY := Lib.hid (AY.out.keep hb); replace BQ := Lib.hid (BQ.out.trans ((hb).mono BQ.out.size)); clear xco yco kx4 ky4 hb; have xco := AX.out.row.cell 5 HX5.out; have yco := AY.out.row.cell 5 HY5.out; have kx4 := AX.out.row.cell 4 HX4.out; have ky4 := AY.out.row.cell 4 HY4.out)) | (go_at_call 21; (with_reducible refine (RYX.out _ _ _ AY.out.val.val AX.out.val.val (Utf8Tabs_below hT BQ.out)).mono ?_); rintro e w9 ⟨rfl, hb⟩; (replace AX := Lib.hid (AX.out.keep hb); replace AY := Lib.hid (AY.out.keep hb); replace BQ := Lib.hid (BQ.out.trans ((hb).mono BQ.out.size)); clear xco yco kx4 ky4 hb; have xco := AX.out.row.cell 5 HX5.out; have yco := AY.out.row.cell 5 HY5.out; have kx4 := AX.out.row.cell 4 HX4.out; have ky4 := AY.out.row.cell 4 HY4.out)) | (go_at_call 20; (with_reducible refine (HXX.out _ _ _ AX.out.val.val AX.out.val.val (Utf8Tabs_below hT BQ.out)).mono ?_); rintro e w9 ⟨rfl, hb⟩; (replace AX := Lib.hid (AX.out.keep hb); replace AY := Lib.hid (AY.out.keep hb); replace BQ := Lib.hid (BQ.out.trans ((hb).mono BQ.out.size)); clear xco yco kx4 ky4 hb; have xco := AX.out.row.cell 5 HX5.out; have yco := AY.out.row.cell 5 HY5.out; have kx4 := AX.out.row.cell 4 HX4.out; have ky4 := AY.out.row.cell 4 HY4.out)))
          clear kx4 ky4 xco yco
          go_loopw [11, 12] (fun b i wr => ∃ (k : Nat) (B : Bool), k ≤ N1 ∧ i = .int .i64 (k : Int) ∧ b = .bool B ∧ B = Rt.alike x y k ∧ Rt.AtN wr g7 x cx ∧ Rt.AtN wr g8 y dy ∧ Below w.heap.size w wr) (fun _ i _ => N1 - (Go.RowKit.intOf i).toNat)
          case atStart => exact ⟨0, _, Nat.zero_le _, rfl, rfl, (by first | exact hB0.out | (rw [← hB0.out]; exact beq_false_of_ne (by omega))), AX.out, AY.out, BQ.out⟩
          case round =>
            obtain ⟨k, B, hk, rfl, rfl, hBB, hx', hy', hbq⟩ := hrel
            have hB := Lib.hid hBB
            clear hBB
            have AX := Lib.hid hx'
            have AY := Lib.hid hy'
            have BQ := Lib.hid hbq
            clear hx' hy' hbq hB0
            have kx4 := AX.out.row.cell 4 HX4.out
            have ky4 := AY.out.row.cell 4 HY4.out
            cases B
            · have h14 := T1.out
              rw [Rt.alike_false x y k hB.out.symm] at h14
              first
              | (exfalso; revert h14; decide)
              | (clear h14
                 go_wp2_with fail
                 have UP8 := fun u (hu : Below _ _ u) => BQ.out.trans (hu.mono BQ.out.size)
                 refine Tp.region_ex (by kernel_rfl) 17 103 [[(9, none)], [(87, some 0)], [(10, none), (88, some 1)], [(88, some 1), (89, some 2)], [(11, none)], [(91, some 4)], [(90, some 3), (92, some 5)], [(93, some 6)], [(7, none), (94, some 7)], [(8, none), (94, some 7)], [(95, some 8), (96, some 9), (94, some 7)], [(7, none), (94, some 7)], [(8, none), (94, some 7)], [(98, some 11), (99, some 12), (94, some 7)], [(97, some 10), (100, some 13), (94, some 7)], [(94, some 7), (101, some 14)], [(102, some 15)]] (by kernel_rfl) rfl ?_
                 apply Exists.intro [_, _, _, _, _, _, _, _, _, _, _, _, _, _, _, _, _]
                 refine ⟨⟨?_, ?_, ?_, ?_, ?_, ?_, ?_, ?_, ?_, ?_, ?_, ?_, ?_, ?_, ?_, ?_, ?_, trivial⟩, ?_⟩
                 · intro A u hC hG hF hu hR; clear hG
                   refine Tp.facts_old (fun h9 => ?_) rfl; conv at h9 => rhs; whnf
                   refine Tp.facts_nil ?_
                   refine Tp.wants_plain rfl ?_
                   (apply Tp.gives_run; (simp [go_sem, hC, hF, hu, h9]; exact rfl); (refine Tp.given_is ?_; exact rfl))
                 · intro A u hC hG hF hu hR; clear hG
                   first | refine Tp.facts_is rfl (fun h87 => ?_) | refine Tp.facts_ty rfl (fun v87 h87 k87 => ?_)
                   refine Tp.facts_nil ?_
                   refine Tp.wants_plain rfl ?_
                   first | (apply Tp.gives_run; (simp [go_sem, hC, hF, hu, h87]; exact rfl); (refine Tp.given_is ?_; exact rfl)) | (apply Tp.gives_run; (simp [go_sem, hC, hF, h87]; exact rfl); (refine Tp.given_ty ?_ k87 (Below.refl _ _); exact rfl))
                 · intro A u hC hG hF hu hR; clear hG
                   refine Tp.facts_old (fun h10 => ?_) rfl; conv at h10 => rhs; whnf
                   first | refine Tp.facts_is rfl (fun h88 => ?_) | refine Tp.facts_ty rfl (fun v88 h88 k88 => ?_)
                   refine Tp.facts_nil ?_
                   first
                   | (refine Tp.wants_skip rfl rfl h88 ?_; exact Tp.skip_t rfl)
                   | (refine Tp.wants_go rfl rfl h88 ?_; ((apply Tp.gives_run; (simp [go_sem, hC, hF, hu, h10, h88]; exact rfl); (refine Tp.given_is ?_; exact rfl))))
                 · intro A u hC hG hF hu hR; clear hG
                   first | refine Tp.facts_is rfl (fun h88 => ?_) | refine Tp.facts_ty rfl (fun v88 h88 k88 => ?_)
                   first | refine Tp.facts_is rfl (fun h89 => ?_) | refine Tp.facts_ty rfl (fun v89 h89 k89 => ?_)
                   refine Tp.facts_nil ?_
                   refine Tp.wants_plain rfl ?_
                   (apply Tp.gives_run; (simp [go_sem, hC, hF, hu, h88, h89]; exact rfl); (refine Tp.given_is ?_; exact rfl))
                 · intro A u hC hG hF hu hR; clear hG
                   refine Tp.facts_old (fun h11 => ?_) rfl; conv at h11 => rhs; whnf
                   refine Tp.facts_nil ?_
                   refine Tp.wants_plain rfl ?_
                   (apply Tp.gives_run; (simp [go_sem, hC, hF, hu, h11]; exact rfl); (refine Tp.given_is ?_; exact rfl))
                 · intro A u hC hG hF hu hR; clear hG
                   first | refine Tp.facts_is rfl (fun h91 => ?_) | refine Tp.facts_ty rfl (fun v91 h91 k91 => ?_)
                   refine Tp.facts_nil ?_
                   refine Tp.wants_plain rfl ?_
                   (apply Tp.gives_run; (simp [go_sem, hC, hF, hu, h91]; exact rfl); (refine Tp.given_is ?_; exact rfl))
                 · intro A u hC hG hF hu hR; clear hG
                   first | refine Tp.facts_is rfl (fun h90 => ?_) | refine Tp.facts_ty rfl (fun v90 h90 k90 => ?_)
                   first | refine Tp.facts_is rfl (fun h92 => ?_) | refine Tp.facts_ty rfl (fun v92 h92 k92 => ?_)
                   refine Tp.facts_nil ?_
                   refine Tp.wants_plain rfl ?_
                   (apply Tp.gives_run; (simp [go_sem, hC, hF, hu, h90, h92]; exact rfl); (refine Tp.given_is ?_; exact rfl))
                 · intro A u hC hG hF hu hR; clear hG
                   first | refine Tp.facts_is rfl (fun h93 => ?_) | refine Tp.facts_ty rfl (fun v93 h93 k93 => ?_)
                   refine Tp.facts_nil ?_
                   refine Tp.wants_plain rfl ?_
                   first | (apply Tp.gives_run; (simp [go_sem, hC, hF, hu, h93]; exact rfl); (refine Tp.given_is ?_; exact rfl)) | (apply Tp.gives_run; (simp [go_sem, hC, hF, h93]; exact rfl); (refine Tp.given_ty ?_ k93 (Below.refl _ _); exact rfl))
                 · intro A u hC hG hF hu hR; clear hG
                   refine Tp.facts_old (fun h7 => ?_) rfl; conv at h7 => rhs; whnf
                   first | refine Tp.facts_is rfl (fun h94 => ?_) | refine Tp.facts_ty rfl (fun v94 h94 k94 => ?_)
                   refine Tp.facts_nil ?_
                   first
                   | (refine Tp.wants_skip rfl rfl h94 ?_; exact Tp.skip_t rfl)
                   | (refine Tp.wants_go rfl rfl h94 ?_; (refine Tp.load_var rfl h7 ((AX.out.keep hu).row.whole33 AX.out.size) ?_; exact rfl))
                 · intro A u hC hG hF hu hR; clear hG
                   refine Tp.facts_old (fun h8 => ?_) rfl; conv at h8 => rhs; whnf
                   first | refine Tp.facts_is rfl (fun h94 => ?_) | refine Tp.facts_ty rfl (fun v94 h94 k94 => ?_)
                   refine Tp.facts_nil ?_
                   first
                   | (refine Tp.wants_skip rfl rfl h94 ?_; exact Tp.skip_t rfl)
                   | (refine Tp.wants_go rfl rfl h94 ?_; (refine Tp.load_var rfl h8 ((AY.out.keep hu).row.whole33 AY.out.size) ?_; exact rfl))
                 · intro A u hC hG hF hu hR; clear hG
                   first | refine Tp.facts_is rfl (fun h95 => ?_) | refine Tp.facts_ty rfl (fun v95 h95 k95 => ?_)
                   first | refine Tp.facts_is rfl (fun h96 => ?_) | refine Tp.facts_ty rfl (fun v96 h96 k96 => ?_)
                   first | refine Tp.facts_is rfl (fun h94 => ?_) | refine Tp.facts_ty rfl (fun v94 h94 k94 => ?_)
                   refine Tp.facts_nil ?_
                   first
                   | (refine Tp.wants_skip rfl rfl h94 ?_; exact Tp.skip_t rfl)
                   | (refine Tp.wants_go rfl rfl h94 ?_; ((apply Tp.gives_run; (simp [go_sem, hC, hF, hu, h95, h96, h94]; exact rfl); (refine Tp.given_call ?_ (Rt.says_ret (SXY.out _ _ _ (AX.out.keep hu).val.val (AY.out.keep hu).val.val)); exact rfl))))
                 · intro A u hC hG hF hu hR; clear hG
                   refine Tp.facts_old (fun h7 => ?_) rfl; conv at h7 => rhs; whnf
                   first | refine Tp.facts_is rfl (fun h94 => ?_) | refine Tp.facts_ty rfl (fun v94 h94 k94 => ?_)
                   refine Tp.facts_nil ?_
                   first
                   | (refine Tp.wants_skip rfl rfl h94 ?_; exact Tp.skip_t rfl)
                   | (refine Tp.wants_go rfl rfl h94 ?_; (refine Tp.load_var rfl h7 ((AX.out.keep hu).row.whole33 AX.out.size) ?_; exact rfl))
                 · intro A u hC hG hF hu hR; clear hG
                   refine Tp.facts_old (fun h8 => ?_) rfl; conv at h8 => rhs; whnf
                   first | refine Tp.facts_is rfl (fun h94 => ?_) | refine Tp.facts_ty rfl (fun v94 h94 k94 => ?_)
                   refine Tp.facts_nil ?_
                   first
                   | (refine Tp.wants_skip rfl rfl h94 ?_; exact Tp.skip_t rfl)
                   | (refine Tp.wants_go rfl rfl h94 ?_; (refine Tp.load_var rfl h8 ((AY.out.keep hu).row.whole33 AY.out.size) ?_; exact rfl))
                 · intro A u hC hG hF hu hR; clear hG
                   first | refine Tp.facts_is rfl (fun h98 => ?_) | refine Tp.facts_ty rfl (fun v98 h98 k98 => ?_)
                   first | refine Tp.facts_is rfl (fun h99 => ?_) | refine Tp.facts_ty rfl (fun v99 h99 k99 => ?_)
                   first | refine Tp.facts_is rfl (fun h94 => ?_) | refine Tp.facts_ty rfl (fun v94 h94 k94 => ?_)
                   refine Tp.facts_nil ?_
                   first
                   | (refine Tp.wants_skip rfl rfl h94 ?_; exact Tp.skip_t rfl)
                   | (refine Tp.wants_go rfl rfl h94 ?_; ((apply Tp.gives_run; (simp [go_sem, hC, hF, hu, h98, h99, h94]; exact rfl); (refine Tp.given_call ?_ (Rt.says_ret (SRX.out _ _ _ (AX.out.keep hu).val.val (AY.out.keep hu).val.val)); exact rfl))))
                 · intro A u hC hG hF hu hR; clear hG
                   first | refine Tp.facts_is rfl (fun h97 => ?_) | refine Tp.facts_ty rfl (fun v97 h97 k97 => ?_)
                   first | refine Tp.facts_is rfl (fun h100 => ?_) | refine Tp.facts_ty rfl (fun v100 h100 k100 => ?_)
                   first | refine Tp.facts_is rfl (fun h94 => ?_) | refine Tp.facts_ty rfl (fun v94 h94 k94 => ?_)
                   refine Tp.facts_nil ?_
                   first
                   | (refine Tp.wants_skip rfl rfl h94 ?_; exact Tp.skip_t rfl)
                   | (refine Tp.wants_go rfl rfl h94 ?_; ((apply Tp.gives_run; (simp [go_sem, hC, hF, hu, h97, h100, h94]; exact rfl); (refine Tp.given_is ?_; exact rfl))))
                 · intro A u hC hG hF hu hR; clear hG
                   first | refine Tp.facts_is rfl (fun h94 => ?_) | refine Tp.facts_ty rfl (fun v94 h94 k94 => ?_)
                   first | refine Tp.facts_is rfl (fun h101 => ?_) | refine Tp.facts_ty rfl (fun v101 h101 k101 => ?_)
                   refine Tp.facts_nil ?_
                   refine Tp.wants_plain rfl ?_
                   (apply Tp.gives_run; (simp [go_sem, hC, hF, hu, h94, h101]; exact rfl); (refine Tp.given_is ?_; exact rfl))
                 · intro A u hC hG hF hu hR; clear hG
                   first | refine Tp.facts_is rfl (fun h102 => ?_) | refine Tp.facts_ty rfl (fun v102 h102 k102 => ?_)
                   refine Tp.facts_nil ?_
                   refine Tp.wants_plain rfl ?_
                   first | (apply Tp.gives_run; (simp [go_sem, hC, hF, hu, h102]; exact rfl); (refine Tp.given_is ?_; exact rfl)) | (apply Tp.gives_run; (simp [go_sem, hC, hF, h102]; exact rfl); (refine Tp.given_ty ?_ k102 (Below.refl _ _); exact rfl))
                 intro wqz bqz
                 first | refine Tp.fin_is rfl rfl rfl ?_ | refine Tp.fin_ty rfl rfl rfl (fun y87 q87 => ?_)
                 first | refine Tp.fin_is rfl rfl rfl ?_ | refine Tp.fin_ty rfl rfl rfl (fun y88 q88 => ?_)
                 first | refine Tp.fin_is rfl rfl rfl ?_ | refine Tp.fin_ty rfl rfl rfl (fun y89 q89 => ?_)
                 first | refine Tp.fin_is rfl rfl rfl ?_ | refine Tp.fin_ty rfl rfl rfl (fun y90 q90 => ?_)
                 first | refine Tp.fin_is rfl rfl rfl ?_ | refine Tp.fin_ty rfl rfl rfl (fun y91 q91 => ?_)
                 first | refine Tp.fin_is rfl rfl rfl ?_ | refine Tp.fin_ty rfl rfl rfl (fun y92 q92 => ?_)
                 first | refine Tp.fin_is rfl rfl rfl ?_ | refine Tp.fin_ty rfl rfl rfl (fun y93 q93 => ?_)
                 first | refine Tp.fin_is rfl rfl rfl ?_ | refine Tp.fin_ty rfl rfl rfl (fun y94 q94 => ?_)
                 first | refine Tp.fin_is rfl rfl rfl ?_ | refine Tp.fin_ty rfl rfl rfl (fun y95 q95 => ?_)
                 first | refine Tp.fin_is rfl rfl rfl ?_ | refine Tp.fin_ty rfl rfl rfl (fun y96 q96 => ?_)
                 first | refine Tp.fin_is rfl rfl rfl ?_ | refine Tp.fin_ty rfl rfl rfl (fun y97 q97 => ?_)
                 first | refine Tp.fin_is rfl rfl rfl ?_ | refine Tp.fin_ty rfl rfl rfl (fun y98 q98 => ?_)
                 first | refine Tp.fin_is rfl rfl rfl ?_ | refine Tp.fin_ty rfl rfl rfl (fun y99 q99 => ?_)
                 first | refine Tp.fin_is rfl rfl rfl ?_ | refine Tp.fin_ty rfl rfl rfl (fun y100 q100 => ?_)
                 first | refine Tp.fin_is rfl rfl rfl ?_ | refine Tp.fin_ty rfl rfl rfl (fun y101 q101 => ?_)
                 first | refine Tp.fin_is rfl rfl rfl ?_ | refine Tp.fin_ty rfl rfl rfl (fun y102 q102 => ?_)
                 first | refine Tp.fin_is rfl rfl rfl ?_ | refine Tp.fin_ty rfl rfl rfl (fun y6 q6 => ?_)
                 refine Tp.fin_nil ?_
                 simp only [Act.put, List.setIfInBounds_toArray, List.set_cons_succ, List.set_cons_zero, List.drop_succ_cons, List.drop_zero, List.drop_nil]
                 have BZ := UP8 _ bqz
                 cases SM
                 · go_wp2_with fail
                   rw [← HQ.out]
                   exact ⟨rfl, BZ⟩
                 · go_wp2_with fail
                   rw [← HQ.out]
                   exact ⟨rfl, BZ⟩)
            · by_cases hkn : k < N1
              · have hkx : k < x.path.length := by rw [E3.out]; exact hkn
                obtain ⟨hky, hst⟩ := Rt.alike_step x y k hB.out.symm hkx
                have HST := Lib.hid hst
                have sx := AX.out.strs HX4.out
                have sy := AY.out.strs HY4.out
                obtain ⟨bx, ox, rfl, lbx⟩ := sx.at_ k (by have := sx.len; omega)
                obtain ⟨by_, oy, rfl, lby⟩ := sy.at_ k (by have := sy.len; omega)
                have kcx := sx.cell bx ox rfl k (by have := sx.len; omega)
                have kcy := sy.cell by_ oy rfl k (by have := sy.len; omega)
                have hk2 := hky
                rw [E4.out] at hk2
                have q0 : (0 : Int) ≤ (k : Int) := Int.natCast_nonneg _
                have q1 : (k : Int) < (N1 : Int) := by omega
                have q2 := Int.ofNat_lt.2 hk2
                have hbig := sx.big
                clear sx sy hst
                have hbz := Rt.beqL (x.path.getD k ByteArray.empty) (y.path.getD k ByteArray.empty)
                generalize x.path.getD k ByteArray.empty = S1 at *
                generalize y.path.getD k ByteArray.empty = S2 at *
                obtain ⟨EB, hEB⟩ : ∃ b, (S1 == S2) = b := ⟨_, rfl⟩
                rw [hEB] at hbz HST
                go_wp2_with fail
                go_region
                go_wp2_with fail
                go_roundw
                case rel => exact ⟨k + 1, EB, by omega, by simp, rfl, HST.out.symm, AX.out.keep (Below.refl _ _).drew, AY.out.keep (Below.refl _ _).drew, BQ.out.drew⟩
                case measure => simp [Go.RowKit.intOf]; omega
              · have h14 := T1.out
                rw [← Rt.alike_end x y k (by rw [E3.out]; omega), ← hB.out] at h14
                have q1 : ¬ (k : Int) < (N1 : Int) := by omega
                first
                | (exfalso; revert h14; decide)
                | (clear h14
                   go_wp2_with fail
                   have UP8 := fun u (hu : Below _ _ u) => BQ.out.trans (hu.mono BQ.out.size)
                   refine Tp.region_ex (by kernel_rfl) 17 103 [[(9, none)], [(87, some 0)], [(10, none), (88, some 1)], [(88, some 1), (89, some 2)], [(11, none)], [(91, some 4)], [(90, some 3), (92, some 5)], [(93, some 6)], [(7, none), (94, some 7)], [(8, none), (94, some 7)], [(95, some 8), (96, some 9), (94, some 7)], [(7, none), (94, some 7)], [(8, none), (94, some 7)], [(98, some 11), (99, some 12), (94, some 7)], [(97, some 10), (100, some 13), (94, some 7)], [(94, some 7), (101, some 14)], [(102, some 15)]] (by kernel_rfl) rfl ?_
                   apply Exists.intro [_, _, _, _, _, _, _, _, _, _, _, _, _, _, _, _, _]
                   refine ⟨⟨?_, ?_, ?_, ?_, ?_, ?_, ?_, ?_, ?_, ?_, ?_, ?_, ?_, ?_, ?_, ?_, ?_, trivial⟩, ?_⟩
                   · intro A u hC hG hF hu hR; clear hG
                     refine Tp.facts_old (fun h9 => ?_) rfl; conv at h9 => rhs; whnf
                     refine Tp.facts_nil ?_
                     refine Tp.wants_plain rfl ?_
                     (apply Tp.gives_run; (simp [go_sem, hC, hF, hu, h9]; exact rfl); (refine Tp.given_is ?_; exact rfl))
                   · intro A u hC hG hF hu hR; clear hG
                     first | refine Tp.facts_is rfl (fun h87 => ?_) | refine Tp.facts_ty rfl (fun v87 h87 k87 => ?_)
                     refine Tp.facts_nil ?_
                     refine Tp.wants_plain rfl ?_
                     first | (apply Tp.gives_run; (simp [go_sem, hC, hF, hu, h87]; exact rfl); (refine Tp.given_is ?_; exact rfl)) | (apply Tp.gives_run; (simp [go_sem, hC, hF, h87]; exact rfl); (refine Tp.given_ty ?_ k87 (Below.refl _ _); exact rfl))
                   · intro A u hC hG hF hu hR; clear hG
                     refine Tp.facts_old (fun h10 => ?_) rfl; conv at h10 => rhs; whnf
                     first | refine Tp.facts_is rfl (fun h88 => ?_) | refine Tp.facts_ty rfl (fun v88 h88 k88 => ?_)
                     refine Tp.facts_nil ?_
                     first
                     | (refine Tp.wants_skip rfl rfl h88 ?_; exact Tp.skip_t rfl)
                     | (refine Tp.wants_go rfl rfl h88 ?_; ((apply Tp.gives_run; (simp [go_sem, hC, hF, hu, h10, h88]; exact rfl); (refine Tp.given_is ?_; exact rfl))))
                   · intro A u hC hG hF hu hR; clear hG
                     first | refine Tp.facts_is rfl (fun h88 => ?_) | refine Tp.facts_ty rfl (fun v88 h88 k88 => ?_)
                     first | refine Tp.facts_is rfl (fun h89 => ?_) | refine Tp.facts_ty rfl (fun v89 h89 k89 => ?_)
                     refine Tp.facts_nil ?_
                     refine Tp.wants_plain rfl ?_
                     (apply Tp.gives_run; (simp [go_sem, hC, hF, hu, h88, h89]; exact rfl); (refine Tp.given_is ?_; exact rfl))
                   · intro A u hC hG hF hu hR; clear hG
                     refine Tp.facts_old (fun h11 => ?_) rfl; conv at h11 => rhs; whnf
                     refine Tp.facts_nil ?_
                     refine Tp.wants_plain rfl ?_
                     (apply Tp.gives_run; (simp [go_sem, hC, hF, hu, h11]; exact rfl); (refine Tp.given_is ?_; exact rfl))
                   · intro A u hC hG hF hu hR; clear hG
                     first | refine Tp.facts_is rfl (fun h91 => ?_) | refine Tp.facts_ty rfl (fun v91 h91 k91 => ?_)
                     refine Tp.facts_nil ?_
                     refine Tp.wants_plain rfl ?_
                     (apply Tp.gives_run; (simp [go_sem, hC, hF, hu, h91]; exact rfl); (refine Tp.given_is ?_; exact rfl))
                   · intro A u hC hG hF hu hR; clear hG
                     first | refine Tp.facts_is rfl (fun h90 => ?_) | refine Tp.facts_ty rfl (fun v90 h90 k90 => ?_)
                     first | refine Tp.facts_is rfl (fun h92 => ?_) | refine Tp.facts_ty rfl (fun v92 h92 k92 => ?_)
                     refine Tp.facts_nil ?_
                     refine Tp.wants_plain rfl ?_
                     (apply Tp.gives_run; (simp [go_sem, hC, hF, hu, h90, h92]; exact rfl); (refine Tp.given_is ?_; exact rfl))
                   · intro A u hC hG hF hu hR; clear hG
                     first | refine Tp.facts_is rfl (fun h93 => ?_) | refine Tp.facts_ty rfl (fun v93 h93 k93 => ?_)
                     refine Tp.facts_nil ?_
                     refine Tp.wants_plain rfl ?_
                     first | (apply Tp.gives_run; (simp [go_sem, hC, hF, hu, h93]; exact rfl); (refine Tp.given_is ?_; exact rfl)) | (apply Tp.gives_run; (simp [go_sem, hC, hF, h93]; exact rfl); (refine Tp.given_ty ?_ k93 (Below.refl _ _); exact rfl))
                   · intro A u hC hG hF hu hR; clear hG
                     refine Tp.facts_old (fun h7 => ?_) rfl; conv at h7 => rhs; whnf
                     first | refine Tp.facts_is rfl (fun h94 => ?_) | refine Tp.facts_ty rfl (fun v94 h94 k94 => ?_)
                     refine Tp.facts_nil ?_
                     first
                     | (refine Tp.wants_skip rfl rfl h94 ?_; exact Tp.skip_t rfl)
                     | (refine Tp.wants_go rfl rfl h94 ?_; (refine Tp.load_var rfl h7 ((AX.out.keep hu).row.whole33 AX.out.size) ?_; exact rfl))
                   · intro A u hC hG hF hu hR; clear hG
                     refine Tp.facts_old (fun h8 => ?_) rfl; conv at h8 => rhs; whnf
                     first | refine Tp.facts_is rfl (fun h94 => ?_) | refine Tp.facts_ty rfl (fun v94 h94 k94 => ?_)
                     refine Tp.facts_nil ?_
                     first
                     | (refine Tp.wants_skip rfl rfl h94 ?_; exact Tp.skip_t rfl)
                     | (refine Tp.wants_go rfl rfl h94 ?_; (refine Tp.load_var rfl h8 ((AY.out.keep hu).row.whole33 AY.out.size) ?_; exact rfl))
                   · intro A u hC hG hF hu hR; clear hG
                     first | refine Tp.facts_is rfl (fun h95 => ?_) | refine Tp.facts_ty rfl (fun v95 h95 k95 => ?_)
                     first | refine Tp.facts_is rfl (fun h96 => ?_) | refine Tp.facts_ty rfl (fun v96 h96 k96 => ?_)
                     first | refine Tp.facts_is rfl (fun h94 => ?_) | refine Tp.facts_ty rfl (fun v94 h94 k94 => ?_)
                     refine Tp.facts_nil ?_
                     first
                     | (refine Tp.wants_skip rfl rfl h94 ?_; exact Tp.skip_t rfl)
                     | (refine Tp.wants_go rfl rfl h94 ?_; ((apply Tp.gives_run; (simp [go_sem, hC, hF, hu, h95, h96, h94]; exact rfl); (refine Tp.given_call ?_ (Rt.says_ret (SXY.out _ _ _ (AX.out.keep hu).val.val (AY.out.keep hu).val.val)); exact rfl))))
                   · intro A u hC hG hF hu hR; clear hG
                     refine Tp.facts_old (fun h7 => ?_) rfl; conv at h7 => rhs; whnf
                     first | refine Tp.facts_is rfl (fun h94 => ?_) | refine Tp.facts_ty rfl (fun v94 h94 k94 => ?_)
                     refine Tp.facts_nil ?_
                     first
                     | (refine Tp.wants_skip rfl rfl h94 ?_; exact Tp.skip_t rfl)
                     | (refine Tp.wants_go rfl rfl h94 ?_; (refine Tp.load_var rfl h7 ((AX.out.keep hu).row.whole33 AX.out.size) ?_; exact rfl))
                   · intro A u hC hG hF hu hR; clear hG
                     refine Tp.facts_old (fun h8 => ?_) rfl; conv at h8 => rhs; whnf
                     first | refine Tp.facts_is rfl (fun h94 => ?_) | refine Tp.facts_ty rfl (fun v94 h94 k94 => ?_)
                     refine Tp.facts_nil ?_
                     first
                     | (refine Tp.wants_skip rfl rfl h94 ?_; exact Tp.skip_t rfl)
                     | (refine Tp.wants_go rfl rfl h94 ?_; (refine Tp.load_var rfl h8 ((AY.out.keep hu).row.whole33 AY.out.size) ?_; exact rfl))
                   · intro A u hC hG hF hu hR; clear hG
                     first | refine Tp.facts_is rfl (fun h98 => ?_) | refine Tp.facts_ty rfl (fun v98 h98 k98 => ?_)
                     first | refine Tp.facts_is rfl (fun h99 => ?_) | refine Tp.facts_ty rfl (fun v99 h99 k99 => ?_)
                     first | refine Tp.facts_is rfl (fun h94 => ?_) | refine Tp.facts_ty rfl (fun v94 h94 k94 => ?_)
                     refine Tp.facts_nil ?_
                     first
                     | (refine Tp.wants_skip rfl rfl h94 ?_; exact Tp.skip_t rfl)
                     | (refine Tp.wants_go rfl rfl h94 ?_; ((apply Tp.gives_run; (simp [go_sem, hC, hF, hu, h98, h99, h94]; exact rfl); (refine Tp.given_call ?_ (Rt.says_ret (SRX.out _ _ _ (AX.out.keep hu).val.val (AY.out.keep hu).val.val)); exact rfl))))
                   · intro A u hC hG hF hu hR; clear hG
                     first | refine Tp.facts_is rfl (fun h97 => ?_) | refine Tp.facts_ty rfl (fun v97 h97 k97 => ?_)
                     first | refine Tp.facts_is rfl (fun h100 => ?_) | refine Tp.facts_ty rfl (fun v100 h100 k100 => ?_)
                     first | refine Tp.facts_is rfl (fun h94 => ?_) | refine Tp.facts_ty rfl (fun v94 h94 k94 => ?_)
                     refine Tp.facts_nil ?_
                     first
                     | (refine Tp.wants_skip rfl rfl h94 ?_; exact Tp.skip_t rfl)
                     | (refine Tp.wants_go rfl rfl h94 ?_; ((apply Tp.gives_run; (simp [go_sem, hC, hF, hu, h97, h100, h94]; exact rfl); (refine Tp.given_is ?_; exact rfl))))
                   · intro A u hC hG hF hu hR; clear hG
                     first | refine Tp.facts_is rfl (fun h94 => ?_) | refine Tp.facts_ty rfl (fun v94 h94 k94 => ?_)
                     first | refine Tp.facts_is rfl (fun h101 => ?_) | refine Tp.facts_ty rfl (fun v101 h101 k101 => ?_)
                     refine Tp.facts_nil ?_
                     refine Tp.wants_plain rfl ?_
                     (apply Tp.gives_run; (simp [go_sem, hC, hF, hu, h94, h101]; exact rfl); (refine Tp.given_is ?_; exact rfl))
                   · intro A u hC hG hF hu hR; clear hG
                     first | refine Tp.facts_is rfl (fun h102 => ?_) | refine Tp.facts_ty rfl (fun v102 h102 k102 => ?_)
                     refine Tp.facts_nil ?_
                     refine Tp.wants_plain rfl ?_
                     first | (apply Tp.gives_run; (simp [go_sem, hC, hF, hu, h102]; exact rfl); (refine Tp.given_is ?_; exact rfl)) | (apply Tp.gives_run; (simp [go_sem, hC, hF, h102]; exact rfl); (refine Tp.given_ty ?_ k102 (Below.refl _ _); exact rfl))
                   intro wqz bqz
                   first | refine Tp.fin_is rfl rfl rfl ?_ | refine Tp.fin_ty rfl rfl rfl (fun y87 q87 => ?_)
                   first | refine Tp.fin_is rfl rfl rfl ?_ | refine Tp.fin_ty rfl rfl rfl (fun y88 q88 => ?_)
                   first | refine Tp.fin_is rfl rfl rfl ?_ | refine Tp.fin_ty rfl rfl rfl (fun y89 q89 => ?_)
                   first | refine Tp.fin_is rfl rfl rfl ?_ | refine Tp.fin_ty rfl rfl rfl (fun y90 q90 => ?_)
                   first | refine Tp.fin_is rfl rfl rfl ?_ | refine Tp.fin_ty rfl rfl rfl (fun y91 q91 => ?_)
                   first | refine Tp.fin_is rfl rfl rfl ?_ | refine Tp.fin_ty rfl rfl rfl (fun y92 q92 => ?_)
                   first | refine Tp.fin_is rfl rfl rfl ?_ | refine Tp.fin_ty rfl rfl rfl (fun y93 q93 => ?_)
                   first | refine Tp.fin_is rfl rfl rfl ?_ | refine Tp.fin_ty rfl rfl rfl (fun y94 q94 => ?_)
                   first | refine Tp.fin_is rfl rfl rfl ?_ | refine Tp.fin_ty rfl rfl rfl (fun y95 q95 => ?_)
                   first | refine Tp.fin_is rfl rfl rfl ?_ | refine Tp.fin_ty rfl rfl rfl (fun y96 q96 => ?_)
                   first | refine Tp.fin_is rfl rfl rfl ?_ | refine Tp.fin_ty rfl rfl rfl (fun y97 q97 => ?_)
                   first | refine Tp.fin_is rfl rfl rfl ?_ | refine Tp.fin_ty rfl rfl rfl (fun y98 q98 => ?_)
                   first | refine Tp.fin_is rfl rfl rfl ?_ | refine Tp.fin_ty rfl rfl rfl (fun y99 q99 => ?_)
                   first | refine Tp.fin_is rfl rfl rfl ?_ | refine Tp.fin_ty rfl rfl rfl (fun y100 q100 => ?_)
                   first | refine Tp.fin_is rfl rfl rfl ?_ | refine Tp.fin_ty rfl rfl rfl (fun y101 q101 => ?_)
                   first | refine Tp.fin_is rfl rfl rfl ?_ | refine Tp.fin_ty rfl rfl rfl (fun y102 q102 => ?_)
                   first | refine Tp.fin_is rfl rfl rfl ?_ | refine Tp.fin_ty rfl rfl rfl (fun y6 q6 => ?_)
                   refine Tp.fin_nil ?_
                   simp only [Act.put, List.setIfInBounds_toArray, List.set_cons_succ, List.set_cons_zero, List.drop_succ_cons, List.drop_zero, List.drop_nil]
                   have BZ := UP8 _ bqz
                   cases SM
                   · go_wp2_with fail
                     rw [← HQ.out]
                     exact ⟨rfl, BZ⟩
                   · go_wp2_with fail
                     rw [← HQ.out]
                     exact ⟨rfl, BZ⟩)
      · have hB0 : Hid (false = Rt.alike x y 0) := Lib.hid (by rw [HB0.out]; simp [hco])
        go_wp2_with (first | (have _t := AX; (with_reducible refine Rt.load_at 33 (x := .tmp 7) ?_ ⟨g7, 0, none⟩ ?_ ?_ (AX.out.row.whole33 AX.out.size) ?_); (with_reducible exact rfl); (exact rfl); (exact rfl); clear _t) | (have _t := AY; (with_reducible refine Rt.load_at 33 (x := .tmp 8) ?_ ⟨g8, 0, none⟩ ?_ ?_ (AY.out.row.whole33 AY.out.size) ?_); (with_reducible exact rfl); (exact rfl); (exact rfl); clear _t) | (go_at_call 21; (with_reducible refine (RXY.out _ _ _ AX.out.val.val AY.out.val.val (Utf8Tabs_below hT BQ.out)).mono ?_); rintro e w9 ⟨rfl, hb⟩; (replace AX := Lib.hid (AX.out.keep hb); replace AY := Lib.hid (AY.out.keep hb); replace BQ := Lib.hid (BQ.out.trans ((hb).mono BQ.out.size)); clear xco yco kx4 ky4 hb; have xco := AX.out.row.cell 5 HX5.out; have yco := AY.out.row.cell 5 HY5.out; have kx4 := AX.out.row.cell 4 HX4.out; have ky4 := AY.out.row.cell 4 HY4.out)) | (go_at_call 21; (with_reducible refine (RYX.out _ _ _ AY.out.val.val AX.out.val.val (Utf8Tabs_below hT BQ.out)).mono ?_); rintro e w9 ⟨rfl, hb⟩; (replace AX := Lib.hid (AX.out.keep hb); replace AY := Lib.hid (AY.out.keep hb); replace BQ := Lib.hid (BQ.out.trans ((hb).mono BQ.out.size)); clear xco yco kx4 ky4 hb; have xco := AX.out.row.cell 5 HX5.out; have yco := AY.out.row.cell 5 HY5.out; have kx4 := AX.out.row.cell 4 HX4.out; have ky4 := AY.out.row.cell 4 HY4.out)) | (go_at_call 20; (with_reducible refine (HXX.out _ _ _ AX.out.val.val AX.out.val.val (Utf8Tabs_below hT BQ.out)).mono ?_); rintro e w9 ⟨rfl, hb⟩; (replace AX := Lib.hid (AX.out.keep hb); replace AY := Lib.hid (AY.out.keep hb); replace BQ := Lib.hid (BQ.out.trans ((hb).mono BQ.out.size)); clear xco yco kx4 ky4 hb; have xco := AX.out.row.cell 5 HX5.out; have yco := AY.out.row.cell 5 HY5.out; have kx4 := AX.out.row.cell 4 HX4.out; have ky4 := AY.out.row.cell 4 HY4.out)))
        clear kx4 ky4 xco yco
        go_loopw [11, 12] (fun b i wr => ∃ (k : Nat) (B : Bool), k ≤ N1 ∧ i = .int .i64 (k : Int) ∧ b = .bool B ∧ B = Rt.alike x y k ∧ Rt.AtN wr g7 x cx ∧ Rt.AtN wr g8 y dy ∧ Below w.heap.size w wr) (fun _ i _ => N1 - (Go.RowKit.intOf i).toNat)
        case atStart => exact ⟨0, _, Nat.zero_le _, rfl, rfl, (by first | exact hB0.out | (rw [← hB0.out]; exact beq_false_of_ne (by omega))), AX.out, AY.out, BQ.out⟩
        case round =>
          obtain ⟨k, B, hk, rfl, rfl, hBB, hx', hy', hbq⟩ := hrel
          have hB := Lib.hid hBB
          clear hBB
          have AX := Lib.hid hx'
          have AY := Lib.hid hy'
          have BQ := Lib.hid hbq
          clear hx' hy' hbq hB0
          have kx4 := AX.out.row.cell 4 HX4.out
          have ky4 := AY.out.row.cell 4 HY4.out
          cases B
          · have h14 := T1.out
            rw [Rt.alike_false x y k hB.out.symm] at h14
            first
            | (exfalso; revert h14; decide)
            | (clear h14
               go_wp2_with fail
               have UP8 := fun u (hu : Below _ _ u) => BQ.out.trans (hu.mono BQ.out.size)
               refine Tp.region_ex (by kernel_rfl) 17 103 [[(9, none)], [(87, some 0)], [(10, none), (88, some 1)], [(88, some 1), (89, some 2)], [(11, none)], [(91, some 4)], [(90, some 3), (92, some 5)], [(93, some 6)], [(7, none), (94, some 7)], [(8, none), (94, some 7)], [(95, some 8), (96, some 9), (94, some 7)], [(7, none), (94, some 7)], [(8, none), (94, some 7)], [(98, some 11), (99, some 12), (94, some 7)], [(97, some 10), (100, some 13), (94, some 7)], [(94, some 7), (101, some 14)], [(102, some 15)]] (by kernel_rfl) rfl ?_
               apply Exists.intro [_, _, _, _, _, _, _, _, _, _, _, _, _, _, _, _, _]
               refine ⟨⟨?_, ?_, ?_, ?_, ?_, ?_, ?_, ?_, ?_, ?_, ?_, ?_, ?_, ?_, ?_, ?_, ?_, trivial⟩, ?_⟩
               · intro A u hC hG hF hu hR; clear hG
                 refine Tp.facts_old (fun h9 => ?_) rfl; conv at h9 => rhs; whnf
                 refine Tp.facts_nil ?_
                 refine Tp.wants_plain rfl ?_
                 (apply Tp.gives_run; (simp [go_sem, hC, hF, hu, h9]; exact rfl); (refine Tp.given_is ?_; exact rfl))
               · intro A u hC hG hF hu hR; clear hG
                 first | refine Tp.facts_is rfl (fun h87 => ?_) | refine Tp.facts_ty rfl (fun v87 h87 k87 => ?_)
                 refine Tp.facts_nil ?_
                 refine Tp.wants_plain rfl ?_
                 first | (apply Tp.gives_run; (simp [go_sem, hC, hF, hu, h87]; exact rfl); (refine Tp.given_is ?_; exact rfl)) | (apply Tp.gives_run; (simp [go_sem, hC, hF, h87]; exact rfl); (refine Tp.given_ty ?_ k87 (Below.refl _ _); exact rfl))
               · intro A u hC hG hF hu hR; clear hG
                 refine Tp.facts_old (fun h10 => ?_) rfl; conv at h10 => rhs; whnf
                 first | refine Tp.facts_is rfl (fun h88 => ?_) | refine Tp.facts_ty rfl (fun v88 h88 k88 => ?_)
                 refine Tp.facts_nil ?_
                 first
                 | (refine Tp.wants_skip rfl rfl h88 ?_; exact Tp.skip_t rfl)
                 | (refine Tp.wants_go rfl rfl h88 ?_; ((apply Tp.gives_run; (simp [go_sem, hC, hF, hu, h10, h88]; exact rfl); (refine Tp.given_is ?_; exact rfl))))
               · intro A u hC hG hF hu hR; clear hG
                 first | refine Tp.facts_is rfl (fun h88 => ?_) | refine Tp.facts_ty rfl (fun v88 h88 k88 => ?_)
                 first | refine Tp.facts_is rfl (fun h89 => ?_) | refine Tp.facts_ty rfl (fun v89 h89 k89 => ?_)
                 refine Tp.facts_nil ?_
                 refine Tp.wants_plain rfl ?_
                 (apply Tp.gives_run; (simp [go_sem, hC, hF, hu, h88, h89]; exact rfl); (refine Tp.given_is ?_; exact rfl))
               · intro A u hC hG hF hu hR; clear hG
                 refine Tp.facts_old (fun h11 => ?_) rfl; conv at h11 => rhs; whnf
                 refine Tp.facts_nil ?_
                 refine Tp.wants_plain rfl ?_
                 (apply Tp.gives_run; (simp [go_sem, hC, hF, hu, h11]; exact rfl); (refine Tp.given_is ?_; exact rfl))
               · intro A u hC hG hF hu hR; clear hG
                 first | refine Tp.facts_is rfl (fun h91 => ?_) | refine Tp.facts_ty rfl (fun v91 h91 k91 => ?_)
                 refine Tp.facts_nil ?_
                 refine Tp.wants_plain rfl ?_
                 (apply Tp.gives_run; (simp [go_sem, hC, hF, hu, h91]; exact rfl); (refine Tp.given_is ?_; exact rfl))
               · intro A u hC hG hF hu hR; clear hG
                 first | refine Tp.facts_is rfl (fun h90 => ?_) | refine Tp.facts_ty rfl (fun v90 h90 k90 => ?_)
                 first | refine Tp.facts_is rfl (fun h92 => ?_) | refine Tp.facts_ty rfl (fun v92 h92 k92 => ?_)
                 refine Tp.facts_nil ?_
                 refine Tp.wants_plain rfl ?_
                 (apply Tp.gives_run; (simp [go_sem, hC, hF, hu, h90, h92]; exact rfl); (refine Tp.given_is ?_; exact rfl))
               · intro A u hC hG hF hu hR; clear hG
                 first | refine Tp.facts_is rfl (fun h93 => ?_) | refine Tp.facts_ty rfl (fun v93 h93 k93 => ?_)
                 refine Tp.facts_nil ?_
                 refine Tp.wants_plain rfl ?_
                 first | (apply Tp.gives_run; (simp [go_sem, hC, hF, hu, h93]; exact rfl); (refine Tp.given_is ?_; exact rfl)) | (apply Tp.gives_run; (simp [go_sem, hC, hF, h93]; exact rfl); (refine Tp.given_ty ?_ k93 (Below.refl _ _); exact rfl))
               · intro A u hC hG hF hu hR; clear hG
                 refine Tp.facts_old (fun h7 => ?_) rfl; conv at h7 => rhs; whnf
                 first | refine Tp.facts_is rfl (fun h94 => ?_) | refine Tp.facts_ty rfl (fun v94 h94 k94 => ?_)
                 refine Tp.facts_nil ?_
                 first
                 | (refine Tp.wants_skip rfl rfl h94 ?_; exact Tp.skip_t rfl)
                 | (refine Tp.wants_go rfl rfl h94 ?_; (refine Tp.load_var rfl h7 ((AX.out.keep hu).row.whole33 AX.out.size) ?_; exact rfl))
               · intro A u hC hG hF hu hR; clear hG
                 refine Tp.facts_old (fun h8 => ?_) rfl; conv at h8 => rhs; whnf
                 first | refine Tp.facts_is rfl (fun h94 => ?_) | refine Tp.facts_ty rfl (fun v94 h94 k94 => ?_)
                 refine Tp.facts_nil ?_
                 first
                 | (refine Tp.wants_skip rfl rfl h94 ?_; exact Tp.skip_t rfl)
                 | (refine Tp.wants_go rfl rfl h94 ?_; (refine Tp.load_var rfl h8 ((AY.out.keep hu).row.whole33 AY.out.size) ?_; exact rfl))
               · intro A u hC hG hF hu hR; clear hG
                 first | refine Tp.facts_is rfl (fun h95 => ?_) | refine Tp.facts_ty rfl (fun v95 h95 k95 => ?_)
                 first | refine Tp.facts_is rfl (fun h96 => ?_) | refine Tp.facts_ty rfl (fun v96 h96 k96 => ?_)
                 first | refine Tp.facts_is rfl (fun h94 => ?_) | refine Tp.facts_ty rfl (fun v94 h94 k94 => ?_)
                 refine Tp.facts_nil ?_
                 first
                 | (refine Tp.wants_skip rfl rfl h94 ?_; exact Tp.skip_t rfl)
                 | (refine Tp.wants_go rfl rfl h94 ?_; ((apply Tp.gives_run; (simp [go_sem, hC, hF, hu, h95, h96, h94]; exact rfl); (refine Tp.given_call ?_ (Rt.says_ret (SXY.out _ _ _ (AX.out.keep hu).val.val (AY.out.keep hu).val.val)); exact rfl))))
               · intro A u hC hG hF hu hR; clear hG
                 refine Tp.facts_old (fun h7 => ?_) rfl; conv at h7 => rhs; whnf
                 first | refine Tp.facts_is rfl (fun h94 => ?_) | refine Tp.facts_ty rfl (fun v94 h94 k94 => ?_)
                 refine Tp.facts_nil ?_
                 first
                 | (refine Tp.wants_skip rfl rfl h94 ?_; exact Tp.skip_t rfl)
                 | (refine Tp.wants_go rfl rfl h94 ?_; (refine Tp.load_var rfl h7 ((AX.out.keep hu).row.whole33 AX.out.size) ?_; exact rfl))
               · intro A u hC hG hF hu hR; clear hG
                 refine Tp.facts_old (fun h8 => ?_) rfl; conv at h8 => rhs; whnf
                 first | refine Tp.facts_is rfl (fun h94 => ?_) | refine Tp.facts_ty rfl (fun v94 h94 k94 => ?_)
                 refine Tp.facts_nil ?_
                 first
                 | (refine Tp.wants_skip rfl rfl h94 ?_; exact Tp.skip_t rfl)
                 | (refine Tp.wants_go rfl rfl h94 ?_; (refine Tp.load_var rfl h8 ((AY.out.keep hu).row.whole33 AY.out.size) ?_; exact rfl))
               · intro A u hC hG hF hu hR; clear hG
                 first | refine Tp.facts_is rfl (fun h98 => ?_) | refine Tp.facts_ty rfl (fun v98 h98 k98 => ?_)
                 first | refine Tp.facts_is rfl (fun h99 => ?_) | refine Tp.facts_ty rfl (fun v99 h99 k99 => ?_)
                 first | refine Tp.facts_is rfl (fun h94 => ?_) | refine Tp.facts_ty rfl (fun v94 h94 k94 => ?_)
                 refine Tp.facts_nil ?_
                 first
                 | (refine Tp.wants_skip rfl rfl h94 ?_; exact Tp.skip_t rfl)
                 | (refine Tp.wants_go rfl rfl h94 ?_; ((apply Tp.gives_run; (simp [go_sem, hC, hF, hu, h98, h99, h94]; exact rfl); (refine Tp.given_call ?_ (Rt.says_ret (SRX.out _ _ _ (AX.out.keep hu).val.val (AY.out.keep hu).val.val)); exact rfl))))
               · intro A u hC hG hF hu hR; clear hG
                 first | refine Tp.facts_is rfl (fun h97 => ?_) | refine Tp.facts_ty rfl (fun v97 h97 k97 => ?_)
                 first | refine Tp.facts_is rfl (fun h100 => ?_) | refine Tp.facts_ty rfl (fun v100 h100 k100 => ?_)
                 first | refine Tp.facts_is rfl (fun h94 => ?_) | refine Tp.facts_ty rfl (fun v94 h94 k94 => ?_)
                 refine Tp.facts_nil ?_
                 first
                 | (refine Tp.wants_skip rfl rfl h94 ?_; exact Tp.skip_t rfl)
                 | (refine Tp.wants_go rfl rfl h94 ?_; ((apply Tp.gives_run; (simp [go_sem, hC, hF, hu, h97, h100, h94]; exact rfl); (refine Tp.given_is ?_; exact rfl))))
               · intro A u hC hG hF hu hR; clear hG
                 first | refine Tp.facts_is rfl (fun h94 => ?_) | refine Tp.facts_ty rfl (fun v94 h94 k94 => ?_)
                 first | refine Tp.facts_is rfl (fun h101 => ?_) | refine Tp.facts_ty rfl (fun v101 h101 k101 => ?_)
                 refine Tp.facts_nil ?_
                 refine Tp.wants_plain rfl ?_
                 (apply Tp.gives_run; (simp [go_sem, hC, hF, hu, h94, h101]; exact rfl); (refine Tp.given_is ?_; exact rfl))
               · intro A u hC hG hF hu hR; clear hG
                 first | refine Tp.facts_is rfl (fun h102 => ?_) | refine Tp.facts_ty rfl (fun v102 h102 k102 => ?_)
                 refine Tp.facts_nil ?_
                 refine Tp.wants_plain rfl ?_
                 first | (apply Tp.gives_run; (simp [go_sem, hC, hF, hu, h102]; exact rfl); (refine Tp.given_is ?_; exact rfl)) | (apply Tp.gives_run; (simp [go_sem, hC, hF, h102]; exact rfl); (refine Tp.given_ty ?_ k102 (Below.refl _ _); exact rfl))
               intro wqz bqz
               first | refine Tp.fin_is rfl rfl rfl ?_ | refine Tp.fin_ty rfl rfl rfl (fun y87 q87 => ?_)
               first | refine Tp.fin_is rfl rfl rfl ?_ | refine Tp.fin_ty rfl rfl rfl (fun y88 q88 => ?_)
               first | refine Tp.fin_is rfl rfl rfl ?_ | refine Tp.fin_ty rfl rfl rfl (fun y89 q89 => ?_)
               first | refine Tp.fin_is rfl rfl rfl ?_ | refine Tp.fin_ty rfl rfl rfl (fun y90 q90 => ?_)
               first | refine Tp.fin_is rfl rfl rfl ?_ | refine Tp.fin_ty rfl rfl rfl (fun y91 q91 => ?_)
               first | refine Tp.fin_is rfl rfl rfl ?_ | refine Tp.fin_ty rfl rfl rfl (fun y92 q92 => ?_)
               first | refine Tp.fin_is rfl rfl rfl ?_ | refine Tp.fin_ty rfl rfl rfl (fun y93 q93 => ?_)
               first | refine Tp.fin_is rfl rfl rfl ?_ | refine Tp.fin_ty rfl rfl rfl (fun y94 q94 => ?_)
               first | refine Tp.fin_is rfl rfl rfl ?_ | refine Tp.fin_ty rfl rfl rfl (fun y95 q95 => ?_)
               first | refine Tp.fin_is rfl rfl rfl ?_ | refine Tp.fin_ty rfl rfl rfl (fun y96 q96 => ?_)
               first | refine Tp.fin_is rfl rfl rfl ?_ | refine Tp.fin_ty rfl rfl rfl (fun y97 q97 => ?_)
               first | refine Tp.fin_is rfl rfl rfl ?_ | refine Tp.fin_ty rfl rfl rfl (fun y98 q98 => ?_)
               first | refine Tp.fin_is rfl rfl rfl ?_ | refine Tp.fin_ty rfl rfl rfl (fun y99 q99 => ?_)
               first | refine Tp.fin_is rfl rfl rfl ?_ | refine Tp.fin_ty rfl rfl rfl (fun y100 q100 => ?_)
               first | refine Tp.fin_is rfl rfl rfl ?_ | refine Tp.fin_ty rfl rfl rfl (fun y101 q101 => ?_)
               first | refine Tp.fin_is rfl rfl rfl ?_ | refine Tp.fin_ty rfl rfl rfl (fun y102 q102 => ?_)
               first | refine Tp.fin_is rfl rfl rfl ?_ | refine Tp.fin_ty rfl rfl rfl (fun y6 q6 => ?_)
               refine Tp.fin_nil ?_
               simp only [Act.put, List.setIfInBounds_toArray, List.set_cons_succ, List.set_cons_zero, List.drop_succ_cons, List.drop_zero, List.drop_nil]
               have BZ := UP8 _ bqz
               cases SM
               · go_wp2_with fail
                 rw [← HQ.out]
                 exact ⟨rfl, BZ⟩
               · go_wp2_with fail
                 rw [← HQ.out]
                 exact ⟨rfl, BZ⟩)
          · by_cases hkn : k < N1
            · have hkx : k < x.path.length := by rw [E3.out]; exact hkn
              obtain ⟨hky, hst⟩ := Rt.alike_step x y k hB.out.symm hkx
              have HST := Lib.hid hst
              have sx := AX.out.strs HX4.out
              have sy := AY.out.strs HY4.out
              obtain ⟨bx, ox, rfl, lbx⟩ := sx.at_ k (by have := sx.len; omega)
              obtain ⟨by_, oy, rfl, lby⟩ := sy.at_ k (by have := sy.len; omega)
              have kcx := sx.cell bx ox rfl k (by have := sx.len; omega)
              have kcy := sy.cell by_ oy rfl k (by have := sy.len; omega)
              have hk2 := hky
              rw [E4.out] at hk2
              have q0 : (0 : Int) ≤ (k : Int) := Int.natCast_nonneg _
              have q1 : (k : Int) < (N1 : Int) := by omega
              have q2 := Int.ofNat_lt.2 hk2
              have hbig := sx.big
              clear sx sy hst
              have hbz := Rt.beqL (x.path.getD k ByteArray.empty) (y.path.getD k ByteArray.empty)
              generalize x.path.getD k ByteArray.empty = S1 at *
              generalize y.path.getD k ByteArray.empty = S2 at *
              obtain ⟨EB, hEB⟩ : ∃ b, (S1 == S2) = b := ⟨_, rfl⟩
              rw [hEB] at hbz HST
              go_wp2_with fail
              go_region
              go_wp2_with fail
              go_roundw
              case rel => exact ⟨k + 1, EB, by omega, by simp, rfl, HST.out.symm, AX.out.keep (Below.refl _ _).drew, AY.out.keep (Below.refl _ _).drew, BQ.out.drew⟩
              case measure => simp [Go.RowKit.intOf]; omega
            · have h14 := T1.out
              rw [← Rt.alike_end x y k (by rw [E3.out]; omega), ← hB.out] at h14
              have q1 : ¬ (k : Int) < (N1 : Int) := by omega
              first
              | (exfalso; revert h14; decide)
              | (clear h14
                 go_wp2_with fail
                 have UP8 := fun u (hu : Below _ _ u) => BQ.out.trans (hu.mono BQ.out.size)
                 refine Tp.region_ex (by kernel_rfl) 17 103 [[(9, none)], [(87, some 0)], [(10, none), (88, some 1)], [(88, some 1), (89, some 2)], [(11, none)], [(91, some 4)], [(90, some 3), (92, some 5)], [(93, some 6)], [(7, none), (94, some 7)], [(8, none), (94, some 7)], [(95, some 8), (96, some 9), (94, some 7)], [(7, none), (94, some 7)], [(8, none), (94, some 7)], [(98, some 11), (99, some 12), (94, some 7)], [(97, some 10), (100, some 13), (94, some 7)], [(94, some 7), (101, some 14)], [(102, some 15)]] (by kernel_rfl) rfl ?_
                 apply Exists.intro [_, _, _, _, _, _, _, _, _, _, _, _, _, _, _, _, _]
                 refine ⟨⟨?_, ?_, ?_, ?_, ?_, ?_, ?_, ?_, ?_, ?_, ?_, ?_, ?_, ?_, ?_, ?_, ?_, trivial⟩, ?_⟩
                 · intro A u hC hG hF hu hR; clear hG
                   refine Tp.facts_old (fun h9 => ?_) rfl; conv at h9 => rhs; whnf
                   refine Tp.facts_nil ?_
                   refine Tp.wants_plain rfl ?_
                   (apply Tp.gives_run; (simp [go_sem, hC, hF, hu, h9]; exact rfl); (refine Tp.given_is ?_; exact rfl))
                 · intro A u hC hG hF hu hR; clear hG
                   first | refine Tp.facts_is rfl (fun h87 => ?_) | refine Tp.facts_ty rfl (fun v87 h87 k87 => ?_)
                   refine Tp.facts_nil ?_
                   refine Tp.wants_plain rfl ?_
                   first | (apply Tp.gives_run; (simp [go_sem, hC, hF, hu, h87]; exact rfl); (refine Tp.given_is ?_; exact rfl)) | (apply Tp.gives_run; (simp [go_sem, hC, hF, h87]; exact rfl); (refine Tp.given_ty ?_ k87 (Below.refl _ _); exact rfl))
                 · intro A u hC hG hF hu hR; clear hG
                   refine Tp.facts_old (fun h10 => ?_) rfl; conv at h10 => rhs; whnf
                   first | refine Tp.facts_is rfl (fun h88 => ?_) | refine Tp.facts_ty rfl (fun v88 h88 k88 => ?_)
                   refine Tp.facts_nil ?_
                   first
                   | (refine Tp.wants_skip rfl rfl h88 ?_; exact Tp.skip_t rfl)
                   | (refine Tp.wants_go rfl rfl h88 ?_; ((apply Tp.gives_run; (simp [go_sem, hC, hF, hu, h10, h88]; exact rfl); (refine Tp.given_is ?_; exact rfl))))
                 · intro A u hC hG hF hu hR; clear hG
                   first | refine Tp.facts_is rfl (fun h88 => ?_) | refine Tp.facts_ty rfl (fun v88 h88 k88 => ?_)
                   first | refine Tp.facts_is rfl (fun h89 => ?_) | refine Tp.facts_ty rfl (fun v89 h89 k89 => ?_)
                   refine Tp.facts_nil ?_
                   refine Tp.wants_plain rfl ?_
                   (apply Tp.gives_run; (simp [go_sem, hC, hF, hu, h88, h89]; exact rfl); (refine Tp.given_is ?_; exact rfl))
                 · intro A u hC hG hF hu hR; clear hG
                   refine Tp.facts_old (fun h11 => ?_) rfl; conv at h11 => rhs; whnf
                   refine Tp.facts_nil ?_
                   refine Tp.wants_plain rfl ?_
                   (apply Tp.gives_run; (simp [go_sem, hC, hF, hu, h11]; exact rfl); (refine Tp.given_is ?_; exact rfl))
                 · intro A u hC hG hF hu hR; clear hG
                   first | refine Tp.facts_is rfl (fun h91 => ?_) | refine Tp.facts_ty rfl (fun v91 h91 k91 => ?_)
                   refine Tp.facts_nil ?_
                   refine Tp.wants_plain rfl ?_
                   (apply Tp.gives_run; (simp [go_sem, hC, hF, hu, h91]; exact rfl); (refine Tp.given_is ?_; exact rfl))
                 · intro A u hC hG hF hu hR; clear hG
                   first | refine Tp.facts_is rfl (fun h90 => ?_) | refine Tp.facts_ty rfl (fun v90 h90 k90 => ?_)
                   first | refine Tp.facts_is rfl (fun h92 => ?_) | refine Tp.facts_ty rfl (fun v92 h92 k92 => ?_)
                   refine Tp.facts_nil ?_
                   refine Tp.wants_plain rfl ?_
                   (apply Tp.gives_run; (simp [go_sem, hC, hF, hu, h90, h92]; exact rfl); (refine Tp.given_is ?_; exact rfl))
                 · intro A u hC hG hF hu hR; clear hG
                   first | refine Tp.facts_is rfl (fun h93 => ?_) | refine Tp.facts_ty rfl (fun v93 h93 k93 => ?_)
                   refine Tp.facts_nil ?_
                   refine Tp.wants_plain rfl ?_
                   first | (apply Tp.gives_run; (simp [go_sem, hC, hF, hu, h93]; exact rfl); (refine Tp.given_is ?_; exact rfl)) | (apply Tp.gives_run; (simp [go_sem, hC, hF, h93]; exact rfl); (refine Tp.given_ty ?_ k93 (Below.refl _ _); exact rfl))
                 · intro A u hC hG hF hu hR; clear hG
                   refine Tp.facts_old (fun h7 => ?_) rfl; conv at h7 => rhs; whnf
                   first | refine Tp.facts_is rfl (fun h94 => ?_) | refine Tp.facts_ty rfl (fun v94 h94 k94 => ?_)
                   refine Tp.facts_nil ?_
                   first
                   | (refine Tp.wants_skip rfl rfl h94 ?_; exact Tp.skip_t rfl)
                   | (refine Tp.wants_go rfl rfl h94 ?_; (refine Tp.load_var rfl h7 ((AX.out.keep hu).row.whole33 AX.out.size) ?_; exact rfl))
                 · intro A u hC hG hF hu hR; clear hG
                   refine Tp.facts_old (fun h8 => ?_) rfl; conv at h8 => rhs; whnf
                   first | refine Tp.facts_is rfl (fun h94 => ?_) | refine Tp.facts_ty rfl (fun v94 h94 k94 => ?_)
                   refine Tp.facts_nil ?_
                   first
                   | (refine Tp.wants_skip rfl rfl h94 ?_; exact Tp.skip_t rfl)
                   | (refine Tp.wants_go rfl rfl h94 ?_; (refine Tp.load_var rfl h8 ((AY.out.keep hu).row.whole33 AY.out.size) ?_; exact rfl))
                 · intro A u hC hG hF hu hR; clear hG
                   first | refine Tp.facts_is rfl (fun h95 => ?_) | refine Tp.facts_ty rfl (fun v95 h95 k95 => ?_)
                   first | refine Tp.facts_is rfl (fun h96 => ?_) | refine Tp.facts_ty rfl (fun v96 h96 k96 => ?_)
                   first | refine Tp.facts_is rfl (fun h94 => ?_) | refine Tp.facts_ty rfl (fun v94 h94 k94 => ?_)
                   refine Tp.facts_nil ?_
                   first
                   | (refine Tp.wants_skip rfl rfl h94 ?_; exact Tp.skip_t rfl)
                   | (refine Tp.wants_go rfl rfl h94 ?_; ((apply Tp.gives_run; (simp [go_sem, hC, hF, hu, h95, h96, h94]; exact rfl); (refine Tp.given_call ?_ (Rt.says_ret (SXY.out _ _ _ (AX.out.keep hu).val.val (AY.out.keep hu).val.val)); exact rfl))))
                 · intro A u hC hG hF hu hR; clear hG
                   refine Tp.facts_old (fun h7 => ?_) rfl; conv at h7 => rhs; whnf
                   first | refine Tp.facts_is rfl (fun h94 => ?_) | refine Tp.facts_ty rfl (fun v94 h94 k94 => ?_)
                   refine Tp.facts_nil ?_
                   first
                   | (refine Tp.wants_skip rfl rfl h94 ?_; exact Tp.skip_t rfl)
                   | (refine Tp.wants_go rfl rfl h94 ?_; (refine Tp.load_var rfl h7 ((AX.out.keep hu).row.whole33 AX.out.size) ?_; exact rfl))
                 · intro A u hC hG hF hu hR; clear hG
                   refine Tp.facts_old (fun h8 => ?_) rfl; conv at h8 => rhs; whnf
                   first | refine Tp.facts_is rfl (fun h94 => ?_) | refine Tp.facts_ty rfl (fun v94 h94 k94 => ?_)
                   refine Tp.facts_nil ?_
                   first
                   | (refine Tp.wants_skip rfl rfl h94 ?_; exact Tp.skip_t rfl)
                   | (refine Tp.wants_go rfl rfl h94 ?_; (refine Tp.load_var rfl h8 ((AY.out.keep hu).row.whole33 AY.out.size) ?_; exact rfl))
                 · intro A u hC hG hF hu hR; clear hG
                   first | refine Tp.facts_is rfl (fun h98 => ?_) | refine Tp.facts_ty rfl (fun v98 h98 k98 => ?_)
                   first | refine Tp.facts_is rfl (fun h99 => ?_) | refine Tp.facts_ty rfl (fun v99 h99 k99 => ?_)
                   first | refine Tp.facts_is rfl (fun h94 => ?_) | refine Tp.facts_ty rfl (fun v94 h94 k94 => ?_)
                   refine Tp.facts_nil ?_
                   first
                   | (refine Tp.wants_skip rfl rfl h94 ?_; exact Tp.skip_t rfl)
                   | (refine Tp.wants_go rfl rfl h94 ?_; ((apply Tp.gives_run; (simp [go_sem, hC, hF, hu, h98, h99, h94]; exact rfl); (refine Tp.given_call ?_ (Rt.says_ret (SRX.out _ _ _ (AX.out.keep hu).val.val (AY.out.keep hu).val.val)); exact rfl))))
                 · intro A u hC hG hF hu hR; clear hG
                   first | refine Tp.facts_is rfl (fun h97 => ?_) | refine Tp.facts_ty rfl (fun v97 h97 k97 => ?_)
                   first | refine Tp.facts_is rfl (fun h100 => ?_) | refine Tp.facts_ty rfl (fun v100 h100 k100 => ?_)
                   first | refine Tp.facts_is rfl (fun h94 => ?_) | refine Tp.facts_ty rfl (fun v94 h94 k94 => ?_)
                   refine Tp.facts_nil ?_
                   first
                   | (refine Tp.wants_skip rfl rfl h94 ?_; exact Tp.skip_t rfl)
                   | (refine Tp.wants_go rfl rfl h94 ?_; ((apply Tp.gives_run; (simp [go_sem, hC, hF, hu, h97, h100, h94]; exact rfl); (refine Tp.given_is ?_; exact rfl))))
                 · intro A u hC hG hF hu hR; clear hG
                   first | refine Tp.facts_is rfl (fun h94 => ?_) | refine Tp.facts_ty rfl (fun v94 h94 k94 => ?_)
                   first | refine Tp.facts_is rfl (fun h101 => ?_) | refine Tp.facts_ty rfl (fun v101 h101 k101 => ?_)
                   refine Tp.facts_nil ?_
                   refine Tp.wants_plain rfl ?_
                   (apply Tp.gives_run; (simp [go_sem, hC, hF, hu, h94, h101]; exact rfl); (refine Tp.given_is ?_; exact rfl))
                 · intro A u hC hG hF hu hR; clear hG
                   first | refine Tp.facts_is rfl (fun h102 => ?_) | refine Tp.facts_ty rfl (fun v102 h102 k102 => ?_)
                   refine Tp.facts_nil ?_
                   refine Tp.wants_plain rfl ?_
                   first | (apply Tp.gives_run; (simp [go_sem, hC, hF, hu, h102]; exact rfl); (refine Tp.given_is ?_; exact rfl)) | (apply Tp.gives_run; (simp [go_sem, hC, hF, h102]; exact rfl); (refine Tp.given_ty ?_ k102 (Below.refl _ _); exact rfl))
                 intro wqz bqz
                 first | refine Tp.fin_is rfl rfl rfl ?_ | refine Tp.fin_ty rfl rfl rfl (fun y87 q87 => ?_)
                 first | refine Tp.fin_is rfl rfl rfl ?_ | refine Tp.fin_ty rfl rfl rfl (fun y88 q88 => ?_)
                 first | refine Tp.fin_is rfl rfl rfl ?_ | refine Tp.fin_ty rfl rfl rfl (fun y89 q89 => ?_)
                 first | refine Tp.fin_is rfl rfl rfl ?_ | refine Tp.fin_ty rfl rfl rfl (fun y90 q90 => ?_)
                 first | refine Tp.fin_is rfl rfl rfl ?_ | refine Tp.fin_ty rfl rfl rfl (fun y91 q91 => ?_)
                 first | refine Tp.fin_is rfl rfl rfl ?_ | refine Tp.fin_ty rfl rfl rfl (fun y92 q92 => ?_)
                 first | refine Tp.fin_is rfl rfl rfl ?_ | refine Tp.fin_ty rfl rfl rfl (fun y93 q93 => ?_)
                 first | refine Tp.fin_is rfl rfl rfl ?_ | refine Tp.fin_ty rfl rfl rfl (fun y94 q94 => ?_)
                 first | refine Tp.fin_is rfl rfl rfl ?_ | refine Tp.fin_ty rfl rfl rfl (fun y95 q95 => ?_)
                 first | refine Tp.fin_is rfl rfl rfl ?_ | refine Tp.fin_ty rfl rfl rfl (fun y96 q96 => ?_)
                 first | refine Tp.fin_is rfl rfl rfl ?_ | refine Tp.fin_ty rfl rfl rfl (fun y97 q97 => ?_)
                 first | refine Tp.fin_is rfl rfl rfl ?_ | refine Tp.fin_ty rfl rfl rfl (fun y98 q98 => ?_)
                 first | refine Tp.fin_is rfl rfl rfl ?_ | refine Tp.fin_ty rfl rfl rfl (fun y99 q99 => ?_)
                 first | refine Tp.fin_is rfl rfl rfl ?_ | refine Tp.fin_ty rfl rfl rfl (fun y100 q100 => ?_)
                 first | refine Tp.fin_is rfl rfl rfl ?_ | refine Tp.fin_ty rfl rfl rfl (fun y101 q101 => ?_)
                 first | refine Tp.fin_is rfl rfl rfl ?_ | refine Tp.fin_ty rfl rfl rfl (fun y102 q102 => ?_)
                 first | refine Tp.fin_is rfl rfl rfl ?_ | refine Tp.fin_ty rfl rfl rfl (fun y6 q6 => ?_)
                 refine Tp.fin_nil ?_
                 simp only [Act.put, List.setIfInBounds_toArray, List.set_cons_succ, List.set_cons_zero, List.drop_succ_cons, List.drop_zero, List.drop_nil]
                 have BZ := UP8 _ bqz
                 cases SM
                 · go_wp2_with fail
                   rw [← HQ.out]
                   exact ⟨rfl, BZ⟩
                 · go_wp2_with fail
                   rw [← HQ.out]
                   exact ⟨rfl, BZ⟩)
  · obtain rfl := t2 rfl
    by_cases hco : C1 = C2
    · subst hco
      by_cases hln : N1 = N2
      · subst hln
        have hB0 : Hid (true = Rt.alike x y 0) := Lib.hid (by rw [HB0.out]; simp)
        go_wp2_with (first | (have _t := AX; (with_reducible refine Rt.load_at 33 (x := .tmp 7) ?_ ⟨g7, 0, none⟩ ?_ ?_ (AX.out.row.whole33 AX.out.size) ?_); (with_reducible exact rfl); (exact rfl); (exact rfl); clear _t) | (have _t := AY; (with_reducible refine Rt.load_at 33 (x := .tmp 8) ?_ ⟨g8, 0, none⟩ ?_ ?_ (AY.out.row.whole33 AY.out.size) ?_); (with_reducible exact rfl); (exact rfl); (exact rfl); clear _t) | (go_at_call 21; (with_reducible refine (RXY.out _ _ _ AX.out.val.val AY.out.val.val (Utf8Tabs_below hT BQ.out)).mono ?_); rintro e w9 ⟨rfl, hb⟩; (replace AX := Lib.hid (AX.out.keep hb); replace AY := Lib.hid (AY.out.keep hb); replace BQ := Lib.hid (BQ.out.trans ((hb).mono BQ.out.size)); clear xco yco kx4 ky4 hb; have xco := AX.out.row.cell 5 HX5.out; have yco := AY.out.row.cell 5 HY5.out; have kx4 := AX.out.row.cell 4 HX4.out; have ky4 := AY.out.row.cell 4 HY4.out)) | (go_at_call 21; (with_reducible refine (RYX.out _ _ _ AY.out.val.val AX.out.val.val (Utf8Tabs_below hT BQ.out)).mono ?_); rintro e w9 ⟨rfl, hb⟩; (replace AX := Lib.hid (AX.out.keep hb); replace AY := Lib.hid (AY.out.keep hb); replace BQ := Lib.hid (BQ.out.trans ((hb).mono BQ.out.size)); clear xco yco kx4 ky4 hb; have xco := AX.out.row.cell 5 HX5.out; have yco := AY.out.row.cell 5 HY5.out; have kx4 := AX.out.row.cell 4 HX4.out; have ky4 := AY.out.row.cell 4 HY4.out)) | (go_at_call 20; (with_reducible refine (HXX.out _ _ _ AX.out.val.val AX.out.val.val (Utf8Tabs_below hT BQ.out)).mono ?_); rintro e w9 ⟨rfl, hb⟩; (replace AX := Lib.hid (AX.out.keep hb); replace AY := Lib.hid (AY.out.keep hb); replace BQ := Lib.hid (BQ.out.trans ((hb).mono BQ.out.size)); clear xco yco kx4 ky4 hb; have xco := AX.out.row.cell 5 HX5.out; have yco := AY.out.row.cell 5 HY5.out; have kx4 := AX.out.row.cell 4 HX4.out; have ky4 := AY.out.row.cell 4 HY4.out)))
        clear kx4 ky4 xco yco
        go_loopw [11, 12] (fun b i wr => ∃ (k : Nat) (B : Bool), k ≤ N1 ∧ i = .int .i64 (k : Int) ∧ b = .bool B ∧ B = Rt.alike x y k ∧ Rt.AtN wr g7 x cx ∧ Rt.AtN wr g8 y dy ∧ Below w.heap.size w wr) (fun _ i _ => N1 - (Go.RowKit.intOf i).toNat)
        case atStart => exact ⟨0, _, Nat.zero_le _, rfl, rfl, (by first | exact hB0.out | (rw [← hB0.out]; exact beq_false_of_ne (by omega))), AX.out, AY.out, BQ.out⟩
        case round =>
          obtain ⟨k, B, hk, rfl, rfl, hBB, hx', hy', hbq⟩ := hrel
          have hB := Lib.hid hBB
          clear hBB
          have AX := Lib.hid hx'
          have AY := Lib.hid hy'
          have BQ := Lib.hid hbq
          clear hx' hy' hbq hB0
          have kx4 := AX.out.row.cell 4 HX4.out
          have ky4 := AY.out.row.cell 4 HY4.out
          cases B
          · have h14 := T1.out
            rw [Rt.alike_false x y k hB.out.symm] at h14
            first
            | (exfalso; revert h14; decide)
            | (clear h14
               go_wp2_with fail
               have UP8 := fun u (hu : Below _ _ u) => BQ.out.trans (hu.mono BQ.out.size)
               refine Tp.region_ex (by kernel_rfl) 17 103 [[(9, none)], [(87, some 0)], [(10, none), (88, some 1)], [(88, some 1), (89, some 2)], [(11, none)], [(91, some 4)], [(90, some 3), (92, some 5)], [(93, some 6)], [(7, none), (94, some 7)], [(8, none), (94, some 7)], [(95, some 8), (96, some 9), (94, some 7)], [(7, none), (94, some 7)], [(8, none), (94, some 7)], [(98, some 11), (99, some 12), (94, some 7)], [(97, some 10), (100, some 13), (94, some 7)], [(94, some 7), (101, some 14)], [(102, some 15)]] (by kernel_rfl) rfl ?_
               apply Exists.intro [_, _, _, _, _, _, _, _, _, _, _, _, _, _, _, _, _]
               refine ⟨⟨?_, ?_, ?_, ?_, ?_, ?_, ?_, ?_, ?_, ?_, ?_, ?_, ?_, ?_, ?_, ?_, ?_, trivial⟩, ?_⟩
               · intro A u hC hG hF hu hR; clear hG
                 refine Tp.facts_old (fun h9 => ?_) rfl; conv at h9 => rhs; whnf
                 refine Tp.facts_nil ?_
                 refine Tp.wants_plain rfl ?_
                 (apply Tp.gives_run; (simp [go_sem, hC, hF, hu, h9]; exact rfl); (refine Tp.given_is ?_; exact rfl))
               · intro A u hC hG hF hu hR; clear hG
                 first | refine Tp.facts_is rfl (fun h87 => ?_) | refine Tp.facts_ty rfl (fun v87 h87 k87 => ?_)
                 refine Tp.facts_nil ?_
                 refine Tp.wants_plain rfl ?_
                 first | (apply Tp.gives_run; (simp [go_sem, hC, hF, hu, h87]; exact rfl); (refine Tp.given_is ?_; exact rfl)) | (apply Tp.gives_run; (simp [go_sem, hC, hF, h87]; exact rfl); (refine Tp.given_ty ?_ k87 (Below.refl _ _); exact rfl))
               · intro A u hC hG hF hu hR; clear hG
                 refine Tp.facts_old (fun h10 => ?_) rfl; conv at h10 => rhs; whnf
                 first | refine Tp.facts_is rfl (fun h88 => ?_) | refine Tp.facts_ty rfl (fun v88 h88 k88 => ?_)
                 refine Tp.facts_nil ?_
                 first
                 | (refine Tp.wants_skip rfl rfl h88 ?_; exact Tp.skip_t rfl)
                 | (refine Tp.wants_go rfl rfl h88 ?_; ((apply Tp.gives_run; (simp [go_sem, hC, hF, hu, h10, h88]; exact rfl); (refine Tp.given_is ?_; exact rfl))))
               · intro A u hC hG hF hu hR; clear hG
                 first | refine Tp.facts_is rfl (fun h88 => ?_) | refine Tp.facts_ty rfl (fun v88 h88 k88 => ?_)
                 first | refine Tp.facts_is rfl (fun h89 => ?_) | refine Tp.facts_ty rfl (fun v89 h89 k89 => ?_)
                 refine Tp.facts_nil ?_
                 refine Tp.wants_plain rfl ?_
                 (apply Tp.gives_run; (simp [go_sem, hC, hF, hu, h88, h89]; exact rfl); (refine Tp.given_is ?_; exact rfl))
               · intro A u hC hG hF hu hR; clear hG
                 refine Tp.facts_old (fun h11 => ?_) rfl; conv at h11 => rhs; whnf
                 refine Tp.facts_nil ?_
                 refine Tp.wants_plain rfl ?_
                 (apply Tp.gives_run; (simp [go_sem, hC, hF, hu, h11]; exact rfl); (refine Tp.given_is ?_; exact rfl))
               · intro A u hC hG hF hu hR; clear hG
                 first | refine Tp.facts_is rfl (fun h91 => ?_) | refine Tp.facts_ty rfl (fun v91 h91 k91 => ?_)
                 refine Tp.facts_nil ?_
                 refine Tp.wants_plain rfl ?_
                 (apply Tp.gives_run; (simp [go_sem, hC, hF, hu, h91]; exact rfl); (refine Tp.given_is ?_; exact rfl))
               · intro A u hC hG hF hu hR; clear hG
                 first | refine Tp.facts_is rfl (fun h90 => ?_) | refine Tp.facts_ty rfl (fun v90 h90 k90 => ?_)
                 first | refine Tp.facts_is rfl (fun h92 => ?_) | refine Tp.facts_ty rfl (fun v92 h92 k92 => ?_)
                 refine Tp.facts_nil ?_
                 refine Tp.wants_plain rfl ?_
                 (apply Tp.gives_run; (simp [go_sem, hC, hF, hu, h90, h92]; exact rfl); (refine Tp.given_is ?_; exact rfl))
               · intro A u hC hG hF hu hR; clear hG
                 first | refine Tp.facts_is rfl (fun h93 => ?_) | refine Tp.facts_ty rfl (fun v93 h93 k93 => ?_)
                 refine Tp.facts_nil ?_
                 refine Tp.wants_plain rfl ?_
                 first | (apply Tp.gives_run; (simp [go_sem, hC, hF, hu, h93]; exact rfl); (refine Tp.given_is ?_; exact rfl)) | (apply Tp.gives_run; (simp [go_sem, hC, hF, h93]; exact rfl); (refine Tp.given_ty ?_ k93 (Below.refl _ _); exact rfl))
               · intro A u hC hG hF hu hR; clear hG
                 refine Tp.facts_old (fun h7 => ?_) rfl; conv at h7 => rhs; whnf
                 first | refine Tp.facts_is rfl (fun h94 => ?_) | refine Tp.facts_ty rfl (fun v94 h94 k94 => ?_)
                 refine Tp.facts_nil ?_
                 first
                 | (refine Tp.wants_skip rfl rfl h94 ?_; exact Tp.skip_t rfl)
                 | (refine Tp.wants_go rfl rfl h94 ?_; (refine Tp.load_var rfl h7 ((AX.out.keep hu).row.whole33 AX.out.size) ?_; exact rfl))
               · intro A u hC hG hF hu hR; clear hG
                 refine Tp.facts_old (fun h8 => ?_) rfl; conv at h8 => rhs; whnf
                 first | refine Tp.facts_is rfl (fun h94 => ?_) | refine Tp.facts_ty rfl (fun v94 h94 k94 => ?_)
                 refine Tp.facts_nil ?_
                 first
                 | (refine Tp.wants_skip rfl rfl h94 ?_; exact Tp.skip_t rfl)
                 | (refine Tp.wants_go rfl rfl h94 ?_; (refine Tp.load_var rfl h8 ((AY.out.keep hu).row.whole33 AY.out.size) ?_; exact rfl))
               · intro A u hC hG hF hu hR; clear hG
                 first | refine Tp.facts_is rfl (fun h95 => ?_) | refine Tp.facts_ty rfl (fun v95 h95 k95 => ?_)
                 first | refine Tp.facts_is rfl (fun h96 => ?_) | refine Tp.facts_ty rfl (fun v96 h96 k96 => ?_)
                 first | refine Tp.facts_is rfl (fun h94 => ?_) | refine Tp.facts_ty rfl (fun v94 h94 k94 => ?_)
                 refine Tp.facts_nil ?_
                 first
                 | (refine Tp.wants_skip rfl rfl h94 ?_; exact Tp.skip_t rfl)
                 | (refine Tp.wants_go rfl rfl h94 ?_; ((apply Tp.gives_run; (simp [go_sem, hC, hF, hu, h95, h96, h94]; exact rfl); (refine Tp.given_call ?_ (Rt.says_ret (SXY.out _ _ _ (AX.out.keep hu).val.val (AY.out.keep hu).val.val)); exact rfl))))
               · intro A u hC hG hF hu hR; clear hG
                 refine Tp.facts_old (fun h7 => ?_) rfl; conv at h7 => rhs; whnf
                 first | refine Tp.facts_is rfl (fun h94 => ?_) | refine Tp.facts_ty rfl (fun v94 h94 k94 => ?_)
                 refine Tp.facts_nil ?_
                 first
                 | (refine Tp.wants_skip rfl rfl h94 ?_; exact Tp.skip_t rfl)
                 | (refine Tp.wants_go rfl rfl h94 ?_; (refine Tp.load_var rfl h7 ((AX.out.keep hu).row.whole33 AX.out.size) ?_; exact rfl))
               · intro A u hC hG hF hu hR; clear hG
                 refine Tp.facts_old (fun h8 => ?_) rfl; conv at h8 => rhs; whnf
                 first | refine Tp.facts_is rfl (fun h94 => ?_) | refine Tp.facts_ty rfl (fun v94 h94 k94 => ?_)
                 refine Tp.facts_nil ?_
                 first
                 | (refine Tp.wants_skip rfl rfl h94 ?_; exact Tp.skip_t rfl)
                 | (refine Tp.wants_go rfl rfl h94 ?_; (refine Tp.load_var rfl h8 ((AY.out.keep hu).row.whole33 AY.out.size) ?_; exact rfl))
               · intro A u hC hG hF hu hR; clear hG
                 first | refine Tp.facts_is rfl (fun h98 => ?_) | refine Tp.facts_ty rfl (fun v98 h98 k98 => ?_)
                 first | refine Tp.facts_is rfl (fun h99 => ?_) | refine Tp.facts_ty rfl (fun v99 h99 k99 => ?_)
                 first | refine Tp.facts_is rfl (fun h94 => ?_) | refine Tp.facts_ty rfl (fun v94 h94 k94 => ?_)
                 refine Tp.facts_nil ?_
                 first
                 | (refine Tp.wants_skip rfl rfl h94 ?_; exact Tp.skip_t rfl)
                 | (refine Tp.wants_go rfl rfl h94 ?_; ((apply Tp.gives_run; (simp [go_sem, hC, hF, hu, h98, h99, h94]; exact rfl); (refine Tp.given_call ?_ (Rt.says_ret (SRX.out _ _ _ (AX.out.keep hu).val.val (AY.out.keep hu).val.val)); exact rfl))))
               · intro A u hC hG hF hu hR; clear hG
                 first | refine Tp.facts_is rfl (fun h97 => ?_) | refine Tp.facts_ty rfl (fun v97 h97 k97 => ?_)
                 first | refine Tp.facts_is rfl (fun h100 => ?_) | refine Tp.facts_ty rfl (fun v100 h100 k100 => ?_)
                 first | refine Tp.facts_is rfl (fun h94 => ?_) | refine Tp.facts_ty rfl (fun v94 h94 k94 => ?_)
                 refine Tp.facts_nil ?_
                 first
                 | (refine Tp.wants_skip rfl rfl h94 ?_; exact Tp.skip_t rfl)
                 | (refine Tp.wants_go rfl rfl h94 ?_; ((apply Tp.gives_run; (simp [go_sem, hC, hF, hu, h97, h100, h94]; exact rfl); (refine Tp.given_is ?_; exact rfl))))
               · intro A u hC hG hF hu hR; clear hG
                 first | refine Tp.facts_is rfl (fun h94 => ?_) | refine Tp.facts_ty rfl (fun v94 h94 k94 => ?_)
                 first | refine Tp.facts_is rfl (fun h101 => ?_) | refine Tp.facts_ty rfl (fun v101 h101 k101 => ?_)
                 refine Tp.facts_nil ?_
                 refine Tp.wants_plain rfl ?_
                 (apply Tp.gives_run; (simp [go_sem, hC, hF, hu, h94, h101]; exact rfl); (refine Tp.given_is ?_; exact rfl))
               · intro A u hC hG hF hu hR; clear hG
                 first | refine Tp.facts_is rfl (fun h102 => ?_) | refine Tp.facts_ty rfl (fun v102 h102 k102 => ?_)
                 refine Tp.facts_nil ?_
                 refine Tp.wants_plain rfl ?_
                 first | (apply Tp.gives_run; (simp [go_sem, hC, hF, hu, h102]; exact rfl); (refine Tp.given_is ?_; exact rfl)) | (apply Tp.gives_run; (simp [go_sem, hC, hF, h102]; exact rfl); (refine Tp.given_ty ?_ k102 (Below.refl _ _); exact rfl))
               intro wqz bqz
               first | refine Tp.fin_is rfl rfl rfl ?_ | refine Tp.fin_ty rfl rfl rfl (fun y87 q87 => ?_)
               first | refine Tp.fin_is rfl rfl rfl ?_ | refine Tp.fin_ty rfl rfl rfl (fun y88 q88 => ?_)
               first | refine Tp.fin_is rfl rfl rfl ?_ | refine Tp.fin_ty rfl rfl rfl (fun y89 q89 => ?_)
               first | refine Tp.fin_is rfl rfl rfl ?_ | refine Tp.fin_ty rfl rfl rfl (fun y90 q90 => ?_)
               first | refine Tp.fin_is rfl rfl rfl ?_ | refine Tp.fin_ty rfl rfl rfl (fun y91 q91 => ?_)
               first | refine Tp.fin_is rfl rfl rfl ?_ | refine Tp.fin_ty rfl rfl rfl (fun y92 q92 => ?_)
               first | refine Tp.fin_is rfl rfl rfl ?_ | refine Tp.fin_ty rfl rfl rfl (fun y93 q93 => ?_)
               first | refine Tp.fin_is rfl rfl rfl ?_ | refine Tp.fin_ty rfl rfl rfl (fun y94 q94 => ?_)
               first | refine Tp.fin_is rfl rfl rfl ?_ | refine Tp.fin_ty rfl rfl rfl (fun y95 q95 => ?_)
               first | refine Tp.fin_is rfl rfl rfl ?_ | refine Tp.fin_ty rfl rfl rfl (fun y96 q96 => ?_)
               first | refine Tp.fin_is rfl rfl rfl ?_ | refine Tp.fin_ty rfl rfl rfl (fun y97 q97 => ?_)
               first | refine Tp.fin_is rfl rfl rfl ?_ | refine Tp.fin_ty rfl rfl rfl (fun y98 q98 => ?_)
               first | refine Tp.fin_is rfl rfl rfl ?_ | refine Tp.fin_ty rfl rfl rfl (fun y99 q99 => ?_)
               first | refine Tp.fin_is rfl rfl rfl ?_ | refine Tp.fin_ty rfl rfl rfl (fun y100 q100 => ?_)
               first | refine Tp.fin_is rfl rfl rfl ?_ | refine Tp.fin_ty rfl rfl rfl (fun y101 q101 => ?_)
               first | refine Tp.fin_is rfl rfl rfl ?_ | refine Tp.fin_ty rfl rfl rfl (fun y102 q102 => ?_)
               first | refine Tp.fin_is rfl rfl rfl ?_ | refine Tp.fin_ty rfl rfl rfl (fun y6 q6 => ?_)
               refine Tp.fin_nil ?_
               simp only [Act.put, List.setIfInBounds_toArray, List.set_cons_succ, List.set_cons_zero, List.drop_succ_cons, List.drop_zero, List.drop_nil]
               have BZ := UP8 _ bqz
               cases SM
               · go_wp2_with fail
                 rw [← HQ.out]
                 exact ⟨rfl, BZ⟩
               · go_wp2_with fail
                 rw [← HQ.out]
                 exact ⟨rfl, BZ⟩)
          · by_cases hkn : k < N1
            · have hkx : k < x.path.length := by rw [E3.out]; exact hkn
              obtain ⟨hky, hst⟩ := Rt.alike_step x y k hB.out.symm hkx
              have HST := Lib.hid hst
              have sx := AX.out.strs HX4.out
              have sy := AY.out.strs HY4.out
              obtain ⟨bx, ox, rfl, lbx⟩ := sx.at_ k (by have := sx.len; omega)
              obtain ⟨by_, oy, rfl, lby⟩ := sy.at_ k (by have := sy.len; omega)
              have kcx := sx.cell bx ox rfl k (by have := sx.len; omega)
              have kcy := sy.cell by_ oy rfl k (by have := sy.len; omega)
              have hk2 := hky
              rw [E4.out] at hk2
              have q0 : (0 : Int) ≤ (k : Int) := Int.natCast_nonneg _
              have q1 : (k : Int) < (N1 : Int) := by omega
              have q2 := Int.ofNat_lt.2 hk2
              have hbig := sx.big
              clear sx sy hst
              have hbz := Rt.beqL (x.path.getD k ByteArray.empty) (y.path.getD k ByteArray.empty)
              generalize x.path.getD k ByteArray.empty = S1 at *
              generalize y.path.getD k ByteArray.empty = S2 at *
              obtain ⟨EB, hEB⟩ : ∃ b, (S1 == S2) = b := ⟨_, rfl⟩
              rw [hEB] at hbz HST
              go_wp2_with fail
              go_region
              go_wp2_with fail
              go_roundw
              case rel => exact ⟨k + 1, EB, by omega, by simp, rfl, HST.out.symm, AX.out.keep (Below.refl _ _).drew, AY.out.keep (Below.refl _ _).drew, BQ.out.drew⟩
              case measure => simp [Go.RowKit.intOf]; omega
            · have h14 := T1.out
              rw [← Rt.alike_end x y k (by rw [E3.out]; omega), ← hB.out] at h14
              have q1 : ¬ (k : Int) < (N1 : Int) := by omega
              first
              | (exfalso; revert h14; decide)
              | (clear h14
                 go_wp2_with fail
                 have UP8 := fun u (hu : Below _ _ u) => BQ.out.trans (hu.mono BQ.out.size)
                 refine Tp.region_ex (by kernel_rfl) 17 103 [[(9, none)], [(87, some 0)], [(10, none), (88, some 1)], [(88, some 1), (89, some 2)], [(11, none)], [(91, some 4)], [(90, some 3), (92, some 5)], [(93, some 6)], [(7, none), (94, some 7)], [(8, none), (94, some 7)], [(95, some 8), (96, some 9), (94, some 7)], [(7, none), (94, some 7)], [(8, none), (94, some 7)], [(98, some 11), (99, some 12), (94, some 7)], [(97, some 10), (100, some 13), (94, some 7)], [(94, some 7), (101, some 14)], [(102, some 15)]] (by kernel_rfl) rfl ?_
                 apply Exists.intro [_, _, _, _, _, _, _, _, _, _, _, _, _, _, _, _, _]
                 refine ⟨⟨?_, ?_, ?_, ?_, ?_, ?_, ?_, ?_, ?_, ?_, ?_, ?_, ?_, ?_, ?_, ?_, ?_, trivial⟩, ?_⟩
                 · intro A u hC hG hF hu hR; clear hG
                   refine Tp.facts_old (fun h9 => ?_) rfl; conv at h9 => rhs; whnf
                   refine Tp.facts_nil ?_
                   refine Tp.wants_plain rfl ?_
                   (apply Tp.gives_run; (simp [go_sem, hC, hF, hu, h9]; exact rfl); (refine Tp.given_is ?_; exact rfl))
                 · intro A u hC hG hF hu hR; clear hG
                   first | refine Tp.facts_is rfl (fun h87 => ?_) | refine Tp.facts_ty rfl (fun v87 h87 k87 => ?_)
                   refine Tp.facts_nil ?_
                   refine Tp.wants_plain rfl ?_
                   first | (apply Tp.gives_run; (simp [go_sem, hC, hF, hu, h87]; exact rfl); (refine Tp.given_is ?_; exact rfl)) | (apply Tp.gives_run; (simp [go_sem, hC, hF, h87]; exact rfl); (refine Tp.given_ty ?_ k87 (Below.refl _ _); exact rfl))
                 · intro A u hC hG hF hu hR; clear hG
                   refine Tp.facts_old (fun h10 => ?_) rfl; conv at h10 => rhs; whnf
                   first | refine Tp.facts_is rfl (fun h88 => ?_) | refine Tp.facts_ty rfl (fun v88 h88 k88 => ?_)
                   refine Tp.facts_nil ?_
                   first
                   | (refine Tp.wants_skip rfl rfl h88 ?_; exact Tp.skip_t rfl)
                   | (refine Tp.wants_go rfl rfl h88 ?_; ((apply Tp.gives_run; (simp [go_sem, hC, hF, hu, h10, h88]; exact rfl); (refine Tp.given_is ?_; exact rfl))))
                 · intro A u hC hG hF hu hR; clear hG
                   first | refine Tp.facts_is rfl (fun h88 => ?_) | refine Tp.facts_ty rfl (fun v88 h88 k88 => ?_)
                   first | refine Tp.facts_is rfl (fun h89 => ?_) | refine Tp.facts_ty rfl (fun v89 h89 k89 => ?_)
                   refine Tp.facts_nil ?_
                   refine Tp.wants_plain rfl ?_
                   (apply Tp.gives_run; (simp [go_sem, hC, hF, hu, h88, h89]; exact rfl); (refine Tp.given_is ?_; exact rfl))
                 · intro A u hC hG hF hu hR; clear hG
                   refine Tp.facts_old (fun h11 => ?_) rfl; conv at h11 => rhs; whnf
                   refine Tp.facts_nil ?_
                   refine Tp.wants_plain rfl ?_
                   (apply Tp.gives_run; (simp [go_sem, hC, hF, hu, h11]; exact rfl); (refine Tp.given_is ?_; exact rfl))
                 · intro A u hC hG hF hu hR; clear hG
                   first | refine Tp.facts_is rfl (fun h91 => ?_) | refine Tp.facts_ty rfl (fun v91 h91 k91 => ?_)
                   refine Tp.facts_nil ?_
                   refine Tp.wants_plain rfl ?_
                   (apply Tp.gives_run; (simp [go_sem, hC, hF, hu, h91]; exact rfl); (refine Tp.given_is ?_; exact rfl))
                 · intro A u hC hG hF hu hR; clear hG
                   first | refine Tp.facts_is rfl (fun h90 => ?_) | refine Tp.facts_ty rfl (fun v90 h90 k90 => ?_)
                   first | refine Tp.facts_is rfl (fun h92 => ?_) | refine Tp.facts_ty rfl (fun v92 h92 k92 => ?_)
                   refine Tp.facts_nil ?_
                   refine Tp.wants_plain rfl ?_
                   (apply Tp.gives_run; (simp [go_sem, hC, hF, hu, h90, h92]; exact rfl); (refine Tp.given_is ?_; exact rfl))
                 · intro A u hC hG hF hu hR; clear hG
                   first | refine Tp.facts_is rfl (fun h93 => ?_) | refine Tp.facts_ty rfl (fun v93 h93 k93 => ?_)
                   refine Tp.facts_nil ?_
                   refine Tp.wants_plain rfl ?_
                   first | (apply Tp.gives_run; (simp [go_sem, hC, hF, hu, h93]; exact rfl); (refine Tp.given_is ?_; exact rfl)) | (apply Tp.gives_run; (simp [go_sem, hC, hF, h93]; exact rfl); (refine Tp.given_ty ?_ k93 (Below.refl _ _); exact rfl))
                 · intro A u hC hG hF hu hR; clear hG
                   refine Tp.facts_old (fun h7 => ?_) rfl; conv at h7 => rhs; whnf
                   first | refine Tp.facts_is rfl (fun h94 => ?_) | refine Tp.facts_ty rfl (fun v94 h94 k94 => ?_)
                   refine Tp.facts_nil ?_
                   first
                   | (refine Tp.wants_skip rfl rfl h94 ?_; exact Tp.skip_t rfl)
                   | (refine Tp.wants_go rfl rfl h94 ?_; (refine Tp.load_var rfl h7 ((AX.out.keep hu).row.whole33 AX.out.size) ?_; exact rfl))
                 · intro A u hC hG hF hu hR; clear hG
                   refine Tp.facts_old (fun h8 => ?_) rfl; conv at h8 => rhs; whnf
                   first | refine Tp.facts_is rfl (fun h94 => ?_) | refine Tp.facts_ty rfl (fun v94 h94 k94 => ?_)
                   refine Tp.facts_nil ?_
                   first
                   | (refine Tp.wants_skip rfl rfl h94 ?_; exact Tp.skip_t rfl)
                   | (refine Tp.wants_go rfl rfl h94 ?_; (refine Tp.load_var rfl h8 ((AY.out.keep hu).row.whole33 AY.out.size) ?_; exact rfl))
                 · intro A u hC hG hF hu hR; clear hG
                   first | refine Tp.facts_is rfl (fun h95 => ?_) | refine Tp.facts_ty rfl (fun v95 h95 k95 => ?_)
                   first | refine Tp.facts_is rfl (fun h96 => ?_) | refine Tp.facts_ty rfl (fun v96 h96 k96 => ?_)
                   first | refine Tp.facts_is rfl (fun h94 => ?_) | refine Tp.facts_ty rfl (fun v94 h94 k94 => ?_)
                   refine Tp.facts_nil ?_
                   first
                   | (refine Tp.wants_skip rfl rfl h94 ?_; exact Tp.skip_t rfl)
                   | (refine Tp.wants_go rfl rfl h94 ?_; ((apply Tp.gives_run; (simp [go_sem, hC, hF, hu, h95, h96, h94]; exact rfl); (refine Tp.given_call ?_ (Rt.says_ret (SXY.out _ _ _ (AX.out.keep hu).val.val (AY.out.keep hu).val.val)); exact rfl))))
                 · intro A u hC hG hF hu hR; clear hG
                   refine Tp.facts_old (fun h7 => ?_) rfl; conv at h7 => rhs; whnf
                   first | refine Tp.facts_is rfl (fun h94 => ?_) | refine Tp.facts_ty rfl (fun v94 h94 k94 => ?_)
                   refine Tp.facts_nil ?_
                   first
                   | (refine Tp.wants_skip rfl rfl h94 ?_; exact Tp.skip_t rfl)
                   | (refine Tp.wants_go rfl rfl h94 ?_; (refine Tp.load_var rfl h7 ((AX.out.keep hu).row.whole33 AX.out.size) ?_; exact rfl))
                 · intro A u hC hG hF hu hR; clear hG
                   refine Tp.facts_old (fun h8 => ?_) rfl; conv at h8 => rhs; whnf
                   first | refine Tp.facts_is rfl (fun h94 => ?_) | refine Tp.facts_ty rfl (fun v94 h94 k94 => ?_)
                   refine Tp.facts_nil ?_
                   first
                   | (refine Tp.wants_skip rfl rfl h94 ?_; exact Tp.skip_t rfl)
                   | (refine Tp.wants_go rfl rfl h94 ?_; (refine Tp.load_var rfl h8 ((AY.out.keep hu).row.whole33 AY.out.size) ?_; exact rfl))
                 · intro A u hC hG hF hu hR; clear hG
                   first | refine Tp.facts_is rfl (fun h98 => ?_) | refine Tp.facts_ty rfl (fun v98 h98 k98 => ?_)
                   first | refine Tp.facts_is rfl (fun h99 => ?_) | refine Tp.facts_ty rfl (fun v99 h99 k99 => ?_)
                   first | refine Tp.facts_is rfl (fun h94 => ?_) | refine Tp.facts_ty rfl (fun v94 h94 k94 => ?_)
                   refine Tp.facts_nil ?_
                   first
                   | (refine Tp.wants_skip rfl rfl h94 ?_; exact Tp.skip_t rfl)
                   | (refine Tp.wants_go rfl rfl h94 ?_; ((apply Tp.gives_run; (simp [go_sem, hC, hF, hu, h98, h99, h94]; exact rfl); (refine Tp.given_call ?_ (Rt.says_ret (SRX.out _ _ _ (AX.out.keep hu).val.val (AY.out.keep hu).val.val)); exact rfl))))
                 · intro A u hC hG hF hu hR; clear hG
                   first | refine Tp.facts_is rfl (fun h97 => ?_) | refine Tp.facts_ty rfl (fun v97 h97 k97 => ?_)
                   first | refine Tp.facts_is rfl (fun h100 => ?_) | refine Tp.facts_ty rfl (fun v100 h100 k100 => ?_)
                   first | refine Tp.facts_is rfl (fun h94 => ?_) | refine Tp.facts_ty rfl (fun v94 h94 k94 => ?_)
                   refine Tp.facts_nil ?_
                   first
                   | (refine Tp.wants_skip rfl rfl h94 ?_; exact Tp.skip_t rfl)
                   | (refine Tp.wants_go rfl rfl h94 ?_; ((apply Tp.gives_run; (simp [go_sem, hC, hF, hu, h97, h100, h94]; exact rfl); (refine Tp.given_is ?_; exact rfl))))
                 · intro A u hC hG hF hu hR; clear hG
                   first | refine Tp.facts_is rfl (fun h94 => ?_) | refine Tp.facts_ty rfl (fun v94 h94 k94 => ?_)
                   first | refine Tp.facts_is rfl (fun h101 => ?_) | refine Tp.facts_ty rfl (fun v101 h101 k101 => ?_)
                   refine Tp.facts_nil ?_
                   refine Tp.wants_plain rfl ?_
                   (apply Tp.gives_run; (simp [go_sem, hC, hF, hu, h94, h101]; exact rfl); (refine Tp.given_is ?_; exact rfl))
                 · intro A u hC hG hF hu hR; clear hG
                   first | refine Tp.facts_is rfl (fun h102 => ?_) | refine Tp.facts_ty rfl (fun v102 h102 k102 => ?_)
                   refine Tp.facts_nil ?_
                   refine Tp.wants_plain rfl ?_
                   first | (apply Tp.gives_run; (simp [go_sem, hC, hF, hu, h102]; exact rfl); (refine Tp.given_is ?_; exact rfl)) | (apply Tp.gives_run; (simp [go_sem, hC, hF, h102]; exact rfl); (refine Tp.given_ty ?_ k102 (Below.refl _ _); exact rfl))
                 intro wqz bqz
                 first | refine Tp.fin_is rfl rfl rfl ?_ | refine Tp.fin_ty rfl rfl rfl (fun y87 q87 => ?_)
                 first | refine Tp.fin_is rfl rfl rfl ?_ | refine Tp.fin_ty rfl rfl rfl (fun y88 q88 => ?_)
                 first | refine Tp.fin_is rfl rfl rfl ?_ | refine Tp.fin_ty rfl rfl rfl (fun y89 q89 => ?_)
                 first | refine Tp.fin_is rfl rfl rfl ?_ | refine Tp.fin_ty rfl rfl rfl (fun y90 q90 => ?_)
                 first | refine Tp.fin_is rfl rfl rfl ?_ | refine Tp.fin_ty rfl rfl rfl (fun y91 q91 => ?_)
                 first | refine Tp.fin_is rfl rfl rfl ?_ | refine Tp.fin_ty rfl rfl rfl (fun y92 q92 => ?_)
                 first | refine Tp.fin_is rfl rfl rfl ?_ | refine Tp.fin_ty rfl rfl rfl (fun y93 q93 => ?_)
                 first | refine Tp.fin_is rfl rfl rfl ?_ | refine Tp.fin_ty rfl rfl rfl (fun y94 q94 => ?_)
                 first | refine Tp.fin_is rfl rfl rfl ?_ | refine Tp.fin_ty rfl rfl rfl (fun y95 q95 => ?_)
                 first | refine Tp.fin_is rfl rfl rfl ?_ | refine Tp.fin_ty rfl rfl rfl (fun y96 q96 => ?_)
                 first | refine Tp.fin_is rfl rfl rfl ?_ | refine Tp.fin_ty rfl rfl rfl (fun y97 q97 => ?_)
                 first | refine Tp.fin_is rfl rfl rfl ?_ | refine Tp.fin_ty rfl rfl rfl (fun y98 q98 => ?_)
                 first | refine Tp.fin_is rfl rfl rfl ?_ | refine Tp.fin_ty rfl rfl rfl (fun y99 q99 => ?_)
                 first | refine Tp.fin_is rfl rfl rfl ?_ | refine Tp.fin_ty rfl rfl rfl (fun y100 q100 => ?_)
                 first | refine Tp.fin_is rfl rfl rfl ?_ | refine Tp.fin_ty rfl rfl rfl (fun y101 q101 => ?_)
                 first | refine Tp.fin_is rfl rfl rfl ?_ | refine Tp.fin_ty rfl rfl rfl (fun y102 q102 => ?_)
                 first | refine Tp.fin_is rfl rfl rfl ?_ | refine Tp.fin_ty rfl rfl rfl (fun y6 q6 => ?_)
                 refine Tp.fin_nil ?_
                 simp only [Act.put, List.setIfInBounds_toArray, List.set_cons_succ, List.set_cons_zero, List.drop_succ_cons, List.drop_zero, List.drop_nil]
                 have BZ := UP8 _ bqz
                 cases SM
                 · go_wp2_with fail
                   rw [← HQ.out]
                   exact ⟨rfl, BZ⟩
                 · go_wp2_with fail
                   rw [← HQ.out]
                   exact ⟨rfl, BZ⟩)
      · have hB0 : Hid (false = Rt.alike x y 0) := Lib.hid (by rw [HB0.out]; simp [hln])
        have hln2 : ¬ (N1 : Int) = (N2 : Int) := by omega
        go_wp2_with (first | (have _t := AX; (with_reducible refine Rt.load_at 33 (x := .tmp 7) ?_ ⟨g7, 0, none⟩ ?_ ?_ (AX.out.row.whole33 AX.out.size) ?_); (with_reducible exact rfl); (exact rfl); (exact rfl); clear _t) | (have _t := AY; (with_reducible refine Rt.load_at 33 (x := .tmp 8) ?_ ⟨g8, 0, none⟩ ?_ ?_ (AY.out.row.whole33 AY.out.size) ?_); (with_reducible exact rfl); (exact rfl); (exact rfl); clear _t) | (go_at_call 21; (with_reducible refine (RXY.out _ _ _ AX.out.val.val AY.out.val.val (Utf8Tabs_below hT BQ.out)).mono ?_); rintro e w9 ⟨rfl, hb⟩; (replace AX := Lib.hid (AX.out.keep hb); replace AY := Lib.hid (AY.out.keep hb); replace BQ := Lib.hid (BQ.out.trans ((hb).mono BQ.out.size)); clear xco yco kx4 ky4 hb; have xco := AX.out.row.cell 5 HX5.out; have yco := AY.out.row.cell 5 HY5.out; have kx4 := AX.out.row.cell 4 HX4.out; have ky4 := AY.out.row.cell 4 HY4.out)) | (go_at_call 21; (with_reducible refine (RYX.out _ _ _ AY.out.val.val AX.out.val.val (Utf8Tabs_below hT BQ.out)).mono ?_); rintro e w9 ⟨rfl, hb⟩; (replace AX := Lib.hid (AX.out.keep hb); replace AY := Lib.hid (AY.out.keep hb); replace BQ := Lib.hid (BQ.out.trans ((hb).mono BQ.out.size)); clear xco yco kx4 ky4 hb; have xco := AX.out.row.cell 5 HX5.out; have yco := AY.out.row.cell 5 HY5.out; have kx4 := AX.out.row.cell 4 HX4.out; have ky4 := AY.out.row.cell 4 HY4.out)) | (go_at_call 20; (with_reducible refine (HXX.out _ _ _ AX.out.val.val AX.out.val.val (Utf8Tabs_below hT BQ.out)).mono ?_); rintro e w9 ⟨rfl, hb⟩; (replace AX := Lib.hid (AX.out.keep hb); replace AY := Lib.hid (AY.out.keep hb); replace BQ := Lib.hid (BQ.out.trans ((hb).mono BQ.out.size)); clear xco yco kx4 ky4 hb; have xco := AX.out.row.cell 5 HX5.out; have yco := AY.out.row.cell 5 HY5.out; have kx4 := AX.out.row.cell 4 HX4.out; have ky4 := AY.out.row.cell 4 HY4.out)))
        clear kx4 ky4 xco yco
        go_loopw [11, 12] (fun b i wr => ∃ (k : Nat) (B : Bool), k ≤ N1 ∧ i = .int .i64 (k : Int) ∧ b = .bool B ∧ B = Rt.alike x y k ∧ Rt.AtN wr g7 x cx ∧ Rt.AtN wr g8 y dy ∧ Below w.heap.size w wr) (fun _ i _ => N1 - (Go.RowKit.intOf i).toNat)
        case atStart => exact ⟨0, _, Nat.zero_le _, rfl, rfl, (by first | exact hB0.out | (rw [← hB0.out]; exact beq_false_of_ne (by omega))), AX.out, AY.out, BQ.out⟩
        case round =>
          obtain ⟨k, B, hk, rfl, rfl, hBB, hx', hy', hbq⟩ := hrel
          have hB := Lib.hid hBB
          clear hBB
          have AX := Lib.hid hx'
          have AY := Lib.hid hy'
          have BQ := Lib.hid hbq
          clear hx' hy' hbq hB0
          have kx4 := AX.out.row.cell 4 HX4.out
          have ky4 := AY.out.row.cell 4 HY4.out
          cases B
          · have h14 := T1.out
            rw [Rt.alike_false x y k hB.out.symm] at h14
            first
            | (exfalso; revert h14; decide)
            | (clear h14
               go_wp2_with fail
               have UP8 := fun u (hu : Below _ _ u) => BQ.out.trans (hu.mono BQ.out.size)
               refine Tp.region_ex (by kernel_rfl) 17 103 [[(9, none)], [(87, some 0)], [(10, none), (88, some 1)], [(88, some 1), (89, some 2)], [(11, none)], [(91, some 4)], [(90, some 3), (92, some 5)], [(93, some 6)], [(7, none), (94, some 7)], [(8, none), (94, some 7)], [(95, some 8), (96, some 9), (94, some 7)], [(7, none), (94, some 7)], [(8, none), (94, some 7)], [(98, some 11), (99, some 12), (94, some 7)], [(97, some 10), (100, some 13), (94, some 7)], [(94, some 7), (101, some 14)], [(102, some 15)]] (by kernel_rfl) rfl ?_
               apply Exists.intro [_, _, _, _, _, _, _, _, _, _, _, _, _, _, _, _, _]
               refine ⟨⟨?_, ?_, ?_, ?_, ?_, ?_, ?_, ?_, ?_, ?_, ?_, ?_, ?_, ?_, ?_, ?_, ?_, trivial⟩, ?_⟩
               · intro A u hC hG hF hu hR; clear hG
                 refine Tp.facts_old (fun h9 => ?_) rfl; conv at h9 => rhs; whnf
                 refine Tp.facts_nil ?_
                 refine Tp.wants_plain rfl ?_
                 (apply Tp.gives_run; (simp [go_sem, hC, hF, hu, h9]; exact rfl); (refine Tp.given_is ?_; exact rfl))
               · intro A u hC hG hF hu hR; clear hG
                 first | refine Tp.facts_is rfl (fun h87 => ?_) | refine Tp.facts_ty rfl (fun v87 h87 k87 => ?_)
                 refine Tp.facts_nil ?_
                 refine Tp.wants_plain rfl ?_
                 first | (apply Tp.gives_run; (simp [go_sem, hC, hF, hu, h87]; exact rfl); (refine Tp.given_is ?_; exact rfl)) | (apply Tp.gives_run; (simp [go_sem, hC, hF, h87]; exact rfl); (refine Tp.given_ty ?_ k87 (Below.refl _ _); exact rfl))
               · intro A u hC hG hF hu hR; clear hG
                 refine Tp.facts_old (fun h10 => ?_) rfl; conv at h10 => rhs; whnf
                 first | refine Tp.facts_is rfl (fun h88 => ?_) | refine Tp.facts_ty rfl (fun v88 h88 k88 => ?_)
                 refine Tp.facts_nil ?_
                 first
                 | (refine Tp.wants_skip rfl rfl h88 ?_; exact Tp.skip_t rfl)
                 | (refine Tp.wants_go rfl rfl h88 ?_; ((apply Tp.gives_run; (simp [go_sem, hC, hF, hu, h10, h88]; exact rfl); (refine Tp.given_is ?_; exact rfl))))
               · intro A u hC hG hF hu hR; clear hG
                 first | refine Tp.facts_is rfl (fun h88 => ?_) | refine Tp.facts_ty rfl (fun v88 h88 k88 => ?_)
                 first | refine Tp.facts_is rfl (fun h89 => ?_) | refine Tp.facts_ty rfl (fun v89 h89 k89 => ?_)
                 refine Tp.facts_nil ?_
                 refine Tp.wants_plain rfl ?_
                 (apply Tp.gives_run; (simp [go_sem, hC, hF, hu, h88, h89]; exact rfl); (refine Tp.given_is ?_; exact rfl))
               · intro A u hC hG hF hu hR; clear hG
                 refine Tp.facts_old (fun h11 => ?_) rfl; conv at h11 => rhs; whnf
                 refine Tp.facts_nil ?_
                 refine Tp.wants_plain rfl ?_
                 (apply Tp.gives_run; (simp [go_sem, hC, hF, hu, h11]; exact rfl); (refine Tp.given_is ?_; exact rfl))
               · intro A u hC hG hF hu hR; clear hG
                 first | refine Tp.facts_is rfl (fun h91 => ?_) | refine Tp.facts_ty rfl (fun v91 h91 k91 => ?_)
                 refine Tp.facts_nil ?_
                 refine Tp.wants_plain rfl ?_
                 (apply Tp.gives_run; (simp [go_sem, hC, hF, hu, h91]; exact rfl); (refine Tp.given_is ?_; exact rfl))
               · intro A u hC hG hF hu hR; clear hG
                 first | refine Tp.facts_is rfl (fun h90 => ?_) | refine Tp.facts_ty rfl (fun v90 h90 k90 => ?_)
                 first | refine Tp.facts_is rfl (fun h92 => ?_) | refine Tp.facts_ty rfl (fun v92 h92 k92 => ?_)
                 refine Tp.facts_nil ?_
                 refine Tp.wants_plain rfl ?_
                 (apply Tp.gives_run; (simp [go_sem, hC, hF, hu, h90, h92]; exact rfl); (refine Tp.given_is ?_; exact rfl))
               · intro A u hC hG hF hu hR; clear hG
                 first | refine Tp.facts_is rfl (fun h93 => ?_) | refine Tp.facts_ty rfl (fun v93 h93 k93 => ?_)
                 refine Tp.facts_nil ?_
                 refine Tp.wants_plain rfl ?_
                 first | (apply Tp.gives_run; (simp [go_sem, hC, hF, hu, h93]; exact rfl); (refine Tp.given_is ?_; exact rfl)) | (apply Tp.gives_run; (simp [go_sem, hC, hF, h93]; exact rfl); (refine Tp.given_ty ?_ k93 (Below.refl _ _); exact rfl))
               · intro A u hC hG hF hu hR; clear hG
                 refine Tp.facts_old (fun h7 => ?_) rfl; conv at h7 => rhs; whnf
                 first | refine Tp.facts_is rfl (fun h94 => ?_) | refine Tp.facts_ty rfl (fun v94 h94 k94 => ?_)
                 refine Tp.facts_nil ?_
                 first
                 | (refine Tp.wants_skip rfl rfl h94 ?_; exact Tp.skip_t rfl)
                 | (refine Tp.wants_go rfl rfl h94 ?_; (refine Tp.load_var rfl h7 ((AX.out.keep hu).row.whole33 AX.out.size) ?_; exact rfl))
               · intro A u hC hG hF hu hR; clear hG
                 refine Tp.facts_old (fun h8 => ?_) rfl; conv at h8 => rhs; whnf
                 first | refine Tp.facts_is rfl (fun h94 => ?_) | refine Tp.facts_ty rfl (fun v94 h94 k94 => ?_)
                 refine Tp.facts_nil ?_
                 first
                 | (refine Tp.wants_skip rfl rfl h94 ?_; exact Tp.skip_t rfl)
                 | (refine Tp.wants_go rfl rfl h94 ?_; (refine Tp.load_var rfl h8 ((AY.out.keep hu).row.whole33 AY.out.size) ?_; exact rfl))
               · intro A u hC hG hF hu hR; clear hG
                 first | refine Tp.facts_is rfl (fun h95 => ?_) | refine Tp.facts_ty rfl (fun v95 h95 k95 => ?_)
                 first | refine Tp.facts_is rfl (fun h96 => ?_) | refine Tp.facts_ty rfl (fun v96 h96 k96 => ?_)
                 first | refine Tp.facts_is rfl (fun h94 => ?_) | refine Tp.facts_ty rfl (fun v94 h94 k94 => ?_)
                 refine Tp.facts_nil ?_
                 first
                 | (refine Tp.wants_skip rfl rfl h94 ?_; exact Tp.skip_t rfl)
                 | (refine Tp.wants_go rfl rfl h94 ?_; ((apply Tp.gives_run; (simp [go_sem, hC, hF, hu, h95, h96, h94]; exact rfl); (refine Tp.given_call ?_ (Rt.says_ret (SXY.out _ _ _ (AX.out.keep hu).val.val (AY.out.keep hu).val.val)); exact rfl))))
               · intro A u hC hG hF hu hR; clear hG
                 refine Tp.facts_old (fun h7 => ?_) rfl; conv at h7 => rhs; whnf
                 first | refine Tp.facts_is rfl (fun h94 => ?_) | refine Tp.facts_ty rfl (fun v94 h94 k94 => ?_)
                 refine Tp.facts_nil ?_
                 first
                 | (refine Tp.wants_skip rfl rfl h94 ?_; exact Tp.skip_t rfl)
                 | (refine Tp.wants_go rfl rfl h94 ?_; (refine Tp.load_var rfl h7 ((AX.out.keep hu).row.whole33 AX.out.size) ?_; exact rfl))
               · intro A u hC hG hF hu hR; clear hG
                 refine Tp.facts_old (fun h8 => ?_) rfl; conv at h8 => rhs; whnf
                 first | refine Tp.facts_is rfl (fun h94 => ?_) | refine Tp.facts_ty rfl (fun v94 h94 k94 => ?_)
                 refine Tp.facts_nil ?_
                 first
                 | (refine Tp.wants_skip rfl rfl h94 ?_; exact Tp.skip_t rfl)
                 | (refine Tp.wants_go rfl rfl h94 ?_; (refine Tp.load_var rfl h8 ((AY.out.keep hu).row.whole33 AY.out.size) ?_; exact rfl))
               · intro A u hC hG hF hu hR; clear hG
                 first | refine Tp.facts_is rfl (fun h98 => ?_) | refine Tp.facts_ty rfl (fun v98 h98 k98 => ?_)
                 first | refine Tp.facts_is rfl (fun h99 => ?_) | refine Tp.facts_ty rfl (fun v99 h99 k99 => ?_)
                 first | refine Tp.facts_is rfl (fun h94 => ?_) | refine Tp.facts_ty rfl (fun v94 h94 k94 => ?_)
                 refine Tp.facts_nil ?_
                 first
                 | (refine Tp.wants_skip rfl rfl h94 ?_; exact Tp.skip_t rfl)
                 | (refine Tp.wants_go rfl rfl h94 ?_; ((apply Tp.gives_run; (simp [go_sem, hC, hF, hu, h98, h99, h94]; exact rfl); (refine Tp.given_call ?_ (Rt.says_ret (SRX.out _ _ _ (AX.out.keep hu).val.val (AY.out.keep hu).val.val)); exact rfl))))
               · intro A u hC hG hF hu hR; clear hG
                 first | refine Tp.facts_is rfl (fun h97 => ?_) | refine Tp.facts_ty rfl (fun v97 h97 k97 => ?_)
                 first | refine Tp.facts_is rfl (fun h100 => ?_) | refine Tp.facts_ty rfl (fun v100 h100 k100 => ?_)
                 first | refine Tp.facts_is rfl (fun h94 => ?_) | refine Tp.facts_ty rfl (fun v94 h94 k94 => ?_)
                 refine Tp.facts_nil ?_
                 first
                 | (refine Tp.wants_skip rfl rfl h94 ?_; exact Tp.skip_t rfl)
                 | (refine Tp.wants_go rfl rfl h94 ?_; ((apply Tp.gives_run; (simp [go_sem, hC, hF, hu, h97, h100, h94]; exact rfl); (refine Tp.given_is ?_; exact rfl))))
               · intro A u hC hG hF hu hR; clear hG
                 first | refine Tp.facts_is rfl (fun h94 => ?_) | refine Tp.facts_ty rfl (fun v94 h94 k94 => ?_)
                 first | refine Tp.facts_is rfl (fun h101 => ?_) | refine Tp.facts_ty rfl (fun v101 h101 k101 => ?_)
                 refine Tp.facts_nil ?_
                 refine Tp.wants_plain rfl ?_
                 (apply Tp.gives_run; (simp [go_sem, hC, hF, hu, h94, h101]; exact rfl); (refine Tp.given_is ?_; exact rfl))
               · intro A u hC hG hF hu hR; clear hG
                 first | refine Tp.facts_is rfl (fun h102 => ?_) | refine Tp.facts_ty rfl (fun v102 h102 k102 => ?_)
                 refine Tp.facts_nil ?_
                 refine Tp.wants_plain rfl ?_
                 first | (apply Tp.gives_run; (simp [go_sem, hC, hF, hu, h102]; exact rfl); (refine Tp.given_is ?_; exact rfl)) | (apply Tp.gives_run; (simp [go_sem, hC, hF, h102]; exact rfl); (refine Tp.given_ty ?_ k102 (Below.refl _ _); exact rfl))
               intro wqz bqz
               first | refine Tp.fin_is rfl rfl rfl ?_ | refine Tp.fin_ty rfl rfl rfl (fun y87 q87 => ?_)
               first | refine Tp.fin_is rfl rfl rfl ?_ | refine Tp.fin_ty rfl rfl rfl (fun y88 q88 => ?_)
               first | refine Tp.fin_is rfl rfl rfl ?_ | refine Tp.fin_ty rfl rfl rfl (fun y89 q89 => ?_)
               first | refine Tp.fin_is rfl rfl rfl ?_ | refine Tp.fin_ty rfl rfl rfl (fun y90 q90 => ?_)
               first | refine Tp.fin_is rfl rfl rfl ?_ | refine Tp.fin_ty rfl rfl rfl (fun y91 q91 => ?_)
               first | refine Tp.fin_is rfl rfl rfl ?_ | refine Tp.fin_ty rfl rfl rfl (fun y92 q92 => ?_)
               first | refine Tp.fin_is rfl rfl rfl ?_ | refine Tp.fin_ty rfl rfl rfl (fun y93 q93 => ?_)
               first | refine Tp.fin_is rfl rfl rfl ?_ | refine Tp.fin_ty rfl rfl rfl (fun y94 q94 => ?_)
               first | refine Tp.fin_is rfl rfl rfl ?_ | refine Tp.fin_ty rfl rfl rfl (fun y95 q95 => ?_)
               first | refine Tp.fin_is rfl rfl rfl ?_ | refine Tp.fin_ty rfl rfl rfl (fun y96 q96 => ?_)
               first | refine Tp.fin_is rfl rfl rfl ?_ | refine Tp.fin_ty rfl rfl rfl (fun y97 q97 => ?_)
               first | refine Tp.fin_is rfl rfl rfl ?_ | refine Tp.fin_ty rfl rfl rfl (fun y98 q98 => ?_)
               first | refine Tp.fin_is rfl rfl rfl ?_ | refine Tp.fin_ty rfl rfl rfl (fun y99 q99 => ?_)
               first | refine Tp.fin_is rfl rfl rfl ?_ | refine Tp.fin_ty rfl rfl rfl (fun y100 q100 => ?_)
               first | refine Tp.fin_is rfl rfl rfl ?_ | refine Tp.fin_ty rfl rfl rfl (fun y101 q101 => ?_)
               first | refine Tp.fin_is rfl rfl rfl ?_ | refine Tp.fin_ty rfl rfl rfl (fun y102 q102 => ?_)
               first | refine Tp.fin_is rfl rfl rfl ?_ | refine Tp.fin_ty rfl rfl rfl (fun y6 q6 => ?_)
               refine Tp.fin_nil ?_
               simp only [Act.put, List.setIfInBounds_toArray, List.set_cons_succ, List.set_cons_zero, List.drop_succ_cons, List.drop_zero, List.drop_nil]
               have BZ := UP8 _ bqz
               cases SM
               · go_wp2_with fail
                 rw [← HQ.out]
                 exact ⟨rfl, BZ⟩
               · go_wp2_with fail
                 rw [← HQ.out]
                 exact ⟨rfl, BZ⟩)
          · by_cases hkn : k < N1
            · have hkx : k < x.path.length := by rw [E3.out]; exact hkn
              obtain ⟨hky, hst⟩ := Rt.alike_step x y k hB.out.symm hkx
              have HST := Lib.hid hst
              have sx := AX.out.strs HX4.out
              have sy := AY.out.strs HY4.out
              obtain ⟨bx, ox, rfl, lbx⟩ := sx.at_ k (by have := sx.len; omega)
              obtain ⟨by_, oy, rfl, lby⟩ := sy.at_ k (by have := sy.len; omega)
              have kcx := sx.cell bx ox rfl k (by have := sx.len; omega)
              have kcy := sy.cell by_ oy rfl k (by have := sy.len; omega)
              have hk2 := hky
              rw [E4.out] at hk2
              have q0 : (0 : Int) ≤ (k : Int) := Int.natCast_nonneg _
              have q1 : (k : Int) < (N1 : Int) := by omega
              have q2 := Int.ofNat_lt.2 hk2
              have hbig := sx.big
              clear sx sy hst
              have hbz := Rt.beqL (x.path.getD k ByteArray.empty) (y.path.getD k ByteArray.empty)
              generalize x.path.getD k ByteArray.empty = S1 at *
              generalize y.path.getD k ByteArray.empty = S2 at *
              obtain ⟨EB, hEB⟩ : ∃ b, (S1 == S2) = b := ⟨_, rfl⟩
              rw [hEB] at hbz HST
              go_wp2_with fail
              go_region
              go_wp2_with fail
              go_roundw
              case rel => exact ⟨k + 1, EB, by omega, by simp, rfl, HST.out.symm, AX.out.keep (Below.refl _ _).drew, AY.out.keep (Below.refl _ _).drew, BQ.out.drew⟩
              case measure => simp [Go.RowKit.intOf]; omega
            · have h14 := T1.out
              rw [← Rt.alike_end x y k (by rw [E3.out]; omega), ← hB.out] at h14
              have q1 : ¬ (k : Int) < (N1 : Int) := by omega
              first
              | (exfalso; revert h14; decide)
              | (clear h14
                 go_wp2_with fail
                 have UP8 := fun u (hu : Below _ _ u) => BQ.out.trans (hu.mono BQ.out.size)
                 refine Tp.region_ex (by kernel_rfl) 17 103 [[(9, none)], [(87, some 0)], [(10, none), (88, some 1)], [(88, some 1), (89, some 2)], [(11, none)], [(91, some 4)], [(90, some 3), (92, some 5)], [(93, some 6)], [(7, none), (94, some 7)], [(8, none), (94, some 7)], [(95, some 8), (96, some 9), (94, some 7)], [(7, none), (94, some 7)], [(8, none), (94, some 7)], [(98, some 11), (99, some 12), (94, some 7)], [(97, some 10), (100, some 13), (94, some 7)], [(94, some 7), (101, some 14)], [(102, some 15)]] (by kernel_rfl) rfl ?_
                 apply Exists.intro [_, _, _, _, _, _, _, _, _, _, _, _, _, _, _, _, _]
                 refine ⟨⟨?_, ?_, ?_, ?_, ?_, ?_, ?_, ?_, ?_, ?_, ?_, ?_, ?_, ?_, ?_, ?_, ?_, trivial⟩, ?_⟩
                 · intro A u hC hG hF hu hR; clear hG
                   refine Tp.facts_old (fun h9 => ?_) rfl; conv at h9 => rhs; whnf
                   refine Tp.facts_nil ?_
                   refine Tp.wants_plain rfl ?_
                   (apply Tp.gives_run; (simp [go_sem, hC, hF, hu, h9]; exact rfl); (refine Tp.given_is ?_; exact rfl))
                 · intro A u hC hG hF hu hR; clear hG
                   first | refine Tp.facts_is rfl (fun h87 => ?_) | refine Tp.facts_ty rfl (fun v87 h87 k87 => ?_)
                   refine Tp.facts_nil ?_
                   refine Tp.wants_plain rfl ?_
                   first | (apply Tp.gives_run; (simp [go_sem, hC, hF, hu, h87]; exact rfl); (refine Tp.given_is ?_; exact rfl)) | (apply Tp.gives_run; (simp [go_sem, hC, hF, h87]; exact rfl); (refine Tp.given_ty ?_ k87 (Below.refl _ _); exact rfl))
                 · intro A u hC hG hF hu hR; clear hG
                   refine Tp.facts_old (fun h10 => ?_) rfl; conv at h10 => rhs; whnf
                   first | refine Tp.facts_is rfl (fun h88 => ?_) | refine Tp.facts_ty rfl (fun v88 h88 k88 => ?_)
                   refine Tp.facts_nil ?_
                   first
                   | (refine Tp.wants_skip rfl rfl h88 ?_; exact Tp.skip_t rfl)
                   | (refine Tp.wants_go rfl rfl h88 ?_; ((apply Tp.gives_run; (simp [go_sem, hC, hF, hu, h10, h88]; exact rfl); (refine Tp.given_is ?_; exact rfl))))
                 · intro A u hC hG hF hu hR; clear hG
                   first | refine Tp.facts_is rfl (fun h88 => ?_) | refine Tp.facts_ty rfl (fun v88 h88 k88 => ?_)
                   first | refine Tp.facts_is rfl (fun h89 => ?_) | refine Tp.facts_ty rfl (fun v89 h89 k89 => ?_)
                   refine Tp.facts_nil ?_
                   refine Tp.wants_plain rfl ?_
                   (apply Tp.gives_run; (simp [go_sem, hC, hF, hu, h88, h89]; exact rfl); (refine Tp.given_is ?_; exact rfl))
                 · intro A u hC hG hF hu hR; clear hG
                   refine Tp.facts_old (fun h11 => ?_) rfl; conv at h11 => rhs; whnf
                   refine Tp.facts_nil ?_
                   refine Tp.wants_plain rfl ?_
                   (apply Tp.gives_run; (simp [go_sem, hC, hF, hu, h11]; exact rfl); (refine Tp.given_is ?_; exact rfl))
                 · intro A u hC hG hF hu hR; clear hG
                   first | refine Tp.facts_is rfl (fun h91 => ?_) | refine Tp.facts_ty rfl (fun v91 h91 k91 => ?_)
                   refine Tp.facts_nil ?_
                   refine Tp.wants_plain rfl ?_
                   (apply Tp.gives_run; (simp [go_sem, hC, hF, hu, h91]; exact rfl); (refine Tp.given_is ?_; exact rfl))
                 · intro A u hC hG hF hu hR; clear hG
                   first | refine Tp.facts_is rfl (fun h90 => ?_) | refine Tp.facts_ty rfl (fun v90 h90 k90 => ?_)
                   first | refine Tp.facts_is rfl (fun h92 => ?_) | refine Tp.facts_ty rfl (fun v92 h92 k92 => ?_)
                   refine Tp.facts_nil ?_
                   refine Tp.wants_plain rfl ?_
                   (apply Tp.gives_run; (simp [go_sem, hC, hF, hu, h90, h92]; exact rfl); (refine Tp.given_is ?_; exact rfl))
                 · intro A u hC hG hF hu hR; clear hG
                   first | refine Tp.facts_is rfl (fun h93 => ?_) | refine Tp.facts_ty rfl (fun v93 h93 k93 => ?_)
                   refine Tp.facts_nil ?_
                   refine Tp.wants_plain rfl ?_
                   first | (apply Tp.gives_run; (simp [go_sem, hC, hF, hu, h93]; exact rfl); (refine Tp.given_is ?_; exact rfl)) | (apply Tp.gives_run; (simp [go_sem, hC, hF, h93]; exact rfl); (refine Tp.given_ty ?_ k93 (Below.refl _ _); exact rfl))
                 · intro A u hC hG hF hu hR; clear hG
                   refine Tp.facts_old (fun h7 => ?_) rfl; conv at h7 => rhs; whnf
                   first | refine Tp.facts_is rfl (fun h94 => ?_) | refine Tp.facts_ty rfl (fun v94 h94 k94 => ?_)
                   refine Tp.facts_nil ?_
                   first
                   | (refine Tp.wants_skip rfl rfl h94 ?_; exact Tp.skip_t rfl)
                   | (refine Tp.wants_go rfl rfl h94 ?_; (refine Tp.load_var rfl h7 ((AX.out.keep hu).row.whole33 AX.out.size) ?_; exact rfl))
                 · intro A u hC hG hF hu hR; clear hG
                   refine Tp.facts_old (fun h8 => ?_) rfl; conv at h8 => rhs; whnf
                   first | refine Tp.facts_is rfl (fun h94 => ?_) | refine Tp.facts_ty rfl (fun v94 h94 k94 => ?_)
                   refine Tp.facts_nil ?_
                   first
                   | (refine Tp.wants_skip rfl rfl h94 ?_; exact Tp.skip_t rfl)
                   | (refine Tp.wants_go rfl rfl h94 ?_; (refine Tp.load_var rfl h8 ((AY.out.keep hu).row.whole33 AY.out.size) ?_; exact rfl))
                 · intro A u hC hG hF hu hR; clear hG
                   first | refine Tp.facts_is rfl (fun h95 => ?_) | refine Tp.facts_ty rfl (fun v95 h95 k95 => ?_)
                   first | refine Tp.facts_is rfl (fun h96 => ?_) | refine Tp.facts_ty rfl (fun v96 h96 k96 => ?_)
                   first | refine Tp.facts_is rfl (fun h94 => ?_) | refine Tp.facts_ty rfl (fun v94 h94 k94 => ?_)
                   refine Tp.facts_nil ?_
                   first
                   | (refine Tp.wants_skip rfl rfl h94 ?_; exact Tp.skip_t rfl)
                   | (refine Tp.wants_go rfl rfl h94 ?_; ((apply Tp.gives_run; (simp [go_sem, hC, hF, hu, h95, h96, h94]; exact rfl); (refine Tp.given_call ?_ (Rt.says_ret (SXY.out _ _ _ (AX.out.keep hu).val.val (AY.out.keep hu).val.val)); exact rfl))))
                 · intro A u hC hG hF hu hR; clear hG
                   refine Tp.facts_old (fun h7 => ?_) rfl; conv at h7 => rhs; whnf
                   first | refine Tp.facts_is rfl (fun h94 => ?_) | refine Tp.facts_ty rfl (fun v94 h94 k94 => ?_)
                   refine Tp.facts_nil ?_
                   first
                   | (refine Tp.wants_skip rfl rfl h94 ?_; exact Tp.skip_t rfl)
                   | (refine Tp.wants_go rfl rfl h94 ?_; (refine Tp.load_var rfl h7 ((AX.out.keep hu).row.whole33 AX.out.size) ?_; exact rfl))
                 · intro A u hC hG hF hu hR; clear hG
                   refine Tp.facts_old (fun h8 => ?_) rfl; conv at h8 => rhs; whnf
                   first | refine Tp.facts_is rfl (fun h94 => ?_) | refine Tp.facts_ty rfl (fun v94 h94 k94 => ?_)
                   refine Tp.facts_nil ?_
                   first
                   | (refine Tp.wants_skip rfl rfl h94 ?_; exact Tp.skip_t rfl)
                   | (refine Tp.wants_go rfl rfl h94 ?_; (refine Tp.load_var rfl h8 ((AY.out.keep hu).row.whole33 AY.out.size) ?_; exact rfl))
                 · intro A u hC hG hF hu hR; clear hG
                   first | refine Tp.facts_is rfl (fun h98 => ?_) | refine Tp.facts_ty rfl (fun v98 h98 k98 => ?_)
                   first | refine Tp.facts_is rfl (fun h99 => ?_) | refine Tp.facts_ty rfl (fun v99 h99 k99 => ?_)
                   first | refine Tp.facts_is rfl (fun h94 => ?_) | refine Tp.facts_ty rfl (fun v94 h94 k94 => ?_)
                   refine Tp.facts_nil ?_
                   first
                   | (refine Tp.wants_skip rfl rfl h94 ?_; exact Tp.skip_t rfl)
                   | (refine Tp.wants_go rfl rfl h94 ?_; ((apply Tp.gives_run; (simp [go_sem, hC, hF, hu, h98, h99, h94]; exact rfl); (refine Tp.given_call ?_ (Rt.says_ret (SRX.out _ _ _ (AX.out.keep hu).val.val (AY.out.keep hu).val.val)); exact rfl))))
                 · intro A u hC hG hF hu hR; clear hG
                   first | refine Tp.facts_is rfl (fun h97 => ?_) | refine Tp.facts_ty rfl (fun v97 h97 k97 => ?_)
                   first | refine Tp.facts_is rfl (fun h100 => ?_) | refine Tp.facts_ty rfl (fun v100 h100 k100 => ?_)
                   first | refine Tp.facts_is rfl (fun h94 => ?_) | refine Tp.facts_ty rfl (fun v94 h94 k94 => ?_)
                   refine Tp.facts_nil ?_
                   first
                   | (refine Tp.wants_skip rfl rfl h94 ?_; exact Tp.skip_t rfl)
                   | (refine Tp.wants_go rfl rfl h94 ?_; ((apply Tp.gives_run; (simp [go_sem, hC, hF, hu, h97, h100, h94]; exact rfl); (refine Tp.given_is ?_; exact rfl))))
                 · intro A u hC hG hF hu hR; clear hG
                   first | refine Tp.facts_is rfl (fun h94 => ?_) | refine Tp.facts_ty rfl (fun v94 h94 k94 => ?_)
                   first | refine Tp.facts_is rfl (fun h101 => ?_) | refine Tp.facts_ty rfl (fun v101 h101 k101 => ?_)
                   refine Tp.facts_nil ?_
                   refine Tp.wants_plain rfl ?_
                   (apply Tp.gives_run; (simp [go_sem, hC, hF, hu, h94, h101]; exact rfl); (refine Tp.given_is ?_; exact rfl))
                 · intro A u hC hG hF hu hR; clear hG
                   first | refine Tp.facts_is rfl (fun h102 => ?_) | refine Tp.facts_ty rfl (fun v102 h102 k102 => ?_)
                   refine Tp.facts_nil ?_
                   refine Tp.wants_plain rfl ?_
                   first | (apply Tp.gives_run; (simp [go_sem, hC, hF, hu, h102]; exact rfl); (refine Tp.given_is ?_; exact rfl)) | (apply Tp.gives_run; (simp [go_sem, hC, hF, h102]; exact rfl); (refine Tp.given_ty ?_ k102 (Below.refl _ _); exact rfl))
                 intro wqz bqz
                 first | refine Tp.fin_is rfl rfl rfl ?_ | refine Tp.fin_ty rfl rfl rfl (fun y87 q87 => ?_)
                 first | refine Tp.fin_is rfl rfl rfl ?_ | refine Tp.fin_ty rfl rfl rfl (fun y88 q88 => ?_)
                 first | refine Tp.fin_is rfl rfl rfl ?_ | refine Tp.fin_ty rfl rfl rfl (fun y89 q89 => ?_)
                 first | refine Tp.fin_is rfl rfl rfl ?_ | refine Tp.fin_ty rfl rfl rfl (fun y90 q90 => ?_)
                 first | refine Tp.fin_is rfl rfl rfl ?_ | refine Tp.fin_ty rfl rfl rfl (fun y91 q91 => ?_)
                 first | refine Tp.fin_is rfl rfl rfl ?_ | refine Tp.fin_ty rfl rfl rfl (fun y92 q92 => ?_)
                 first | refine Tp.fin_is rfl rfl rfl ?_ | refine Tp.fin_ty rfl rfl rfl (fun y93 q93 => ?_)
                 first | refine Tp.fin_is rfl rfl rfl ?_ | refine Tp.fin_ty rfl rfl rfl (fun y94 q94 => ?_)
                 first | refine Tp.fin_is rfl rfl rfl ?_ | refine Tp.fin_ty rfl rfl rfl (fun y95 q95 => ?_)
                 first | refine Tp.fin_is rfl rfl rfl ?_ | refine Tp.fin_ty rfl rfl rfl (fun y96 q96 => ?_)
                 first | refine Tp.fin_is rfl rfl rfl ?_ | refine Tp.fin_ty rfl rfl rfl (fun y97 q97 => ?_)
                 first | refine Tp.fin_is rfl rfl rfl ?_ | refine Tp.fin_ty rfl rfl rfl (fun y98 q98 => ?_)
                 first | refine Tp.fin_is rfl rfl rfl ?_ | refine Tp.fin_ty rfl rfl rfl (fun y99 q99 => ?_)
                 first | refine Tp.fin_is rfl rfl rfl ?_ | refine Tp.fin_ty rfl rfl rfl (fun y100 q100 => ?_)
                 first | refine Tp.fin_is rfl rfl rfl ?_ | refine Tp.fin_ty rfl rfl rfl (fun y101 q101 => ?_)
                 first | refine Tp.fin_is rfl rfl rfl ?_ | refine Tp.fin_ty rfl rfl rfl (fun y102 q102 => ?_)
                 first | refine Tp.fin_is rfl rfl rfl ?_ | refine Tp.fin_ty rfl rfl rfl (fun y6 q6 => ?_)
                 refine Tp.fin_nil ?_
                 simp only [Act.put, List.setIfInBounds_toArray, List.set_cons_succ, List.set_cons_zero, List.drop_succ_cons, List.drop_zero, List.drop_nil]
                 have BZ := UP8 _ bqz
                 cases SM
                 · go_wp2_with fail
                   rw [← HQ.out]
                   exact ⟨rfl, BZ⟩
                 · go_wp2_with fail
                   rw [← HQ.out]
                   exact ⟨rfl, BZ⟩)
    · have hB0 : Hid (false = Rt.alike x y 0) := Lib.hid (by rw [HB0.out]; simp [hco])
      go_wp2_with (first | (have _t := AX; (with_reducible refine Rt.load_at 33 (x := .tmp 7) ?_ ⟨g7, 0, none⟩ ?_ ?_ (AX.out.row.whole33 AX.out.size) ?_); (with_reducible exact rfl); (exact rfl); (exact rfl); clear _t) | (have _t := AY; (with_reducible refine Rt.load_at 33 (x := .tmp 8) ?_ ⟨g8, 0, none⟩ ?_ ?_ (AY.out.row.whole33 AY.out.size) ?_); (with_reducible exact rfl); (exact rfl); (exact rfl); clear _t) | (go_at_call 21; (with_reducible refine (RXY.out _ _ _ AX.out.val.val AY.out.val.val (Utf8Tabs_below hT BQ.out)).mono ?_); rintro e w9 ⟨rfl, hb⟩; (replace AX := Lib.hid (AX.out.keep hb); replace AY := Lib.hid (AY.out.keep hb); replace BQ := Lib.hid (BQ.out.trans ((hb).mono BQ.out.size)); clear xco yco kx4 ky4 hb; have xco := AX.out.row.cell 5 HX5.out; have yco := AY.out.row.cell 5 HY5.out; have kx4 := AX.out.row.cell 4 HX4.out; have ky4 := AY.out.row.cell 4 HY4.out)) | (go_at_call 21; (with_reducible refine (RYX.out _ _ _ AY.out.val.val AX.out.val.val (Utf8Tabs_below hT BQ.out)).mono ?_); rintro e w9 ⟨rfl, hb⟩; (replace AX := Lib.hid (AX.out.keep hb); replace AY := Lib.hid (AY.out.keep hb); replace BQ := Lib.hid (BQ.out.trans ((hb).mono BQ.out.size)); clear xco yco kx4 ky4 hb; have xco := AX.out.row.cell 5 HX5.out; have yco := AY.out.row.cell 5 HY5.out; have kx4 := AX.out.row.cell 4 HX4.out; have ky4 := AY.out.row.cell 4 HY4.out)) | (go_at_call 20; (with_reducible refine (HXX.out _ _ _ AX.out.val.val AX.out.val.val (Utf8Tabs_below hT BQ.out)).mono ?_); rintro e w9 ⟨rfl, hb⟩; (replace AX := Lib.hid (AX.out.keep hb); replace AY := Lib.hid (AY.out.keep hb); replace BQ := Lib.hid (BQ.out.trans ((hb).mono BQ.out.size)); clear xco yco kx4 ky4 hb; have xco := AX.out.row.cell 5 HX5.out; have yco := AY.out.row.cell 5 HY5.out; have kx4 := AX.out.row.cell 4 HX4.out; have ky4 := AY.out.row.cell 4 HY4.out)))
      clear kx4 ky4 xco yco
      go_loopw [11, 12] (fun b i wr => ∃ (k : Nat) (B : Bool), k ≤ N1 ∧ i = .int .i64 (k : Int) ∧ b = .bool B ∧ B = Rt.alike x y k ∧ Rt.AtN wr g7 x cx ∧ Rt.AtN wr g8 y dy ∧ Below w.heap.size w wr) (fun _ i _ => N1 - (Go.RowKit.intOf i).toNat)
      case atStart => exact ⟨0, _, Nat.zero_le _, rfl, rfl, (by first | exact hB0.out | (rw [← hB0.out]; exact beq_false_of_ne (by omega))), AX.out, AY.out, BQ.out⟩
      case round =>
        obtain ⟨k, B, hk, rfl, rfl, hBB, hx', hy', hbq⟩ := hrel
        have hB := Lib.hid hBB
        clear hBB
        have AX := Lib.hid hx'
        have AY := Lib.hid hy'
        have BQ := Lib.hid hbq
        clear hx' hy' hbq hB0
        have kx4 := AX.out.row.cell 4 HX4.out
        have ky4 := AY.out.row.cell 4 HY4.out
        cases B
        · have h14 := T1.out
          rw [Rt.alike_false x y k hB.out.symm] at h14
          first
          | (exfalso; revert h14; decide)
          | (clear h14
             go_wp2_with fail
             have UP8 := fun u (hu : Below _ _ u) => BQ.out.trans (hu.mono BQ.out.size)
             refine Tp.region_ex (by kernel_rfl) 17 103 [[(9, none)], [(87, some 0)], [(10, none), (88, some 1)], [(88, some 1), (89, some 2)], [(11, none)], [(91, some 4)], [(90, some 3), (92, some 5)], [(93, some 6)], [(7, none), (94, some 7)], [(8, none), (94, some 7)], [(95, some 8), (96, some 9), (94, some 7)], [(7, none), (94, some 7)], [(8, none), (94, some 7)], [(98, some 11), (99, some 12), (94, some 7)], [(97, some 10), (100, some 13), (94, some 7)], [(94, some 7), (101, some 14)], [(102, some 15)]] (by kernel_rfl) rfl ?_
             apply Exists.intro [_, _, _, _, _, _, _, _, _, _, _, _, _, _, _, _, _]
             refine ⟨⟨?_, ?_, ?_, ?_, ?_, ?_, ?_, ?_, ?_, ?_, ?_, ?_, ?_, ?_, ?_, ?_, ?_, trivial⟩, ?_⟩
             · intro A u hC hG hF hu hR; clear hG
               refine Tp.facts_old (fun h9 => ?_) rfl; conv at h9 => rhs; whnf
               refine Tp.facts_nil ?_
               refine Tp.wants_plain rfl ?_
               (apply Tp.gives_run; (simp [go_sem, hC, hF, hu, h9]; exact rfl); (refine Tp.given_is ?_; exact rfl))
             · intro A u hC hG hF hu hR; clear hG
               first | refine Tp.facts_is rfl (fun h87 => ?_) | refine Tp.facts_ty rfl (fun v87 h87 k87 => ?_)
               refine Tp.facts_nil ?_
               refine Tp.wants_plain rfl ?_
               first | (apply Tp.gives_run; (simp [go_sem, hC, hF, hu, h87]; exact rfl); (refine Tp.given_is ?_; exact rfl)) | (apply Tp.gives_run; (simp [go_sem, hC, hF, h87]; exact rfl); (refine Tp.given_ty ?_ k87 (Below.refl _ _); exact rfl))
             · intro A u hC hG hF hu hR; clear hG
               refine Tp.facts_old (fun h10 => ?_) rfl; conv at h10 => rhs; whnf
               first | refine Tp.facts_is rfl (fun h88 => ?_) | refine Tp.facts_ty rfl (fun v88 h88 k88 => ?_)
               refine Tp.facts_nil ?_
               first
               | (refine Tp.wants_skip rfl rfl h88 ?_; exact Tp.skip_t rfl)
               | (refine Tp.wants_go rfl rfl h88 ?_; ((apply Tp.gives_run; (simp [go_sem, hC, hF, hu, h10, h88]; exact rfl); (refine Tp.given_is ?_; exact rfl))))
             · intro A u hC hG hF hu hR; clear hG
               first | refine Tp.facts_is rfl (fun h88 => ?_) | refine Tp.facts_ty rfl (fun v88 h88 k88 => ?_)
               first | refine Tp.facts_is rfl (fun h89 => ?_) | refine Tp.facts_ty rfl (fun v89 h89 k89 => ?_)
               refine Tp.facts_nil ?_
               refine Tp.wants_plain rfl ?_
               (apply Tp.gives_run; (simp [go_sem, hC, hF, hu, h88, h89]; exact rfl); (refine Tp.given_is ?_; exact rfl))
             · intro A u hC hG hF hu hR; clear hG
               refine Tp.facts_old (fun h11 => ?_) rfl; conv at h11 => rhs; whnf
               refine Tp.facts_nil ?_
               refine Tp.wants_plain rfl ?_
               (apply Tp.gives_run; (simp [go_sem, hC, hF, hu, h11]; exact rfl); (refine Tp.given_is ?_; exact rfl))
             · intro A u hC hG hF hu hR; clear hG
               first | refine Tp.facts_is rfl (fun h91 => ?_) | refine Tp.facts_ty rfl (fun v91 h91 k91 => ?_)
               refine Tp.facts_nil ?_
               refine Tp.wants_plain rfl ?_
               (apply Tp.gives_run; (simp [go_sem, hC, hF, hu, h91]; exact rfl); (refine Tp.given_is ?_; exact rfl))
             · intro A u hC hG hF hu hR; clear hG
               first | refine Tp.facts_is rfl (fun h90 => ?_) | refine Tp.facts_ty rfl (fun v90 h90 k90 => ?_)
               first | refine Tp.facts_is rfl (fun h92 => ?_) | refine Tp.facts_ty rfl (fun v92 h92 k92 => ?_)
               refine Tp.facts_nil ?_
               refine Tp.wants_plain rfl ?_
               (apply Tp.gives_run; (simp [go_sem, hC, hF, hu, h90, h92]; exact rfl); (refine Tp.given_is ?_; exact rfl))
             · intro A u hC hG hF hu hR; clear hG
               first | refine Tp.facts_is rfl (fun h93 => ?_) | refine Tp.facts_ty rfl (fun v93 h93 k93 => ?_)
               refine Tp.facts_nil ?_
               refine Tp.wants_plain rfl ?_
               first | (apply Tp.gives_run; (simp [go_sem, hC, hF, hu, h93]; exact rfl); (refine Tp.given_is ?_; exact rfl)) | (apply Tp.gives_run; (simp [go_sem, hC, hF, h93]; exact rfl); (refine Tp.given_ty ?_ k93 (Below.refl _ _); exact rfl))
             · intro A u hC hG hF hu hR; clear hG
               refine Tp.facts_old (fun h7 => ?_) rfl; conv at h7 => rhs; whnf
               first | refine Tp.facts_is rfl (fun h94 => ?_) | refine Tp.facts_ty rfl (fun v94 h94 k94 => ?_)
               refine Tp.facts_nil ?_
               first
               | (refine Tp.wants_skip rfl rfl h94 ?_; exact Tp.skip_t rfl)
               | (refine Tp.wants_go rfl rfl h94 ?_; (refine Tp.load_var rfl h7 ((AX.out.keep hu).row.whole33 AX.out.size) ?_; exact rfl))
             · intro A u hC hG hF hu hR; clear hG
               refine Tp.facts_old (fun h8 => ?_) rfl; conv at h8 => rhs; whnf
               first | refine Tp.facts_is rfl (fun h94 => ?_) | refine Tp.facts_ty rfl (fun v94 h94 k94 => ?_)
               refine Tp.facts_nil ?_
               first
               | (refine Tp.wants_skip rfl rfl h94 ?_; exact Tp.skip_t rfl)
               | (refine Tp.wants_go rfl rfl h94 ?_; (refine Tp.load_var rfl h8 ((AY.out.keep hu).row.whole33 AY.out.size) ?_; exact rfl))
             · intro A u hC hG hF hu hR; clear hG
               first | refine Tp.facts_is rfl (fun h95 => ?_) | refine Tp.facts_ty rfl (fun v95 h95 k95 => ?_)
               first | refine Tp.facts_is rfl (fun h96 => ?_) | refine Tp.facts_ty rfl (fun v96 h96 k96 => ?_)
               first | refine Tp.facts_is rfl (fun h94 => ?_) | refine Tp.facts_ty rfl (fun v94 h94 k94 => ?_)
               refine Tp.facts_nil ?_
               first
               | (refine Tp.wants_skip rfl rfl h94 ?_; exact Tp.skip_t rfl)
               | (refine Tp.wants_go rfl rfl h94 ?_; ((apply Tp.gives_run; (simp [go_sem, hC, hF, hu, h95, h96, h94]; exact rfl); (refine Tp.given_call ?_ (Rt.says_ret (SXY.out _ _ _ (AX.out.keep hu).val.val (AY.out.keep hu).val.val)); exact rfl))))
             · intro A u hC hG hF hu hR; clear hG
               refine Tp.facts_old (fun h7 => ?_) rfl; conv at h7 => rhs; whnf
               first | refine Tp.facts_is rfl (fun h94 => ?_) | refine Tp.facts_ty rfl (fun v94 h94 k94 => ?_)
               refine Tp.facts_nil ?_
               first
               | (refine Tp.wants_skip rfl rfl h94 ?_; exact Tp.skip_t rfl)
               | (refine Tp.wants_go rfl rfl h94 ?_; (refine Tp.load_var rfl h7 ((AX.out.keep hu).row.whole33 AX.out.size) ?_; exact rfl))
             · intro A u hC hG hF hu hR; clear hG
               refine Tp.facts_old (fun h8 => ?_) rfl; conv at h8 => rhs; whnf
               first | refine Tp.facts_is rfl (fun h94 => ?_) | refine Tp.facts_ty rfl (fun v94 h94 k94 => ?_)
               refine Tp.facts_nil ?_
               first
               | (refine Tp.wants_skip rfl rfl h94 ?_; exact Tp.skip_t rfl)
               | (refine Tp.wants_go rfl rfl h94 ?_; (refine Tp.load_var rfl h8 ((AY.out.keep hu).row.whole33 AY.out.size) ?_; exact rfl))
             · intro A u hC hG hF hu hR; clear hG
               first | refine Tp.facts_is rfl (fun h98 => ?_) | refine Tp.facts_ty rfl (fun v98 h98 k98 => ?_)
               first | refine Tp.facts_is rfl (fun h99 => ?_) | refine Tp.facts_ty rfl (fun v99 h99 k99 => ?_)
               first | refine Tp.facts_is rfl (fun h94 => ?_) | refine Tp.facts_ty rfl (fun v94 h94 k94 => ?_)
               refine Tp.facts_nil ?_
               first
               | (refine Tp.wants_skip rfl rfl h94 ?_; exact Tp.skip_t rfl)
               | (refine Tp.wants_go rfl rfl h94 ?_; ((apply Tp.gives_run; (simp [go_sem, hC, hF, hu, h98, h99, h94]; exact rfl); (refine Tp.given_call ?_ (Rt.says_ret (SRX.out _ _ _ (AX.out.keep hu).val.val (AY.out.keep hu).val.val)); exact rfl))))
             · intro A u hC hG hF hu hR; clear hG
               first | refine Tp.facts_is rfl (fun h97 => ?_) | refine Tp.facts_ty rfl (fun v97 h97 k97 => ?_)
               first | refine Tp.facts_is rfl (fun h100 => ?_) | refine Tp.facts_ty rfl (fun v100 h100 k100 => ?_)
               first | refine Tp.facts_is rfl (fun h94 => ?_) | refine Tp.facts_ty rfl (fun v94 h94 k94 => ?_)
               refine Tp.facts_nil ?_
               first
               | (refine Tp.wants_skip rfl rfl h94 ?_; exact Tp.skip_t rfl)
               | (refine Tp.wants_go rfl rfl h94 ?_; ((apply Tp.gives_run; (simp [go_sem, hC, hF, hu, h97, h100, h94]; exact rfl); (refine Tp.given_is ?_; exact rfl))))
             · intro A u hC hG hF hu hR; clear hG
               first | refine Tp.facts_is rfl (fun h94 => ?_) | refine Tp.facts_ty rfl (fun v94 h94 k94 => ?_)
               first | refine Tp.facts_is rfl (fun h101 => ?_) | refine Tp.facts_ty rfl (fun v101 h101 k101 => ?_)
               refine Tp.facts_nil ?_
               refine Tp.wants_plain rfl ?_
               (apply Tp.gives_run; (simp [go_sem, hC, hF, hu, h94, h101]; exact rfl); (refine Tp.given_is ?_; exact rfl))
             · intro A u hC hG hF hu hR; clear hG
               first | refine Tp.facts_is rfl (fun h102 => ?_) | refine Tp.facts_ty rfl (fun v102 h102 k102 => ?_)
               refine Tp.facts_nil ?_
               refine Tp.wants_plain rfl ?_
               first | (apply Tp.gives_run; (simp [go_sem, hC, hF, hu, h102]; exact rfl); (refine Tp.given_is ?_; exact rfl)) | (apply Tp.gives_run; (simp [go_sem, hC, hF, h102]; exact rfl); (refine Tp.given_ty ?_ k102 (Below.refl _ _); exact rfl))
             intro wqz bqz
             first | refine Tp.fin_is rfl rfl rfl ?_ | refine Tp.fin_ty rfl rfl rfl (fun y87 q87 => ?_)
             first | refine Tp.fin_is rfl rfl rfl ?_ | refine Tp.fin_ty rfl rfl rfl (fun y88 q88 => ?_)
             first | refine Tp.fin_is rfl rfl rfl ?_ | refine Tp.fin_ty rfl rfl rfl (fun y89 q89 => ?_)
             first | refine Tp.fin_is rfl rfl rfl ?_ | refine Tp.fin_ty rfl rfl rfl (fun y90 q90 => ?_)
             first | refine Tp.fin_is rfl rfl rfl ?_ | refine Tp.fin_ty rfl rfl rfl (fun y91 q91 => ?_)
             first | refine Tp.fin_is rfl rfl rfl ?_ | refine Tp.fin_ty rfl rfl rfl (fun y92 q92 => ?_)
             first | refine Tp.fin_is rfl rfl rfl ?_ | refine Tp.fin_ty rfl rfl rfl (fun y93 q93 => ?_)
             first | refine Tp.fin_is rfl rfl rfl ?_ | refine Tp.fin_ty rfl rfl rfl (fun y94 q94 => ?_)
             first | refine Tp.fin_is rfl rfl rfl ?_ | refine Tp.fin_ty rfl rfl rfl (fun y95 q95 => ?_)
             first | refine Tp.fin_is rfl rfl rfl ?_ | refine Tp.fin_ty rfl rfl rfl (fun y96 q96 => ?_)
             first | refine Tp.fin_is rfl rfl rfl ?_ | refine Tp.fin_ty rfl rfl rfl (fun y97 q97 => ?_)
             first | refine Tp.fin_is rfl rfl rfl ?_ | refine Tp.fin_ty rfl rfl rfl (fun y98 q98 => ?_)
             first | refine Tp.fin_is rfl rfl rfl ?_ | refine Tp.fin_ty rfl rfl rfl (fun y99 q99 => ?_)
             first | refine Tp.fin_is rfl rfl rfl ?_ | refine Tp.fin_ty rfl rfl rfl (fun y100 q100 => ?_)
             first | refine Tp.fin_is rfl rfl rfl ?_ | refine Tp.fin_ty rfl rfl rfl (fun y101 q101 => ?_)
             first | refine Tp.fin_is rfl rfl rfl ?_ | refine Tp.fin_ty rfl rfl rfl (fun y102 q102 => ?_)
             first | refine Tp.fin_is rfl rfl rfl ?_ | refine Tp.fin_ty rfl rfl rfl (fun y6 q6 => ?_)
             refine Tp.fin_nil ?_
             simp only [Act.put, List.setIfInBounds_toArray, List.set_cons_succ, List.set_cons_zero, List.drop_succ_cons, List.drop_zero, List.drop_nil]
             have BZ := UP8 _ bqz
             cases SM
             · go_wp2_with fail
               rw [← HQ.out]
               exact ⟨rfl, BZ⟩
             · go_wp2_with fail
               rw [← HQ.out]
               exact ⟨rfl, BZ⟩)
        · by_cases hkn : k < N1
          · have hkx : k < x.path.length := by rw [E3.out]; exact hkn
            obtain ⟨hky, hst⟩ := Rt.alike_step x y k hB.out.symm hkx
            have HST := Lib.hid hst
            have sx := AX.out.strs HX4.out
            have sy := AY.out.strs HY4.out
            obtain ⟨bx, ox, rfl, lbx⟩ := sx.at_ k (by have := sx.len; omega)
            obtain ⟨by_, oy, rfl, lby⟩ := sy.at_ k (by have := sy.len; omega)
            have kcx := sx.cell bx ox rfl k (by have := sx.len; omega)
            have kcy := sy.cell by_ oy rfl k (by have := sy.len; omega)
            have hk2 := hky
            rw [E4.out] at hk2
            have q0 : (0 : Int) ≤ (k : Int) := Int.natCast_nonneg _
            have q1 : (k : Int) < (N1 : Int) := by omega
            have q2 := Int.ofNat_lt.2 hk2
            have hbig := sx.big
            clear sx sy hst
            have hbz := Rt.beqL (x.path.getD k ByteArray.empty) (y.path.getD k ByteArray.empty)
            generalize x.path.getD k ByteArray.empty = S1 at *
            generalize y.path.getD k ByteArray.empty = S2 at *
            obtain ⟨EB, hEB⟩ : ∃ b, (S1 == S2) = b := ⟨_, rfl⟩
            rw [hEB] at hbz HST
            go_wp2_with fail
            go_region
            go_wp2_with fail
            go_roundw
            case rel => exact ⟨k + 1, EB, by omega, by simp, rfl, HST.out.symm, AX.out.keep (Below.refl _ _).drew, AY.out.keep (Below.refl _ _).drew, BQ.out.drew⟩
            case measure => simp [Go.RowKit.intOf]; omega
          · have h14 := T1.out
            rw [← Rt.alike_end x y k (by rw [E3.out]; omega), ← hB.out] at h14
            have q1 : ¬ (k : Int) < (N1 : Int) := by omega
            first
            | (exfalso; revert h14; decide)
            | (clear h14
               go_wp2_with fail
               have UP8 := fun u (hu : Below _ _ u) => BQ.out.trans (hu.mono BQ.out.size)
               refine Tp.region_ex (by kernel_rfl) 17 103 [[(9, none)], [(87, some 0)], [(10, none), (88, some 1)], [(88, some 1), (89, some 2)], [(11, none)], [(91, some 4)], [(90, some 3), (92, some 5)], [(93, some 6)], [(7, none), (94, some 7)], [(8, none), (94, some 7)], [(95, some 8), (96, some 9), (94, some 7)], [(7, none), (94, some 7)], [(8, none), (94, some 7)], [(98, some 11), (99, some 12), (94, some 7)], [(97, some 10), (100, some 13), (94, some 7)], [(94, some 7), (101, some 14)], [(102, some 15)]] (by kernel_rfl) rfl ?_
               apply Exists.intro [_, _, _, _, _, _, _, _, _, _, _, _, _, _, _, _, _]
               refine ⟨⟨?_, ?_, ?_, ?_, ?_, ?_, ?_, ?_, ?_, ?_, ?_, ?_, ?_, ?_, ?_, ?_, ?_, trivial⟩, ?_⟩
               · intro A u hC hG hF hu hR; clear hG
                 refine Tp.facts_old (fun h9 => ?_) rfl; conv at h9 => rhs; whnf
                 refine Tp.facts_nil ?_
                 refine Tp.wants_plain rfl ?_
                 (apply Tp.gives_run; (simp [go_sem, hC, hF, hu, h9]; exact rfl); (refine Tp.given_is ?_; exact rfl))
               · intro A u hC hG hF hu hR; clear hG
                 first | refine Tp.facts_is rfl (fun h87 => ?_) | refine Tp.facts_ty rfl (fun v87 h87 k87 => ?_)
                 refine Tp.facts_nil ?_
                 refine Tp.wants_plain rfl ?_
                 first | (apply Tp.gives_run; (simp [go_sem, hC, hF, hu, h87]; exact rfl); (refine Tp.given_is ?_; exact rfl)) | (apply Tp.gives_run; (simp [go_sem, hC, hF, h87]; exact rfl); (refine Tp.given_ty ?_ k87 (Below.refl _ _); exact rfl))
               · intro A u hC hG hF hu hR; clear hG
                 refine Tp.facts_old (fun h10 => ?_) rfl; conv at h10 => rhs; whnf
                 first | refine Tp.facts_is rfl (fun h88 => ?_) | refine Tp.facts_ty rfl (fun v88 h88 k88 => ?_)
                 refine Tp.facts_nil ?_
                 first
                 | (refine Tp.wants_skip rfl rfl h88 ?_; exact Tp.skip_t rfl)
                 | (refine Tp.wants_go rfl rfl h88 ?_; ((apply Tp.gives_run; (simp [go_sem, hC, hF, hu, h10, h88]; exact rfl); (refine Tp.given_is ?_; exact rfl))))
               · intro A u hC hG hF hu hR; clear hG
                 first | refine Tp.facts_is rfl (fun h88 => ?_) | refine Tp.facts_ty rfl (fun v88 h88 k88 => ?_)
                 first | refine Tp.facts_is rfl (fun h89 => ?_) | refine Tp.facts_ty rfl (fun v89 h89 k89 => ?_)
                 refine Tp.facts_nil ?_
                 refine Tp.wants_plain rfl ?_
                 (apply Tp.gives_run; (simp [go_sem, hC, hF, hu, h88, h89]; exact rfl); (refine Tp.given_is ?_; exact rfl))
               · intro A u hC hG hF hu hR; clear hG
                 refine Tp.facts_old (fun h11 => ?_) rfl; conv at h11 => rhs; whnf
                 refine Tp.facts_nil ?_
                 refine Tp.wants_plain rfl ?_
                 (apply Tp.gives_run; (simp [go_sem, hC, hF, hu, h11]; exact rfl); (refine Tp.given_is ?_; exact rfl))
               · intro A u hC hG hF hu hR; clear hG
                 first | refine Tp.facts_is rfl (fun h91 => ?_) | refine Tp.facts_ty rfl (fun v91 h91 k91 => ?_)
                 refine Tp.facts_nil ?_
                 refine Tp.wants_plain rfl ?_
                 (apply Tp.gives_run; (simp [go_sem, hC, hF, hu, h91]; exact rfl); (refine Tp.given_is ?_; exact rfl))
               · intro A u hC hG hF hu hR; clear hG
                 first | refine Tp.facts_is rfl (fun h90 => ?_) | refine Tp.facts_ty rfl (fun v90 h90 k90 => ?_)
                 first | refine Tp.facts_is rfl (fun h92 => ?_) | refine Tp.facts_ty rfl (fun v92 h92 k92 => ?_)
                 refine Tp.facts_nil ?_
                 refine Tp.wants_plain rfl ?_
                 (apply Tp.gives_run; (simp [go_sem, hC, hF, hu, h90, h92]; exact rfl); (refine Tp.given_is ?_; exact rfl))
               · intro A u hC hG hF hu hR; clear hG
                 first | refine Tp.facts_is rfl (fun h93 => ?_) | refine Tp.facts_ty rfl (fun v93 h93 k93 => ?_)
                 refine Tp.facts_nil ?_
                 refine Tp.wants_plain rfl ?_
                 first | (apply Tp.gives_run; (simp [go_sem, hC, hF, hu, h93]; exact rfl); (refine Tp.given_is ?_; exact rfl)) | (apply Tp.gives_run; (simp [go_sem, hC, hF, h93]; exact rfl); (refine Tp.given_ty ?_ k93 (Below.refl _ _); exact rfl))
               · intro A u hC hG hF hu hR; clear hG
                 refine Tp.facts_old (fun h7 => ?_) rfl; conv at h7 => rhs; whnf
                 first | refine Tp.facts_is rfl (fun h94 => ?_) | refine Tp.facts_ty rfl (fun v94 h94 k94 => ?_)
                 refine Tp.facts_nil ?_
                 first
                 | (refine Tp.wants_skip rfl rfl h94 ?_; exact Tp.skip_t rfl)
                 | (refine Tp.wants_go rfl rfl h94 ?_; (refine Tp.load_var rfl h7 ((AX.out.keep hu).row.whole33 AX.out.size) ?_; exact rfl))
               · intro A u hC hG hF hu hR; clear hG
                 refine Tp.facts_old (fun h8 => ?_) rfl; conv at h8 => rhs; whnf
                 first | refine Tp.facts_is rfl (fun h94 => ?_) | refine Tp.facts_ty rfl (fun v94 h94 k94 => ?_)
                 refine Tp.facts_nil ?_
                 first
                 | (refine Tp.wants_skip rfl rfl h94 ?_; exact Tp.skip_t rfl)
                 | (refine Tp.wants_go rfl rfl h94 ?_; (refine Tp.load_var rfl h8 ((AY.out.keep hu).row.whole33 AY.out.size) ?_; exact rfl))
               · intro A u hC hG hF hu hR; clear hG
                 first | refine Tp.facts_is rfl (fun h95 => ?_) | refine Tp.facts_ty rfl (fun v95 h95 k95 => ?_)
                 first | refine Tp.facts_is rfl (fun h96 => ?_) | refine Tp.facts_ty rfl (fun v96 h96 k96 => ?_)
                 first | refine Tp.facts_is rfl (fun h94 => ?_) | refine Tp.facts_ty rfl (fun v94 h94 k94 => ?_)
                 refine Tp.facts_nil ?_
                 first
                 | (refine Tp.wants_skip rfl rfl h94 ?_; exact Tp.skip_t rfl)
                 | (refine Tp.wants_go rfl rfl h94 ?_; ((apply Tp.gives_run; (simp [go_sem, hC, hF, hu, h95, h96, h94]; exact rfl); (refine Tp.given_call ?_ (Rt.says_ret (SXY.out _ _ _ (AX.out.keep hu).val.val (AY.out.keep hu).val.val)); exact rfl))))
               · intro A u hC hG hF hu hR; clear hG
                 refine Tp.facts_old (fun h7 => ?_) rfl; conv at h7 => rhs; whnf
                 first | refine Tp.facts_is rfl (fun h94 => ?_) | refine Tp.facts_ty rfl (fun v94 h94 k94 => ?_)
                 refine Tp.facts_nil ?_
                 first
                 | (refine Tp.wants_skip rfl rfl h94 ?_; exact Tp.skip_t rfl)
                 | (refine Tp.wants_go rfl rfl h94 ?_; (refine Tp.load_var rfl h7 ((AX.out.keep hu).row.whole33 AX.out.size) ?_; exact rfl))
               · intro A u hC hG hF hu hR; clear hG
                 refine Tp.facts_old (fun h8 => ?_) rfl; conv at h8 => rhs; whnf
                 first | refine Tp.facts_is rfl (fun h94 => ?_) | refine Tp.facts_ty rfl (fun v94 h94 k94 => ?_)
                 refine Tp.facts_nil ?_
                 first
                 | (refine Tp.wants_skip rfl rfl h94 ?_; exact Tp.skip_t rfl)
                 | (refine Tp.wants_go rfl rfl h94 ?_; (refine Tp.load_var rfl h8 ((AY.out.keep hu).row.whole33 AY.out.size) ?_; exact rfl))
               · intro A u hC hG hF hu hR; clear hG
                 first | refine Tp.facts_is rfl (fun h98 => ?_) | refine Tp.facts_ty rfl (fun v98 h98 k98 => ?_)
                 first | refine Tp.facts_is rfl (fun h99 => ?_) | refine Tp.facts_ty rfl (fun v99 h99 k99 => ?_)
                 first | refine Tp.facts_is rfl (fun h94 => ?_) | refine Tp.facts_ty rfl (fun v94 h94 k94 => ?_)
                 refine Tp.facts_nil ?_
                 first
                 | (refine Tp.wants_skip rfl rfl h94 ?_; exact Tp.skip_t rfl)
                 | (refine Tp.wants_go rfl rfl h94 ?_; ((apply Tp.gives_run; (simp [go_sem, hC, hF, hu, h98, h99, h94]; exact rfl); (refine Tp.given_call ?_ (Rt.says_ret (SRX.out _ _ _ (AX.out.keep hu).val.val (AY.out.keep hu).val.val)); exact rfl))))
               · intro A u hC hG hF hu hR; clear hG
                 first | refine Tp.facts_is rfl (fun h97 => ?_) | refine Tp.facts_ty rfl (fun v97 h97 k97 => ?_)
                 first | refine Tp.facts_is rfl (fun h100 => ?_) | refine Tp.facts_ty rfl (fun v100 h100 k100 => ?_)
                 first | refine Tp.facts_is rfl (fun h94 => ?_) | refine Tp.facts_ty rfl (fun v94 h94 k94 => ?_)
                 refine Tp.facts_nil ?_
                 first
                 | (refine Tp.wants_skip rfl rfl h94 ?_; exact Tp.skip_t rfl)
                 | (refine Tp.wants_go rfl rfl h94 ?_; ((apply Tp.gives_run; (simp [go_sem, hC, hF, hu, h97, h100, h94]; exact rfl); (refine Tp.given_is ?_; exact rfl))))
               · intro A u hC hG hF hu hR; clear hG
                 first | refine Tp.facts_is rfl (fun h94 => ?_) | refine Tp.facts_ty rfl (fun v94 h94 k94 => ?_)
                 first | refine Tp.facts_is rfl (fun h101 => ?_) | refine Tp.facts_ty rfl (fun v101 h101 k101 => ?_)
                 refine Tp.facts_nil ?_
                 refine Tp.wants_plain rfl ?_
                 (apply Tp.gives_run; (simp [go_sem, hC, hF, hu, h94, h101]; exact rfl); (refine Tp.given_is ?_; exact rfl))
               · intro A u hC hG hF hu hR; clear hG
                 first | refine Tp.facts_is rfl (fun h102 => ?_) | refine Tp.facts_ty rfl (fun v102 h102 k102 => ?_)
                 refine Tp.facts_nil ?_
                 refine Tp.wants_plain rfl ?_
                 first | (apply Tp.gives_run; (simp [go_sem, hC, hF, hu, h102]; exact rfl); (refine Tp.given_is ?_; exact rfl)) | (apply Tp.gives_run; (simp [go_sem, hC, hF, h102]; exact rfl); (refine Tp.given_ty ?_ k102 (Below.refl _ _); exact rfl))
               intro wqz bqz
               first | refine Tp.fin_is rfl rfl rfl ?_ | refine Tp.fin_ty rfl rfl rfl (fun y87 q87 => ?_)
               first | refine Tp.fin_is rfl rfl rfl ?_ | refine Tp.fin_ty rfl rfl rfl (fun y88 q88 => ?_)
               first | refine Tp.fin_is rfl rfl rfl ?_ | refine Tp.fin_ty rfl rfl rfl (fun y89 q89 => ?_)
               first | refine Tp.fin_is rfl rfl rfl ?_ | refine Tp.fin_ty rfl rfl rfl (fun y90 q90 => ?_)
               first | refine Tp.fin_is rfl rfl rfl ?_ | refine Tp.fin_ty rfl rfl rfl (fun y91 q91 => ?_)
               first | refine Tp.fin_is rfl rfl rfl ?_ | refine Tp.fin_ty rfl rfl rfl (fun y92 q92 => ?_)
               first | refine Tp.fin_is rfl rfl rfl ?_ | refine Tp.fin_ty rfl rfl rfl (fun y93 q93 => ?_)
               first | refine Tp.fin_is rfl rfl rfl ?_ | refine Tp.fin_ty rfl rfl rfl (fun y94 q94 => ?_)
               first | refine Tp.fin_is rfl rfl rfl ?_ | refine Tp.fin_ty rfl rfl rfl (fun y95 q95 => ?_)
               first | refine Tp.fin_is rfl rfl rfl ?_ | refine Tp.fin_ty rfl rfl rfl (fun y96 q96 => ?_)
               first | refine Tp.fin_is rfl rfl rfl ?_ | refine Tp.fin_ty rfl rfl rfl (fun y97 q97 => ?_)
               first | refine Tp.fin_is rfl rfl rfl ?_ | refine Tp.fin_ty rfl rfl rfl (fun y98 q98 => ?_)
               first | refine Tp.fin_is rfl rfl rfl ?_ | refine Tp.fin_ty rfl rfl rfl (fun y99 q99 => ?_)
               first | refine Tp.fin_is rfl rfl rfl ?_ | refine Tp.fin_ty rfl rfl rfl (fun y100 q100 => ?_)
               first | refine Tp.fin_is rfl rfl rfl ?_ | refine Tp.fin_ty rfl rfl rfl (fun y101 q101 => ?_)
               first | refine Tp.fin_is rfl rfl rfl ?_ | refine Tp.fin_ty rfl rfl rfl (fun y102 q102 => ?_)
               first | refine Tp.fin_is rfl rfl rfl ?_ | refine Tp.fin_ty rfl rfl rfl (fun y6 q6 => ?_)
               refine Tp.fin_nil ?_
               simp only [Act.put, List.setIfInBounds_toArray, List.set_cons_succ, List.set_cons_zero, List.drop_succ_cons, List.drop_zero, List.drop_nil]
               have BZ := UP8 _ bqz
               cases SM
               · go_wp2_with fail
                 rw [← HQ.out]
                 exact ⟨rfl, BZ⟩
               · go_wp2_with fail
                 rw [← HQ.out]
                 exact ⟨rfl, BZ⟩)
end Go.Proofs
