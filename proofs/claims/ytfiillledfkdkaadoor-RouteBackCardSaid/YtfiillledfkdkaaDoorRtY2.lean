/- A route taken through a site by the reference. -/
import Derived.Test.YtfiillledfkdkaaDoorRtY1
set_option linter.unusedVariables false
set_option linter.unusedSimpArgs false
set_option linter.unusedSimpArgs false
namespace Go.Proofs
open Go.Shelf Go.RowKit Go.Lib Go.Rt Go.Nam Go.Tp
set_option maxHeartbeats 4000000 in
set_option maxRecDepth 100000 in
theorem Rt.throughR (x : Rt.RV) (hI : x.In) (s : ByteArray) (add : Int) (hs : s.size ≤ 140737488351232) (ha : 0 ≤ add ∧ add < 4294967296) (a : Option Addr) (n c : Nat) (w : World) (hZ : Rt.Strs w a n x.path) (hnc : n ≤ c) (hT : Utf8Tabs 0 1 w) :
    Calls Tryd.prog 16 #[.agg (x.cells a n c), .string s, .int .u32 add] w (Rt.ThrPost w (x.on s add) (Rt.thr x s add)) := by
  obtain ⟨Q, hQ⟩ : ∃ Q, Rt.ThrPost w (x.on s add) (Rt.thr x s add) = Q := ⟨_, rfl⟩
  rw [hQ]
  have HQ := Lib.hid hQ
  obtain ⟨i9, hi9, hz0, hz1, hz2⟩ := info_parts Rt.info9
  have hsz := x.size hI.cert.sg a n c
  have HSX := Lib.hid (fun a' c' => (x.on s add).size hI.cert.sg a' (1 + n) c')
  have HSI := Lib.hid (fun a' c' => Rt.RV.inf (x.on s add) hI.cert.sg a' (1 + n) c')
  have HS1 := Lib.hid (fun a' c' => Rt.RV.one (x.on s add) a' (1 + n) c')
  have HEQ := Lib.hid (fun a' c' => Rt.RV.on_cells x s add a n c a' c')
  have hrc := fun u (hZ : Rt.Strs u a n x.path) hT => Rt.routeRightR (x.cells a n c) x.v x.hi x.lo x.len a n c x.path x.co x.cert.cells x.cert.st x.cert.v x.cert.hi x.cert.lo x.cert.len x.cert.mx x.cert.fr x.cert.ti x.cert.se u (x.rou hI.cert.sg a n c) hZ (x.cert.crt hI.cert.sg) hI.cert.in_ hT hI.h0 hI.h1 hI.h2 hI.h3 hI.l1 hI.l0 hnc hI.c0 hI.c1
  obtain ⟨OK, hOK⟩ : ∃ OK, x.right = OK := ⟨_, rfl⟩
  have hrc : ∀ u, Rt.Strs u a n x.path → Utf8Tabs 0 1 u → Calls Tryd.prog 13 #[.agg (x.cells a n c)] u fun e w' => e = .returned (.bool OK) ∧ Below u.heap.size u w' := by rw [← hOK]; exact hrc
  obtain ⟨w1, ew, rc, rr, hb1⟩ := Rt.box2 w (x.cells a n c) Tryd.zeroCells33 33 33
  have HROU := Lib.hid (x.rou hI.cert.sg a n c)
  generalize x.cells a n c = cs at *
  have RC := Lib.hid rc
  have RR := Lib.hid rr
  have RB := Lib.hid hb1
  have HZ := Lib.hid (hZ.keep hb1)
  have HSZ := Lib.hid hsz
  have HRC := Lib.hid hrc
  have HI := Lib.hid hI
  have HOKX := Lib.hid hOK
  clear rc rr hb1 hZ hsz hrc hI hOK hQ
  go_enter Tryd.func16, Tryd.ntmps16
  cases OK
  · have HE : Hid (Rt.thr x s add = 20) := Lib.hid (by unfold Rt.thr; rw [HOKX.out]; simp)
    go_wp2_with (first | (have _t := RC; (with_reducible refine Rt.load_at 33 (x := .tmp 3) ?_ ⟨w.heap.size, 0, none⟩ ?_ ?_ (RC.out.whole33 HSZ.out) ?_); (with_reducible exact rfl); (exact rfl); (kernel_rfl); clear _t) | (go_at_call 13; go_fit (HRC.out _ HZ.out (Utf8Tabs_below hT RB.out)); rintro e w3 ⟨rfl, hb3⟩; replace RC := Lib.hid (RC.out.keep hb3); replace RR := Lib.hid (RR.out.keep hb3); replace HZ := Lib.hid (HZ.out.keep hb3); replace RB := Lib.hid (RB.out.trans (hb3.mono RB.out.size)); clear hb3) | (have _t := RR; (with_reducible refine Rt.store_at 33 (x := .tmp 6) (v := .tmp 24) (cs := Tryd.zeroCells33) ?_ (w.heap.size + 1) ?_ ?_ ?_ RR.out ?_ ?_ ?_ ?_); (with_reducible exact rfl); (exact rfl); (exact rfl); (kernel_rfl); (kernel_rfl); (kernel_rfl); (kernel_rfl); (clear _t; intro w15 r1 r2 r3 r4)))
    exact bodyPost_ret (Rt.results_row_tmp rfl _ _ _ 33 _ (0, 0) _ rfl r1 Tryd.underlying33 rfl (by kernel_rfl)) rfl (by rw [← HQ.out, HE.out]; exact Rt.ThrPost.bad (r4 _ _ (Nat.le_succ _) RB.out) (by decide))
  · obtain ⟨VS, hVS⟩ : ∃ VS, validN s.data.toList = VS := ⟨_, rfl⟩
    have hv := fun u hT => Nam.ValidR s u hs hT
    rw [hVS] at hv
    have HVL := Lib.hid hv
    have HVS := Lib.hid hVS
    clear hv hVS
    obtain ⟨ha0, ha1⟩ := ha
    cases VS
    · have HE : Hid (Rt.thr x s add = 20) := Lib.hid (by unfold Rt.thr; rw [HVS.out]; simp)
      go_wp2_with (first | (have _t := RC; (with_reducible refine Rt.load_at 33 (x := .tmp 3) ?_ ⟨w.heap.size, 0, none⟩ ?_ ?_ (RC.out.whole33 HSZ.out) ?_); (with_reducible exact rfl); (exact rfl); (kernel_rfl); clear _t) | (go_at_call 13; go_fit (HRC.out _ HZ.out (Utf8Tabs_below hT RB.out)); rintro e w3 ⟨rfl, hb3⟩; replace RC := Lib.hid (RC.out.keep hb3); replace RR := Lib.hid (RR.out.keep hb3); replace HZ := Lib.hid (HZ.out.keep hb3); replace RB := Lib.hid (RB.out.trans (hb3.mono RB.out.size)); clear hb3) | (go_at_call 36; go_fit (HVL.out _ (Utf8Tabs_below hT RB.out)); rintro e w4 ⟨rfl, hb4⟩; replace RC := Lib.hid (RC.out.keep hb4); replace RR := Lib.hid (RR.out.keep hb4); replace HZ := Lib.hid (HZ.out.keep hb4); replace RB := Lib.hid (RB.out.trans (hb4.mono RB.out.size)); clear hb4) | (have _t := RR; (with_reducible refine Rt.store_at 33 (x := .tmp 6) (v := .tmp 24) (cs := Tryd.zeroCells33) ?_ (w.heap.size + 1) ?_ ?_ ?_ RR.out ?_ ?_ ?_ ?_); (with_reducible exact rfl); (exact rfl); (exact rfl); (kernel_rfl); (kernel_rfl); (kernel_rfl); (kernel_rfl); (clear _t; intro w15 r1 r2 r3 r4)))
      exact bodyPost_ret (Rt.results_row_tmp rfl _ _ _ 33 _ (0, 0) _ rfl r1 Tryd.underlying33 rfl (by kernel_rfl)) rfl (by rw [← HQ.out, HE.out]; exact Rt.ThrPost.bad (r4 _ _ (Nat.le_succ _) RB.out) (by decide))
    · by_cases h1 : 1 ≤ add
      · by_cases h2 : add ≤ 65535
        · have d1 : decide (add < 1) = false := decide_eq_false (by omega)
          have d2 : decide (65535 < add) = false := decide_eq_false (by omega)
          have hhas := fun u (hz : Rt.Strs u a n x.path) => (Rt.anyFrom_all x.path s) ▸ Rt.hasR cs a n c x.path s u HSZ.out HROU.out.c4 hz hnc
          obtain ⟨CN, hCN⟩ : ∃ CN, Lib.containsS x.path s = CN := ⟨_, rfl⟩
          rw [hCN] at hhas
          have HHAS := Lib.hid hhas
          have HCN := Lib.hid hCN
          clear hhas hCN
          cases CN
          · have hpl : x.path.length = n := HZ.out.len
            have hco0 : 0 ≤ x.co := HI.out.c0
            obtain ⟨hr1, _, _, hr2⟩ := Rt.right_small x HOKX.out
            rw [hpl] at hr1
            by_cases h3 : 16 ≤ n
            · have HE : Hid (Rt.thr x s add = 23) := Lib.hid (by unfold Rt.thr; rw [HOKX.out, HVS.out, HCN.out, hpl]; simp [h1, h2, h3])
              clear hpl
              go_wp2_with (first | (have _t := RC; (with_reducible refine Rt.load_at 33 (x := .tmp 3) ?_ ⟨w.heap.size, 0, none⟩ ?_ ?_ (RC.out.whole33 HSZ.out) ?_); (with_reducible exact rfl); (exact rfl); (kernel_rfl); clear _t) | (go_at_call 13; go_fit (HRC.out _ HZ.out (Utf8Tabs_below hT RB.out)); rintro e w3 ⟨rfl, hb3⟩; replace RC := Lib.hid (RC.out.keep hb3); replace RR := Lib.hid (RR.out.keep hb3); replace HZ := Lib.hid (HZ.out.keep hb3); replace RB := Lib.hid (RB.out.trans (hb3.mono RB.out.size)); clear hb3) | (go_at_call 36; go_fit (HVL.out _ (Utf8Tabs_below hT RB.out)); rintro e w4 ⟨rfl, hb4⟩; replace RC := Lib.hid (RC.out.keep hb4); replace RR := Lib.hid (RR.out.keep hb4); replace HZ := Lib.hid (HZ.out.keep hb4); replace RB := Lib.hid (RB.out.trans (hb4.mono RB.out.size)); clear hb4) | (go_at_call 19; go_fit (HHAS.out _ HZ.out); rintro e w5 ⟨rfl, hb5⟩; replace RC := Lib.hid (RC.out.keep hb5); replace RR := Lib.hid (RR.out.keep hb5); replace HZ := Lib.hid (HZ.out.keep hb5); replace RB := Lib.hid (RB.out.trans (hb5.mono RB.out.size)); clear hb5; have k4 := RC.out.cell 4 HROU.out.c4; have k5 := RC.out.cell 5 HROU.out.c5; have l5 := RC.out.lt) | (have _t := RR; (with_reducible refine Rt.store_at 33 (x := .tmp 6) (v := .tmp 40) (cs := Tryd.zeroCells33) ?_ (w.heap.size + 1) ?_ ?_ ?_ RR.out ?_ ?_ ?_ ?_); (with_reducible exact rfl); (exact rfl); (exact rfl); (kernel_rfl); (kernel_rfl); (kernel_rfl); (kernel_rfl); (clear _t; intro w15 r1 r2 r3 r4)))
              exact bodyPost_ret (Rt.results_row_tmp rfl _ _ _ 33 _ (0, 0) _ rfl r1 Tryd.underlying33 rfl (by kernel_rfl)) rfl (by rw [← HQ.out, HE.out]; exact Rt.ThrPost.bad (r4 _ _ (Nat.le_succ _) RB.out) (by decide))
            · by_cases h4 : 16777216 < x.co + add
              · have HE : Hid (Rt.thr x s add = 23) := Lib.hid (by unfold Rt.thr; rw [HOKX.out, HVS.out, HCN.out, hpl]; simp [h1, h2, h4])
                clear hpl
                have d4 : decide (16777216 < x.co + add) = true := decide_eq_true h4
                go_wp2_with (first | (have _t := RC; (with_reducible refine Rt.load_at 33 (x := .tmp 3) ?_ ⟨w.heap.size, 0, none⟩ ?_ ?_ (RC.out.whole33 HSZ.out) ?_); (with_reducible exact rfl); (exact rfl); (kernel_rfl); clear _t) | (go_at_call 13; go_fit (HRC.out _ HZ.out (Utf8Tabs_below hT RB.out)); rintro e w3 ⟨rfl, hb3⟩; replace RC := Lib.hid (RC.out.keep hb3); replace RR := Lib.hid (RR.out.keep hb3); replace HZ := Lib.hid (HZ.out.keep hb3); replace RB := Lib.hid (RB.out.trans (hb3.mono RB.out.size)); clear hb3) | (go_at_call 36; go_fit (HVL.out _ (Utf8Tabs_below hT RB.out)); rintro e w4 ⟨rfl, hb4⟩; replace RC := Lib.hid (RC.out.keep hb4); replace RR := Lib.hid (RR.out.keep hb4); replace HZ := Lib.hid (HZ.out.keep hb4); replace RB := Lib.hid (RB.out.trans (hb4.mono RB.out.size)); clear hb4) | (go_at_call 19; go_fit (HHAS.out _ HZ.out); rintro e w5 ⟨rfl, hb5⟩; replace RC := Lib.hid (RC.out.keep hb5); replace RR := Lib.hid (RR.out.keep hb5); replace HZ := Lib.hid (HZ.out.keep hb5); replace RB := Lib.hid (RB.out.trans (hb5.mono RB.out.size)); clear hb5; have k4 := RC.out.cell 4 HROU.out.c4; have k5 := RC.out.cell 5 HROU.out.c5; have l5 := RC.out.lt) | (have _t := RR; (with_reducible refine Rt.store_at 33 (x := .tmp 6) (v := .tmp 40) (cs := Tryd.zeroCells33) ?_ (w.heap.size + 1) ?_ ?_ ?_ RR.out ?_ ?_ ?_ ?_); (with_reducible exact rfl); (exact rfl); (exact rfl); (kernel_rfl); (kernel_rfl); (kernel_rfl); (kernel_rfl); (clear _t; intro w15 r1 r2 r3 r4)))
                exact bodyPost_ret (Rt.results_row_tmp rfl _ _ _ 33 _ (0, 0) _ rfl r1 Tryd.underlying33 rfl (by kernel_rfl)) rfl (by rw [← HQ.out, HE.out]; exact Rt.ThrPost.bad (r4 _ _ (Nat.le_succ _) RB.out) (by decide))
              · have HE : Hid (Rt.thr x s add = 0) := Lib.hid (by unfold Rt.thr; rw [HOKX.out, HVS.out, HCN.out, hpl]; simp [h1, h2, h3, h4])
                clear hpl
                have d4 : decide (16777216 < x.co + add) = false := decide_eq_false h4
                go_wp2_with (first | (have _t := RC6; have t2 := (RC6.out.set 4 (.slice a' (1 + n) c')).set 5 (.int .u32 (x.co + add)); rw [HEQ.out _ _] at t2; (with_reducible refine Rt.load_at 33 (x := .tmp 3) ?_ ⟨w.heap.size, 0, none⟩ ?_ ?_ (t2.whole33 (HSX.out _ _)) ?_); (with_reducible exact rfl); (exact rfl); (kernel_rfl); clear _t) | (have _t := RC; (with_reducible refine Rt.load_at 33 (x := .tmp 3) ?_ ⟨w.heap.size, 0, none⟩ ?_ ?_ (RC.out.whole33 HSZ.out) ?_); (with_reducible exact rfl); (exact rfl); (kernel_rfl); clear _t) | (go_at_call 13; go_fit (HRC.out _ HZ.out (Utf8Tabs_below hT RB.out)); rintro e w3 ⟨rfl, hb3⟩; replace RC := Lib.hid (RC.out.keep hb3); replace RR := Lib.hid (RR.out.keep hb3); replace HZ := Lib.hid (HZ.out.keep hb3); replace RB := Lib.hid (RB.out.trans (hb3.mono RB.out.size)); clear hb3) | (go_at_call 36; go_fit (HVL.out _ (Utf8Tabs_below hT RB.out)); rintro e w4 ⟨rfl, hb4⟩; replace RC := Lib.hid (RC.out.keep hb4); replace RR := Lib.hid (RR.out.keep hb4); replace HZ := Lib.hid (HZ.out.keep hb4); replace RB := Lib.hid (RB.out.trans (hb4.mono RB.out.size)); clear hb4) | (go_at_call 19; go_fit (HHAS.out _ HZ.out); rintro e w5 ⟨rfl, hb5⟩; replace RC := Lib.hid (RC.out.keep hb5); replace RR := Lib.hid (RR.out.keep hb5); replace HZ := Lib.hid (HZ.out.keep hb5); replace RB := Lib.hid (RB.out.trans (hb5.mono RB.out.size)); clear hb5; have k4 := RC.out.cell 4 HROU.out.c4; have k5 := RC.out.cell 5 HROU.out.c5; have l5 := RC.out.lt) | (at_builtin; refine wpList_append_any rfl (.tmp 42) (.tmp 44) 27 rfl w5.heap.size 9 i9 _ 16 Tryd.underlying27 hi9 hz0 hz1 hz2 rfl _ 1 [.string s] rfl (Tp.own_lit1 (Nat.le_refl _)) a n c _ rfl (Rt.Strs.sl (HZ.out.keep ((Below.refl _ _).alloc (Nat.le_refl _) _))) (Rt.str_one _) (by simp only [maxLen]; omega) (by omega) (by simp) ?_; intro v' w6 hown hg6 hk6; obtain ⟨a', c', rfl, hs6, hb6⟩ := Sl.of_own hown; have S6 := Lib.hid hs6; have B6 := Lib.hid hb6; have G6 := Lib.hid (Rt.grown_lit hg6); have RC6 := Lib.hid (RC.out.by (Rt.grown_lit hg6) (Rt.ne_of_row RC.out)); have RR6 := Lib.hid (RR.out.by (Rt.grown_lit hg6) (Rt.ne_of_row RR.out)); have k46 := RC6.out.cell 4 HROU.out.c4; have k56 := RC6.out.cell 5 HROU.out.c5; have f46 := RC6.out.free 4; have f56 := RC6.out.free 5; have l6 := RC6.out.lt; clear hown hg6 hk6 hs6 hb6 k4 k5 l5) | (have _t := RR6; (with_reducible refine Rt.store_at 33 (x := .tmp 6) (v := .tmp 52) (cs := (x.on s add).cells a' (1 + n) c') ?_ (w.heap.size + 1) ?_ ?_ ?_ ((RR6.out.other (by simp) _).other (by simp) _) ?_ ?_ ?_ ?_); (with_reducible exact rfl); (exact rfl); (exact rfl); (kernel_rfl); (exact HSX.out _ _); (exact HSI.out _ _); (exact HS1.out _ _); (clear _t; intro w15 r1 r2 r3 r4)))
                have hst : Rt.Strs w6 a' (1 + n) (s :: x.path) := Rt.Strs.of_sl (zs := s :: x.path) S6.out (by omega) (by
                  intro y hy
                  rcases List.mem_cons.1 hy with rfl | hy
                  · exact hs
                  · exact HZ.out.small_all y hy)
                have hlt1 := RR.out.lt
                have hst2 : Rt.Strs w15 a' (1 + n) (s :: x.path) := hst.moved (by rw [r2]; simp [World.setCell]) (fun b off e => by
                  have := B6.out b off e
                  rw [r3 b (by omega), Below.heap_setCell _ _ _ _ (by simp; omega), Below.heap_setCell _ _ _ _ (by simp; omega)])
                exact bodyPost_ret (Rt.results_row_tmp rfl _ _ _ 33 _ (0, 0) _ rfl r1 Tryd.underlying33 rfl (HSI.out _ _)) rfl (by
                  rw [← HQ.out, HE.out]
                  exact Rt.ThrPost.good (x := x.on s add) (r4 _ _ (Nat.le_succ _) (((RB.out.grown G6.out RB.out.size (fun g hg => by cases hg; omega)).setCell (p := ⟨w.heap.size, 4, none⟩) (Nat.le_refl _) _).setCell (p := ⟨w.heap.size, 5, none⟩) (Nat.le_refl _) _)) hst2 S6.out.cap)
          · have HE : Hid (Rt.thr x s add = 34) := Lib.hid (by unfold Rt.thr; rw [HOKX.out, HVS.out, HCN.out]; simp [h1, h2])
            go_wp2_with (first | (have _t := RC; (with_reducible refine Rt.load_at 33 (x := .tmp 3) ?_ ⟨w.heap.size, 0, none⟩ ?_ ?_ (RC.out.whole33 HSZ.out) ?_); (with_reducible exact rfl); (exact rfl); (kernel_rfl); clear _t) | (go_at_call 13; go_fit (HRC.out _ HZ.out (Utf8Tabs_below hT RB.out)); rintro e w3 ⟨rfl, hb3⟩; replace RC := Lib.hid (RC.out.keep hb3); replace RR := Lib.hid (RR.out.keep hb3); replace HZ := Lib.hid (HZ.out.keep hb3); replace RB := Lib.hid (RB.out.trans (hb3.mono RB.out.size)); clear hb3) | (go_at_call 36; go_fit (HVL.out _ (Utf8Tabs_below hT RB.out)); rintro e w4 ⟨rfl, hb4⟩; replace RC := Lib.hid (RC.out.keep hb4); replace RR := Lib.hid (RR.out.keep hb4); replace HZ := Lib.hid (HZ.out.keep hb4); replace RB := Lib.hid (RB.out.trans (hb4.mono RB.out.size)); clear hb4) | (go_at_call 19; go_fit (HHAS.out _ HZ.out); rintro e w5 ⟨rfl, hb5⟩; replace RC := Lib.hid (RC.out.keep hb5); replace RR := Lib.hid (RR.out.keep hb5); replace HZ := Lib.hid (HZ.out.keep hb5); replace RB := Lib.hid (RB.out.trans (hb5.mono RB.out.size)); clear hb5; have k4 := RC.out.cell 4 HROU.out.c4; have k5 := RC.out.cell 5 HROU.out.c5; have l5 := RC.out.lt) | (have _t := RR; (with_reducible refine Rt.store_at 33 (x := .tmp 6) (v := .tmp 28) (cs := Tryd.zeroCells33) ?_ (w.heap.size + 1) ?_ ?_ ?_ RR.out ?_ ?_ ?_ ?_); (with_reducible exact rfl); (exact rfl); (exact rfl); (kernel_rfl); (kernel_rfl); (kernel_rfl); (kernel_rfl); (clear _t; intro w15 r1 r2 r3 r4)))
            exact bodyPost_ret (Rt.results_row_tmp rfl _ _ _ 33 _ (0, 0) _ rfl r1 Tryd.underlying33 rfl (by kernel_rfl)) rfl (by rw [← HQ.out, HE.out]; exact Rt.ThrPost.bad (r4 _ _ (Nat.le_succ _) RB.out) (by decide))
        · have HE : Hid (Rt.thr x s add = 20) := Lib.hid (by unfold Rt.thr; simp [h2])
          have d1 : decide (add < 1) = false := decide_eq_false (by omega)
          have d2 : decide (65535 < add) = true := decide_eq_true (by omega)
          go_wp2_with (first | (have _t := RC; (with_reducible refine Rt.load_at 33 (x := .tmp 3) ?_ ⟨w.heap.size, 0, none⟩ ?_ ?_ (RC.out.whole33 HSZ.out) ?_); (with_reducible exact rfl); (exact rfl); (kernel_rfl); clear _t) | (go_at_call 13; go_fit (HRC.out _ HZ.out (Utf8Tabs_below hT RB.out)); rintro e w3 ⟨rfl, hb3⟩; replace RC := Lib.hid (RC.out.keep hb3); replace RR := Lib.hid (RR.out.keep hb3); replace HZ := Lib.hid (HZ.out.keep hb3); replace RB := Lib.hid (RB.out.trans (hb3.mono RB.out.size)); clear hb3) | (go_at_call 36; go_fit (HVL.out _ (Utf8Tabs_below hT RB.out)); rintro e w4 ⟨rfl, hb4⟩; replace RC := Lib.hid (RC.out.keep hb4); replace RR := Lib.hid (RR.out.keep hb4); replace HZ := Lib.hid (HZ.out.keep hb4); replace RB := Lib.hid (RB.out.trans (hb4.mono RB.out.size)); clear hb4) | (have _t := RR; (with_reducible refine Rt.store_at 33 (x := .tmp 6) (v := .tmp 24) (cs := Tryd.zeroCells33) ?_ (w.heap.size + 1) ?_ ?_ ?_ RR.out ?_ ?_ ?_ ?_); (with_reducible exact rfl); (exact rfl); (exact rfl); (kernel_rfl); (kernel_rfl); (kernel_rfl); (kernel_rfl); (clear _t; intro w15 r1 r2 r3 r4)))
          exact bodyPost_ret (Rt.results_row_tmp rfl _ _ _ 33 _ (0, 0) _ rfl r1 Tryd.underlying33 rfl (by kernel_rfl)) rfl (by rw [← HQ.out, HE.out]; exact Rt.ThrPost.bad (r4 _ _ (Nat.le_succ _) RB.out) (by decide))
      · have HE : Hid (Rt.thr x s add = 20) := Lib.hid (by unfold Rt.thr; simp [h1])
        have d1 : decide (add < 1) = true := decide_eq_true (by omega)
        go_wp2_with (first | (have _t := RC; (with_reducible refine Rt.load_at 33 (x := .tmp 3) ?_ ⟨w.heap.size, 0, none⟩ ?_ ?_ (RC.out.whole33 HSZ.out) ?_); (with_reducible exact rfl); (exact rfl); (kernel_rfl); clear _t) | (go_at_call 13; go_fit (HRC.out _ HZ.out (Utf8Tabs_below hT RB.out)); rintro e w3 ⟨rfl, hb3⟩; replace RC := Lib.hid (RC.out.keep hb3); replace RR := Lib.hid (RR.out.keep hb3); replace HZ := Lib.hid (HZ.out.keep hb3); replace RB := Lib.hid (RB.out.trans (hb3.mono RB.out.size)); clear hb3) | (go_at_call 36; go_fit (HVL.out _ (Utf8Tabs_below hT RB.out)); rintro e w4 ⟨rfl, hb4⟩; replace RC := Lib.hid (RC.out.keep hb4); replace RR := Lib.hid (RR.out.keep hb4); replace HZ := Lib.hid (HZ.out.keep hb4); replace RB := Lib.hid (RB.out.trans (hb4.mono RB.out.size)); clear hb4) | (have _t := RR; (with_reducible refine Rt.store_at 33 (x := .tmp 6) (v := .tmp 24) (cs := Tryd.zeroCells33) ?_ (w.heap.size + 1) ?_ ?_ ?_ RR.out ?_ ?_ ?_ ?_); (with_reducible exact rfl); (exact rfl); (exact rfl); (kernel_rfl); (kernel_rfl); (kernel_rfl); (kernel_rfl); (clear _t; intro w15 r1 r2 r3 r4)))
        exact bodyPost_ret (Rt.results_row_tmp rfl _ _ _ 33 _ (0, 0) _ rfl r1 Tryd.underlying33 rfl (by kernel_rfl)) rfl (by rw [← HQ.out, HE.out]; exact Rt.ThrPost.bad (r4 _ _ (Nat.le_succ _) RB.out) (by decide))
end Go.Proofs
