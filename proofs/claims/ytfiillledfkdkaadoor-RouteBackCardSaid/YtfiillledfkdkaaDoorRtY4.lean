/- Whether two routes are the same: the reference's. -/
import Derived.Test.YtfiillledfkdkaaDoorRtX3
set_option linter.unusedVariables false
set_option linter.unusedSimpArgs false
set_option linter.unusedSimpArgs false
namespace Go.Proofs
open Go.Shelf Go.RowKit Go.Lib Go.Rt Go.Nam
theorem Rt.drop_step (zs ys : List ByteArray) (i : Nat) (h : i < zs.length) (h' : i < ys.length) : decide (zs.drop i = ys.drop i) = ((zs.getD i ByteArray.empty == ys.getD i ByteArray.empty) && decide (zs.drop (i + 1) = ys.drop (i + 1))) := by
  rw [List.drop_eq_getElem_cons h, List.drop_eq_getElem_cons h']
  rw [Bool.eq_iff_iff, Bool.and_eq_true, decide_eq_true_eq, decide_eq_true_eq, Rt.beq_bytes, List.cons.injEq]
  simp [List.getD, h, h']
set_option maxHeartbeats 6000000 in
set_option maxRecDepth 100000 in
theorem Rt.sameR (cs ds : Array Value) (v v' : Bool) (hi lo len hi' lo' len' : Int) (a a' : Option Addr) (n c n' c' : Nat) (co co' : Int) (x y : Rt.CV) (zs ys : List ByteArray) (w : World)
    (hR : Rt.Rou cs v hi lo len a n c co x.cells) (hR' : Rt.Rou ds v' hi' lo' len' a' n' c' co' y.cells) (hx : x.sg.length = 64) (hy : y.sg.length = 64) (hZ : Rt.Strs w a n zs) (hZ' : Rt.Strs w a' n' ys) (hnc : n ≤ c) (hnc' : n' ≤ c') :
    Calls Tryd.prog 17 #[.agg cs, .agg ds] w fun e w' => e = .returned (.bool (Rt.sameE (Rt.pfxE v v' hi lo len hi' lo' len') zs ys co co' (x.same y))) ∧ Below w.heap.size w w' := by
  obtain ⟨w1, e1, r1, q1, hb1⟩ := Rt.box2 w cs ds 33 33
  have hp := fun w => Rt.pfx_equal 9997 v v' hi lo len hi' lo' len' w
  have hc := fun w => Rt.cert_equal x y hx hy w
  have hs := hR.size
  have hs' := hR'.size
  have HR := Lib.hid hR
  have HR' := Lib.hid hR'
  have HZ := Lib.hid (hZ.keep hb1)
  have HZ' := Lib.hid (hZ'.keep hb1)
  have hnb := hZ.big
  have hnb' := hZ'.big
  have HN := Lib.hid hZ.len
  have HN' := Lib.hid hZ'.len
  have f0 := r1.cell 0 hR.c0
  have f1 := r1.cell 1 hR.c1
  have f2 := r1.cell 2 hR.c2
  have f3 := r1.cell 3 hR.c3
  have f4 := r1.cell 4 hR.c4
  have f5 := r1.cell 5 hR.c5
  have f6 := Lib.hid (r1.cert hs hR.cc)
  have g0 := q1.cell 0 hR'.c0
  have g1 := q1.cell 1 hR'.c1
  have g2 := q1.cell 2 hR'.c2
  have g3 := q1.cell 3 hR'.c3
  have g4 := q1.cell 4 hR'.c4
  have g5 := q1.cell 5 hR'.c5
  have g6 := Lib.hid (q1.cert hs' hR'.cc)
  clear hR hR' hZ hZ'
  unfold Rt.sameE
  obtain ⟨PE, hPE⟩ : ∃ PE, Rt.pfxE v v' hi lo len hi' lo' len' = PE := ⟨_, rfl⟩
  have hp2 : ∀ w, (Op.equalIn 10000 26 (.agg #[.bool v, .int .u64 hi, .int .u64 lo, .int .i64 len]) (.agg #[.bool v', .int .u64 hi', .int .u64 lo', .int .i64 len'])).run Tryd.prog w = .ok PE w := fun w => by rw [← hPE]; exact hp w
  rw [hPE]
  clear hPE hp
  have HP := Lib.hid hp2
  have HC := Lib.hid hc
  clear hp2 hc
  obtain ⟨ZE, hZE⟩ : ∃ ZE, decide (zs = ys) = ZE := ⟨_, rfl⟩
  rw [hZE]
  have HZE := Lib.hid hZE
  clear hZE
  generalize x.same y = CE at *
  generalize x.cells = X at *
  generalize y.cells = Y at *
  go_enter Tryd.func17, Tryd.ntmps17
  cases PE
  · go_wp2_with (first
      | (guard_target =~ wpList _ _ _ (_ :: _) _ _; refine Rt.neq_at 26 rfl rfl rfl (by kernel_rfl) Tryd.eqGuardType26 (HP.out _) ?_)
      | (guard_target =~ wpList _ _ _ (_ :: _) _ _; refine Rt.load_at 31 rfl ⟨w.heap.size, 6, none⟩ rfl (by kernel_rfl) f6.out ?_)
      | (guard_target =~ wpList _ _ _ (_ :: _) _ _; refine Rt.load_at 31 rfl ⟨w.heap.size + 1, 6, none⟩ rfl (by kernel_rfl) g6.out ?_)
      | (guard_target =~ wpList _ _ _ (_ :: _) _ _; refine Rt.neq_at 31 rfl rfl rfl (by kernel_rfl) Tryd.eqGuardType31 (HC.out _) ?_))
    go_ret
    exact ⟨Nam.retB (by simp), hb1⟩
  · by_cases c5 : co = co'
    · have d5 : (co != co') = false := by simp [c5]
      have D5 := Lib.hid (beq_iff_eq.2 c5)
      cases CE
      · go_wp2_with (first
      | (guard_target =~ wpList _ _ _ (_ :: _) _ _; refine Rt.neq_at 26 rfl rfl rfl (by kernel_rfl) Tryd.eqGuardType26 (HP.out _) ?_)
      | (guard_target =~ wpList _ _ _ (_ :: _) _ _; refine Rt.load_at 31 rfl ⟨w.heap.size, 6, none⟩ rfl (by kernel_rfl) f6.out ?_)
      | (guard_target =~ wpList _ _ _ (_ :: _) _ _; refine Rt.load_at 31 rfl ⟨w.heap.size + 1, 6, none⟩ rfl (by kernel_rfl) g6.out ?_)
      | (guard_target =~ wpList _ _ _ (_ :: _) _ _; refine Rt.neq_at 31 rfl rfl rfl (by kernel_rfl) Tryd.eqGuardType31 (HC.out _) ?_))
        go_ret
        exact ⟨Nam.retB (by simp), hb1⟩
      · by_cases c6 : n = n'
        · subst c6
          go_wp2_with (first
      | (guard_target =~ wpList _ _ _ (_ :: _) _ _; refine Rt.neq_at 26 rfl rfl rfl (by kernel_rfl) Tryd.eqGuardType26 (HP.out _) ?_)
      | (guard_target =~ wpList _ _ _ (_ :: _) _ _; refine Rt.load_at 31 rfl ⟨w.heap.size, 6, none⟩ rfl (by kernel_rfl) f6.out ?_)
      | (guard_target =~ wpList _ _ _ (_ :: _) _ _; refine Rt.load_at 31 rfl ⟨w.heap.size + 1, 6, none⟩ rfl (by kernel_rfl) g6.out ?_)
      | (guard_target =~ wpList _ _ _ (_ :: _) _ _; refine Rt.neq_at 31 rfl rfl rfl (by kernel_rfl) Tryd.eqGuardType31 (HC.out _) ?_))
          go_loopw [5] (fun u wr => ∃ i : Nat, u = .int .i64 (i : Int) ∧ i ≤ n ∧ Below w1.heap.size w1 wr ∧ Hid (decide (zs.drop i = ys.drop i) = ZE)) (fun u _ => n - (Go.RowKit.intOf u).toNat)
          case atStart => exact ⟨0, rfl, Nat.zero_le _, Below.refl _ _, HZE⟩
          case round =>
            obtain ⟨i, rfl, hi, hbw, HK⟩ := hrel
            have k4 := (r1.keep hbw).cell 4 HR.out.c4
            have m4 := (q1.keep hbw).cell 4 HR'.out.c4
            by_cases hin : i < n
            · obtain ⟨b, off, ha, hblt⟩ := HZ.out.at_ i hin
              obtain ⟨b', off', ha', hblt'⟩ := HZ'.out.at_ i hin
              subst ha ha'
              have hld := Rt.After.cell ((HZ.out.keep hbw).cell b off rfl i hin)
              have hld' := Rt.After.cell ((HZ'.out.keep hbw).cell b' off' rfl i hin)
              have hk := HK.out
              rw [Rt.drop_step zs ys i (by rw [HN.out]; exact hin) (by rw [HN'.out]; exact hin)] at hk
              have k4 := Rt.After.cell k4
              have m4 := Rt.After.cell m4
              generalize zs.getD i ByteArray.empty = x1 at *
              generalize ys.getD i ByteArray.empty = y1 at *
              have hq := Rt.beqL x1 y1
              generalize (x1 == y1) = E at *
              have HK2 := Lib.hid hk
              have HIN := Lib.hid hin
              clear hk HK HZ HZ'
              cases E
              · go_wp2
                (refine Rt.wp_region_calm (by kernel_rfl) (by kernel_rfl) ?_; (repeat (go_big_quiet_step (first | fail | fail))); refine wpQuiet_nil ?_; intro wn hwn; have hbn := Rt.after_elim hwn; clear hwn)
                go_wp2
                go_ret
                exact ⟨Nam.retB (by rw [← HK2.out]; simp), hb1.trans ((hbw.trans (hbn.mono hbw.size)).mono hb1.size)⟩
              · go_wp2
                (refine Rt.wp_region_calm (by kernel_rfl) (by kernel_rfl) ?_; (repeat (go_big_quiet_step (first | fail | fail))); refine wpQuiet_nil ?_; intro wn hwn; have hbn := Rt.after_elim hwn; clear hwn)
                go_wp2
                go_roundw
                case rel => exact ⟨i + 1, by simp, by have := HIN.out; omega, hbw.trans (hbn.mono hbw.size), Lib.hid (by rw [← HK2.out]; simp)⟩
                case measure =>
                  have := HIN.out
                  show n - ((i : Int) + 1).toNat < n - (i : Int).toNat
                  omega
            · have : i = n := by omega
              subst this
              have hk := HK.out
              rw [List.drop_of_length_le (by rw [HN.out]; exact Nat.le_refl _), List.drop_of_length_le (by rw [HN'.out]; exact Nat.le_refl _)] at hk
              have HK2 := Lib.hid hk
              clear hk HK
              go_wp2
              go_ret
              exact ⟨Nam.retB (by rw [← HK2.out]; simp [D5.out]), hb1.trans (hbw.mono hb1.size)⟩
        · have d6 : ((n : Int) != (n' : Int)) = true := by simp; omega
          have c6' : zs ≠ ys := fun e => c6 (by rw [← HN.out, ← HN'.out, e])
          have z6 := HZE.out
          rw [decide_eq_false c6'] at z6
          have HZ6 := Lib.hid z6
          clear z6 c6'
          go_wp2_with (first
      | (guard_target =~ wpList _ _ _ (_ :: _) _ _; refine Rt.neq_at 26 rfl rfl rfl (by kernel_rfl) Tryd.eqGuardType26 (HP.out _) ?_)
      | (guard_target =~ wpList _ _ _ (_ :: _) _ _; refine Rt.load_at 31 rfl ⟨w.heap.size, 6, none⟩ rfl (by kernel_rfl) f6.out ?_)
      | (guard_target =~ wpList _ _ _ (_ :: _) _ _; refine Rt.load_at 31 rfl ⟨w.heap.size + 1, 6, none⟩ rfl (by kernel_rfl) g6.out ?_)
      | (guard_target =~ wpList _ _ _ (_ :: _) _ _; refine Rt.neq_at 31 rfl rfl rfl (by kernel_rfl) Tryd.eqGuardType31 (HC.out _) ?_))
          go_ret
          exact ⟨Nam.retB (by rw [← HZ6.out]; simp), hb1⟩
    · have d5 : (co != co') = true := by simp [c5]
      have D5 := Lib.hid (beq_eq_false_iff_ne.2 c5)
      go_wp2_with (first
      | (guard_target =~ wpList _ _ _ (_ :: _) _ _; refine Rt.neq_at 26 rfl rfl rfl (by kernel_rfl) Tryd.eqGuardType26 (HP.out _) ?_)
      | (guard_target =~ wpList _ _ _ (_ :: _) _ _; refine Rt.load_at 31 rfl ⟨w.heap.size, 6, none⟩ rfl (by kernel_rfl) f6.out ?_)
      | (guard_target =~ wpList _ _ _ (_ :: _) _ _; refine Rt.load_at 31 rfl ⟨w.heap.size + 1, 6, none⟩ rfl (by kernel_rfl) g6.out ?_)
      | (guard_target =~ wpList _ _ _ (_ :: _) _ _; refine Rt.neq_at 31 rfl rfl rfl (by kernel_rfl) Tryd.eqGuardType31 (HC.out _) ?_))
      go_ret
      exact ⟨Nam.retB (by simp [D5.out]), hb1⟩
end Go.Proofs
