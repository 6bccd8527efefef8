/- The seat's prefixes. The seat's certificates. -/
import Derived.Test.YtfiillledfkdkaaDoorRtX3
set_option linter.unusedVariables false
set_option linter.unusedSimpArgs false
set_option linter.unusedSimpArgs false
namespace Go.Proofs
open Go.Shelf Go.RowKit Go.Lib Go.Rt Go.Nam
def Rt.lens4 : List Int := [0, 8, 9, 12, 15, 16, 24, 32]
def Rt.lens6 : List Int := [0, 8, 16, 24, 60, 64, 127, 128]
def Rt.pV (k : Int) : Bool := k % 5 == 4
def Rt.pLen (k n : Int) : Int := (if Rt.pV k then Rt.lens6 else Rt.lens4).getD (n % 8).toNat 0
def Rt.pB (n : Int) : Int := n / 8 * 9 % 256
def Rt.pHi (k n : Int) : Int := mHi (Rt.aHi (Rt.pV k) (k / 5) (Rt.pB n)) (Rt.pLen k n)
def Rt.pLo (k n : Int) : Int := mLo (Rt.aLo (Rt.pV k) (Rt.pB n)) (Rt.pLen k n)
theorem Rt.aLo_in (v : Bool) (b : Int) (b0 : 0 ≤ b) (b1 : b < 256) : 0 ≤ Rt.aLo v b ∧ Rt.aLo v b < 18446744073709551616 := by
  unfold Rt.aLo; split <;> omega
set_option maxHeartbeats 40000000 in
set_option maxRecDepth 100000 in
theorem Rt.prefixS (k n : Int) (k0 : 0 ≤ k) (k1 : k < 256) (n0 : 0 ≤ n) (n1 : n < 256) (w : World) :
    Calls Tryd.prog 27 #[.int .u8 k, .int .u8 n] w fun e w' => e = .returned (.agg #[.bool (Rt.pV k), .int .u64 (Rt.pHi k n), .int .u64 (Rt.pLo k n), .int .i64 (Rt.pLen k n)]) ∧ Below w.heap.size w w' := by
  have t1 : k.tmod 5 = k % 5 := Int.tmod_eq_emod_of_nonneg k0
  have t2 : n.tmod 8 = n % 8 := Int.tmod_eq_emod_of_nonneg n0
  have t3 : k.tdiv 5 = k / 5 := Int.tdiv_eq_ediv_of_nonneg k0
  have t4 : n.tdiv 8 = n / 8 := Int.tdiv_eq_ediv_of_nonneg n0
  have hj : n % 8 = 0 ∨ n % 8 = 1 ∨ n % 8 = 2 ∨ n % 8 = 3 ∨ n % 8 = 4 ∨ n % 8 = 5 ∨ n % 8 = 6 ∨ n % 8 = 7 := by omega
  have ha := fun v w => Rt.addr v (k / 5) (Rt.pB n) (by omega) (by omega) (by unfold Rt.pB; omega) (by unfold Rt.pB; omega) w
  have hm := fun v l w a b => Rt.maskR v (Rt.aHi v (k / 5) (Rt.pB n)) (Rt.aLo v (Rt.pB n)) l w (Rt.aHi_in _ _ _).1 (Rt.aHi_in _ _ _).2 (Rt.aLo_in _ _ (by unfold Rt.pB; omega) (by unfold Rt.pB; omega)).1 (Rt.aLo_in _ _ (by unfold Rt.pB; omega) (by unfold Rt.pB; omega)).2 a b
  unfold Rt.pHi Rt.pLo
  by_cases c : k % 5 = 4
  · have hv : Rt.pV k = true := by unfold Rt.pV; simp [c]
    have d : (k % 5 == 4) = true := by simp [c]
    rw [hv]
    rcases hj with h | h | h | h | h | h | h | h
    · have hl : Rt.pLen k n = 0 := by unfold Rt.pLen; rw [hv, h]; rfl
      rw [hl]
      have h1 := ha true
      have h2 := fun w => hm true 0 w (by decide) (by decide)
      have hB : (n / 8 * 9) % 256 = Rt.pB n := rfl
      rw [h] at t2
      generalize Rt.pB n = B at *
      generalize Rt.aHi true (k / 5) B = AH at *
      generalize Rt.aLo true B = AL at *
      clear ha hm
      go_enter Tryd.func27, Tryd.ntmps27
      go_wp2_with (first
        | (go_at_call 57; go_fit (h1 _); rintro e w2 ⟨rfl, hb⟩; have bb := ((((Below.refl _ w).alloc (Nat.le_refl _) (.cells #[Value.bool false, .int .u64 0, .int .u64 0, .int .i64 0] 26)).alloc (by simp) (.cells #[.int .i64 0, .int .i64 8, .int .i64 9, .int .i64 12, .int .i64 15, .int .i64 16, .int .i64 24, .int .i64 32] 3)).alloc (by simp <;> omega) (.cells #[.int .i64 0, .int .i64 8, .int .i64 16, .int .i64 24, .int .i64 60, .int .i64 64, .int .i64 127, .int .i64 128] 3)); have b2 := bb.trans (hb.mono bb.size); have q2 := ((((Rt.Row.new w 26 #[Value.bool false, .int .u64 0, .int .u64 0, .int .i64 0]).alloc _).alloc _)).keep hb)
        | (go_at_call 29; go_fit (h2 _); rintro e w3 ⟨rfl, hb3⟩; have b3 := b2.trans (hb3.mono b2.size); have q3 := (q2.keep hb3).alloc (Obj.cells #[Value.bool true, .int .u64 (mHi AH 0), .int .u64 (mLo AL 0), .int .i64 0] 26); have g0 := q3.cell 0 rfl; have g1 := q3.cell 1 rfl; have g2 := q3.cell 2 rfl; have g3 := q3.cell 3 rfl; have k0 := q3.free 0; have k1 := q3.free 1; have k2 := q3.free 2; have k3 := q3.free 3))
      have r3 := (((q3.set 0 (.bool true)).set 1 (.int .u64 (mHi AH 0))).set 2 (.int .u64 (mLo AL 0))).set 3 (.int .i64 0)
      have e3 : (((#[Value.bool false, .int .u64 0, .int .u64 0, .int .i64 0].setIfInBounds 0 (.bool true)).setIfInBounds 1 (.int .u64 (mHi AH 0))).setIfInBounds 2 (.int .u64 (mLo AL 0))).setIfInBounds 3 (.int .i64 0) = #[Value.bool true, .int .u64 (mHi AH 0), .int .u64 (mLo AL 0), .int .i64 0] := rfl
      rw [e3] at r3
      have b4 := b3.alloc b3.size (Obj.cells #[Value.bool true, .int .u64 (mHi AH 0), .int .u64 (mLo AL 0), .int .i64 0] 26)
      exact bodyPost_ret (results_cell_row rfl _ _ _ 26 _ (0, 0) _ rfl r3 Tryd.underlying26 rfl rfl) rfl ⟨rfl, by (repeat (first | exact Below.refl _ _ | assumption | refine Below.alloc ?_ (by simp <;> omega) _ | refine Below.setCell ?_ (by simp <;> omega) _ | refine Below.drew ?_))⟩
    · have hl : Rt.pLen k n = 8 := by unfold Rt.pLen; rw [hv, h]; rfl
      rw [hl]
      have h1 := ha true
      have h2 := fun w => hm true 8 w (by decide) (by decide)
      have hB : (n / 8 * 9) % 256 = Rt.pB n := rfl
      rw [h] at t2
      generalize Rt.pB n = B at *
      generalize Rt.aHi true (k / 5) B = AH at *
      generalize Rt.aLo true B = AL at *
      clear ha hm
      go_enter Tryd.func27, Tryd.ntmps27
      go_wp2_with (first
        | (go_at_call 57; go_fit (h1 _); rintro e w2 ⟨rfl, hb⟩; have bb := ((((Below.refl _ w).alloc (Nat.le_refl _) (.cells #[Value.bool false, .int .u64 0, .int .u64 0, .int .i64 0] 26)).alloc (by simp) (.cells #[.int .i64 0, .int .i64 8, .int .i64 9, .int .i64 12, .int .i64 15, .int .i64 16, .int .i64 24, .int .i64 32] 3)).alloc (by simp <;> omega) (.cells #[.int .i64 0, .int .i64 8, .int .i64 16, .int .i64 24, .int .i64 60, .int .i64 64, .int .i64 127, .int .i64 128] 3)); have b2 := bb.trans (hb.mono bb.size); have q2 := ((((Rt.Row.new w 26 #[Value.bool false, .int .u64 0, .int .u64 0, .int .i64 0]).alloc _).alloc _)).keep hb)
        | (go_at_call 29; go_fit (h2 _); rintro e w3 ⟨rfl, hb3⟩; have b3 := b2.trans (hb3.mono b2.size); have q3 := (q2.keep hb3).alloc (Obj.cells #[Value.bool true, .int .u64 (mHi AH 8), .int .u64 (mLo AL 8), .int .i64 8] 26); have g0 := q3.cell 0 rfl; have g1 := q3.cell 1 rfl; have g2 := q3.cell 2 rfl; have g3 := q3.cell 3 rfl; have k0 := q3.free 0; have k1 := q3.free 1; have k2 := q3.free 2; have k3 := q3.free 3))
      have r3 := (((q3.set 0 (.bool true)).set 1 (.int .u64 (mHi AH 8))).set 2 (.int .u64 (mLo AL 8))).set 3 (.int .i64 8)
      have e3 : (((#[Value.bool false, .int .u64 0, .int .u64 0, .int .i64 0].setIfInBounds 0 (.bool true)).setIfInBounds 1 (.int .u64 (mHi AH 8))).setIfInBounds 2 (.int .u64 (mLo AL 8))).setIfInBounds 3 (.int .i64 8) = #[Value.bool true, .int .u64 (mHi AH 8), .int .u64 (mLo AL 8), .int .i64 8] := rfl
      rw [e3] at r3
      have b4 := b3.alloc b3.size (Obj.cells #[Value.bool true, .int .u64 (mHi AH 8), .int .u64 (mLo AL 8), .int .i64 8] 26)
      exact bodyPost_ret (results_cell_row rfl _ _ _ 26 _ (0, 0) _ rfl r3 Tryd.underlying26 rfl rfl) rfl ⟨rfl, by (repeat (first | exact Below.refl _ _ | assumption | refine Below.alloc ?_ (by simp <;> omega) _ | refine Below.setCell ?_ (by simp <;> omega) _ | refine Below.drew ?_))⟩
    · have hl : Rt.pLen k n = 16 := by unfold Rt.pLen; rw [hv, h]; rfl
      rw [hl]
      have h1 := ha true
      have h2 := fun w => hm true 16 w (by decide) (by decide)
      have hB : (n / 8 * 9) % 256 = Rt.pB n := rfl
      rw [h] at t2
      generalize Rt.pB n = B at *
      generalize Rt.aHi true (k / 5) B = AH at *
      generalize Rt.aLo true B = AL at *
      clear ha hm
      go_enter Tryd.func27, Tryd.ntmps27
      go_wp2_with (first
        | (go_at_call 57; go_fit (h1 _); rintro e w2 ⟨rfl, hb⟩; have bb := ((((Below.refl _ w).alloc (Nat.le_refl _) (.cells #[Value.bool false, .int .u64 0, .int .u64 0, .int .i64 0] 26)).alloc (by simp) (.cells #[.int .i64 0, .int .i64 8, .int .i64 9, .int .i64 12, .int .i64 15, .int .i64 16, .int .i64 24, .int .i64 32] 3)).alloc (by simp <;> omega) (.cells #[.int .i64 0, .int .i64 8, .int .i64 16, .int .i64 24, .int .i64 60, .int .i64 64, .int .i64 127, .int .i64 128] 3)); have b2 := bb.trans (hb.mono bb.size); have q2 := ((((Rt.Row.new w 26 #[Value.bool false, .int .u64 0, .int .u64 0, .int .i64 0]).alloc _).alloc _)).keep hb)
        | (go_at_call 29; go_fit (h2 _); rintro e w3 ⟨rfl, hb3⟩; have b3 := b2.trans (hb3.mono b2.size); have q3 := (q2.keep hb3).alloc (Obj.cells #[Value.bool true, .int .u64 (mHi AH 16), .int .u64 (mLo AL 16), .int .i64 16] 26); have g0 := q3.cell 0 rfl; have g1 := q3.cell 1 rfl; have g2 := q3.cell 2 rfl; have g3 := q3.cell 3 rfl; have k0 := q3.free 0; have k1 := q3.free 1; have k2 := q3.free 2; have k3 := q3.free 3))
      have r3 := (((q3.set 0 (.bool true)).set 1 (.int .u64 (mHi AH 16))).set 2 (.int .u64 (mLo AL 16))).set 3 (.int .i64 16)
      have e3 : (((#[Value.bool false, .int .u64 0, .int .u64 0, .int .i64 0].setIfInBounds 0 (.bool true)).setIfInBounds 1 (.int .u64 (mHi AH 16))).setIfInBounds 2 (.int .u64 (mLo AL 16))).setIfInBounds 3 (.int .i64 16) = #[Value.bool true, .int .u64 (mHi AH 16), .int .u64 (mLo AL 16), .int .i64 16] := rfl
      rw [e3] at r3
      have b4 := b3.alloc b3.size (Obj.cells #[Value.bool true, .int .u64 (mHi AH 16), .int .u64 (mLo AL 16), .int .i64 16] 26)
      exact bodyPost_ret (results_cell_row rfl _ _ _ 26 _ (0, 0) _ rfl r3 Tryd.underlying26 rfl rfl) rfl ⟨rfl, by (repeat (first | exact Below.refl _ _ | assumption | refine Below.alloc ?_ (by simp <;> omega) _ | refine Below.setCell ?_ (by simp <;> omega) _ | refine Below.drew ?_))⟩
    · have hl : Rt.pLen k n = 24 := by unfold Rt.pLen; rw [hv, h]; rfl
      rw [hl]
      have h1 := ha true
      have h2 := fun w => hm true 24 w (by decide) (by decide)
      have hB : (n / 8 * 9) % 256 = Rt.pB n := rfl
      rw [h] at t2
      generalize Rt.pB n = B at *
      generalize Rt.aHi true (k / 5) B = AH at *
      generalize Rt.aLo true B = AL at *
      clear ha hm
      go_enter Tryd.func27, Tryd.ntmps27
      go_wp2_with (first
        | (go_at_call 57; go_fit (h1 _); rintro e w2 ⟨rfl, hb⟩; have bb := ((((Below.refl _ w).alloc (Nat.le_refl _) (.cells #[Value.bool false, .int .u64 0, .int .u64 0, .int .i64 0] 26)).alloc (by simp) (.cells #[.int .i64 0, .int .i64 8, .int .i64 9, .int .i64 12, .int .i64 15, .int .i64 16, .int .i64 24, .int .i64 32] 3)).alloc (by simp <;> omega) (.cells #[.int .i64 0, .int .i64 8, .int .i64 16, .int .i64 24, .int .i64 60, .int .i64 64, .int .i64 127, .int .i64 128] 3)); have b2 := bb.trans (hb.mono bb.size); have q2 := ((((Rt.Row.new w 26 #[Value.bool false, .int .u64 0, .int .u64 0, .int .i64 0]).alloc _).alloc _)).keep hb)
        | (go_at_call 29; go_fit (h2 _); rintro e w3 ⟨rfl, hb3⟩; have b3 := b2.trans (hb3.mono b2.size); have q3 := (q2.keep hb3).alloc (Obj.cells #[Value.bool true, .int .u64 (mHi AH 24), .int .u64 (mLo AL 24), .int .i64 24] 26); have g0 := q3.cell 0 rfl; have g1 := q3.cell 1 rfl; have g2 := q3.cell 2 rfl; have g3 := q3.cell 3 rfl; have k0 := q3.free 0; have k1 := q3.free 1; have k2 := q3.free 2; have k3 := q3.free 3))
      have r3 := (((q3.set 0 (.bool true)).set 1 (.int .u64 (mHi AH 24))).set 2 (.int .u64 (mLo AL 24))).set 3 (.int .i64 24)
      have e3 : (((#[Value.bool false, .int .u64 0, .int .u64 0, .int .i64 0].setIfInBounds 0 (.bool true)).setIfInBounds 1 (.int .u64 (mHi AH 24))).setIfInBounds 2 (.int .u64 (mLo AL 24))).setIfInBounds 3 (.int .i64 24) = #[Value.bool true, .int .u64 (mHi AH 24), .int .u64 (mLo AL 24), .int .i64 24] := rfl
      rw [e3] at r3
      have b4 := b3.alloc b3.size (Obj.cells #[Value.bool true, .int .u64 (mHi AH 24), .int .u64 (mLo AL 24), .int .i64 24] 26)
      exact bodyPost_ret (results_cell_row rfl _ _ _ 26 _ (0, 0) _ rfl r3 Tryd.underlying26 rfl rfl) rfl ⟨rfl, by (repeat (first | exact Below.refl _ _ | assumption | refine Below.alloc ?_ (by simp <;> omega) _ | refine Below.setCell ?_ (by simp <;> omega) _ | refine Below.drew ?_))⟩
    · have hl : Rt.pLen k n = 60 := by unfold Rt.pLen; rw [hv, h]; rfl
      rw [hl]
      have h1 := ha true
      have h2 := fun w => hm true 60 w (by decide) (by decide)
      have hB : (n / 8 * 9) % 256 = Rt.pB n := rfl
      rw [h] at t2
      generalize Rt.pB n = B at *
      generalize Rt.aHi true (k / 5) B = AH at *
      generalize Rt.aLo true B = AL at *
      clear ha hm
      go_enter Tryd.func27, Tryd.ntmps27
      go_wp2_with (first
        | (go_at_call 57; go_fit (h1 _); rintro e w2 ⟨rfl, hb⟩; have bb := ((((Below.refl _ w).alloc (Nat.le_refl _) (.cells #[Value.bool false, .int .u64 0, .int .u64 0, .int .i64 0] 26)).alloc (by simp) (.cells #[.int .i64 0, .int .i64 8, .int .i64 9, .int .i64 12, .int .i64 15, .int .i64 16, .int .i64 24, .int .i64 32] 3)).alloc (by simp <;> omega) (.cells #[.int .i64 0, .int .i64 8, .int .i64 16, .int .i64 24, .int .i64 60, .int .i64 64, .int .i64 127, .int .i64 128] 3)); have b2 := bb.trans (hb.mono bb.size); have q2 := ((((Rt.Row.new w 26 #[Value.bool false, .int .u64 0, .int .u64 0, .int .i64 0]).alloc _).alloc _)).keep hb)
        | (go_at_call 29; go_fit (h2 _); rintro e w3 ⟨rfl, hb3⟩; have b3 := b2.trans (hb3.mono b2.size); have q3 := (q2.keep hb3).alloc (Obj.cells #[Value.bool true, .int .u64 (mHi AH 60), .int .u64 (mLo AL 60), .int .i64 60] 26); have g0 := q3.cell 0 rfl; have g1 := q3.cell 1 rfl; have g2 := q3.cell 2 rfl; have g3 := q3.cell 3 rfl; have k0 := q3.free 0; have k1 := q3.free 1; have k2 := q3.free 2; have k3 := q3.free 3))
      have r3 := (((q3.set 0 (.bool true)).set 1 (.int .u64 (mHi AH 60))).set 2 (.int .u64 (mLo AL 60))).set 3 (.int .i64 60)
      have e3 : (((#[Value.bool false, .int .u64 0, .int .u64 0, .int .i64 0].setIfInBounds 0 (.bool true)).setIfInBounds 1 (.int .u64 (mHi AH 60))).setIfInBounds 2 (.int .u64 (mLo AL 60))).setIfInBounds 3 (.int .i64 60) = #[Value.bool true, .int .u64 (mHi AH 60), .int .u64 (mLo AL 60), .int .i64 60] := rfl
      rw [e3] at r3
      have b4 := b3.alloc b3.size (Obj.cells #[Value.bool true, .int .u64 (mHi AH 60), .int .u64 (mLo AL 60), .int .i64 60] 26)
      exact bodyPost_ret (results_cell_row rfl _ _ _ 26 _ (0, 0) _ rfl r3 Tryd.underlying26 rfl rfl) rfl ⟨rfl, by (repeat (first | exact Below.refl _ _ | assumption | refine Below.alloc ?_ (by simp <;> omega) _ | refine Below.setCell ?_ (by simp <;> omega) _ | refine Below.drew ?_))⟩
    · have hl : Rt.pLen k n = 64 := by unfold Rt.pLen; rw [hv, h]; rfl
      rw [hl]
      have h1 := ha true
      have h2 := fun w => hm true 64 w (by decide) (by decide)
      have hB : (n / 8 * 9) % 256 = Rt.pB n := rfl
      rw [h] at t2
      generalize Rt.pB n = B at *
      generalize Rt.aHi true (k / 5) B = AH at *
      generalize Rt.aLo true B = AL at *
      clear ha hm
      go_enter Tryd.func27, Tryd.ntmps27
      go_wp2_with (first
        | (go_at_call 57; go_fit (h1 _); rintro e w2 ⟨rfl, hb⟩; have bb := ((((Below.refl _ w).alloc (Nat.le_refl _) (.cells #[Value.bool false, .int .u64 0, .int .u64 0, .int .i64 0] 26)).alloc (by simp) (.cells #[.int .i64 0, .int .i64 8, .int .i64 9, .int .i64 12, .int .i64 15, .int .i64 16, .int .i64 24, .int .i64 32] 3)).alloc (by simp <;> omega) (.cells #[.int .i64 0, .int .i64 8, .int .i64 16, .int .i64 24, .int .i64 60, .int .i64 64, .int .i64 127, .int .i64 128] 3)); have b2 := bb.trans (hb.mono bb.size); have q2 := ((((Rt.Row.new w 26 #[Value.bool false, .int .u64 0, .int .u64 0, .int .i64 0]).alloc _).alloc _)).keep hb)
        | (go_at_call 29; go_fit (h2 _); rintro e w3 ⟨rfl, hb3⟩; have b3 := b2.trans (hb3.mono b2.size); have q3 := (q2.keep hb3).alloc (Obj.cells #[Value.bool true, .int .u64 (mHi AH 64), .int .u64 (mLo AL 64), .int .i64 64] 26); have g0 := q3.cell 0 rfl; have g1 := q3.cell 1 rfl; have g2 := q3.cell 2 rfl; have g3 := q3.cell 3 rfl; have k0 := q3.free 0; have k1 := q3.free 1; have k2 := q3.free 2; have k3 := q3.free 3))
      have r3 := (((q3.set 0 (.bool true)).set 1 (.int .u64 (mHi AH 64))).set 2 (.int .u64 (mLo AL 64))).set 3 (.int .i64 64)
      have e3 : (((#[Value.bool false, .int .u64 0, .int .u64 0, .int .i64 0].setIfInBounds 0 (.bool true)).setIfInBounds 1 (.int .u64 (mHi AH 64))).setIfInBounds 2 (.int .u64 (mLo AL 64))).setIfInBounds 3 (.int .i64 64) = #[Value.bool true, .int .u64 (mHi AH 64), .int .u64 (mLo AL 64), .int .i64 64] := rfl
      rw [e3] at r3
      have b4 := b3.alloc b3.size (Obj.cells #[Value.bool true, .int .u64 (mHi AH 64), .int .u64 (mLo AL 64), .int .i64 64] 26)
      exact bodyPost_ret (results_cell_row rfl _ _ _ 26 _ (0, 0) _ rfl r3 Tryd.underlying26 rfl rfl) rfl ⟨rfl, by (repeat (first | exact Below.refl _ _ | assumption | refine Below.alloc ?_ (by simp <;> omega) _ | refine Below.setCell ?_ (by simp <;> omega) _ | refine Below.drew ?_))⟩
    · have hl : Rt.pLen k n = 127 := by unfold Rt.pLen; rw [hv, h]; rfl
      rw [hl]
      have h1 := ha true
      have h2 := fun w => hm true 127 w (by decide) (by decide)
      have hB : (n / 8 * 9) % 256 = Rt.pB n := rfl
      rw [h] at t2
      generalize Rt.pB n = B at *
      generalize Rt.aHi true (k / 5) B = AH at *
      generalize Rt.aLo true B = AL at *
      clear ha hm
      go_enter Tryd.func27, Tryd.ntmps27
      go_wp2_with (first
        | (go_at_call 57; go_fit (h1 _); rintro e w2 ⟨rfl, hb⟩; have bb := ((((Below.refl _ w).alloc (Nat.le_refl _) (.cells #[Value.bool false, .int .u64 0, .int .u64 0, .int .i64 0] 26)).alloc (by simp) (.cells #[.int .i64 0, .int .i64 8, .int .i64 9, .int .i64 12, .int .i64 15, .int .i64 16, .int .i64 24, .int .i64 32] 3)).alloc (by simp <;> omega) (.cells #[.int .i64 0, .int .i64 8, .int .i64 16, .int .i64 24, .int .i64 60, .int .i64 64, .int .i64 127, .int .i64 128] 3)); have b2 := bb.trans (hb.mono bb.size); have q2 := ((((Rt.Row.new w 26 #[Value.bool false, .int .u64 0, .int .u64 0, .int .i64 0]).alloc _).alloc _)).keep hb)
        | (go_at_call 29; go_fit (h2 _); rintro e w3 ⟨rfl, hb3⟩; have b3 := b2.trans (hb3.mono b2.size); have q3 := (q2.keep hb3).alloc (Obj.cells #[Value.bool true, .int .u64 (mHi AH 127), .int .u64 (mLo AL 127), .int .i64 127] 26); have g0 := q3.cell 0 rfl; have g1 := q3.cell 1 rfl; have g2 := q3.cell 2 rfl; have g3 := q3.cell 3 rfl; have k0 := q3.free 0; have k1 := q3.free 1; have k2 := q3.free 2; have k3 := q3.free 3))
      have r3 := (((q3.set 0 (.bool true)).set 1 (.int .u64 (mHi AH 127))).set 2 (.int .u64 (mLo AL 127))).set 3 (.int .i64 127)
      have e3 : (((#[Value.bool false, .int .u64 0, .int .u64 0, .int .i64 0].setIfInBounds 0 (.bool true)).setIfInBounds 1 (.int .u64 (mHi AH 127))).setIfInBounds 2 (.int .u64 (mLo AL 127))).setIfInBounds 3 (.int .i64 127) = #[Value.bool true, .int .u64 (mHi AH 127), .int .u64 (mLo AL 127), .int .i64 127] := rfl
      rw [e3] at r3
      have b4 := b3.alloc b3.size (Obj.cells #[Value.bool true, .int .u64 (mHi AH 127), .int .u64 (mLo AL 127), .int .i64 127] 26)
      exact bodyPost_ret (results_cell_row rfl _ _ _ 26 _ (0, 0) _ rfl r3 Tryd.underlying26 rfl rfl) rfl ⟨rfl, by (repeat (first | exact Below.refl _ _ | assumption | refine Below.alloc ?_ (by simp <;> omega) _ | refine Below.setCell ?_ (by simp <;> omega) _ | refine Below.drew ?_))⟩
    · have hl : Rt.pLen k n = 128 := by unfold Rt.pLen; rw [hv, h]; rfl
      rw [hl]
      have h1 := ha true
      have h2 := fun w => hm true 128 w (by decide) (by decide)
      have hB : (n / 8 * 9) % 256 = Rt.pB n := rfl
      rw [h] at t2
      generalize Rt.pB n = B at *
      generalize Rt.aHi true (k / 5) B = AH at *
      generalize Rt.aLo true B = AL at *
      clear ha hm
      go_enter Tryd.func27, Tryd.ntmps27
      go_wp2_with (first
        | (go_at_call 57; go_fit (h1 _); rintro e w2 ⟨rfl, hb⟩; have bb := ((((Below.refl _ w).alloc (Nat.le_refl _) (.cells #[Value.bool false, .int .u64 0, .int .u64 0, .int .i64 0] 26)).alloc (by simp) (.cells #[.int .i64 0, .int .i64 8, .int .i64 9, .int .i64 12, .int .i64 15, .int .i64 16, .int .i64 24, .int .i64 32] 3)).alloc (by simp <;> omega) (.cells #[.int .i64 0, .int .i64 8, .int .i64 16, .int .i64 24, .int .i64 60, .int .i64 64, .int .i64 127, .int .i64 128] 3)); have b2 := bb.trans (hb.mono bb.size); have q2 := ((((Rt.Row.new w 26 #[Value.bool false, .int .u64 0, .int .u64 0, .int .i64 0]).alloc _).alloc _)).keep hb)
        | (go_at_call 29; go_fit (h2 _); rintro e w3 ⟨rfl, hb3⟩; have b3 := b2.trans (hb3.mono b2.size); have q3 := (q2.keep hb3).alloc (Obj.cells #[Value.bool true, .int .u64 (mHi AH 128), .int .u64 (mLo AL 128), .int .i64 128] 26); have g0 := q3.cell 0 rfl; have g1 := q3.cell 1 rfl; have g2 := q3.cell 2 rfl; have g3 := q3.cell 3 rfl; have k0 := q3.free 0; have k1 := q3.free 1; have k2 := q3.free 2; have k3 := q3.free 3))
      have r3 := (((q3.set 0 (.bool true)).set 1 (.int .u64 (mHi AH 128))).set 2 (.int .u64 (mLo AL 128))).set 3 (.int .i64 128)
      have e3 : (((#[Value.bool false, .int .u64 0, .int .u64 0, .int .i64 0].setIfInBounds 0 (.bool true)).setIfInBounds 1 (.int .u64 (mHi AH 128))).setIfInBounds 2 (.int .u64 (mLo AL 128))).setIfInBounds 3 (.int .i64 128) = #[Value.bool true, .int .u64 (mHi AH 128), .int .u64 (mLo AL 128), .int .i64 128] := rfl
      rw [e3] at r3
      have b4 := b3.alloc b3.size (Obj.cells #[Value.bool true, .int .u64 (mHi AH 128), .int .u64 (mLo AL 128), .int .i64 128] 26)
      exact bodyPost_ret (results_cell_row rfl _ _ _ 26 _ (0, 0) _ rfl r3 Tryd.underlying26 rfl rfl) rfl ⟨rfl, by (repeat (first | exact Below.refl _ _ | assumption | refine Below.alloc ?_ (by simp <;> omega) _ | refine Below.setCell ?_ (by simp <;> omega) _ | refine Below.drew ?_))⟩
  · have hv : Rt.pV k = false := by unfold Rt.pV; simp [c]
    have d : (k % 5 == 4) = false := by simp [c]
    rw [hv]
    rcases hj with h | h | h | h | h | h | h | h
    · have hl : Rt.pLen k n = 0 := by unfold Rt.pLen; rw [hv, h]; rfl
      rw [hl]
      have h1 := ha false
      have h2 := fun w => hm false 0 w (by decide) (by decide)
      have hB : (n / 8 * 9) % 256 = Rt.pB n := rfl
      rw [h] at t2
      generalize Rt.pB n = B at *
      generalize Rt.aHi false (k / 5) B = AH at *
      generalize Rt.aLo false B = AL at *
      clear ha hm
      go_enter Tryd.func27, Tryd.ntmps27
      go_wp2_with (first
        | (go_at_call 57; go_fit (h1 _); rintro e w2 ⟨rfl, hb⟩; have bb := (((Below.refl _ w).alloc (Nat.le_refl _) (.cells #[Value.bool false, .int .u64 0, .int .u64 0, .int .i64 0] 26)).alloc (by simp) (.cells #[.int .i64 0, .int .i64 8, .int .i64 9, .int .i64 12, .int .i64 15, .int .i64 16, .int .i64 24, .int .i64 32] 3)); have b2 := bb.trans (hb.mono bb.size); have q2 := (((Rt.Row.new w 26 #[Value.bool false, .int .u64 0, .int .u64 0, .int .i64 0]).alloc _)).keep hb)
        | (go_at_call 29; go_fit (h2 _); rintro e w3 ⟨rfl, hb3⟩; have b3 := b2.trans (hb3.mono b2.size); have q3 := (q2.keep hb3).alloc (Obj.cells #[Value.bool false, .int .u64 (mHi AH 0), .int .u64 (mLo AL 0), .int .i64 0] 26); have g0 := q3.cell 0 rfl; have g1 := q3.cell 1 rfl; have g2 := q3.cell 2 rfl; have g3 := q3.cell 3 rfl; have k0 := q3.free 0; have k1 := q3.free 1; have k2 := q3.free 2; have k3 := q3.free 3))
      have r3 := (((q3.set 0 (.bool false)).set 1 (.int .u64 (mHi AH 0))).set 2 (.int .u64 (mLo AL 0))).set 3 (.int .i64 0)
      have e3 : (((#[Value.bool false, .int .u64 0, .int .u64 0, .int .i64 0].setIfInBounds 0 (.bool false)).setIfInBounds 1 (.int .u64 (mHi AH 0))).setIfInBounds 2 (.int .u64 (mLo AL 0))).setIfInBounds 3 (.int .i64 0) = #[Value.bool false, .int .u64 (mHi AH 0), .int .u64 (mLo AL 0), .int .i64 0] := rfl
      rw [e3] at r3
      have b4 := b3.alloc b3.size (Obj.cells #[Value.bool false, .int .u64 (mHi AH 0), .int .u64 (mLo AL 0), .int .i64 0] 26)
      exact bodyPost_ret (results_cell_row rfl _ _ _ 26 _ (0, 0) _ rfl r3 Tryd.underlying26 rfl rfl) rfl ⟨rfl, by (repeat (first | exact Below.refl _ _ | assumption | refine Below.alloc ?_ (by simp <;> omega) _ | refine Below.setCell ?_ (by simp <;> omega) _ | refine Below.drew ?_))⟩
    · have hl : Rt.pLen k n = 8 := by unfold Rt.pLen; rw [hv, h]; rfl
      rw [hl]
      have h1 := ha false
      have h2 := fun w => hm false 8 w (by decide) (by decide)
      have hB : (n / 8 * 9) % 256 = Rt.pB n := rfl
      rw [h] at t2
      generalize Rt.pB n = B at *
      generalize Rt.aHi false (k / 5) B = AH at *
      generalize Rt.aLo false B = AL at *
      clear ha hm
      go_enter Tryd.func27, Tryd.ntmps27
      go_wp2_with (first
        | (go_at_call 57; go_fit (h1 _); rintro e w2 ⟨rfl, hb⟩; have bb := (((Below.refl _ w).alloc (Nat.le_refl _) (.cells #[Value.bool false, .int .u64 0, .int .u64 0, .int .i64 0] 26)).alloc (by simp) (.cells #[.int .i64 0, .int .i64 8, .int .i64 9, .int .i64 12, .int .i64 15, .int .i64 16, .int .i64 24, .int .i64 32] 3)); have b2 := bb.trans (hb.mono bb.size); have q2 := (((Rt.Row.new w 26 #[Value.bool false, .int .u64 0, .int .u64 0, .int .i64 0]).alloc _)).keep hb)
        | (go_at_call 29; go_fit (h2 _); rintro e w3 ⟨rfl, hb3⟩; have b3 := b2.trans (hb3.mono b2.size); have q3 := (q2.keep hb3).alloc (Obj.cells #[Value.bool false, .int .u64 (mHi AH 8), .int .u64 (mLo AL 8), .int .i64 8] 26); have g0 := q3.cell 0 rfl; have g1 := q3.cell 1 rfl; have g2 := q3.cell 2 rfl; have g3 := q3.cell 3 rfl; have k0 := q3.free 0; have k1 := q3.free 1; have k2 := q3.free 2; have k3 := q3.free 3))
      have r3 := (((q3.set 0 (.bool false)).set 1 (.int .u64 (mHi AH 8))).set 2 (.int .u64 (mLo AL 8))).set 3 (.int .i64 8)
      have e3 : (((#[Value.bool false, .int .u64 0, .int .u64 0, .int .i64 0].setIfInBounds 0 (.bool false)).setIfInBounds 1 (.int .u64 (mHi AH 8))).setIfInBounds 2 (.int .u64 (mLo AL 8))).setIfInBounds 3 (.int .i64 8) = #[Value.bool false, .int .u64 (mHi AH 8), .int .u64 (mLo AL 8), .int .i64 8] := rfl
      rw [e3] at r3
      have b4 := b3.alloc b3.size (Obj.cells #[Value.bool false, .int .u64 (mHi AH 8), .int .u64 (mLo AL 8), .int .i64 8] 26)
      exact bodyPost_ret (results_cell_row rfl _ _ _ 26 _ (0, 0) _ rfl r3 Tryd.underlying26 rfl rfl) rfl ⟨rfl, by (repeat (first | exact Below.refl _ _ | assumption | refine Below.alloc ?_ (by simp <;> omega) _ | refine Below.setCell ?_ (by simp <;> omega) _ | refine Below.drew ?_))⟩
    · have hl : Rt.pLen k n = 9 := by unfold Rt.pLen; rw [hv, h]; rfl
      rw [hl]
      have h1 := ha false
      have h2 := fun w => hm false 9 w (by decide) (by decide)
      have hB : (n / 8 * 9) % 256 = Rt.pB n := rfl
      rw [h] at t2
      generalize Rt.pB n = B at *
      generalize Rt.aHi false (k / 5) B = AH at *
      generalize Rt.aLo false B = AL at *
      clear ha hm
      go_enter Tryd.func27, Tryd.ntmps27
      go_wp2_with (first
        | (go_at_call 57; go_fit (h1 _); rintro e w2 ⟨rfl, hb⟩; have bb := (((Below.refl _ w).alloc (Nat.le_refl _) (.cells #[Value.bool false, .int .u64 0, .int .u64 0, .int .i64 0] 26)).alloc (by simp) (.cells #[.int .i64 0, .int .i64 8, .int .i64 9, .int .i64 12, .int .i64 15, .int .i64 16, .int .i64 24, .int .i64 32] 3)); have b2 := bb.trans (hb.mono bb.size); have q2 := (((Rt.Row.new w 26 #[Value.bool false, .int .u64 0, .int .u64 0, .int .i64 0]).alloc _)).keep hb)
        | (go_at_call 29; go_fit (h2 _); rintro e w3 ⟨rfl, hb3⟩; have b3 := b2.trans (hb3.mono b2.size); have q3 := (q2.keep hb3).alloc (Obj.cells #[Value.bool false, .int .u64 (mHi AH 9), .int .u64 (mLo AL 9), .int .i64 9] 26); have g0 := q3.cell 0 rfl; have g1 := q3.cell 1 rfl; have g2 := q3.cell 2 rfl; have g3 := q3.cell 3 rfl; have k0 := q3.free 0; have k1 := q3.free 1; have k2 := q3.free 2; have k3 := q3.free 3))
      have r3 := (((q3.set 0 (.bool false)).set 1 (.int .u64 (mHi AH 9))).set 2 (.int .u64 (mLo AL 9))).set 3 (.int .i64 9)
      have e3 : (((#[Value.bool false, .int .u64 0, .int .u64 0, .int .i64 0].setIfInBounds 0 (.bool false)).setIfInBounds 1 (.int .u64 (mHi AH 9))).setIfInBounds 2 (.int .u64 (mLo AL 9))).setIfInBounds 3 (.int .i64 9) = #[Value.bool false, .int .u64 (mHi AH 9), .int .u64 (mLo AL 9), .int .i64 9] := rfl
      rw [e3] at r3
      have b4 := b3.alloc b3.size (Obj.cells #[Value.bool false, .int .u64 (mHi AH 9), .int .u64 (mLo AL 9), .int .i64 9] 26)
      exact bodyPost_ret (results_cell_row rfl _ _ _ 26 _ (0, 0) _ rfl r3 Tryd.underlying26 rfl rfl) rfl ⟨rfl, by (repeat (first | exact Below.refl _ _ | assumption | refine Below.alloc ?_ (by simp <;> omega) _ | refine Below.setCell ?_ (by simp <;> omega) _ | refine Below.drew ?_))⟩
    · have hl : Rt.pLen k n = 12 := by unfold Rt.pLen; rw [hv, h]; rfl
      rw [hl]
      have h1 := ha false
      have h2 := fun w => hm false 12 w (by decide) (by decide)
      have hB : (n / 8 * 9) % 256 = Rt.pB n := rfl
      rw [h] at t2
      generalize Rt.pB n = B at *
      generalize Rt.aHi false (k / 5) B = AH at *
      generalize Rt.aLo false B = AL at *
      clear ha hm
      go_enter Tryd.func27, Tryd.ntmps27
      go_wp2_with (first
        | (go_at_call 57; go_fit (h1 _); rintro e w2 ⟨rfl, hb⟩; have bb := (((Below.refl _ w).alloc (Nat.le_refl _) (.cells #[Value.bool false, .int .u64 0, .int .u64 0, .int .i64 0] 26)).alloc (by simp) (.cells #[.int .i64 0, .int .i64 8, .int .i64 9, .int .i64 12, .int .i64 15, .int .i64 16, .int .i64 24, .int .i64 32] 3)); have b2 := bb.trans (hb.mono bb.size); have q2 := (((Rt.Row.new w 26 #[Value.bool false, .int .u64 0, .int .u64 0, .int .i64 0]).alloc _)).keep hb)
        | (go_at_call 29; go_fit (h2 _); rintro e w3 ⟨rfl, hb3⟩; have b3 := b2.trans (hb3.mono b2.size); have q3 := (q2.keep hb3).alloc (Obj.cells #[Value.bool false, .int .u64 (mHi AH 12), .int .u64 (mLo AL 12), .int .i64 12] 26); have g0 := q3.cell 0 rfl; have g1 := q3.cell 1 rfl; have g2 := q3.cell 2 rfl; have g3 := q3.cell 3 rfl; have k0 := q3.free 0; have k1 := q3.free 1; have k2 := q3.free 2; have k3 := q3.free 3))
      have r3 := (((q3.set 0 (.bool false)).set 1 (.int .u64 (mHi AH 12))).set 2 (.int .u64 (mLo AL 12))).set 3 (.int .i64 12)
      have e3 : (((#[Value.bool false, .int .u64 0, .int .u64 0, .int .i64 0].setIfInBounds 0 (.bool false)).setIfInBounds 1 (.int .u64 (mHi AH 12))).setIfInBounds 2 (.int .u64 (mLo AL 12))).setIfInBounds 3 (.int .i64 12) = #[Value.bool false, .int .u64 (mHi AH 12), .int .u64 (mLo AL 12), .int .i64 12] := rfl
      rw [e3] at r3
      have b4 := b3.alloc b3.size (Obj.cells #[Value.bool false, .int .u64 (mHi AH 12), .int .u64 (mLo AL 12), .int .i64 12] 26)
      exact bodyPost_ret (results_cell_row rfl _ _ _ 26 _ (0, 0) _ rfl r3 Tryd.underlying26 rfl rfl) rfl ⟨rfl, by (repeat (first | exact Below.refl _ _ | assumption | refine Below.alloc ?_ (by simp <;> omega) _ | refine Below.setCell ?_ (by simp <;> omega) _ | refine Below.drew ?_))⟩
    · have hl : Rt.pLen k n = 15 := by unfold Rt.pLen; rw [hv, h]; rfl
      rw [hl]
      have h1 := ha false
      have h2 := fun w => hm false 15 w (by decide) (by decide)
      have hB : (n / 8 * 9) % 256 = Rt.pB n := rfl
      rw [h] at t2
      generalize Rt.pB n = B at *
      generalize Rt.aHi false (k / 5) B = AH at *
      generalize Rt.aLo false B = AL at *
      clear ha hm
      go_enter Tryd.func27, Tryd.ntmps27
      go_wp2_with (first
        | (go_at_call 57; go_fit (h1 _); rintro e w2 ⟨rfl, hb⟩; have bb := (((Below.refl _ w).alloc (Nat.le_refl _) (.cells #[Value.bool false, .int .u64 0, .int .u64 0, .int .i64 0] 26)).alloc (by simp) (.cells #[.int .i64 0, .int .i64 8, .int .i64 9, .int .i64 12, .int .i64 15, .int .i64 16, .int .i64 24, .int .i64 32] 3)); have b2 := bb.trans (hb.mono bb.size); have q2 := (((Rt.Row.new w 26 #[Value.bool false, .int .u64 0, .int .u64 0, .int .i64 0]).alloc _)).keep hb)
        | (go_at_call 29; go_fit (h2 _); rintro e w3 ⟨rfl, hb3⟩; have b3 := b2.trans (hb3.mono b2.size); have q3 := (q2.keep hb3).alloc (Obj.cells #[Value.bool false, .int .u64 (mHi AH 15), .int .u64 (mLo AL 15), .int .i64 15] 26); have g0 := q3.cell 0 rfl; have g1 := q3.cell 1 rfl; have g2 := q3.cell 2 rfl; have g3 := q3.cell 3 rfl; have k0 := q3.free 0; have k1 := q3.free 1; have k2 := q3.free 2; have k3 := q3.free 3))
      have r3 := (((q3.set 0 (.bool false)).set 1 (.int .u64 (mHi AH 15))).set 2 (.int .u64 (mLo AL 15))).set 3 (.int .i64 15)
      have e3 : (((#[Value.bool false, .int .u64 0, .int .u64 0, .int .i64 0].setIfInBounds 0 (.bool false)).setIfInBounds 1 (.int .u64 (mHi AH 15))).setIfInBounds 2 (.int .u64 (mLo AL 15))).setIfInBounds 3 (.int .i64 15) = #[Value.bool false, .int .u64 (mHi AH 15), .int .u64 (mLo AL 15), .int .i64 15] := rfl
      rw [e3] at r3
      have b4 := b3.alloc b3.size (Obj.cells #[Value.bool false, .int .u64 (mHi AH 15), .int .u64 (mLo AL 15), .int .i64 15] 26)
      exact bodyPost_ret (results_cell_row rfl _ _ _ 26 _ (0, 0) _ rfl r3 Tryd.underlying26 rfl rfl) rfl ⟨rfl, by (repeat (first | exact Below.refl _ _ | assumption | refine Below.alloc ?_ (by simp <;> omega) _ | refine Below.setCell ?_ (by simp <;> omega) _ | refine Below.drew ?_))⟩
    · have hl : Rt.pLen k n = 16 := by unfold Rt.pLen; rw [hv, h]; rfl
      rw [hl]
      have h1 := ha false
      have h2 := fun w => hm false 16 w (by decide) (by decide)
      have hB : (n / 8 * 9) % 256 = Rt.pB n := rfl
      rw [h] at t2
      generalize Rt.pB n = B at *
      generalize Rt.aHi false (k / 5) B = AH at *
      generalize Rt.aLo false B = AL at *
      clear ha hm
      go_enter Tryd.func27, Tryd.ntmps27
      go_wp2_with (first
        | (go_at_call 57; go_fit (h1 _); rintro e w2 ⟨rfl, hb⟩; have bb := (((Below.refl _ w).alloc (Nat.le_refl _) (.cells #[Value.bool false, .int .u64 0, .int .u64 0, .int .i64 0] 26)).alloc (by simp) (.cells #[.int .i64 0, .int .i64 8, .int .i64 9, .int .i64 12, .int .i64 15, .int .i64 16, .int .i64 24, .int .i64 32] 3)); have b2 := bb.trans (hb.mono bb.size); have q2 := (((Rt.Row.new w 26 #[Value.bool false, .int .u64 0, .int .u64 0, .int .i64 0]).alloc _)).keep hb)
        | (go_at_call 29; go_fit (h2 _); rintro e w3 ⟨rfl, hb3⟩; have b3 := b2.trans (hb3.mono b2.size); have q3 := (q2.keep hb3).alloc (Obj.cells #[Value.bool false, .int .u64 (mHi AH 16), .int .u64 (mLo AL 16), .int .i64 16] 26); have g0 := q3.cell 0 rfl; have g1 := q3.cell 1 rfl; have g2 := q3.cell 2 rfl; have g3 := q3.cell 3 rfl; have k0 := q3.free 0; have k1 := q3.free 1; have k2 := q3.free 2; have k3 := q3.free 3))
      have r3 := (((q3.set 0 (.bool false)).set 1 (.int .u64 (mHi AH 16))).set 2 (.int .u64 (mLo AL 16))).set 3 (.int .i64 16)
      have e3 : (((#[Value.bool false, .int .u64 0, .int .u64 0, .int .i64 0].setIfInBounds 0 (.bool false)).setIfInBounds 1 (.int .u64 (mHi AH 16))).setIfInBounds 2 (.int .u64 (mLo AL 16))).setIfInBounds 3 (.int .i64 16) = #[Value.bool false, .int .u64 (mHi AH 16), .int .u64 (mLo AL 16), .int .i64 16] := rfl
      rw [e3] at r3
      have b4 := b3.alloc b3.size (Obj.cells #[Value.bool false, .int .u64 (mHi AH 16), .int .u64 (mLo AL 16), .int .i64 16] 26)
      exact bodyPost_ret (results_cell_row rfl _ _ _ 26 _ (0, 0) _ rfl r3 Tryd.underlying26 rfl rfl) rfl ⟨rfl, by (repeat (first | exact Below.refl _ _ | assumption | refine Below.alloc ?_ (by simp <;> omega) _ | refine Below.setCell ?_ (by simp <;> omega) _ | refine Below.drew ?_))⟩
    · have hl : Rt.pLen k n = 24 := by unfold Rt.pLen; rw [hv, h]; rfl
      rw [hl]
      have h1 := ha false
      have h2 := fun w => hm false 24 w (by decide) (by decide)
      have hB : (n / 8 * 9) % 256 = Rt.pB n := rfl
      rw [h] at t2
      generalize Rt.pB n = B at *
      generalize Rt.aHi false (k / 5) B = AH at *
      generalize Rt.aLo false B = AL at *
      clear ha hm
      go_enter Tryd.func27, Tryd.ntmps27
      go_wp2_with (first
        | (go_at_call 57; go_fit (h1 _); rintro e w2 ⟨rfl, hb⟩; have bb := (((Below.refl _ w).alloc (Nat.le_refl _) (.cells #[Value.bool false, .int .u64 0, .int .u64 0, .int .i64 0] 26)).alloc (by simp) (.cells #[.int .i64 0, .int .i64 8, .int .i64 9, .int .i64 12, .int .i64 15, .int .i64 16, .int .i64 24, .int .i64 32] 3)); have b2 := bb.trans (hb.mono bb.size); have q2 := (((Rt.Row.new w 26 #[Value.bool false, .int .u64 0, .int .u64 0, .int .i64 0]).alloc _)).keep hb)
        | (go_at_call 29; go_fit (h2 _); rintro e w3 ⟨rfl, hb3⟩; have b3 := b2.trans (hb3.mono b2.size); have q3 := (q2.keep hb3).alloc (Obj.cells #[Value.bool false, .int .u64 (mHi AH 24), .int .u64 (mLo AL 24), .int .i64 24] 26); have g0 := q3.cell 0 rfl; have g1 := q3.cell 1 rfl; have g2 := q3.cell 2 rfl; have g3 := q3.cell 3 rfl; have k0 := q3.free 0; have k1 := q3.free 1; have k2 := q3.free 2; have k3 := q3.free 3))
      have r3 := (((q3.set 0 (.bool false)).set 1 (.int .u64 (mHi AH 24))).set 2 (.int .u64 (mLo AL 24))).set 3 (.int .i64 24)
      have e3 : (((#[Value.bool false, .int .u64 0, .int .u64 0, .int .i64 0].setIfInBounds 0 (.bool false)).setIfInBounds 1 (.int .u64 (mHi AH 24))).setIfInBounds 2 (.int .u64 (mLo AL 24))).setIfInBounds 3 (.int .i64 24) = #[Value.bool false, .int .u64 (mHi AH 24), .int .u64 (mLo AL 24), .int .i64 24] := rfl
      rw [e3] at r3
      have b4 := b3.alloc b3.size (Obj.cells #[Value.bool false, .int .u64 (mHi AH 24), .int .u64 (mLo AL 24), .int .i64 24] 26)
      exact bodyPost_ret (results_cell_row rfl _ _ _ 26 _ (0, 0) _ rfl r3 Tryd.underlying26 rfl rfl) rfl ⟨rfl, by (repeat (first | exact Below.refl _ _ | assumption | refine Below.alloc ?_ (by simp <;> omega) _ | refine Below.setCell ?_ (by simp <;> omega) _ | refine Below.drew ?_))⟩
    · have hl : Rt.pLen k n = 32 := by unfold Rt.pLen; rw [hv, h]; rfl
      rw [hl]
      have h1 := ha false
      have h2 := fun w => hm false 32 w (by decide) (by decide)
      have hB : (n / 8 * 9) % 256 = Rt.pB n := rfl
      rw [h] at t2
      generalize Rt.pB n = B at *
      generalize Rt.aHi false (k / 5) B = AH at *
      generalize Rt.aLo false B = AL at *
      clear ha hm
      go_enter Tryd.func27, Tryd.ntmps27
      go_wp2_with (first
        | (go_at_call 57; go_fit (h1 _); rintro e w2 ⟨rfl, hb⟩; have bb := (((Below.refl _ w).alloc (Nat.le_refl _) (.cells #[Value.bool false, .int .u64 0, .int .u64 0, .int .i64 0] 26)).alloc (by simp) (.cells #[.int .i64 0, .int .i64 8, .int .i64 9, .int .i64 12, .int .i64 15, .int .i64 16, .int .i64 24, .int .i64 32] 3)); have b2 := bb.trans (hb.mono bb.size); have q2 := (((Rt.Row.new w 26 #[Value.bool false, .int .u64 0, .int .u64 0, .int .i64 0]).alloc _)).keep hb)
        | (go_at_call 29; go_fit (h2 _); rintro e w3 ⟨rfl, hb3⟩; have b3 := b2.trans (hb3.mono b2.size); have q3 := (q2.keep hb3).alloc (Obj.cells #[Value.bool false, .int .u64 (mHi AH 32), .int .u64 (mLo AL 32), .int .i64 32] 26); have g0 := q3.cell 0 rfl; have g1 := q3.cell 1 rfl; have g2 := q3.cell 2 rfl; have g3 := q3.cell 3 rfl; have k0 := q3.free 0; have k1 := q3.free 1; have k2 := q3.free 2; have k3 := q3.free 3))
      have r3 := (((q3.set 0 (.bool false)).set 1 (.int .u64 (mHi AH 32))).set 2 (.int .u64 (mLo AL 32))).set 3 (.int .i64 32)
      have e3 : (((#[Value.bool false, .int .u64 0, .int .u64 0, .int .i64 0].setIfInBounds 0 (.bool false)).setIfInBounds 1 (.int .u64 (mHi AH 32))).setIfInBounds 2 (.int .u64 (mLo AL 32))).setIfInBounds 3 (.int .i64 32) = #[Value.bool false, .int .u64 (mHi AH 32), .int .u64 (mLo AL 32), .int .i64 32] := rfl
      rw [e3] at r3
      have b4 := b3.alloc b3.size (Obj.cells #[Value.bool false, .int .u64 (mHi AH 32), .int .u64 (mLo AL 32), .int .i64 32] 26)
      exact bodyPost_ret (results_cell_row rfl _ _ _ 26 _ (0, 0) _ rfl r3 Tryd.underlying26 rfl rfl) rfl ⟨rfl, by (repeat (first | exact Below.refl _ _ | assumption | refine Below.alloc ?_ (by simp <;> omega) _ | refine Below.setCell ?_ (by simp <;> omega) _ | refine Below.drew ?_))⟩
end Go.Proofs
set_option linter.unusedSimpArgs false
namespace Go.Proofs
open Go.Shelf Go.RowKit Go.Lib Go.Rt Go.Nam
def Rt.cMax (v : Bool) (len k : Int) : Int := if len + k % 4 * 4 > Rt.wide v then Rt.wide v else len + k % 4 * 4
def Rt.certV (st : ByteArray) (v : Bool) (hi lo len k : Int) : Rt.CV := ⟨st, v, hi, lo, len, Rt.cMax v len k, k / 16, k / 16 + k % 16, k % 32, List.replicate 64 0⟩
set_option maxHeartbeats 10000000 in
set_option maxRecDepth 100000 in
theorem Rt.certS (st : ByteArray) (v : Bool) (hi lo len k : Int) (k0 : 0 ≤ k) (k1 : k < 256) (l0 : 0 ≤ len) (l1 : len ≤ 128) (w : World) :
    Calls Tryd.prog 28 #[.string st, .agg #[.bool v, .int .u64 hi, .int .u64 lo, .int .i64 len], .int .u8 k] w fun e w' => e = .returned (.agg (Rt.certV st v hi lo len k).cells) ∧ Below w.heap.size w w' := by
  have t1 : k.tmod 4 = k % 4 := Int.tmod_eq_emod_of_nonneg k0
  have t2 : k.tmod 16 = k % 16 := Int.tmod_eq_emod_of_nonneg k0
  have t3 : k.tmod 32 = k % 32 := Int.tmod_eq_emod_of_nonneg k0
  have t4 : k.tdiv 16 = k / 16 := Int.tdiv_eq_ediv_of_nonneg k0
  have hw := Rt.wideR v
  unfold Rt.certV Rt.cMax
  generalize Rt.wide v = W at *
  go_enter Tryd.func28, Tryd.ntmps28
  obtain ⟨w1, e1, r1, q1, hb1⟩ := Rt.box2 w #[.bool v, .int .u64 hi, .int .u64 lo, .int .i64 len] Tryd.zeroCells31 26 31
  have f0 : w1.cell? ⟨w.heap.size, 0, none⟩ = some (.bool v) := r1.cell 0 rfl
  have f1 : w1.cell? ⟨w.heap.size, 1, none⟩ = some (.int .u64 hi) := r1.cell 1 rfl
  have f2 : w1.cell? ⟨w.heap.size, 2, none⟩ = some (.int .u64 lo) := r1.cell 2 rfl
  have f3 : w1.cell? ⟨w.heap.size, 3, none⟩ = some (.int .i64 len) := r1.cell 3 rfl
  by_cases c : len + k % 4 * 4 > W
  · rw [if_pos c]
    have hcs : (⟨st, v, hi, lo, len, W, k / 16, k / 16 + k % 16, k % 32, List.replicate 64 0⟩ : Rt.CV).cells = (((((((((Tryd.zeroCells31.setIfInBounds 0 (Value.string st)).setIfInBounds 1 (Value.bool v)).setIfInBounds 2 (Value.int IntKind.u64 hi)).setIfInBounds 3 (Value.int IntKind.u64 lo)).setIfInBounds 4 (Value.int IntKind.i64 len)).setIfInBounds 5 (Value.int IntKind.i64 W)).setIfInBounds 6 (Value.int IntKind.u64 (k / 16))).setIfInBounds 7 (Value.int IntKind.u64 (k / 16 + k % 16))).setIfInBounds 8 (Value.int IntKind.u32 (k % 32))) := by kernel_rfl
    rw [hcs]
    clear hcs
    go_wp2_with (first
      | (go_at_call 58; go_fit (hw _); rintro e w2 ⟨rfl, rfl⟩)
      | (refine Rt.store_at 31 rfl (w.heap.size + 1) rfl rfl (by kernel_rfl) q1 (by kernel_rfl) (by kernel_rfl) (by kernel_rfl) ?_; intro w3 s1 s2 s3 s4; have b3 := s4 w.heap.size w (by omega) hb1))
    exact bodyPost_ret (results_cell_row rfl _ _ _ 31 _ (0, 0) _ rfl s1 Tryd.underlying31 rfl (by kernel_rfl)) rfl ⟨rfl, b3⟩
  · rw [if_neg c]
    have hcs : (⟨st, v, hi, lo, len, (len + k % 4 * 4), k / 16, k / 16 + k % 16, k % 32, List.replicate 64 0⟩ : Rt.CV).cells = (((((((((Tryd.zeroCells31.setIfInBounds 0 (Value.string st)).setIfInBounds 1 (Value.bool v)).setIfInBounds 2 (Value.int IntKind.u64 hi)).setIfInBounds 3 (Value.int IntKind.u64 lo)).setIfInBounds 4 (Value.int IntKind.i64 len)).setIfInBounds 5 (Value.int IntKind.i64 (len + k % 4 * 4))).setIfInBounds 6 (Value.int IntKind.u64 (k / 16))).setIfInBounds 7 (Value.int IntKind.u64 (k / 16 + k % 16))).setIfInBounds 8 (Value.int IntKind.u32 (k % 32))) := by kernel_rfl
    rw [hcs]
    clear hcs
    go_wp2_with (first
      | (go_at_call 58; go_fit (hw _); rintro e w2 ⟨rfl, rfl⟩)
      | (refine Rt.store_at 31 rfl (w.heap.size + 1) rfl rfl (by kernel_rfl) q1 (by kernel_rfl) (by kernel_rfl) (by kernel_rfl) ?_; intro w3 s1 s2 s3 s4; have b3 := s4 w.heap.size w (by omega) hb1))
    exact bodyPost_ret (results_cell_row rfl _ _ _ 31 _ (0, 0) _ rfl s1 Tryd.underlying31 rfl (by kernel_rfl)) rfl ⟨rfl, b3⟩
end Go.Proofs
