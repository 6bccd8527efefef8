/- Names: the contracts, from a world that has grown on; what every law asks first. Names: the laws' walks. Names: the laws' walks, on. Names: the laws' walks, on. Names: the laws' walks, on. Names: the laws' walks, on. -/
import Derived.Test.YtjeooibbhchmgaaDoorNamX2
set_option linter.unusedSimpArgs false
namespace Go.Proofs
open Go.Shelf Go.RowKit Go.Lib Go.Nam

section
variable {W w : World} (hb : Below W.heap.size W w) (hT : Utf8Tabs 0 1 W)
include hb hT
theorem Nam.tab : Utf8Tabs 0 1 w := Utf8Tabs_below hT hb
theorem Nam.CountB (s : ByteArray) (hs : s.size ≤ 140737488351232) :
    Calls Tryd.prog 12 #[.string s] w fun e w' => e = .returned (.tuple #[.int .i64 (count s.data.toList), .bool (good s.data.toList)]) ∧ Below W.heap.size W w' :=
  (Nam.Count s w hs (Nam.tab hb hT)).mono fun _ _ ⟨h1, h2⟩ => ⟨h1, hb.trans (h2.mono hb.size)⟩
theorem Nam.CountRB (s : ByteArray) (hs : s.size ≤ 140737488351232) :
    Calls Tryd.prog 13 #[.string s] w fun e w' => e = .returned (.tuple #[.int .i64 (count s.data.toList), .bool (good s.data.toList)]) ∧ Below W.heap.size W w' :=
  (Nam.CountR s w hs (Nam.tab hb hT)).mono fun _ _ ⟨h1, h2⟩ => ⟨h1, hb.trans (h2.mono hb.size)⟩
theorem Nam.ValidB (s : ByteArray) (hs : s.size ≤ 140737488351232) :
    Calls Tryd.prog 14 #[.string s] w fun e w' => e = .returned (.bool (validN s.data.toList)) ∧ Below W.heap.size W w' :=
  (Nam.Valid s w hs (Nam.tab hb hT)).mono fun _ _ ⟨h1, h2⟩ => ⟨h1, hb.trans (h2.mono hb.size)⟩
theorem Nam.ValidRB (s : ByteArray) (hs : s.size ≤ 140737488351232) :
    Calls Tryd.prog 15 #[.string s] w fun e w' => e = .returned (.bool (validN s.data.toList)) ∧ Below W.heap.size W w' :=
  (Nam.ValidR s w hs (Nam.tab hb hT)).mono fun _ _ ⟨h1, h2⟩ => ⟨h1, hb.trans (h2.mono hb.size)⟩
theorem Nam.LessB (a b : ByteArray) (ha : a.size ≤ 140737488351232) (hc : b.size ≤ 140737488351232) :
    Calls Tryd.prog 20 #[.string a, .string b] w fun e w' => e = .returned (.bool (less a.data.toList b.data.toList)) ∧ Below W.heap.size W w' :=
  (Nam.Less a b w ha hc (Nam.tab hb hT)).mono fun _ _ ⟨h1, h2⟩ => ⟨h1, hb.trans (h2.mono hb.size)⟩
theorem Nam.LessRB (a b : ByteArray) (ha : a.size ≤ 140737488351232) (hc : b.size ≤ 140737488351232) :
    Calls Tryd.prog 21 #[.string a, .string b] w fun e w' => e = .returned (.bool (less a.data.toList b.data.toList)) ∧ Below W.heap.size W w' :=
  (Nam.LessR a b w ha hc (Nam.tab hb hT)).mono fun _ _ ⟨h1, h2⟩ => ⟨h1, hb.trans (h2.mono hb.size)⟩
theorem Nam.ClipRB (s : ByteArray) (n : Int) (hs : s.size ≤ 140737488351232) (hn : -9223372036854775808 ≤ n) (hn2 : n ≤ 9223372036854775807) :
    Calls Tryd.prog 19 #[.string s, .int .i64 n] w fun e w' => e = .returned (.string ⟨(clip n s.data.toList).toArray⟩) ∧ Below W.heap.size W w' :=
  (Nam.ClipR s n w hs hn hn2 (Nam.tab hb hT)).mono fun _ _ ⟨h1, h2⟩ => ⟨h1, hb.trans (h2.mono hb.size)⟩
end
section
variable {W w : World} (hb : Below W.heap.size W w)
include hb
theorem Nam.ClipB (s : ByteArray) (n : Int) (hs : s.size ≤ 140737488351232) (hn : -9223372036854775808 ≤ n) (hn2 : n ≤ 9223372036854775807) :
    Calls Tryd.prog 18 #[.string s, .int .i64 n] w fun e w' => e = .returned (.string ⟨(clip n s.data.toList).toArray⟩) ∧ Below W.heap.size W w' :=
  (Nam.Clip s n w hs hn hn2).mono fun _ _ ⟨h1, h2⟩ => ⟨h1, hb.trans (h2.mono hb.size)⟩
theorem Nam.FoldB (s : ByteArray) (hs : s.size ≤ 140737488351232) :
    Calls Tryd.prog 16 #[.string s] w fun e w' => e = .returned (.string ⟨(fold s.data.toList).toArray⟩) ∧ Below W.heap.size W w' :=
  (Nam.Fold s w hs).mono fun _ _ ⟨h1, h2⟩ => ⟨h1, hb.trans (h2.mono hb.size)⟩
theorem Nam.FoldRB (s : ByteArray) (hs : s.size ≤ 140737488351232) :
    Calls Tryd.prog 17 #[.string s] w fun e w' => e = .returned (.string ⟨(fold s.data.toList).toArray⟩) ∧ Below W.heap.size W w' :=
  (Nam.FoldR s w hs).mono fun _ _ ⟨h1, h2⟩ => ⟨h1, hb.trans (h2.mono hb.size)⟩
end

section
variable {W w : World} (hb : Below W.heap.size W w) (hT : Utf8Tabs 0 1 W)
include hb hT
theorem Nam.k1 : Calls Tryd.prog 12 #[.string ⟨#[107, 195, 182, 108, 110]⟩] w fun e w' => e = .returned (.tuple #[.int .i64 4, .bool true]) ∧ Below W.heap.size W w' := by
  have h := Nam.CountB hb hT ⟨#[107, 195, 182, 108, 110]⟩ (by decide)
  rw [show count (⟨#[107, 195, 182, 108, 110]⟩ : ByteArray).data.toList = 4 by decide +kernel, show good (⟨#[107, 195, 182, 108, 110]⟩ : ByteArray).data.toList = true by decide +kernel] at h
  exact h
theorem Nam.k2 : Calls Tryd.prog 12 #[.string ⟨#[255]⟩] w fun e w' => e = .returned (.tuple #[.int .i64 1, .bool false]) ∧ Below W.heap.size W w' := by
  have h := Nam.CountB hb hT ⟨#[255]⟩ (by decide)
  rw [show count (⟨#[255]⟩ : ByteArray).data.toList = 1 by decide +kernel, show good (⟨#[255]⟩ : ByteArray).data.toList = false by decide +kernel] at h
  exact h
theorem Nam.k3 : Calls Tryd.prog 14 #[.string ⟨#[107, 195, 182, 108, 110, 45, 49]⟩] w fun e w' => e = .returned (.bool true) ∧ Below W.heap.size W w' := by
  have h := Nam.ValidB hb hT ⟨#[107, 195, 182, 108, 110, 45, 49]⟩ (by decide)
  rw [show validN (⟨#[107, 195, 182, 108, 110, 45, 49]⟩ : ByteArray).data.toList = true by decide +kernel] at h
  exact h
theorem Nam.k4 : Calls Tryd.prog 14 #[.string ⟨#[65]⟩] w fun e w' => e = .returned (.bool false) ∧ Below W.heap.size W w' := by
  have h := Nam.ValidB hb hT ⟨#[65]⟩ (by decide)
  rw [show validN (⟨#[65]⟩ : ByteArray).data.toList = false by decide +kernel] at h
  exact h
theorem Nam.k5 : Calls Tryd.prog 14 #[.string ⟨#[45, 97]⟩] w fun e w' => e = .returned (.bool false) ∧ Below W.heap.size W w' := by
  have h := Nam.ValidB hb hT ⟨#[45, 97]⟩ (by decide)
  rw [show validN (⟨#[45, 97]⟩ : ByteArray).data.toList = false by decide +kernel] at h
  exact h
theorem Nam.k8 : Calls Tryd.prog 20 #[.string ⟨#[97]⟩, .string ⟨#[195, 182]⟩] w fun e w' => e = .returned (.bool true) ∧ Below W.heap.size W w' := by
  have h := Nam.LessB hb hT ⟨#[97]⟩ ⟨#[195, 182]⟩ (by decide) (by decide)
  rw [show less (⟨#[97]⟩ : ByteArray).data.toList (⟨#[195, 182]⟩ : ByteArray).data.toList = true by decide +kernel] at h
  exact h
omit hT in
theorem Nam.k6 : Calls Tryd.prog 16 #[.string ⟨#[65, 98]⟩] w fun e w' => e = .returned (.string ⟨#[97, 98]⟩) ∧ Below W.heap.size W w' := by
  have h := Nam.FoldB hb ⟨#[65, 98]⟩ (by decide)
  rw [show fold (⟨#[65, 98]⟩ : ByteArray).data.toList = [97, 98] by decide +kernel] at h
  exact h
omit hT in
theorem Nam.k7 : Calls Tryd.prog 18 #[.string ⟨#[107, 195, 182, 108, 110]⟩, .int .i64 2] w fun e w' => e = .returned (.string ⟨#[107, 195, 182]⟩) ∧ Below W.heap.size W w' := by
  have h := Nam.ClipB hb ⟨#[107, 195, 182, 108, 110]⟩ 2 (by decide) (by decide) (by decide)
  rw [show clip 2 (⟨#[107, 195, 182, 108, 110]⟩ : ByteArray).data.toList = [107, 195, 182] by decide +kernel] at h
  exact h
end

set_option maxHeartbeats 1000000 in
set_option maxRecDepth 100000 in
theorem Nam.known (w : World) (hT : Utf8Tabs 0 1 w) : Calls Tryd.prog 11 #[] w fun e w' => e = .returned (.bool true) ∧ Below w.heap.size w w' := by
  have hb0 : Below w.heap.size w w := Below.refl _ w
  go_enter Tryd.func11, Tryd.ntmps11
  go_wp2_with (first
    | (go_at_call 12; go_fit (Nam.k1 hb0 hT); rintro e w1 ⟨rfl, hb1⟩)
    | (go_at_call 12; go_fit (Nam.k2 hb1 hT); rintro e w2 ⟨rfl, hb2⟩)
    | (go_at_call 14; go_fit (Nam.k3 hb2 hT); rintro e w3 ⟨rfl, hb3⟩)
    | (go_at_call 14; go_fit (Nam.k4 hb3 hT); rintro e w4 ⟨rfl, hb4⟩)
    | (go_at_call 14; go_fit (Nam.k5 hb4 hT); rintro e w5 ⟨rfl, hb5⟩)
    | (go_at_call 16; go_fit (Nam.k6 hb5); rintro e w6 ⟨rfl, hb6⟩)
    | (go_at_call 18; go_fit (Nam.k7 hb6); rintro e w7 ⟨rfl, hb7⟩)
    | (go_at_call 20; go_fit (Nam.k8 hb7 hT); rintro e w8 ⟨rfl, hb8⟩))
  go_ret
  exact ⟨rfl, hb8⟩
end Go.Proofs
set_option linter.unusedSimpArgs false
namespace Go.Proofs
open Go.Shelf Go.RowKit Go.Lib Go.Nam

theorem Nam.new_cell (w : World) (cs : Array Value) (t : TypeId) (k : Nat) (h : k < cs.size) : (w.alloc (.cells cs t)).cell? ⟨w.heap.size, k, none⟩ = some cs[k] := by
  have hh : (w.alloc (.cells cs t)).heap[w.heap.size]? = some (.cells cs t) := by
    show (w.heap.push _)[w.heap.size]? = _
    simp
  simp only [World.cell?, hh]
  simp [h]

set_option maxHeartbeats 2000000 in
set_option maxRecDepth 100000 in
theorem Nam.law3 (s : ByteArray) (n : Int) (w : World) (hs : s.size ≤ 140737488351232) (hn : -9223372036854775808 ≤ n) (hn2 : n ≤ 9223372036854775807) (hT : Utf8Tabs 0 1 w) :
    Calls Tryd.prog 3 #[.string s, .int .i64 n] w fun e w' => e = .returned (.bool true) ∧ Below w.heap.size w w' := by
  have hk := Nam.known w hT
  by_cases hbig : 200 < s.size
  · go_enter Tryd.func3, Tryd.ntmps3
    go_wp2_with (go_at_call 11; go_fit hk; rintro e w1 ⟨rfl, hb1⟩)
    go_ret
    exact ⟨rfl, hb1⟩
  · have hc := count_le s.data.toList
    rw [← Lib.size_eq] at hc
    have hC := Lib.hid (clip_all s.data.toList)
    go_enter Tryd.func3, Tryd.ntmps3
    go_wp2_with (first
      | (go_at_call 11; go_fit hk; rintro e w1 ⟨rfl, hb1⟩)
      | (go_at_call 12; go_fit (Nam.CountB hb1 hT s hs); rintro e w2 ⟨rfl, hb2⟩)
      | (go_at_call 13; go_fit (Nam.CountRB hb2 hT s hs); rintro e w3 ⟨rfl, hb3⟩)
      | (go_at_call 14; go_fit (Nam.ValidB hb3 hT s hs); rintro e w4 ⟨rfl, hb4⟩)
      | (go_at_call 15; go_fit (Nam.ValidRB hb4 hT s hs); rintro e w5 ⟨rfl, hb5⟩)
      | (go_at_call 16; go_fit (Nam.FoldB hb5 s hs); rintro e w6 ⟨rfl, hb6⟩)
      | (go_at_call 17; go_fit (Nam.FoldRB hb6 s hs); rintro e w7 ⟨rfl, hb7⟩))
    have hr0 : -20 < n.tmod 20 := Int.lt_tmod_of_pos n (by decide)
    have hr1 : n.tmod 20 < 20 := Int.tmod_lt_of_pos n (by decide)
    have hc0 : (w7.alloc (Obj.cells #[Value.int IntKind.i64 n, Value.int IntKind.i64 (n.tmod 20)] 3)).cell? ⟨w7.heap.size, 0, none⟩ = some (.int .i64 n) := Nam.new_cell w7 _ 3 0 (by simp)
    have hc1 : (w7.alloc (Obj.cells #[Value.int IntKind.i64 n, Value.int IntKind.i64 (n.tmod 20)] 3)).cell? ⟨w7.heap.size, 1, none⟩ = some (.int .i64 (n.tmod 20)) := Nam.new_cell w7 _ 3 1 (by simp)
    have hb8 : Below w.heap.size w (w7.alloc (Obj.cells #[Value.int IntKind.i64 n, Value.int IntKind.i64 (n.tmod 20)] 3)) := hb7.alloc hb7.size _
    have hz8 : w7.heap.size < (w7.alloc (Obj.cells #[Value.int IntKind.i64 n, Value.int IntKind.i64 (n.tmod 20)] 3)).heap.size := by simp
    generalize n.tmod 20 = m at hr0 hr1 hc0 hc1 hb8 hz8
    generalize w7.alloc (Obj.cells #[Value.int IntKind.i64 n, Value.int IntKind.i64 m] 3) = w8 at hc0 hc1 hb8 hz8
    go_loopw [53] (fun i wr => ∃ k : Nat, i = .int .i64 k ∧ k ≤ 2 ∧ wr.cell? ⟨w7.heap.size, 0, none⟩ = some (.int .i64 n) ∧ wr.cell? ⟨w7.heap.size, 1, none⟩ = some (.int .i64 m) ∧ Below w.heap.size w wr ∧ w7.heap.size < wr.heap.size) (fun i _ => 2 - (RowKit.intOf i).toNat)
    case atStart => exact ⟨0, rfl, by omega, hc0, hc1, hb8, hz8⟩
    case round =>
      clear hc0 hc1 hb8 hz8
      obtain ⟨k, rfl, hk2, hc0, hc1, hbw, hzw⟩ := hrel
      have step : ∀ x : Int, -9223372036854775808 ≤ x → x ≤ 9223372036854775807 → ∀ w2, Calls Tryd.prog 18 #[.string s, .int .i64 x] w2 fun e w' => e = .returned (.string ⟨(clip x s.data.toList).toArray⟩) ∧ Below w2.heap.size w2 w' := fun x h1 h2 w2 => Nam.Clip s x w2 hs h1 h2
      by_cases h2 : k = 2
      · subst h2
        go_wp2_with (go_at_call 18; go_fit (step (count s.data.toList : Int) (by omega) (by omega) wr); rintro e w9 ⟨rfl, hb9⟩)
        go_ret
        refine ⟨Nam.retB ?_, hbw.trans (hb9.mono hbw.size)⟩
        rw [hC.out, Lib.toList_data]
        simp
      · have hT2 := Utf8Tabs_below hT hbw
        rcases (show k = 0 ∨ k = 1 by omega) with rfl | rfl
        · go_wp2_with (first
            | (go_at_call 18; go_fit (step n (by omega) (by omega) wr); rintro e w9 ⟨rfl, hb9⟩)
            | (go_at_call 19; go_fit (Nam.ClipR s n w9 hs (by omega) (by omega) (Utf8Tabs_below hT2 hb9)); rintro e w10 ⟨rfl, hb10⟩))
          go_roundw
          case rel =>
            have hbb : Below wr.heap.size wr w10 := hb9.trans (hb10.mono hb9.size)
            exact ⟨1, rfl, by omega, (hbb.cell hzw).trans hc0, (hbb.cell hzw).trans hc1, hbw.trans (hbb.mono hbw.size), Nat.lt_of_lt_of_le hzw hbb.size⟩
          case measure => simp [RowKit.intOf]
        · go_wp2_with (first
            | (go_at_call 18; go_fit (step m (by omega) (by omega) wr); rintro e w9 ⟨rfl, hb9⟩)
            | (go_at_call 19; go_fit (Nam.ClipR s m w9 hs (by omega) (by omega) (Utf8Tabs_below hT2 hb9)); rintro e w10 ⟨rfl, hb10⟩))
          go_roundw
          case rel =>
            have hbb : Below wr.heap.size wr w10 := hb9.trans (hb10.mono hb9.size)
            exact ⟨2, rfl, by omega, (hbb.cell hzw).trans hc0, (hbb.cell hzw).trans hc1, hbw.trans (hbb.mono hbw.size), Nat.lt_of_lt_of_le hzw hbb.size⟩
          case measure => simp [RowKit.intOf]
end Go.Proofs
set_option linter.unusedSimpArgs false
namespace Go.Proofs
open Go.Shelf Go.RowKit Go.Lib Go.Nam

theorem Nam.less_tot (x y : ByteArray) : less x.data.toList y.data.toList = true ∨ less y.data.toList x.data.toList = true ∨ x = y := by
  by_cases h : x = y
  · exact .inr (.inr h)
  · rcases less_total x.data.toList y.data.toList (fun e => h (by rw [← Nam.mk_list x, ← Nam.mk_list y, e])) with h | h
    · exact .inl h
    · exact .inr (.inl h)

set_option maxHeartbeats 2000000 in
set_option maxRecDepth 100000 in
theorem Nam.law4 (a b c : ByteArray) (same : Bool) (w : World) (ha : a.size ≤ 140737488351232) (hb : b.size ≤ 140737488351232) (hc : c.size ≤ 140737488351232) (hT : Utf8Tabs 0 1 w) :
    Calls Tryd.prog 4 #[.string a, .string b, .string c, .bool same] w fun e w' => e = .returned (.bool true) ∧ Below w.heap.size w w' := by
  have hk := Nam.known w hT
  by_cases hbig : 200 < a.size + b.size + c.size
  · have hbz : (200 : Int) < (a.size : Int) + (b.size : Int) + (c.size : Int) := by omega
    go_enter Tryd.func4, Tryd.ntmps4
    go_wp2_with (go_at_call 11; go_fit hk; rintro e w1 ⟨rfl, hb1⟩)
    go_ret
    exact ⟨rfl, hb1⟩
  · have hbz : (a.size : Int) + (b.size : Int) + (c.size : Int) ≤ 200 := by omega
    cases same with
    | false =>
      have tot := Nam.less_tot a b
      have hxx := less_self a.data.toList
      obtain ⟨P, hP⟩ : ∃ P, less a.data.toList b.data.toList = P := ⟨_, rfl⟩
      obtain ⟨Q, hQ⟩ : ∃ Q, less b.data.toList a.data.toList = Q := ⟨_, rfl⟩
      have cP := fun w (h : Below _ _ w) => Nam.LessB (w := w) h hT a b ha hb
      have cQ := fun w (h : Below _ _ w) => Nam.LessB (w := w) h hT b a hb ha
      have cR := fun w (h : Below _ _ w) => Nam.LessB (w := w) h hT a a ha ha
      have dP := fun w (h : Below _ _ w) => Nam.LessRB (w := w) h hT a b ha hb
      have dQ := fun w (h : Below _ _ w) => Nam.LessRB (w := w) h hT b a hb ha
      rw [hxx] at cR
      rw [hP] at cP dP tot
      rw [hQ] at cQ dQ tot
      clear hP hQ hxx
      go_enter Tryd.func4, Tryd.ntmps4
      go_wp2_with (first
        | (go_at_call 11; go_fit hk; rintro e w1 ⟨rfl, hb1⟩)
        | (go_at_call 20; have _t := hb1; go_fit (cP _ hb1); rintro e w2 ⟨rfl, hb2⟩; clear hb1)
        | (go_at_call 21; have _t := hb2; go_fit (dP _ hb2); rintro e w3 ⟨rfl, hb3⟩; clear hb2)
        | (go_at_call 20; have _t := hb3; go_fit (cQ _ hb3); rintro e w4 ⟨rfl, hb4⟩; clear hb3)
        | (go_at_call 21; have _t := hb4; go_fit (dQ _ hb4); rintro e w5 ⟨rfl, hb5⟩; clear hb4)
        | (go_at_call 20; have _t := hb5; go_fit (cR _ hb5); rintro e w6 ⟨rfl, hb6⟩; clear hb5)
        | (go_at_call 20; have _t := hb6; go_fit (cP _ hb6); rintro e w7 ⟨rfl, hb7⟩; clear hb6)
        | (go_at_call 20; have _t := hb7; go_fit (cQ _ hb7); rintro e w8 ⟨rfl, hb8⟩; clear hb7))
      · go_ret
        exact ⟨rfl, hb7⟩
      · go_ret
        exact ⟨rfl, hb8⟩
      · go_ret
        have h1 : ¬ P = true := by assumption
        have h2 : ¬ Q = true := by assumption
        refine ⟨Nam.retB ?_, hb8⟩
        rcases tot with h | h | h
        · exact absurd h h1
        · exact absurd h h2
        · rw [h]; simp
    | true =>
      have ha2 : (c ++ a).size ≤ 140737488351232 := by rw [ByteArray.size_append]; omega
      have hb2' : (c ++ b).size ≤ 140737488351232 := by rw [ByteArray.size_append]; omega
      have tot := Nam.less_tot (c ++ a) (c ++ b)
      have hxx := less_self (c ++ a).data.toList
      obtain ⟨P, hP⟩ : ∃ P, less (c ++ a).data.toList (c ++ b).data.toList = P := ⟨_, rfl⟩
      obtain ⟨Q, hQ⟩ : ∃ Q, less (c ++ b).data.toList (c ++ a).data.toList = Q := ⟨_, rfl⟩
      have cP := fun w (h : Below _ _ w) => Nam.LessB (w := w) h hT (c ++ a) (c ++ b) ha2 hb2'
      have cQ := fun w (h : Below _ _ w) => Nam.LessB (w := w) h hT (c ++ b) (c ++ a) hb2' ha2
      have cR := fun w (h : Below _ _ w) => Nam.LessB (w := w) h hT (c ++ a) (c ++ a) ha2 ha2
      have dP := fun w (h : Below _ _ w) => Nam.LessRB (w := w) h hT (c ++ a) (c ++ b) ha2 hb2'
      have dQ := fun w (h : Below _ _ w) => Nam.LessRB (w := w) h hT (c ++ b) (c ++ a) hb2' ha2
      rw [hxx] at cR
      rw [hP] at cP dP tot
      rw [hQ] at cQ dQ tot
      clear hP hQ hxx
      go_enter Tryd.func4, Tryd.ntmps4
      go_wp2_with (first
        | (go_at_call 11; go_fit hk; rintro e w1 ⟨rfl, hb1⟩)
        | (go_at_call 20; have _t := hb1; go_fit (cP _ hb1); rintro e w2 ⟨rfl, hb2⟩; clear hb1)
        | (go_at_call 21; have _t := hb2; go_fit (dP _ hb2); rintro e w3 ⟨rfl, hb3⟩; clear hb2)
        | (go_at_call 20; have _t := hb3; go_fit (cQ _ hb3); rintro e w4 ⟨rfl, hb4⟩; clear hb3)
        | (go_at_call 21; have _t := hb4; go_fit (dQ _ hb4); rintro e w5 ⟨rfl, hb5⟩; clear hb4)
        | (go_at_call 20; have _t := hb5; go_fit (cR _ hb5); rintro e w6 ⟨rfl, hb6⟩; clear hb5)
        | (go_at_call 20; have _t := hb6; go_fit (cP _ hb6); rintro e w7 ⟨rfl, hb7⟩; clear hb6)
        | (go_at_call 20; have _t := hb7; go_fit (cQ _ hb7); rintro e w8 ⟨rfl, hb8⟩; clear hb7))
      · go_ret
        exact ⟨rfl, hb7⟩
      · go_ret
        exact ⟨rfl, hb8⟩
      · go_ret
        have h1 : ¬ P = true := by assumption
        have h2 : ¬ Q = true := by assumption
        refine ⟨Nam.retB ?_, hb8⟩
        rcases tot with h | h | h
        · exact absurd h h1
        · exact absurd h h2
        · rw [h]; simp
end Go.Proofs
set_option linter.unusedSimpArgs false
namespace Go.Proofs
open Go.Shelf Go.RowKit Go.Lib Go.Nam

def Nam.four : List (Nat × Nat) := [(120, 1), (246, 2), (8364, 3), (119070, 4)]
/-- A text of k of the four runes. -/
def Nam.Made (k : Nat) (l : List UInt8) : Prop := (steps l).length = k ∧ ∀ d ∈ steps l, d ∈ Nam.four
theorem Nam.made_nil : Nam.Made 0 [] := ⟨rfl, by simp [steps_nil]⟩
theorem Nam.made_more {k : Nat} {l : List UInt8} (h : Nam.Made k l) (p : List UInt8) (hp : Begins p) (d : Nat × Nat) (hs : steps p = [d]) (hd : d ∈ Nam.four) : Nam.Made (k + 1) (l ++ p) := by
  unfold Nam.Made
  rw [steps_app l p hp, hs]
  refine ⟨by rw [List.length_append, h.1]; rfl, fun e he => ?_⟩
  rcases List.mem_append.1 he with he | he
  · exact h.2 e he
  · rw [List.mem_singleton.1 he]; exact hd
theorem Nam.made_count {k : Nat} {l : List UInt8} (h : Nam.Made k l) : count l = k := h.1
theorem Nam.made_good {k : Nat} {l : List UInt8} (h : Nam.Made k l) : good l = true := by
  unfold good
  rw [List.all_eq_true]
  intro d hd
  have := h.2 d hd
  revert d
  intro d _ hd
  simp only [Nam.four, List.mem_cons, List.not_mem_nil, or_false] at hd
  rcases hd with rfl | rfl | rfl | rfl <;> decide
theorem Nam.made_valid {k : Nat} {l : List UInt8} (h : Nam.Made k l) : validN l = (decide (1 ≤ k) && decide (k ≤ 16)) := by
  unfold validN
  rw [Nam.made_good h, Nam.made_count h]
  have hp : (runes l).all partR = true := by
    unfold runes
    rw [List.all_eq_true]
    intro r hr
    obtain ⟨d, hd, rfl⟩ := List.mem_map.1 hr
    have hd := h.2 d hd
    simp only [Nam.four, List.mem_cons, List.not_mem_nil, or_false] at hd
    rcases hd with rfl | rfl | rfl | rfl <;> decide
  rw [hp]
  by_cases hk : k = 0
  · subst hk; simp
  · have hne : l ≠ [] := by
      rintro rfl
      exact hk h.1.symm
    have h45 : ((l.getD 0 0).toNat == 45) = false := by
      rw [beq_eq_false_iff_ne]
      intro e
      have hd := h.2 (decodeL l) (by rw [steps_step l hne]; exact List.mem_cons_self ..)
      rw [decodeL_N, decodeN_ascii _ _ _ _ _ (by omega), e] at hd
      revert hd
      decide
    rw [h45]
    simp
theorem Nam.made_clip {k : Nat} {l : List UInt8} (h : Nam.Made k l) (t : List UInt8) (ht : Begins t) : clip (k : Int) (l ++ t) = l := by
  have e : (steps l ++ steps t).take k = steps l := by rw [← h.1, List.take_left]
  unfold clip
  rw [steps_app l t ht, Int.toNat_natCast, e, width_steps, List.take_left]

set_option maxHeartbeats 2000000 in
set_option maxRecDepth 100000 in
theorem Nam.law5 (n wide : Nat) (w : World) (hn : n < 256) (hw : wide < 256) (hT : Utf8Tabs 0 1 w) :
    Calls Tryd.prog 5 #[.int .u8 n, .int .u8 wide] w fun e w' => e = .returned (.bool true) ∧ Below w.heap.size w w' := by
  have hk := Nam.known w hT
  go_enter Tryd.func5, Tryd.ntmps5
  go_wp2_with (go_at_call 11; go_fit hk; rintro e w1 ⟨rfl, hb1⟩)
  have hM0 : 0 ≤ (n : Int) % 20 := by omega
  have hM1 : (n : Int) % 20 ≤ 19 := by omega
  generalize (n : Int) % 20 = M at hM0 hM1
  go_loopw [6, 7] (fun t i wr => ∃ (k : Nat) (s : ByteArray), i = .int .i64 k ∧ t = .string s ∧ (k : Int) ≤ M ∧ s.size ≤ 4 * k ∧ Below w.heap.size w wr ∧ Hid (Nam.Made k s.data.toList)) (fun _ i _ => 20 - (RowKit.intOf i).toNat)
  case atStart => exact ⟨0, ⟨#[]⟩, rfl, rfl, by omega, by decide, hb1, Lib.hid Nam.made_nil⟩
  case round =>
    obtain ⟨k, s, rfl, rfl, hk2, hs, hbw, HM⟩ := hrel
    by_cases hlt : (k : Int) < M
    · have hq0 : 0 ≤ (wide : Int) / 2 ^ (k % 4 * 2) := Int.ediv_nonneg (by omega) (Int.le_of_lt (Int.pow_pos (by decide)))
      have hq1 : (wide : Int) / 2 ^ (k % 4 * 2) < 256 := Int.lt_of_le_of_lt (Int.ediv_le_self _ (by omega)) (by omega)
      have hX : bits .and .u8 ((wide : Int) / 2 ^ (k % 4 * 2)) 3 = ((wide : Int) / 2 ^ (k % 4 * 2)) % 4 := bits_mask .u8 8 (by decide) wraps_u8 2 (by decide) _ hq0 hq1
      have hXc : bits .and .u8 ((wide : Int) / 2 ^ (k % 4 * 2)) 3 = 0 ∨ bits .and .u8 ((wide : Int) / 2 ^ (k % 4 * 2)) 3 = 1 ∨ bits .and .u8 ((wide : Int) / 2 ^ (k % 4 * 2)) 3 = 2 ∨ bits .and .u8 ((wide : Int) / 2 ^ (k % 4 * 2)) 3 = 3 := by
        rw [hX]; omega
      clear hX hq0 hq1
      rcases hXc with hX | hX | hX | hX
      · go_wp2
        go_roundw
        case rel => exact ⟨k + 1, _, by go_num, rfl, by omega, by rw [ByteArray.size_append]; show s.size + 1 ≤ _; omega, hbw.alloc hbw.size _, Lib.hid (by rw [ByteArray.data_append, Array.toList_append]; exact Nam.made_more HM.out _ (by unfold Begins; decide) (120, 1) (by decide +kernel) (by decide))⟩
        case measure => simp [RowKit.intOf]; omega
      · go_wp2
        go_roundw
        case rel => exact ⟨k + 1, _, by go_num, rfl, by omega, by rw [ByteArray.size_append]; show s.size + 2 ≤ _; omega, hbw.alloc hbw.size _, Lib.hid (by rw [ByteArray.data_append, Array.toList_append]; exact Nam.made_more HM.out _ (by unfold Begins; decide) (246, 2) (by decide +kernel) (by decide))⟩
        case measure => simp [RowKit.intOf]; omega
      · go_wp2
        go_roundw
        case rel => exact ⟨k + 1, _, by go_num, rfl, by omega, by rw [ByteArray.size_append]; show s.size + 3 ≤ _; omega, hbw.alloc hbw.size _, Lib.hid (by rw [ByteArray.data_append, Array.toList_append]; exact Nam.made_more HM.out _ (by unfold Begins; decide) (8364, 3) (by decide +kernel) (by decide))⟩
        case measure => simp [RowKit.intOf]; omega
      · go_wp2
        go_roundw
        case rel => exact ⟨k + 1, _, by go_num, rfl, by omega, by rw [ByteArray.size_append]; show s.size + 4 ≤ _; omega, hbw.alloc hbw.size _, Lib.hid (by rw [ByteArray.data_append, Array.toList_append]; exact Nam.made_more HM.out _ (by unfold Begins; decide) (119070, 4) (by decide +kernel) (by decide))⟩
        case measure => simp [RowKit.intOf]; omega
    · obtain rfl : M = (k : Int) := by omega
      have hc := fun w2 (h : Below w.heap.size w w2) => Nam.CountB h hT s (by omega)
      have hv := fun w2 (h : Below w.heap.size w w2) => Nam.ValidB h hT s (by omega)
      have hp := fun w2 (h : Below w.heap.size w w2) => Nam.ClipB h (s ++ ⟨#[116, 97, 105, 108]⟩) (k : Int) (by rw [ByteArray.size_append]; show s.size + 4 ≤ _; omega) (by omega) (by omega)
      rw [Nam.made_count HM.out, Nam.made_good HM.out] at hc
      rw [Nam.made_valid HM.out] at hv
      have hcl : (⟨(clip (k : Int) (s ++ (⟨#[116, 97, 105, 108]⟩ : ByteArray)).data.toList).toArray⟩ : ByteArray) = s := by
        rw [ByteArray.data_append, Array.toList_append, Nam.made_clip HM.out _ (by unfold Begins; decide), Nam.mk_list]
      rw [hcl] at hp
      clear hcl
      go_wp2_with (first
        | (go_at_call 12; go_fit (hc _ hbw); rintro e w9 ⟨rfl, hb9⟩)
        | (go_at_call 14; go_fit (hv _ hb9); rintro e w10 ⟨rfl, hb10⟩)
        | (go_at_call 18; go_fit (hp _ hb10); rintro e w11 ⟨rfl, hb11⟩))
      · go_ret
        exact ⟨rfl, hb11⟩
      · have h1 : (1 : Int) ≤ (k : Int) := by assumption
        have h2 : ¬ (decide (1 ≤ k) && decide (k ≤ 16)) = decide ((k : Int) ≤ 16) := by assumption
        exact absurd (by rw [decide_eq_true (show 1 ≤ k by omega), Bool.true_and, decide_eq_decide]; omega) h2
      · have h1 : (k : Int) < 1 := by assumption
        go_ret
        refine ⟨Nam.retB ?_, hb11⟩
        rw [decide_eq_false (show ¬ 1 ≤ k by omega)]
        rfl
end Go.Proofs
set_option linter.unusedSimpArgs false
namespace Go.Proofs
open Go.Shelf Go.RowKit Go.Lib Go.Nam

theorem Nam.convF (s : ByteArray) : ∃ (cap : World → Nat) (F : World → World), (∀ W : World, (convert 9 34 (.string s)).run Tryd.prog W = .ok (.slice (some ⟨W.heap.size, 0, none⟩) s.size (cap W)) (F W)) ∧
    (∀ W, Nam.Row W.heap.size s.data.toList (F W)) ∧ (∀ W, Below W.heap.size W (F W)) :=
  ⟨fun W => (Nam.conv W s).choose, fun W => (Nam.conv W s).choose_spec.choose, fun W => (Nam.conv W s).choose_spec.choose_spec.1, fun W => (Nam.conv W s).choose_spec.choose_spec.2.1, fun W => (Nam.conv W s).choose_spec.choose_spec.2.2.1⟩
/-- A text's bytes laid behind a new block, one of them turned, and read back. -/
theorem Nam.turned (s : ByteArray) (n j : Nat) (hn : s.size = n) (hj : j < n) (c : UInt8) : ∃ (cap : World → Nat) (F : World → World) (S : ByteArray) (x : Int), S.size = n ∧
    (∀ W : World, (convert 9 34 (.string s)).run Tryd.prog W = .ok (.slice (some ⟨W.heap.size, 0, none⟩) n (cap W)) (F W)) ∧
    (∀ (W : World) (cs : Array Value), (F (W.alloc (.cells cs 9))).cell? ⟨W.heap.size + 1, j, none⟩ = some (.int .u8 x)) ∧
    (∀ (W : World) (cs : Array Value), (F (W.alloc (.cells cs 9))).frozen? ⟨W.heap.size + 1, j, none⟩ = false) ∧
    (∀ (W : World) (cs : Array Value) (k : Nat), (convert 34 9 (.slice (some ⟨W.heap.size + 1, 0, none⟩) n k)).run Tryd.prog ((F (W.alloc (.cells cs 9))).setCell ⟨W.heap.size + 1, j, none⟩ (.int .u8 (c.toNat : Int))) = .ok (.string S) ((F (W.alloc (.cells cs 9))).setCell ⟨W.heap.size + 1, j, none⟩ (.int .u8 (c.toNat : Int)))) ∧
    (∀ (w W : World) (cs : Array Value), Below w.heap.size w W → Below w.heap.size w ((F (W.alloc (.cells cs 9))).setCell ⟨W.heap.size + 1, j, none⟩ (.int .u8 (c.toNat : Int)))) := by
  obtain ⟨cap, F, hconv, hrow, hbel⟩ := Nam.convF s
  have hl : s.data.toList.length = n := by rw [← Lib.size_eq, hn]
  have hz : ∀ (W : World) cs, (W.alloc (.cells cs 9)).heap.size = W.heap.size + 1 := fun W cs => by simp
  refine ⟨cap, F, ⟨(s.data.toList.set j c).toArray⟩, ((s.data.toList.getD j 0).toNat : Int), ?_, fun W => by rw [← hn]; exact hconv W, fun W cs => ?_, fun W cs => ?_, fun W cs k => ?_, fun w W cs h => ?_⟩
  · rw [Lib.size_eq, List.toList_toArray, List.length_set, hl]
  · have := (hrow (W.alloc (.cells cs 9)) j (by omega)).1
    rw [hz] at this
    exact this
  · have := (hrow (W.alloc (.cells cs 9)) j (by omega)).2
    rw [hz] at this
    exact this
  · have h1 := hrow (W.alloc (.cells cs 9))
    rw [hz] at h1
    exact Nam.conv_back (h1.set j (by omega) c) n k (by rw [List.length_set, hl])
  · have h1 := hbel (W.alloc (.cells cs 9))
    exact ((h.alloc h.size _).trans (h1.mono (by rw [hz]; have := h.size; omega))).setCell (by have := h.size; show _ ≤ W.heap.size + 1; omega) _

set_option maxHeartbeats 4000000 in
set_option maxRecDepth 100000 in
theorem Nam.law6 (k a : Nat) (c : UInt8) (w : World) (hk5 : k < 256) (ha : a < 256) (hT : Utf8Tabs 0 1 w) :
    Calls Tryd.prog 6 #[.int .u8 k, .int .u8 a, .int .u8 c.toNat] w fun e w' => e = .returned (.bool true) ∧ Below w.heap.size w w' := by
  have hk := Nam.known w hT
  have hcc := c.toNat_lt
  rcases (show (k : Int) % 5 = 0 ∨ (k : Int) % 5 = 1 ∨ (k : Int) % 5 = 2 ∨ (k : Int) % 5 = 3 ∨ (k : Int) % 5 = 4 by omega) with h5 | h5 | h5 | h5 | h5
  · obtain ⟨j, hj, hj7⟩ : ∃ j : Nat, (a : Int) % 7 = (j : Int) ∧ j < 7 := ⟨a % 7, by omega, by omega⟩
    obtain ⟨cap, F, S, x, hS, hconv, hcell, hfree, hback, hbel⟩ := Nam.turned ⟨#[107, 195, 182, 108, 110, 45, 49]⟩ 7 j (by decide) hj7 c
    have hS2 : S.size ≤ 140737488351232 := by omega
    have HS := Lib.hid hS
    clear hS
    go_enter Tryd.func6, Tryd.ntmps6
    go_wp2_with (first
      | (go_at_call 11; go_fit hk; rintro e w1 ⟨rfl, hb1⟩; have hb2 := fun cs => hbel w w1 cs hb1)
      | (go_at_call 12; go_fit (Nam.CountB (hb2 _) hT S hS2); rintro e w3 ⟨rfl, hb3⟩)
      | (go_at_call 13; go_fit (Nam.CountRB hb3 hT S hS2); rintro e w4 ⟨rfl, hb4⟩)
      | (go_at_call 14; go_fit (Nam.ValidB hb4 hT S hS2); rintro e w5 ⟨rfl, hb5⟩)
      | (go_at_call 15; go_fit (Nam.ValidRB hb5 hT S hS2); rintro e w6 ⟨rfl, hb6⟩)
      | (go_at_call 16; go_fit (Nam.FoldB hb6 S hS2); rintro e w7 ⟨rfl, hb7⟩)
      | (go_at_call 17; go_fit (Nam.FoldRB hb7 S hS2); rintro e w8 ⟨rfl, hb8⟩))
    all_goals
      go_ret
      exact ⟨Nam.retB (by simp), hb8⟩
  · obtain ⟨j, hj, hj7⟩ : ∃ j : Nat, (a : Int) % 3 = (j : Int) ∧ j < 3 := ⟨a % 3, by omega, by omega⟩
    obtain ⟨cap, F, S, x, hS, hconv, hcell, hfree, hback, hbel⟩ := Nam.turned ⟨#[97, 98, 99]⟩ 3 j (by decide) hj7 c
    have hS2 : S.size ≤ 140737488351232 := by omega
    have HS := Lib.hid hS
    clear hS
    go_enter Tryd.func6, Tryd.ntmps6
    go_wp2_with (first
      | (go_at_call 11; go_fit hk; rintro e w1 ⟨rfl, hb1⟩; have hb2 := fun cs => hbel w w1 cs hb1)
      | (go_at_call 12; go_fit (Nam.CountB (hb2 _) hT S hS2); rintro e w3 ⟨rfl, hb3⟩)
      | (go_at_call 13; go_fit (Nam.CountRB hb3 hT S hS2); rintro e w4 ⟨rfl, hb4⟩)
      | (go_at_call 14; go_fit (Nam.ValidB hb4 hT S hS2); rintro e w5 ⟨rfl, hb5⟩)
      | (go_at_call 15; go_fit (Nam.ValidRB hb5 hT S hS2); rintro e w6 ⟨rfl, hb6⟩)
      | (go_at_call 16; go_fit (Nam.FoldB hb6 S hS2); rintro e w7 ⟨rfl, hb7⟩)
      | (go_at_call 17; go_fit (Nam.FoldRB hb7 S hS2); rintro e w8 ⟨rfl, hb8⟩))
    all_goals
      go_ret
      exact ⟨Nam.retB (by simp), hb8⟩
  · obtain ⟨j, hj, hj7⟩ : ∃ j : Nat, (a : Int) % 5 = (j : Int) ∧ j < 5 := ⟨a % 5, by omega, by omega⟩
    obtain ⟨cap, F, S, x, hS, hconv, hcell, hfree, hback, hbel⟩ := Nam.turned ⟨#[97, 45, 98, 45, 99]⟩ 5 j (by decide) hj7 c
    have hS2 : S.size ≤ 140737488351232 := by omega
    have HS := Lib.hid hS
    clear hS
    go_enter Tryd.func6, Tryd.ntmps6
    go_wp2_with (first
      | (go_at_call 11; go_fit hk; rintro e w1 ⟨rfl, hb1⟩; have hb2 := fun cs => hbel w w1 cs hb1)
      | (go_at_call 12; go_fit (Nam.CountB (hb2 _) hT S hS2); rintro e w3 ⟨rfl, hb3⟩)
      | (go_at_call 13; go_fit (Nam.CountRB hb3 hT S hS2); rintro e w4 ⟨rfl, hb4⟩)
      | (go_at_call 14; go_fit (Nam.ValidB hb4 hT S hS2); rintro e w5 ⟨rfl, hb5⟩)
      | (go_at_call 15; go_fit (Nam.ValidRB hb5 hT S hS2); rintro e w6 ⟨rfl, hb6⟩)
      | (go_at_call 16; go_fit (Nam.FoldB hb6 S hS2); rintro e w7 ⟨rfl, hb7⟩)
      | (go_at_call 17; go_fit (Nam.FoldRB hb7 S hS2); rintro e w8 ⟨rfl, hb8⟩))
    all_goals
      go_ret
      exact ⟨Nam.retB (by simp), hb8⟩
  · obtain ⟨j, hj, hj7⟩ : ∃ j : Nat, (a : Int) % 5 = (j : Int) ∧ j < 5 := ⟨a % 5, by omega, by omega⟩
    obtain ⟨cap, F, S, x, hS, hconv, hcell, hfree, hback, hbel⟩ := Nam.turned ⟨#[120, 226, 130, 172, 121]⟩ 5 j (by decide) hj7 c
    have hS2 : S.size ≤ 140737488351232 := by omega
    have HS := Lib.hid hS
    clear hS
    go_enter Tryd.func6, Tryd.ntmps6
    go_wp2_with (first
      | (go_at_call 11; go_fit hk; rintro e w1 ⟨rfl, hb1⟩; have hb2 := fun cs => hbel w w1 cs hb1)
      | (go_at_call 12; go_fit (Nam.CountB (hb2 _) hT S hS2); rintro e w3 ⟨rfl, hb3⟩)
      | (go_at_call 13; go_fit (Nam.CountRB hb3 hT S hS2); rintro e w4 ⟨rfl, hb4⟩)
      | (go_at_call 14; go_fit (Nam.ValidB hb4 hT S hS2); rintro e w5 ⟨rfl, hb5⟩)
      | (go_at_call 15; go_fit (Nam.ValidRB hb5 hT S hS2); rintro e w6 ⟨rfl, hb6⟩)
      | (go_at_call 16; go_fit (Nam.FoldB hb6 S hS2); rintro e w7 ⟨rfl, hb7⟩)
      | (go_at_call 17; go_fit (Nam.FoldRB hb7 S hS2); rintro e w8 ⟨rfl, hb8⟩))
    all_goals
      go_ret
      exact ⟨Nam.retB (by simp), hb8⟩
  · obtain ⟨j, hj, hj7⟩ : ∃ j : Nat, (a : Int) % 5 = (j : Int) ∧ j < 5 := ⟨a % 5, by omega, by omega⟩
    obtain ⟨cap, F, S, x, hS, hconv, hcell, hfree, hback, hbel⟩ := Nam.turned ⟨#[115, 105, 116, 101, 57]⟩ 5 j (by decide) hj7 c
    have hS2 : S.size ≤ 140737488351232 := by omega
    have HS := Lib.hid hS
    clear hS
    go_enter Tryd.func6, Tryd.ntmps6
    go_wp2_with (first
      | (go_at_call 11; go_fit hk; rintro e w1 ⟨rfl, hb1⟩; have hb2 := fun cs => hbel w w1 cs hb1)
      | (go_at_call 12; go_fit (Nam.CountB (hb2 _) hT S hS2); rintro e w3 ⟨rfl, hb3⟩)
      | (go_at_call 13; go_fit (Nam.CountRB hb3 hT S hS2); rintro e w4 ⟨rfl, hb4⟩)
      | (go_at_call 14; go_fit (Nam.ValidB hb4 hT S hS2); rintro e w5 ⟨rfl, hb5⟩)
      | (go_at_call 15; go_fit (Nam.ValidRB hb5 hT S hS2); rintro e w6 ⟨rfl, hb6⟩)
      | (go_at_call 16; go_fit (Nam.FoldB hb6 S hS2); rintro e w7 ⟨rfl, hb7⟩)
      | (go_at_call 17; go_fit (Nam.FoldRB hb7 S hS2); rintro e w8 ⟨rfl, hb8⟩))
    all_goals
      go_ret
      exact ⟨Nam.retB (by simp), hb8⟩
end Go.Proofs
set_option linter.unusedSimpArgs false
namespace Go.Proofs
open Go.Shelf Go.RowKit Go.Lib Go.Nam

set_option maxHeartbeats 4000000 in
set_option maxRecDepth 100000 in
theorem Nam.law7 (s : ByteArray) (w : World) (hs : s.size ≤ 140737488351232) (hT : Utf8Tabs 0 1 w) :
    Calls Tryd.prog 7 #[.string s] w fun e w' => e = .returned (.bool true) ∧ Below w.heap.size w w' := by
  have hk := Nam.known w hT
  by_cases hbig : 200 < s.size
  · go_enter Tryd.func7, Tryd.ntmps7
    go_wp2_with (go_at_call 11; go_fit hk; rintro e w1 ⟨rfl, hb1⟩)
    go_ret
    exact ⟨rfl, hb1⟩
  · have c0 := fun w2 (h : Below w.heap.size w w2) => Nam.FoldB h s hs
    obtain ⟨f, hf⟩ : ∃ f : ByteArray, (⟨(fold s.data.toList).toArray⟩ : ByteArray) = f := ⟨_, rfl⟩
    have hfl : f.data.toList = fold s.data.toList := by rw [← hf]
    have hfs : f.size = s.size := by rw [Lib.size_eq, hfl, fold_length, ← Lib.size_eq]
    have c1 := fun w2 (h : Below w.heap.size w w2) => Nam.CountB h hT s hs
    have c2 := fun w2 (h : Below w.heap.size w w2) => Nam.CountB h hT f (by omega)
    have c3 := fun w2 (h : Below w.heap.size w w2) => Nam.FoldB h f (by omega)
    have c4 := fun w2 (h : Below w.heap.size w w2) => Nam.ValidB h hT s hs
    have c5 := fun w2 (h : Below w.heap.size w w2) => Nam.FoldRB h s hs
    have hv := valid_fold s.data.toList
    rw [hfl, count_fold, good_fold] at c2
    rw [hfl, fold_twice, hf] at c3
    rw [hf] at c0 c5
    obtain ⟨V, hV⟩ : ∃ V, validN s.data.toList = V := ⟨_, rfl⟩
    rw [hV] at c4 hv
    have HV : Hid (V = true → f = s) := Lib.hid fun h => by rw [← Nam.mk_list f, hfl, hv h, Nam.mk_list]
    have hfi : (f.size : Int) = (s.size : Int) := by omega
    have hss : (s.size : Int) ≤ 200 := by omega
    clear hf hfl hfs hv hV hs hbig
    cases V with
    | false =>
      go_enter Tryd.func7, Tryd.ntmps7
      go_wp2_with (first
        | (go_at_call 11; go_fit hk; rintro e w1 ⟨rfl, hb1⟩)
        | (go_at_call 16; have _t := hb1; go_fit (c0 _ hb1); rintro e w2 ⟨rfl, hb2⟩; clear hb1)
        | (go_at_call 12; have _t := hb2; go_fit (c1 _ hb2); rintro e w3 ⟨rfl, hb3⟩; clear hb2)
        | (go_at_call 12; have _t := hb3; go_fit (c2 _ hb3); rintro e w4 ⟨rfl, hb4⟩; clear hb3)
        | (go_at_call 16; have _t := hb4; go_fit (c3 _ hb4); rintro e w5 ⟨rfl, hb5⟩; clear hb4)
        | (go_at_call 14; have _t := hb5; go_fit (c4 _ hb5); rintro e w6 ⟨rfl, hb6⟩; clear hb5)
        | (go_at_call 17; have _t := hb6; go_fit (c5 _ hb6); rintro e w7 ⟨rfl, hb7⟩; clear hb6))
      go_ret
      exact ⟨rfl, hb7⟩
    | true =>
      obtain rfl := HV.out rfl
      go_enter Tryd.func7, Tryd.ntmps7
      go_wp2_with (first
        | (go_at_call 11; go_fit hk; rintro e w1 ⟨rfl, hb1⟩)
        | (go_at_call 16; have _t := hb1; go_fit (c0 _ hb1); rintro e w2 ⟨rfl, hb2⟩; clear hb1)
        | (go_at_call 12; have _t := hb2; go_fit (c1 _ hb2); rintro e w3 ⟨rfl, hb3⟩; clear hb2)
        | (go_at_call 12; have _t := hb3; go_fit (c2 _ hb3); rintro e w4 ⟨rfl, hb4⟩; clear hb3)
        | (go_at_call 16; have _t := hb4; go_fit (c3 _ hb4); rintro e w5 ⟨rfl, hb5⟩; clear hb4)
        | (go_at_call 14; have _t := hb5; go_fit (c4 _ hb5); rintro e w6 ⟨rfl, hb6⟩; clear hb5)
        | (go_at_call 17; have _t := hb6; go_fit (c5 _ hb6); rintro e w7 ⟨rfl, hb7⟩; clear hb6))
      go_ret
      exact ⟨rfl, hb7⟩

set_option maxHeartbeats 4000000 in
set_option maxRecDepth 100000 in
theorem Nam.law9 (a b c : ByteArray) (w : World) (ha : a.size ≤ 140737488351232) (hb : b.size ≤ 140737488351232) (hc : c.size ≤ 140737488351232) (hT : Utf8Tabs 0 1 w) :
    Calls Tryd.prog 9 #[.string a, .string b, .string c] w fun e w' => e = .returned (.bool true) ∧ Below w.heap.size w w' := by
  have hk := Nam.known w hT
  by_cases hbig : 200 < a.size + b.size + c.size
  · have hbz : (200 : Int) < (a.size : Int) + (b.size : Int) + (c.size : Int) := by omega
    go_enter Tryd.func9, Tryd.ntmps9
    go_wp2_with (go_at_call 11; go_fit hk; rintro e w1 ⟨rfl, hb1⟩)
    go_ret
    exact ⟨rfl, hb1⟩
  · have hbz : (a.size : Int) + (b.size : Int) + (c.size : Int) ≤ 200 := by omega
    have hax : (a ++ ⟨#[120]⟩ : ByteArray).size ≤ 140737488351232 := by rw [ByteArray.size_append]; show a.size + 1 ≤ _; omega
    have c1 := fun w2 (h : Below w.heap.size w w2) => Nam.LessB h hT a b ha hb
    have c2 := fun w2 (h : Below w.heap.size w w2) => Nam.LessB h hT b c hb hc
    have c3 := fun w2 (h : Below w.heap.size w w2) => Nam.LessB h hT a c ha hc
    have c4 := fun w2 (h : Below w.heap.size w w2) => Nam.LessB h hT a (a ++ ⟨#[120]⟩) ha hax
    have c5 := fun w2 (h : Below w.heap.size w w2) => Nam.LessB h hT ⟨#[]⟩ a (by decide) ha
    have htr := less_trans a.data.toList b.data.toList c.data.toList
    have e4 : less a.data.toList (a ++ (⟨#[120]⟩ : ByteArray)).data.toList = true := by rw [ByteArray.data_append, Array.toList_append]; exact less_x _
    rw [e4] at c4
    obtain ⟨P, hP⟩ : ∃ P, less a.data.toList b.data.toList = P := ⟨_, rfl⟩
    obtain ⟨Q, hQ⟩ : ∃ P, less b.data.toList c.data.toList = P := ⟨_, rfl⟩
    obtain ⟨R, hR⟩ : ∃ P, less a.data.toList c.data.toList = P := ⟨_, rfl⟩
    rw [hP] at c1 htr
    rw [hQ] at c2 htr
    rw [hR] at c3 htr
    clear hP hQ hR e4 hbig
    have hcase : P = false ∨ (P = true ∧ Q = false) ∨ (P = true ∧ Q = true ∧ R = true) := by
      cases P <;> cases Q <;> cases R <;> simp_all
    clear htr
    by_cases ha0 : a.size = 0
    · have he := Nam.isEmpty_of a ha0
      have e5 : less (⟨#[]⟩ : ByteArray).data.toList a.data.toList = false := by rw [Nam.is_nil a ha0]; exact less_self _
      rw [e5] at c5
      clear e5 ha0
      rcases hcase with rfl | ⟨rfl, rfl⟩ | ⟨rfl, rfl, rfl⟩
      all_goals
        go_enter Tryd.func9, Tryd.ntmps9
        go_wp2_with (first
          | (go_at_call 11; go_fit hk; rintro e w1 ⟨rfl, hb1⟩; have tok1 : True := trivial; have tok2 : True := trivial; have tok3 : True := trivial; have tok4 : True := trivial; have tok5 : True := trivial)
          | (go_at_call 20; have _t := tok1; go_fit (c1 _ hb1); rintro e w2 ⟨rfl, hb2⟩; clear hb1 tok1; have hb1 := hb2; clear hb2)
          | (go_at_call 20; have _t := tok2; go_fit (c2 _ hb1); rintro e w2 ⟨rfl, hb2⟩; clear hb1 tok2; have hb1 := hb2; clear hb2)
          | (go_at_call 20; have _t := tok3; go_fit (c3 _ hb1); rintro e w2 ⟨rfl, hb2⟩; clear hb1 tok3; have hb1 := hb2; clear hb2)
          | (go_at_call 20; have _t := tok4; go_fit (c4 _ hb1); rintro e w2 ⟨rfl, hb2⟩; clear hb1 tok4; have hb1 := hb2; clear hb2)
          | (go_at_call 20; have _t := tok5; go_fit (c5 _ hb1); rintro e w2 ⟨rfl, hb2⟩; clear hb1 tok5; have hb1 := hb2; clear hb2))
        go_ret
        exact ⟨rfl, hb1⟩
    · have he := Nam.isEmpty_not a ha0
      have e5 : less (⟨#[]⟩ : ByteArray).data.toList a.data.toList = true := less_nil _ (Nam.ne_nil a ha0)
      rw [e5] at c5
      clear e5 ha0
      rcases hcase with rfl | ⟨rfl, rfl⟩ | ⟨rfl, rfl, rfl⟩
      all_goals
        go_enter Tryd.func9, Tryd.ntmps9
        go_wp2_with (first
          | (go_at_call 11; go_fit hk; rintro e w1 ⟨rfl, hb1⟩; have tok1 : True := trivial; have tok2 : True := trivial; have tok3 : True := trivial; have tok4 : True := trivial; have tok5 : True := trivial)
          | (go_at_call 20; have _t := tok1; go_fit (c1 _ hb1); rintro e w2 ⟨rfl, hb2⟩; clear hb1 tok1; have hb1 := hb2; clear hb2)
          | (go_at_call 20; have _t := tok2; go_fit (c2 _ hb1); rintro e w2 ⟨rfl, hb2⟩; clear hb1 tok2; have hb1 := hb2; clear hb2)
          | (go_at_call 20; have _t := tok3; go_fit (c3 _ hb1); rintro e w2 ⟨rfl, hb2⟩; clear hb1 tok3; have hb1 := hb2; clear hb2)
          | (go_at_call 20; have _t := tok4; go_fit (c4 _ hb1); rintro e w2 ⟨rfl, hb2⟩; clear hb1 tok4; have hb1 := hb2; clear hb2)
          | (go_at_call 20; have _t := tok5; go_fit (c5 _ hb1); rintro e w2 ⟨rfl, hb2⟩; clear hb1 tok5; have hb1 := hb2; clear hb2))
        go_ret
        exact ⟨rfl, hb1⟩
end Go.Proofs
