/- Routes' functions on values. What is known of one way. -/
import Derived.Test.YtfiillledfkdkaaDoorRtY1
import Derived.Test.YtfiillledfkdkaaDoorRtY2
import Derived.Test.YtfiillledfkdkaaDoorRtY3
import Derived.Test.YtfiillledfkdkaaDoorRtY4
set_option linter.unusedVariables false
set_option linter.unusedSimpArgs false
set_option linter.unusedSimpArgs false
namespace Go.Proofs
open Go.Shelf Go.RowKit Go.Lib Go.Rt Go.Nam Go.Tp
def Rt.RV.zero : Rt.RV := ⟨false, 0, 0, 0, [], 0, Rt.CV.zero⟩
theorem Rt.zero_cells : Tryd.zeroCells33 = Rt.RV.zero.cells none 0 0 := by kernel_rfl
theorem Rt.val_zero (w : World) : Rt.Val w Rt.RV.zero (.agg Tryd.zeroCells33) := ⟨none, 0, 0, by rw [Rt.zero_cells], ⟨rfl, fun j hj => absurd hj (Nat.not_lt_zero _), (fun _ _ e => nomatch e), Nat.zero_le _, fun j hj => absurd hj (Nat.not_lt_zero _)⟩, Nat.le_refl _⟩
theorem Rt.CV.zero_in : Rt.CV.zero.In := ⟨⟨by decide, by decide, by decide, by decide, by decide, by decide, by decide, by decide, by decide, by decide, by decide, by decide, by decide, by decide, by decide⟩, by decide⟩
theorem Rt.RV.zero_in : Rt.RV.zero.In := ⟨by decide, by decide, by decide, by decide, by decide, by decide, by decide, by decide, Rt.CV.zero_in⟩
/-- A function of routes that tells a truth, and turns nothing. -/
def Rt.Says (w : World) (b : Bool) : Ending → World → Prop := fun e w' => e = .returned (.bool b) ∧ Below w.heap.size w w'
section
variable {w : World} {x y : Rt.RV} {v u : Value}
theorem Rt.V.right (hv : Rt.Val w x v) (hI : x.In) (hT : Utf8Tabs 0 1 w) : Calls Tryd.prog 12 #[v] w (Rt.Says w x.right) := by
  obtain ⟨a, n, c, rfl, hZ, hnc⟩ := hv
  exact Rt.routeRight (x.cells a n c) x.v x.hi x.lo x.len a n c x.path x.co x.cert.cells x.cert.st x.cert.v x.cert.hi x.cert.lo x.cert.len x.cert.mx x.cert.fr x.cert.ti x.cert.se w (x.rou hI.cert.sg a n c) hZ (x.cert.crt hI.cert.sg) hI.cert.in_ hT hI.h0 hI.h1 hI.h2 hI.h3 hI.l1 hI.l0 hnc hI.c0 hI.c1
theorem Rt.V.rightR (hv : Rt.Val w x v) (hI : x.In) (hT : Utf8Tabs 0 1 w) : Calls Tryd.prog 13 #[v] w (Rt.Says w x.right) := by
  obtain ⟨a, n, c, rfl, hZ, hnc⟩ := hv
  exact Rt.routeRightR (x.cells a n c) x.v x.hi x.lo x.len a n c x.path x.co x.cert.cells x.cert.st x.cert.v x.cert.hi x.cert.lo x.cert.len x.cert.mx x.cert.fr x.cert.ti x.cert.se w (x.rou hI.cert.sg a n c) hZ (x.cert.crt hI.cert.sg) hI.cert.in_ hT hI.h0 hI.h1 hI.h2 hI.h3 hI.l1 hI.l0 hnc hI.c0 hI.c1
theorem Rt.V.has (hv : Rt.Val w x v) (hI : x.In) (s : ByteArray) : Calls Tryd.prog 18 #[v, .string s] w (Rt.Says w (Lib.containsS x.path s)) := by
  obtain ⟨a, n, c, rfl, hZ, hnc⟩ := hv
  exact Rt.has (x.cells a n c) a n c x.path s w (x.size hI.cert.sg a n c) (x.rou hI.cert.sg a n c).c4 hZ
theorem Rt.V.hasR (hv : Rt.Val w x v) (hI : x.In) (s : ByteArray) : Calls Tryd.prog 19 #[v, .string s] w (Rt.Says w (Lib.containsS x.path s)) := by
  obtain ⟨a, n, c, rfl, hZ, hnc⟩ := hv
  rw [← Rt.anyFrom_all x.path s]
  exact Rt.hasR (x.cells a n c) a n c x.path s w (x.size hI.cert.sg a n c) (x.rou hI.cert.sg a n c).c4 hZ hnc
def Rt.RV.same (x y : Rt.RV) : Bool := Rt.sameE (Rt.pfxE x.v y.v x.hi x.lo x.len y.hi y.lo y.len) x.path y.path x.co y.co (x.cert.same y.cert)
def Rt.RV.better (x y : Rt.RV) : Bool := Rt.betV x.co y.co x.path y.path
theorem Rt.V.same (hv : Rt.Val w x v) (hu : Rt.Val w y u) (hI : x.In) (hJ : y.In) : Calls Tryd.prog 22 #[v, u] w (Rt.Says w (x.same y)) := by
  obtain ⟨a, n, c, rfl, hZ, hnc⟩ := hv
  obtain ⟨a', n', c', rfl, hZ', hnc'⟩ := hu
  exact Rt.same _ _ _ _ _ _ _ _ _ _ a a' n c n' c' _ _ x.cert y.cert x.path y.path w (x.rou hI.cert.sg a n c) (y.rou hJ.cert.sg a' n' c') hI.cert.sg hJ.cert.sg hZ hZ'
theorem Rt.V.sameR (hv : Rt.Val w x v) (hu : Rt.Val w y u) (hI : x.In) (hJ : y.In) : Calls Tryd.prog 17 #[v, u] w (Rt.Says w (x.same y)) := by
  obtain ⟨a, n, c, rfl, hZ, hnc⟩ := hv
  obtain ⟨a', n', c', rfl, hZ', hnc'⟩ := hu
  exact Rt.sameR _ _ _ _ _ _ _ _ _ _ a a' n c n' c' _ _ x.cert y.cert x.path y.path w (x.rou hI.cert.sg a n c) (y.rou hJ.cert.sg a' n' c') hI.cert.sg hJ.cert.sg hZ hZ' hnc hnc'
theorem Rt.V.better (hv : Rt.Val w x v) (hu : Rt.Val w y u) (hI : x.In) (hJ : y.In) (hT : Utf8Tabs 0 1 w) : Calls Tryd.prog 20 #[v, u] w (Rt.Says w (x.better y)) := by
  obtain ⟨a, n, c, rfl, hZ, hnc⟩ := hv
  obtain ⟨a', n', c', rfl, hZ', hnc'⟩ := hu
  exact Rt.better _ _ a a' n c n' c' _ _ x.path y.path w (x.size hI.cert.sg a n c) (y.size hJ.cert.sg a' n' c') (x.rou hI.cert.sg a n c).c4 (y.rou hJ.cert.sg a' n' c').c4 (x.rou hI.cert.sg a n c).c5 (y.rou hJ.cert.sg a' n' c').c5 hZ hZ' hT hnc hnc'
theorem Rt.V.betterR (hv : Rt.Val w x v) (hu : Rt.Val w y u) (hI : x.In) (hJ : y.In) (hT : Utf8Tabs 0 1 w) : Calls Tryd.prog 21 #[v, u] w (Rt.Says w (x.better y)) := by
  obtain ⟨a, n, c, rfl, hZ, hnc⟩ := hv
  obtain ⟨a', n', c', rfl, hZ', hnc'⟩ := hu
  exact Rt.betterR _ _ a a' n c n' c' _ _ x.path y.path w (x.size hI.cert.sg a n c) (y.size hJ.cert.sg a' n' c') (x.rou hI.cert.sg a n c).c4 (y.rou hJ.cert.sg a' n' c').c4 (x.rou hI.cert.sg a n c).c5 (y.rou hJ.cert.sg a' n' c').c5 hZ hZ' hT hnc hnc'
/-- A route and an error's number. -/
def Rt.Tells (w : World) (x : Rt.RV) (er : Int) : Ending → World → Prop := fun e w' => Below w.heap.size w w' ∧ ∃ v, e = .returned (.tuple #[v, .int .i64 er]) ∧ Rt.Val w' x v
def Rt.RV.thr (x : Rt.RV) (s : ByteArray) (add : Int) : Rt.RV := if Rt.thr x s add = 0 then x.on s add else Rt.RV.zero
theorem Rt.thr_tells {w : World} {x : Rt.RV} {s : ByteArray} {add : Int} {e : Ending} {w' : World} (h : Rt.ThrPost w (x.on s add) (Rt.thr x s add) e w') : Rt.Tells w (x.thr s add) (Rt.thr x s add) e w' := by
  obtain ⟨h1, h2⟩ := h
  unfold Rt.RV.thr
  split at h2
  · rename_i h0
    obtain ⟨a, n, c, he, hz, hn⟩ := h2
    rw [if_pos h0, h0]
    exact ⟨h1, _, he, a, n, c, rfl, hz, hn⟩
  · rename_i h0
    rw [if_neg h0]
    exact ⟨h1, _, h2, Rt.val_zero _⟩
theorem Rt.V.through (hv : Rt.Val w x v) (hI : x.In) (s : ByteArray) (add : Int) (hs : s.size ≤ 140737488351232) (ha : 0 ≤ add ∧ add < 4294967296) (hT : Utf8Tabs 0 1 w) : Calls Tryd.prog 15 #[v, .string s, .int .u32 add] w (Rt.Tells w (x.thr s add) (Rt.thr x s add)) := by
  obtain ⟨a, n, c, rfl, hZ, hnc⟩ := hv
  exact (Rt.through x hI s add hs ha a n c w hZ hnc hT).mono fun _ _ h => Rt.thr_tells h
theorem Rt.V.throughR (hv : Rt.Val w x v) (hI : x.In) (s : ByteArray) (add : Int) (hs : s.size ≤ 140737488351232) (ha : 0 ≤ add ∧ add < 4294967296) (hT : Utf8Tabs 0 1 w) : Calls Tryd.prog 16 #[v, .string s, .int .u32 add] w (Rt.Tells w (x.thr s add) (Rt.thr x s add)) := by
  obtain ⟨a, n, c, rfl, hZ, hnc⟩ := hv
  exact (Rt.throughR x hI s add hs ha a n c w hZ hnc hT).mono fun _ _ h => Rt.thr_tells h
/-- Bytes and an error's number: a row of the call's own. -/
def Rt.Wrote (w : World) (l : List Int) (er : Int) : Ending → World → Prop := fun e w' => Below w.heap.size w w' ∧ ∃ v, e = .returned (.tuple #[v, .int .i64 er]) ∧ (Ow 5 w.heap.size l).p v w'
def Rt.RV.wrote (x : Rt.RV) : List Int := if x.right then x.bytes else []
def Rt.RV.werr (x : Rt.RV) : Int := if x.right then 0 else 20
theorem Rt.wrote_of {w : World} {x : Rt.RV} {e : Ending} {w' : World} (h : Rt.PutPost w x.right x.bytes e w') : Rt.Wrote w x.wrote x.werr e w' := by
  obtain ⟨h1, h2⟩ := h
  unfold Rt.RV.wrote Rt.RV.werr
  cases hr : x.right
  · rw [hr] at h2
    simp only [Bool.false_eq_true, if_false] at h2 ⊢
    exact ⟨h1, _, h2, 0, World.ownsRow_nil _ _ _ _⟩
  · rw [hr] at h2
    simp only [if_true] at h2 ⊢
    obtain ⟨v, e1, h3⟩ := h2
    exact ⟨h1, v, e1, h3⟩
theorem Rt.V.put (hv : Rt.Val w x v) (hI : x.In) (hT : Utf8Tabs 0 1 w) : Calls Tryd.prog 23 #[v] w (Rt.Wrote w x.wrote x.werr) := by
  obtain ⟨a, n, c, rfl, hZ, hnc⟩ := hv
  exact (Rt.put x hI hI.cert.in_.st a n c w hZ hnc hT).mono fun _ _ h => Rt.wrote_of h
theorem Rt.V.putR (hv : Rt.Val w x v) (hI : x.In) (hT : Utf8Tabs 0 1 w) : Calls Tryd.prog 24 #[v] w (Rt.Wrote w x.wrote x.werr) := by
  obtain ⟨a, n, c, rfl, hZ, hnc⟩ := hv
  exact (Rt.putR x hI hI.cert.in_.st a n c w hZ hnc hT).mono fun _ _ h => Rt.wrote_of h
def Rt.rdOk (l : List Int) : Bool := (Rt.routeRd l).2 && (Rt.routeRd l).1.right
def Rt.rdV (l : List Int) : Rt.RV := if Rt.rdOk l then (Rt.routeRd l).1 else Rt.RV.zero
def Rt.rdE (l : List Int) : Int := if Rt.rdOk l then 0 else 20
theorem Rt.V.read {l : List Int} (hv : (Bs l).p v w) (hl : l.length ≤ 1099511627776) (hb : Rt.Byt l) (hT : Utf8Tabs 0 1 w) : Calls Tryd.prog 25 #[v] w (Rt.Tells w (Rt.rdV l) (Rt.rdE l)) := by
  obtain ⟨a, n, c, rfl, hs⟩ := hv
  have h := Rt.routeRead a n c l w hs hl hb hT
  unfold Rt.rdV Rt.rdE Rt.rdOk
  generalize Rt.routeRd l = X at *
  refine h.mono fun e w' h => ?_
  unfold Rt.ReadPost at h
  obtain ⟨h1, h2⟩ := h
  cases hr : (X.2 && X.1.right)
  · rw [hr] at h2
    simp only [Bool.false_eq_true, if_false] at h2 ⊢
    exact ⟨h1, _, h2, Rt.val_zero _⟩
  · rw [hr] at h2
    simp only [if_true] at h2 ⊢
    obtain ⟨a, n, c, he, hz, hn⟩ := h2
    exact ⟨h1, _, he, a, n, c, rfl, hz, hn⟩
end
end Go.Proofs
set_option linter.unusedSimpArgs false
namespace Go.Proofs
open Go.Shelf Go.RowKit Go.Lib Go.Rt Go.Nam Go.Tp
theorem Rt.certV_in (st : ByteArray) (v : Bool) (hi lo len k : Int) (hs : st.size ≤ 255) (h0 : 0 ≤ hi ∧ hi < 18446744073709551616) (h1 : 0 ≤ lo ∧ lo < 18446744073709551616) (l0 : 0 ≤ len) (l1 : len ≤ 128) (k0 : 0 ≤ k) (k1 : k < 256) : (Rt.certV st v hi lo len k).In := by
  have hm : 0 ≤ Rt.cMax v len k ∧ Rt.cMax v len k ≤ 256 := by
    unfold Rt.cMax Rt.wide
    cases v <;> simp <;> split <;> omega
  exact ⟨⟨by show st.size ≤ _; omega, h0.1, h0.2, h1.1, h1.2, by show _ ≤ len; omega, by show len < _; omega, by show _ ≤ Rt.cMax v len k; omega, by show Rt.cMax v len k < _; omega, by show 0 ≤ k / 16; omega, by show k / 16 < _; omega, by show 0 ≤ k / 16 + k % 16; omega, by show k / 16 + k % 16 < _; omega, by show 0 ≤ k % 32; omega, by show k % 32 < _; omega⟩, by simp [Rt.certV]⟩
theorem Rt.last_small (s : ByteArray) (hs : s.size ≤ 255) (zs : List ByteArray) (h : ∀ z ∈ zs, z.size ≤ 255) : (Rt.lastOf s zs).size ≤ 255 := by
  unfold Rt.lastOf
  rw [List.getLastD_eq_getLast?]
  cases hq : zs.getLast? with
  | none => exact hs
  | some z => exact h z (List.mem_of_getLast? hq)
theorem Rt.Ann.rv_in (A : Rt.Ann) (hA : A.In) (s : ByteArray) (hs : s.size ≤ 255) : (A.rv s).In := by
  have hp := Rt.pfS_len A.p A.n
  have hi := Rt.pfS_in A.p A.n hA.n0
  have hc : 0 ≤ A.cpf.len ∧ A.cpf.len ≤ 128 ∧ (0 ≤ A.cpf.hi ∧ A.cpf.hi < 18446744073709551616) ∧ (0 ≤ A.cpf.lo ∧ A.cpf.lo < 18446744073709551616) := by
    unfold Rt.Ann.cpf
    split
    · split
      · rename_i h8
        refine ⟨by show 0 ≤ A.pfx.len - 8; omega, by show A.pfx.len - 8 ≤ 128; have : A.pfx.len ≤ 128 := hp.2.1; omega, mHi_in hi.1.1 hi.1.2 _, mLo_in hi.2.1 hi.2.2 _⟩
      · exact ⟨hp.1, hp.2.1, hi.1, hi.2⟩
    · split
      · have hp := Rt.pfS_len (A.k / 8) A.n
        have hi := Rt.pfS_in (A.k / 8) A.n hA.n0
        exact ⟨hp.1, hp.2.1, hi.1, hi.2⟩
      · exact ⟨hp.1, hp.2.1, hi.1, hi.2⟩
  have hst : (A.site s).size ≤ 255 := by
    unfold Rt.Ann.site
    split
    · exact Rt.nameOf_small _
    · exact Rt.last_small s hs _ (fun z hz => by obtain ⟨k, _, rfl⟩ := List.mem_map.1 hz; exact Rt.nameOf_small k)
  have hci := Rt.certV_in (A.site s) A.cpf.v A.cpf.hi A.cpf.lo A.cpf.len A.k hst hc.2.2.1 hc.2.2.2 hc.1 hc.2.1 hA.k0 hA.k1
  have hcc : (A.cert s).In := by
    unfold Rt.Ann.cert
    dsimp only
    split
    · exact ⟨⟨hci.in_.st, hci.in_.h0, hci.in_.h1, hci.in_.h2, hci.in_.h3, hci.in_.l0, hci.in_.l1, by show _ ≤ A.pfx.len; have : 0 ≤ A.pfx.len := hp.1; omega, by show A.pfx.len < _; have : A.pfx.len ≤ 128 := hp.2.1; omega, hci.in_.f0, hci.in_.f1, hci.in_.t0, hci.in_.t1, hci.in_.s0, hci.in_.s1⟩, hci.sg⟩
    · exact hci
  exact ⟨hi.1.1, hi.1.2, hi.2.1, hi.2.2, by show _ ≤ A.pfx.len; have : 0 ≤ A.pfx.len := hp.1; omega, by show A.pfx.len < _; have : A.pfx.len ≤ 128 := hp.2.1; omega, hA.c0, by show A.cost < _; have := hA.c1; omega, hcc⟩
theorem Rt.thr_zero {x : Rt.RV} {s : ByteArray} {add : Int} (h : Rt.thr x s add = 0) : x.right = true ∧ validN s.data.toList = true ∧ 1 ≤ add ∧ add ≤ 65535 ∧ Lib.containsS x.path s = false ∧ x.path.length < 16 ∧ x.co + add ≤ 16777216 := by
  unfold Rt.thr at h
  split at h
  · rename_i hc
    simp only [Bool.and_eq_true, decide_eq_true_eq] at hc
    obtain ⟨⟨⟨h1, h2⟩, h3⟩, h4⟩ := hc
    split at h
    · cases h
    · rename_i h5
      split at h
      · cases h
      · rename_i h6
        simp only [Bool.or_eq_true, decide_eq_true_eq, not_or] at h6
        exact ⟨h1, h2, h3, h4, by simpa using h5, by omega, by omega⟩
  · cases h
theorem Rt.RV.thr_in (x : Rt.RV) (hI : x.In) (s : ByteArray) (add : Int) : (x.thr s add).In := by
  unfold Rt.RV.thr
  split
  · rename_i h
    obtain ⟨_, _, h1, h2, _, _, h3⟩ := Rt.thr_zero h
    have := hI.c0
    exact ⟨hI.h0, hI.h1, hI.h2, hI.h3, hI.l0, hI.l1, by show 0 ≤ x.co + add; omega, by show x.co + add < _; omega, hI.cert⟩
  · exact Rt.RV.zero_in
theorem Rt.routeRd_in (l : List Int) (h : Rt.Byt l) : (Rt.routeRd l).1.In := by
  unfold Rt.routeRd
  dsimp only
  have b1 := h.num false 1
  have b2 := (Rt.texts_small _ (Rt.num l false 1).2.2 b1 (Rt.num l false 1).1.toNat).1
  have m := Rt.num1_in (bad := (Rt.texts (Rt.num l false 1).2.1 (Rt.num l false 1).2.2 (Rt.num l false 1).1.toNat).2.2) b2 4
  have b3 := b2.num (Rt.texts (Rt.num l false 1).2.1 (Rt.num l false 1).2.2 (Rt.num l false 1).1.toNat).2.2 4
  rw [Rt.p4] at m
  generalize (Rt.texts (Rt.num l false 1).2.1 (Rt.num l false 1).2.2 (Rt.num l false 1).1.toNat) = T at *
  generalize Rt.num T.2.1 T.2.2 4 = Z at *
  have p := Rt.pfx_in b3 Z.2.2
  have hr := b3.pfx Z.2.2
  generalize Rt.pfxR Z.2.1 Z.2.2 = Q at *
  obtain ⟨p1, p2, p3, p4, p5, p6⟩ := p
  exact ⟨p1, p2, p3, p4, by show _ ≤ Q.len; omega, by show Q.len < _; omega, m.1, m.2, Rt.certRd_in _ hr⟩
theorem Rt.rdV_in (l : List Int) (h : Rt.Byt l) : (Rt.rdV l).In := by
  unfold Rt.rdV
  split
  · exact Rt.routeRd_in l h
  · exact Rt.RV.zero_in
/-- The way that is known. -/
def Rt.kA : Rt.Ann := ⟨[1], 5, 1, 3, 0⟩
def Rt.kr : Rt.RV := Rt.kA.rv ⟨#[98]⟩
def Rt.ks : Rt.RV := Rt.kr.thr ⟨#[97]⟩ 4
theorem Rt.k1 : Rt.thr Rt.kr ⟨#[97]⟩ 4 = 0 := by kernel_rfl
theorem Rt.k2 : Rt.thr Rt.ks ⟨#[98]⟩ 1 = 34 := by kernel_rfl
theorem Rt.k3 : Rt.ks.co = 7 := by kernel_rfl
theorem Rt.k4 : Rt.ks.path = [⟨#[97]⟩, ⟨#[98]⟩] := by kernel_rfl
theorem Rt.k5 : Rt.ks.werr = 0 := by kernel_rfl
theorem Rt.k6 : Rt.rdE Rt.ks.wrote = 0 := by kernel_rfl
theorem Rt.k7 : Rt.ks.same (Rt.rdV Rt.ks.wrote) = true := by kernel_rfl
theorem Rt.k8 : Rt.kr.better Rt.ks = true := by kernel_rfl
theorem Rt.k9 : Rt.ks.right = true := by kernel_rfl
theorem Rt.k10 : Lib.containsS Rt.ks.path ⟨#[97]⟩ = true := by kernel_rfl
end Go.Proofs
