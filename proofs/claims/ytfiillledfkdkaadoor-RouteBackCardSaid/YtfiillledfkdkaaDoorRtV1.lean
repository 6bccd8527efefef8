/- What is written is read back. A slice literal of rows: its cells. Any route is written and read back: the walk. Any route is written and read back: the law's walk. -/
import Derived.Test.YtfiillledfkdkaaDoorRtY5
import Derived.Test.YtfiillledfkdkaaDoorRtX5
import Derived.Great.BuildSlice
import Derived.Test.YtfiillledfkdkaaDoorRtY8
set_option linter.unusedVariables false
set_option linter.unusedSimpArgs false
set_option linter.unusedSimpArgs false
namespace Go.Proofs
open Go.Shelf Go.RowKit Go.Lib Go.Rt Go.Nam Go.Tp
theorem Rt.take_app (l r : List Int) (bad : Bool) (n : Nat) (h : l.length = n) : Rt.take (l ++ r) bad n = (l, r, bad) := by
  subst h
  unfold Rt.take
  rw [if_neg (by simp), List.take_left, List.drop_left]
theorem Rt.foldl_num (l : List Int) : ∀ a : Int, l.foldl (fun n c => n * 256 + c) a = a * 256 ^ l.length + Rt.numI l := by
  induction l with
  | nil => intro a; simp [Rt.numI]
  | cons c l ih =>
    intro a
    have h0 := ih (0 * 256 + c)
    have h1 := ih (a * 256 + c)
    unfold Rt.numI at *
    rw [List.foldl_cons, List.foldl_cons, h1, h0, List.length_cons, Int.pow_succ]
    simp only [Int.zero_mul, Int.zero_add, Int.add_mul, Int.mul_assoc, Int.mul_comm 256]
    omega
theorem Rt.numI_cons (c : Int) (l : List Int) : Rt.numI (c :: l) = c * 256 ^ l.length + Rt.numI l := by
  have := Rt.foldl_num l (0 * 256 + c)
  unfold Rt.numI at *
  rw [List.foldl_cons, this]
  simp
theorem Rt.pow_2_8 (k : Nat) : (256 : Int) ^ k = 2 ^ (8 * k) := by
  rw [Int.pow_mul]
  rfl
theorem Rt.numI_be (n : Int) : ∀ k, Rt.numI (Rt.be n k) = n % 256 ^ k
  | 0 => by simp [Rt.be, Rt.numI, Int.emod_one]
  | k + 1 => by
    rw [Rt.be, Rt.numI_cons, Rt.numI_be n k, Rt.be_length, Int.pow_succ, ← Rt.pow_2_8]
    have hp : (0 : Int) < 256 ^ k := Int.pow_pos (by decide)
    have h1 := Int.emod_add_mul_ediv n (256 ^ k)
    have h2 := Int.emod_add_mul_ediv (n / 256 ^ k) 256
    have h3 := Int.emod_add_mul_ediv n (256 ^ k * 256)
    rw [← Int.ediv_ediv_of_nonneg (Int.le_of_lt hp)] at h3
    generalize (256 : Int) ^ k = P at *
    have e : P * (n / P) = P * ((n / P) % 256) + P * 256 * (n / P / 256) := by
      conv => lhs; rw [← h2]
      rw [Int.mul_add, Int.mul_assoc]
    rw [Int.mul_comm ((n / P) % 256) P]
    omega
theorem Rt.num_be (n : Int) (k : Nat) (h0 : 0 ≤ n) (h1 : n < 256 ^ k) (r : List Int) (bad : Bool) : Rt.num (Rt.be n k ++ r) bad k = (n, r, bad) := by
  unfold Rt.num
  rw [Rt.take_app _ _ _ _ (Rt.be_length n k)]
  show (Rt.numI (Rt.be n k), r, bad) = _
  rw [Rt.numI_be, Int.emod_eq_of_lt h0 h1]
theorem Rt.num_one (n : Int) (h0 : 0 ≤ n) (h1 : n < 256) (r : List Int) (bad : Bool) : Rt.num ([n % 256] ++ r) bad 1 = (n, r, bad) := by
  have := Rt.num_be n 1 h0 (by simpa using h1) r bad
  simpa [Rt.be] using this
theorem Rt.text_app (s : ByteArray) (hs : s.size < 256) (r : List Int) (bad : Bool) : Rt.text ((s.size : Int) % 256 :: bytesI s ++ r) bad = (s, r, bad) := by
  have h := Rt.num_one (s.size : Int) (by omega) (by omega) (bytesI s ++ r) bad
  unfold Rt.num at h
  unfold Rt.text
  rw [List.singleton_append] at h
  have e : (s.size : Int) % 256 :: bytesI s ++ r = (s.size : Int) % 256 :: (bytesI s ++ r) := rfl
  rw [e]
  obtain ⟨h1, h2⟩ := Prod.mk.inj h
  rw [h1, h2]
  show (strOfNums (Rt.take (bytesI s ++ r) bad ((s.size : Int)).toNat).1, (Rt.take (bytesI s ++ r) bad ((s.size : Int)).toNat).2) = _
  rw [Rt.take_app _ _ _ _ (by rw [bytesI_length]; rfl), strOf_bytesI]
theorem Rt.pfxR_app (v : Bool) (hi lo len : Int) (h0 : 0 ≤ hi) (h1 : hi < 18446744073709551616) (h2 : 0 ≤ lo) (h3 : lo < 18446744073709551616) (l0 : 0 ≤ len) (l1 : len < 256) (r : List Int) (bad : Bool) : Rt.pfxR (Rt.pfxB v hi lo len ++ r) bad = ⟨v, hi, lo, len, r, bad⟩ := by
  have hv : 0 ≤ Rt.vb v ∧ Rt.vb v < 256 := by cases v <;> decide
  have e : Rt.pfxB v hi lo len ++ r = [Rt.vb v % 256] ++ (Rt.be hi 8 ++ (Rt.be lo 8 ++ ([len % 256] ++ r))) := by
    rw [Int.emod_eq_of_lt hv.1 hv.2]; simp [Rt.pfxB]
  rw [e]
  unfold Rt.pfxR
  rw [Rt.num_one _ hv.1 hv.2]
  dsimp only
  rw [Rt.num_be hi 8 h0 (by rw [Rt.p8]; exact h1)]
  dsimp only
  rw [Rt.num_be lo 8 h2 (by rw [Rt.p8]; exact h3)]
  dsimp only
  rw [Rt.num_one _ l0 l1]
  cases v <;> cases bad <;> rfl
theorem Rt.pathB_cons (z : ByteArray) (zs : List ByteArray) : Rt.pathB (z :: zs) = ((z.size : Int) % 256 :: bytesI z) ++ Rt.pathB zs := by simp [Rt.pathB]
theorem Rt.texts_app (zs : List ByteArray) (hs : ∀ z ∈ zs, z.size < 256) (r : List Int) (bad : Bool) : ∀ k, k ≤ zs.length → Rt.texts (Rt.pathB zs ++ r) bad k = (zs.take k, Rt.pathB (zs.drop k) ++ r, bad)
  | 0, _ => by simp [Rt.texts]
  | k + 1, hk => by
    have h := Rt.texts_app zs hs r bad k (by omega)
    have hd : zs.drop k = zs[k] :: zs.drop (k + 1) := List.drop_eq_getElem_cons (by omega)
    unfold Rt.texts
    rw [h]
    dsimp only
    rw [hd, Rt.pathB_cons, List.append_assoc, Rt.text_app _ (hs _ (List.getElem_mem _))]
    dsimp only
    rw [List.take_succ_eq_append_getElem (by omega)]
theorem Rt.sg_back (sg : List UInt8) : (sg.map fun b => (b.toNat : Int)).map (fun z => UInt8.ofNat z.toNat) = sg := by
  rw [List.map_map]
  conv => rhs; rw [← List.map_id sg]
  refine List.map_congr_left fun b _ => ?_
  simp
/-- A certificate's bytes are read as it. -/
theorem Rt.certRd_bytes (x : Rt.CV) (hI : x.In) (hs : x.st.size < 256) (l0 : 0 ≤ x.len) (l1 : x.len < 256) (m0 : 0 ≤ x.mx) (m1 : x.mx < 256) : Rt.certRd x.bytes = (x, true) := by
  have h := hI.in_
  have e : x.bytes = [99, 101, 114, 116] ++ (((x.st.size : Int) % 256 :: bytesI x.st) ++ (Rt.pfxB x.v x.hi x.lo x.len ++ ([x.mx % 256] ++ (Rt.be x.fr 8 ++ (Rt.be x.ti 8 ++ (Rt.be x.se 4 ++ (x.sgI ++ []))))))) := by
    simp [Rt.CV.bytes, Rt.CV.body]
  rw [e]
  unfold Rt.certRd
  dsimp only
  rw [Rt.take_app [99, 101, 114, 116] _ _ 4 rfl]
  dsimp only
  rw [Rt.text_app _ hs]
  dsimp only
  rw [Rt.pfxR_app _ _ _ _ h.h0 h.h1 h.h2 h.h3 l0 l1]
  dsimp only
  rw [Rt.num_one _ m0 m1]
  dsimp only
  rw [Rt.num_be _ 8 h.f0 (by rw [Rt.p8]; exact h.f1)]
  dsimp only
  rw [Rt.num_be _ 8 h.t0 (by rw [Rt.p8]; exact h.t1)]
  dsimp only
  rw [Rt.num_be _ 4 h.s0 (by rw [Rt.p4]; exact h.s1)]
  dsimp only
  rw [Rt.take_app _ _ _ 64 (by simp [Rt.CV.sgI, hI.sg])]
  dsimp only
  have eh : (strOfNums [99, 101, 114, 116] == (⟨#[99, 101, 114, 116]⟩ : ByteArray)) = true := by decide
  rw [eh, Rt.CV.sgI, Rt.sg_back]
  rfl
theorem Rt.right_ranges (x : Rt.RV) (h : x.right = true) : (0 ≤ x.len ∧ x.len ≤ 128) ∧ (0 ≤ x.cert.len ∧ x.cert.len ≤ 128) ∧ (0 ≤ x.cert.mx ∧ x.cert.mx ≤ 128) ∧ 0 ≤ x.cert.len := by
  have hc := Rt.right_cert x h
  unfold Rt.RV.right Rt.rR Rt.pR at h
  unfold Rt.cR Rt.pR at hc
  simp only [Bool.and_eq_true, decide_eq_true_eq] at h hc
  have hw : ∀ v, Rt.wide v ≤ 128 := fun v => by cases v <;> decide
  have w1 := hw x.v
  have w2 := hw x.cert.v
  omega
/-- A route's bytes are read as it. -/
theorem Rt.routeRd_bytes (x : Rt.RV) (hI : x.In) (h : x.right = true) : Rt.routeRd x.bytes = (x, true) := by
  obtain ⟨hn, hz, hst, hco⟩ := Rt.right_small x h
  obtain ⟨⟨l0, l1⟩, ⟨c0, c1⟩, ⟨m0, m1⟩, _⟩ := Rt.right_ranges x h
  have hzs : ∀ z ∈ x.path, z.size < 256 := fun z hzm => by
    obtain ⟨j, hj, rfl⟩ := List.mem_iff_getElem.1 hzm
    have := hz j hj
    simp only [List.getD, List.getElem?_eq_getElem hj, Option.getD_some] at this
    omega
  have e : x.bytes = [(x.path.length : Int) % 256] ++ (Rt.pathB x.path ++ (Rt.be x.co 4 ++ (Rt.pfxB x.v x.hi x.lo x.len ++ x.cert.bytes))) := by simp [Rt.RV.bytes]
  rw [e]
  unfold Rt.routeRd
  dsimp only
  rw [Rt.num_one _ (by omega) (by omega)]
  dsimp only
  rw [Int.toNat_natCast, Rt.texts_app _ hzs _ _ _ (Nat.le_refl _), List.take_length, List.drop_length]
  dsimp only
  rw [show Rt.pathB [] = [] from rfl, List.nil_append, Rt.num_be _ 4 hI.c0 (by rw [Rt.p4]; exact hI.c1)]
  dsimp only
  rw [Rt.pfxR_app _ _ _ _ hI.h0 hI.h1 hI.h2 hI.h3 l0 (by omega)]
  dsimp only
  rw [Rt.certRd_bytes x.cert hI.cert (by omega) c0 (by omega) m0 (by omega)]
  have hc := Rt.right_cert x h
  simp [Rt.certOk, hc]
end Go.Proofs
set_option linter.unusedSimpArgs false
namespace Go.Tp
open Go Go.RowKit
theorem fold_set (off : Nat) : ∀ (vs : List Value) (k : Nat) (cs : List Value), off + k + vs.length ≤ cs.length →
    ((vs.zipIdx k).foldl (fun (cs : Array Value) x => cs.setIfInBounds (off + x.2) x.1) cs.toArray) = (cs.take (off + k) ++ vs ++ cs.drop (off + k + vs.length)).toArray
  | [], k, cs, h => by simp
  | v :: vs, k, cs, h => by
    have hk : off + k < cs.length := by simp at h; omega
    rw [List.zipIdx_cons, List.foldl_cons, List.setIfInBounds_toArray, fold_set off vs (k + 1) _ (by simp at h ⊢; omega)]
    congr 1
    rw [List.length_cons]
    have e1 : (cs.set (off + k) v).take (off + (k + 1)) = cs.take (off + k) ++ [v] := by
      rw [List.set_eq_take_append_cons_drop, if_pos hk, show off + (k + 1) = (cs.take (off + k)).length + 1 by simp; omega, List.take_length_add_append]
      simp
    have e2 : (cs.set (off + k) v).drop (off + (k + 1) + vs.length) = cs.drop (off + k + (vs.length + 1)) := by
      rw [List.drop_set_of_lt (by omega)]
      congr 1
      omega
    rw [e1, e2]
    simp
theorem fill_two (cx cy z : Array Value) (n : Nat) (hx : cx.size = n) (hy : cy.size = n) (hz : z.size = 2 * n) :
    Instr.fill (fun i => some (i * n, n)) z [(0, .agg cx), (1, .agg cy)] = some (cx ++ cy) := by
  have c1 : (Value.agg cx).cells = cx := rfl
  have c2 : (Value.agg cy).cells = cy := rfl
  have f1 : (cx.zipIdx.foldl (fun (cs : Array Value) (x : Value × Nat) => cs.setIfInBounds (0 * n + x.2) x.1) z) = (cx.toList ++ z.toList.drop n).toArray := by
    rw [← Array.foldl_toList, Array.toList_zipIdx]
    have := fold_set (0 * n) cx.toList 0 z.toList (by simp; omega)
    rw [Array.toArray_toList] at this
    rw [this]
    simp [hx]
  have f2 : (cy.zipIdx.foldl (fun (cs : Array Value) (x : Value × Nat) => cs.setIfInBounds (1 * n + x.2) x.1) (cx.toList ++ z.toList.drop n).toArray) = cx ++ cy := by
    rw [← Array.foldl_toList, Array.toList_zipIdx]
    have := fold_set (1 * n) cy.toList 0 (cx.toList ++ z.toList.drop n) (by simp; omega)
    rw [this]
    have e1 : (cx.toList ++ z.toList.drop n).take (1 * n + 0) = cx.toList := by
      rw [Nat.add_zero, Nat.one_mul]
      exact List.take_left' (by simp [hx])
    have e2 : (cx.toList ++ z.toList.drop n).drop (1 * n + 0 + cy.toList.length) = [] := List.drop_of_length_le (by simp; omega)
    rw [e1, e2]
    simp
  unfold Instr.fill
  simp only [c1]
  rw [if_neg (by simp; omega)]
  unfold Instr.fill
  simp only [c2]
  have hs : (cx.zipIdx.foldl (fun (cs : Array Value) (x : Value × Nat) => cs.setIfInBounds (0 * n + x.2) x.1) z).size = 2 * n := by
    rw [f1]; simp; omega
  rw [if_neg (by rw [hs]; simp; omega)]
  unfold Instr.fill
  rw [f1, f2]
/-- Two rows in a slice literal. -/
theorem gives_two {P : Program} {o : Oper} {A : Operand → Value} {u : World} {l : List Ty} {k n : Nat} (t e : TypeId) (x y : Operand) (ho : o.op = .buildSlice t 2 #[(0, x), (1, y)]) {cx cy : Array Value} (hx : A x = .agg cx) (hy : A y = .agg cy)
    (ie : TypeInfo) (z : Value) (hu : P.underlying t = some (.slice e)) (hie : P.info? e = some ie) (hz : ie.zero = some z) (hn : ie.size = n) (h0 : 0 < n) (hb : n ≤ 8388608) (sx : cx.size = n) (sy : cy.size = n) {T : Ty} (hk : l.getD k Ty.any = T)
    (h : T.p (.slice (some ⟨u.heap.size, 0, none⟩) 2 2) (u.alloc (.cells (cx ++ cy) e))) : Gives P o A u (Aim l k u) := by
  have hr := run_buildSlice (P := P) u t e 2 #[(0, .agg cx), (1, .agg cy)] (cx ++ cy) ie z hu hie hz (by rw [hn]; omega) (by rw [hn]; omega) (by rw [hn]; exact fill_two cx cy _ n sx sy (by simp))
  refine gives_run (r := .ok (.value (.slice (some ⟨u.heap.size, 0, none⟩) 2 2)) (u.alloc (.cells (cx ++ cy) e))) (by
    unfold execOp
    simp only [ho, List.map_toArray, List.map_cons, List.map_nil, hx, hy, Sem.run_bind, hr, Result.andThen_ok, Sem.run_pure]) ?_
  exact given_ty hk h ((Below.refl _ _).alloc (Nat.le_refl _) _)
end Go.Tp
set_option linter.unusedSimpArgs false
namespace Go.Proofs
open Go.Shelf Go.RowKit Go.Lib Go.Rt Go.Nam Go.Tp
theorem Rt.conv_at {P : Program} {ops : Array Oper} {rest : List Oper} {o : Oper} {a : Act} {w : World} {Q : Exit → Act → World → Prop} (src dst : TypeId) {x : Operand} (ho : o.op = .convert src dst x)
    {v : Value} (hx : a.eval x = v) (hw : Region.wanted o (yielded ops a.tmps) = true) {s : ByteArray} (hc : (convert src dst v).run P w = .ok (.string s) w)
    (h : wpList P ops Q rest (a.put o.dst (.string s)) w) : wpList P ops Q (o :: rest) a w := by
  refine BigFrame.wpList_want hw fun K hK => ?_
  unfold Oper.wp execOp
  simp only [ho, hx, Sem.run_bind, hc, Result.andThen_ok, Sem.run_pure]
  exact hK _ _ h
/-- Two routes in a row: one that came in, one of the call's own. -/
def Rt.TwoT (cx : Array Value) (y : Rt.RV) : Ty := ⟨fun v u => ∃ g cy, v = .slice (some ⟨g, 0, none⟩) 2 2 ∧ Rt.Row u g 33 (cx ++ cy) ∧ Rt.ValN u y (.agg cy) ∧ cy.size = 79,
  fun _ _ _ ⟨g, cy, e, h1, h2, h3⟩ k => ⟨g, cy, e, h1.keep k, h2.keep k, h3⟩⟩
theorem Rt.info33 : (Tryd.prog.info? 33).map (fun i => (i.zero.isSome, i.size)) = some (true, 79) := by kernel_rfl
theorem Rt.info33_parts : ∃ i z, Tryd.prog.info? 33 = some i ∧ i.zero = some z ∧ i.size = 79 := by
  have h := Rt.info33
  cases hi : Tryd.prog.info? 33 with
  | none => rw [hi] at h; cases h
  | some i =>
    rw [hi] at h
    simp only [Option.map_some, Option.some.injEq, Prod.mk.injEq] at h
    obtain ⟨z, hz⟩ := Option.isSome_iff_exists.1 h.1
    exact ⟨i, z, rfl, hz, h.2⟩
theorem Rt.RV.same_self (x : Rt.RV) : x.same x = true := by simp [Rt.RV.same, Rt.sameE, Rt.pfxE, Rt.CV.same]
theorem Rt.rd_back (x : Rt.RV) (hI : x.In) (h : x.right = true) : Rt.rdE x.bytes = 0 ∧ Rt.rdV x.bytes = x := by
  have hr := Rt.routeRd_bytes x hI h
  unfold Rt.rdE Rt.rdV Rt.rdOk
  rw [hr]
  simp [h]
theorem Rt.byt_app {l r : List Int} (h : Rt.Byt l) (k : Rt.Byt r) : Rt.Byt (l ++ r) := fun z hz => by
  rcases List.mem_append.1 hz with hz | hz
  · exact h z hz
  · exact k z hz
theorem Rt.byt_one (n : Int) : Rt.Byt [n % 256] := fun z hz => by
  have : z = n % 256 := by simpa using hz
  omega
theorem Rt.byt_be (n : Int) : ∀ k, Rt.Byt (Rt.be n k)
  | 0 => fun z hz => by simp [Rt.be] at hz
  | k + 1 => fun z hz => by
    rcases List.mem_cons.1 hz with rfl | hz
    · omega
    · exact Rt.byt_be n k z hz
theorem Rt.byt_nat (l : List UInt8) : Rt.Byt (l.map fun b => (b.toNat : Int)) := fun z hz => by
  obtain ⟨b, _, rfl⟩ := List.mem_map.1 hz
  have := b.toNat_lt
  omega
theorem Rt.byt_path : ∀ zs : List ByteArray, Rt.Byt (Rt.pathB zs)
  | [] => fun z hz => by simp [Rt.pathB] at hz
  | s :: zs => by
    rw [Rt.pathB_cons]
    refine Rt.byt_app (Rt.byt_app (l := [(s.size : Int) % 256]) (Rt.byt_one _) ?_) (Rt.byt_path zs)
    exact Rt.byt_nat _
theorem Rt.byt_pfx (v : Bool) (hi lo len : Int) : Rt.Byt (Rt.pfxB v hi lo len) := by
  unfold Rt.pfxB
  refine Rt.byt_app (Rt.byt_app (Rt.byt_app ?_ (Rt.byt_be _ _)) (Rt.byt_be _ _)) (Rt.byt_one _)
  intro z hz
  have : z = Rt.vb v := by simpa using hz
  subst this
  cases v <;> decide
theorem Rt.byt_cert (x : Rt.CV) : Rt.Byt x.bytes := by
  unfold Rt.CV.bytes Rt.CV.body
  refine Rt.byt_app (Rt.byt_app (Rt.byt_app (Rt.byt_app (Rt.byt_app (Rt.byt_app (Rt.byt_app (Rt.byt_app ?_ (Rt.byt_one _)) (Rt.byt_nat _)) (Rt.byt_pfx _ _ _ _)) (Rt.byt_one _)) (Rt.byt_be _ _)) (Rt.byt_be _ _)) (Rt.byt_be _ _)) (Rt.byt_nat _)
  intro z hz
  simp at hz
  omega
theorem Rt.bytes_in (x : Rt.RV) (hI : x.In) (h : x.right = true) : Rt.Byt x.bytes ∧ x.bytes.length ≤ 1099511627776 := by
  refine ⟨?_, ?_⟩
  · unfold Rt.RV.bytes
    exact Rt.byt_app (Rt.byt_app (Rt.byt_app (Rt.byt_app (Rt.byt_one _) (Rt.byt_path _)) (Rt.byt_be _ _)) (Rt.byt_pfx _ _ _ _)) (Rt.byt_cert _)
  · obtain ⟨h1, h2, h3, _⟩ := Rt.right_small x h
    have hp := Rt.pathB_le x.path h2 x.path.length (Nat.le_refl _)
    rw [List.take_length] at hp
    have hb := x.cert.body_length
    have hsg : x.cert.sgI.length = 64 := by simp [Rt.CV.sgI, hI.cert.sg]
    simp only [Rt.RV.bytes, Rt.CV.bytes, List.length_append, List.length_cons, List.length_nil, Rt.be_length, Rt.pfxB_length, hb, hsg]
    omega
end Go.Proofs
set_option linter.unusedSimpArgs false
namespace Go.Proofs
open Go.Shelf Go.RowKit Go.Lib Go.Rt Go.Nam Go.Tp
theorem Rt.extract_two (cx cy : Array Value) (h1 : cx.size = 79) (h2 : cy.size = 79) : (cx ++ cy).extract 79 (79 + 79) = cy := by
  apply Array.ext'
  simp only [Array.toList_extract, Array.toList_append, List.extract_eq_take_drop]
  rw [List.drop_left' (by simpa using h1)]
  exact List.take_of_length_le (by simp [h2])
theorem Rt.RV.fit (x : Rt.RV) (hI : x.In) (a : Option Addr) (n c : Nat) : Rt.Fit (x.cells a n c) := ⟨x.size hI.cert.sg a n c, by rw [x.size hI.cert.sg a n c]; kernel_rfl, x.inf hI.cert.sg a n c, x.one a n c⟩
theorem Rt.bs_conv {L : List Int} {a : Option Addr} {n c : Nat} {w : World} (h : (Bs L).p (.slice a n c) w) : (convert 34 9 (.slice a n c)).run Tryd.prog w = .ok (.string (strOfNums L)) w := by
  obtain ⟨a', n', c', e, hs⟩ := h
  cases e
  exact conv_str hs 34 9 5 Tryd.underlying34 Tryd.underlying5 Tryd.underlying9
set_option maxHeartbeats 10000000 in
set_option maxRecDepth 100000 in
theorem Rt.law5 (x : Rt.RV) (Y : Rt.Ann) (hI : x.In) (hY : Y.In) (a a2 : Option Addr) (n c m2 c2 : Nat) (w : World) (hnc : n ≤ c) (sx : Sl w a n c (x.path.map Value.string)) (hz : ∀ z ∈ x.path, z.size ≤ 140737488351232) (sY : Sl w a2 m2 c2 (Y.path.map (Value.int .u8))) (hT : Utf8Tabs 0 1 w) :
    Calls Tryd.prog 5 #[.agg (x.cells a n c), .agg (Y.cells a2 m2 c2)] w (Rt.Says w true) := by
  obtain ⟨i33, z33, hi33, hz33, hn33⟩ := Rt.info33_parts
  obtain ⟨Q, hQ⟩ : ∃ Q, Rt.Says w true = Q := ⟨_, rfl⟩
  rw [hQ]
  have HQ := Lib.hid hQ
  clear hQ
  obtain ⟨w1, ew, r1, r2, hb1⟩ := Rt.box2 w (x.cells a n c) (Y.cells a2 m2 c2) 33 37
  have R1 := Lib.hid r1
  have R2 := Lib.hid r2
  have BB := Lib.hid hb1
  clear r1 r2 hb1
  have asz : (⟨#[97]⟩ : ByteArray).size ≤ 255 := by decide
  have IY := Rt.Ann.rv_in Y hY ⟨#[97]⟩ asz
  have hcY : ∀ u, Below w.heap.size w u → Calls Tryd.prog 11 #[.agg (Y.cells a2 m2 c2), .string ⟨#[97]⟩] u (Ret (Rt.ValT (Y.rv ⟨#[97]⟩)) u) := fun u hu => Rt.annRoute Y hY ⟨#[97]⟩ asz a2 m2 c2 u (sY.keep hu)
  have HY := Lib.hid hcY
  clear hcY sY
  have hlen : x.path.length = n := by have := sx.len; simpa using this
  have HS79 := Lib.hid (x.size hI.cert.sg a n c)
  have h4 : (x.cells a n c)[4]? = some (.slice a n c) := rfl
  have h6 : (x.cells a n c)[6]? = some (.string x.cert.st) := rfl
  obtain ⟨st, hst⟩ : ∃ s, x.cert.st = s := ⟨_, rfl⟩
  rw [hst] at h6
  have HV : Hid (n ≤ 30 → ∀ u, Below w.heap.size w u → Rt.Val u x (.agg (x.cells a n c))) := Lib.hid fun hn u hu => ⟨a, n, c, rfl, Rt.Strs.of_sl (sx.keep hu) (by omega) hz, hnc⟩
  have HIN := Lib.hid hI
  have HFX := Lib.hid (x.fit hI a n c)
  have H4 := Lib.hid h4
  have H6 := Lib.hid h6
  have q0 : (0 : Int) ≤ (n : Int) := Int.natCast_nonneg _
  clear hst h4 h6 sx hz hnc hlen
  generalize x.cells a n c = cx at *
  go_enter Tryd.func5, Tryd.ntmps5
  by_cases hn : n ≤ 30
  · have hn1 : ¬ (30 : Int) < (n : Int) := by omega
    by_cases hs : st.size ≤ 100
    · have hs1 : ¬ (100 : Int) < (st.size : Int) := by omega
      go_wp2_with (go_at_call 10; refine (Rt.known _ (Utf8Tabs_below hT BB.out)).mono ?_; rintro e w2 ⟨rfl, hb⟩; replace R1 := Lib.hid (R1.out.keep hb); replace R2 := Lib.hid (R2.out.keep hb); replace BB := Lib.hid (BB.out.trans (hb.mono BB.out.size)); clear hb; have k4 := R1.out.cell 4 H4.out; have k6 := R1.out.cell 6 H6.out)
      have UP5 := fun u (hu : Below _ _ u) => BB.out.trans (hu.mono BB.out.size)
      refine Tp.region_ex (by kernel_rfl) 6 77 [[(2, none)], [(3, none)], [(27, some 1)], [(26, some 0), (28, some 2)], [(29, some 3)], []] (by kernel_rfl) rfl ?_
      apply Exists.intro [_, _, _, _, _, _]
      refine ⟨⟨?_, ?_, ?_, ?_, ?_, ?_, trivial⟩, ?_⟩
      · intro A u hC hG hF hu hR; clear hG
        refine Tp.facts_old (fun h2 => ?_) rfl; conv at h2 => rhs; whnf
        refine Tp.facts_nil ?_
        refine Tp.wants_plain rfl ?_
        refine Tp.load_var rfl h2 ((R1.out.keep hu).whole33 HS79.out) ?_; exact rfl
      · intro A u hC hG hF hu hR; clear hG
        refine Tp.facts_old (fun h3 => ?_) rfl; conv at h3 => rhs; whnf
        refine Tp.facts_nil ?_
        refine Tp.wants_plain rfl ?_
        refine Tp.load_var rfl h3 (R2.out.keep hu).whole37 ?_; exact rfl
      · intro A u hC hG hF hu hR; clear hG
        first | refine Tp.facts_is rfl (fun h27 => ?_) | refine Tp.facts_ty rfl (fun v27 h27 k27 => ?_)
        refine Tp.facts_nil ?_
        refine Tp.wants_plain rfl ?_
        (apply Tp.gives_run; (simp [go_sem, hC, hF, hu, h27]; exact rfl); (refine Tp.given_call ?_ (HY.out u (UP5 u hu)); exact rfl))
      · intro A u hC hG hF hu hR; clear hG
        first | refine Tp.facts_is rfl (fun h26 => ?_) | refine Tp.facts_ty rfl (fun v26 h26 k26 => ?_)
        first | refine Tp.facts_is rfl (fun h28 => ?_) | refine Tp.facts_ty rfl (fun v28 h28 k28 => ?_)
        refine Tp.facts_nil ?_
        refine Tp.wants_plain rfl ?_
        obtain ⟨cy, ecy, hfy, hvy⟩ := k28.fit IY; subst ecy; refine Tp.gives_two 40 33 (.tmp 26) (.tmp 28) rfl h26 h28 i33 z33 Tryd.underlying40 hi33 hz33 hn33 (by decide) (by decide) HS79.out hfy.size (T := Rt.TwoT cx (Y.rv ⟨#[97]⟩)) ?_ ?_; (exact rfl); exact ⟨u.heap.size, cy, rfl, Rt.Row.new u 33 _, hvy.keep ((Below.refl _ _).alloc (Nat.le_refl _) _), hfy.size⟩
      · intro A u hC hG hF hu hR; clear hG
        first | refine Tp.facts_is rfl (fun h29 => ?_) | refine Tp.facts_ty rfl (fun v29 h29 k29 => ?_)
        refine Tp.facts_nil ?_
        refine Tp.wants_plain rfl ?_
        (obtain ⟨g0, cy0, e0, _⟩ := k29; subst e0; apply Tp.gives_run; (simp [go_sem, hC, hF, hu, h29]; exact rfl); (refine Tp.given_is ?_; exact rfl))
      · intro A u hC hG hF hu hR; clear hG
        refine Tp.facts_nil ?_
        refine Tp.wants_plain rfl ?_
        (apply Tp.gives_run; (simp [go_sem, hC, hF, hu]; exact rfl); (refine Tp.given_is ?_; exact rfl))
      intro wq1 bq1
      first | refine Tp.fin_is rfl rfl rfl ?_ | refine Tp.fin_ty rfl rfl rfl (fun y26 q26 => ?_)
      first | refine Tp.fin_is rfl rfl rfl ?_ | refine Tp.fin_ty rfl rfl rfl (fun y27 q27 => ?_)
      first | refine Tp.fin_is rfl rfl rfl ?_ | refine Tp.fin_ty rfl rfl rfl (fun y28 q28 => ?_)
      first | refine Tp.fin_is rfl rfl rfl ?_ | refine Tp.fin_ty rfl rfl rfl (fun y29 q29 => ?_)
      first | refine Tp.fin_is rfl rfl rfl ?_ | refine Tp.fin_ty rfl rfl rfl (fun y30 q30 => ?_)
      first | refine Tp.fin_is rfl rfl rfl ?_ | refine Tp.fin_ty rfl rfl rfl (fun y31 q31 => ?_)
      refine Tp.fin_nil ?_
      simp only [Act.put, List.setIfInBounds_toArray, List.set_cons_succ, List.set_cons_zero, List.drop_succ_cons, List.drop_zero, List.drop_nil]
      obtain ⟨g, cy, rfl, rg, vy, sy⟩ := q29
      have RG0 := Lib.hid rg
      have VY0 := Lib.hid vy
      have SY := Lib.hid sy
      have BQ0 := Lib.hid (UP5 _ bq1)
      have HVX := Lib.hid (HV.out hn)
      clear rg vy sy UP5 bq1 k4 k6 R1 R2 BB HV q28
      generalize Y.rv ⟨#[97]⟩ = y at *
      go_wp2_with fail
      go_loopw [31] (fun i wr => ∃ k : Nat, k ≤ 2 ∧ i = .int .i64 (k : Int) ∧ Rt.Row wr g 33 (cx ++ cy) ∧ Rt.Val wr x (.agg cx) ∧ Rt.ValN wr y (.agg cy) ∧ Below w.heap.size w wr) (fun i _ => 2 - (Go.RowKit.intOf i).toNat)
      case atStart => exact ⟨0, by omega, rfl, RG0.out, HVX.out _ BQ0.out, VY0.out, BQ0.out⟩
      case round =>
        obtain ⟨k, hk, rfl, rg, sx, vy, bq⟩ := hrel
        have RG := Lib.hid rg
        have SX := Lib.hid sx
        have VY := Lib.hid vy
        have BQ := Lib.hid bq
        clear rg sx vy bq
        have hcase : k = 0 ∨ k = 1 ∨ k = 2 := by omega
        rcases hcase with rfl | rfl | rfl
        · obtain ⟨r, cr, hin, HLD, VR, FR⟩ : ∃ (r : Rt.RV) (cr : Array Value), r.In ∧ Hid ((loadVar 33 ⟨g, 0, none⟩).run Tryd.prog wr = .ok (.agg cr) wr) ∧ Hid (Rt.Val wr r (.agg cr)) ∧ Hid (Rt.Fit cr) := ⟨x, cx, HIN.out, Lib.hid (RG.out.mid 0 79 33 (by simp [HS79.out]) (by have := HS79.out; simp [this]) Tryd.underlying33 rfl (by rw [Rt.size33])), SX, HFX⟩
          obtain ⟨RR, hRR⟩ : ∃ b, r.right = b := ⟨_, rfl⟩
          have HRI := Lib.hid hin
          cases RR
          · obtain ⟨L, hL⟩ : ∃ L : List Int, L = [] := ⟨_, rfl⟩
            have HPU : Hid (∀ u v, Rt.Val u r v → Utf8Tabs 0 1 u → Calls Tryd.prog 23 #[v] u (Rt.Wrote u L 20)) := Lib.hid fun u v hv hT => by
              have := Rt.V.put hv HRI.out hT
              unfold Rt.RV.wrote Rt.RV.werr at this
              rw [hRR] at this
              rw [hL]
              exact this
            have HPR : Hid (∀ u v, Rt.Val u r v → Utf8Tabs 0 1 u → Calls Tryd.prog 24 #[v] u (Rt.Wrote u L 20)) := Lib.hid fun u v hv hT => by
              have := Rt.V.putR hv HRI.out hT
              unfold Rt.RV.wrote Rt.RV.werr at this
              rw [hRR] at this
              rw [hL]
              exact this
            clear hRR hL
            go_wp2_with (first | (have _t := HLD; (with_reducible refine Rt.load_at 33 (x := .tmp 33) ?_ ⟨g, 0, none⟩ ?_ ?_ HLD.out ?_); (with_reducible exact rfl); (exact rfl); (kernel_rfl); clear _t) | (have _t := FR; (with_reducible refine Rt.store_at 33 (x := .tmp 6) (v := .tmp 34) (cs := cr) ?_ wr.heap.size ?_ ?_ ?_ (Rt.Row.new wr 33 Tryd.zeroCells33) ?_ ?_ ?_ ?_); (with_reducible exact rfl); (exact rfl); (exact rfl); (kernel_rfl); (exact FR.out.eq); (exact FR.out.inf); (exact FR.out.one); (clear _t; intro w3 e1 e2 e3 e4; have b8 := e4 wr.heap.size wr (Nat.le_refl _) ((Below.refl _ _).alloc (Nat.le_refl _) _); have AT := Lib.hid (Rt.At.new e1 VR.out FR.out b8); ((replace RG := Lib.hid (RG.out.keep b8); replace SX := Lib.hid (SX.out.keep b8); replace VY := Lib.hid (VY.out.keep b8); replace BQ := Lib.hid (BQ.out.trans ((b8).mono BQ.out.size)); (try replace AT := Lib.hid (AT.out.keep b8)); (try replace A11 := Lib.hid (A11.out.keep b8)); (try replace B1 := Lib.hid ((Bs _).st _ _ _ B1.out b8)); (try replace B2 := Lib.hid ((Bs _).st _ _ _ B2.out b8)))); clear e1 e2 e3 e4 b8)) | (have _t := AT; (with_reducible refine Rt.load_at 33 (x := .tmp 6) ?_ ⟨wr.heap.size, 0, none⟩ ?_ ?_ (AT.out.row.whole33 AT.out.size) ?_); (with_reducible exact rfl); (exact rfl); (exact rfl); clear _t) | (go_at_call 23; (with_reducible refine (HPU.out _ _ AT.out.val (Utf8Tabs_below hT BQ.out)).mono ?_); rintro e w4 ⟨hb, v, rfl, hv⟩; obtain ⟨ab, nb, cb, rfl, sb⟩ := ow_bs hv; ((replace RG := Lib.hid (RG.out.keep hb); replace SX := Lib.hid (SX.out.keep hb); replace VY := Lib.hid (VY.out.keep hb); replace BQ := Lib.hid (BQ.out.trans ((hb).mono BQ.out.size)); (try replace AT := Lib.hid (AT.out.keep hb)); (try replace A11 := Lib.hid (A11.out.keep hb)); (try replace B1 := Lib.hid ((Bs _).st _ _ _ B1.out hb)); (try replace B2 := Lib.hid ((Bs _).st _ _ _ B2.out hb)))); have B1 : Hid ((Bs L).p (.slice ab nb cb) w4) := Lib.hid ⟨ab, nb, cb, rfl, sb⟩; clear hv sb hb) | (go_at_call 24; (with_reducible refine (HPR.out _ _ AT.out.val (Utf8Tabs_below hT BQ.out)).mono ?_); rintro e w5 ⟨hb, v, rfl, hv⟩; obtain ⟨ad, nd, cd, rfl, sd⟩ := ow_bs hv; ((replace RG := Lib.hid (RG.out.keep hb); replace SX := Lib.hid (SX.out.keep hb); replace VY := Lib.hid (VY.out.keep hb); replace BQ := Lib.hid (BQ.out.trans ((hb).mono BQ.out.size)); (try replace AT := Lib.hid (AT.out.keep hb)); (try replace A11 := Lib.hid (A11.out.keep hb)); (try replace B1 := Lib.hid ((Bs _).st _ _ _ B1.out hb)); (try replace B2 := Lib.hid ((Bs _).st _ _ _ B2.out hb)))); have B2 : Hid ((Bs L).p (.slice ad nd cd) w5) := Lib.hid ⟨ad, nd, cd, rfl, sd⟩; clear hv sd hb) | (have _t := B1; (with_reducible refine Rt.conv_at 34 9 (x := .tmp 49) ?_ (v := .slice ab nb cb) ?_ ?_ (s := strOfNums L) (Rt.bs_conv B1.out) ?_); (with_reducible exact rfl); (exact rfl); (exact rfl); clear _t) | (have _t := B2; (with_reducible refine Rt.conv_at 34 9 (x := .tmp 51) ?_ (v := .slice ad nd cd) ?_ ?_ (s := strOfNums L) (Rt.bs_conv B2.out) ?_); (with_reducible exact rfl); (exact rfl); (exact rfl); clear _t))
            go_roundw
            case rel => exact ⟨1, by omega, rfl, RG.out, SX.out, VY.out, BQ.out⟩
            case measure => simp [Go.RowKit.intOf]
          · obtain ⟨L, hL⟩ : ∃ L : List Int, L = r.bytes := ⟨_, rfl⟩
            have HPU : Hid (∀ u v, Rt.Val u r v → Utf8Tabs 0 1 u → Calls Tryd.prog 23 #[v] u (Rt.Wrote u L 0)) := Lib.hid fun u v hv hT => by
              have := Rt.V.put hv HRI.out hT
              unfold Rt.RV.wrote Rt.RV.werr at this
              rw [hRR] at this
              rw [hL]
              exact this
            have HPR : Hid (∀ u v, Rt.Val u r v → Utf8Tabs 0 1 u → Calls Tryd.prog 24 #[v] u (Rt.Wrote u L 0)) := Lib.hid fun u v hv hT => by
              have := Rt.V.putR hv HRI.out hT
              unfold Rt.RV.wrote Rt.RV.werr at this
              rw [hRR] at this
              rw [hL]
              exact this
            have HRD : Hid (∀ u v, (Bs L).p v u → Utf8Tabs 0 1 u → Calls Tryd.prog 25 #[v] u (Rt.Tells u r 0)) := Lib.hid fun u v hv hT => by
              rw [hL] at hv
              have h := Rt.V.read hv (Rt.bytes_in r HRI.out hRR).2 (Rt.bytes_in r HRI.out hRR).1 hT
              rwa [(Rt.rd_back r HRI.out hRR).1, (Rt.rd_back r HRI.out hRR).2] at h
            have HSM : Hid (∀ u v v', Rt.Val u r v → Rt.Val u r v' → Calls Tryd.prog 22 #[v, v'] u (Rt.Says u true)) := Lib.hid fun u v v' h h' => by
              have := Rt.V.same h h' HRI.out HRI.out
              rwa [Rt.RV.same_self] at this
            have HSR : Hid (∀ u v v', Rt.Val u r v → Rt.Val u r v' → Calls Tryd.prog 17 #[v, v'] u (Rt.Says u true)) := Lib.hid fun u v v' h h' => by
              have := Rt.V.sameR h h' HRI.out HRI.out
              rwa [Rt.RV.same_self] at this
            clear hRR hL
            go_wp2_with (first | (have _t := HLD; (with_reducible refine Rt.load_at 33 (x := .tmp 33) ?_ ⟨g, 0, none⟩ ?_ ?_ HLD.out ?_); (with_reducible exact rfl); (exact rfl); (kernel_rfl); clear _t) | (have _t := FR; (with_reducible refine Rt.store_at 33 (x := .tmp 6) (v := .tmp 34) (cs := cr) ?_ wr.heap.size ?_ ?_ ?_ (Rt.Row.new wr 33 Tryd.zeroCells33) ?_ ?_ ?_ ?_); (with_reducible exact rfl); (exact rfl); (exact rfl); (kernel_rfl); (exact FR.out.eq); (exact FR.out.inf); (exact FR.out.one); (clear _t; intro w3 e1 e2 e3 e4; have b8 := e4 wr.heap.size wr (Nat.le_refl _) ((Below.refl _ _).alloc (Nat.le_refl _) _); have AT := Lib.hid (Rt.At.new e1 VR.out FR.out b8); ((replace RG := Lib.hid (RG.out.keep b8); replace SX := Lib.hid (SX.out.keep b8); replace VY := Lib.hid (VY.out.keep b8); replace BQ := Lib.hid (BQ.out.trans ((b8).mono BQ.out.size)); (try replace AT := Lib.hid (AT.out.keep b8)); (try replace A11 := Lib.hid (A11.out.keep b8)); (try replace B1 := Lib.hid ((Bs _).st _ _ _ B1.out b8)); (try replace B2 := Lib.hid ((Bs _).st _ _ _ B2.out b8)))); clear e1 e2 e3 e4 b8)) | (have _t := AT; (with_reducible refine Rt.load_at 33 (x := .tmp 6) ?_ ⟨wr.heap.size, 0, none⟩ ?_ ?_ (AT.out.row.whole33 AT.out.size) ?_); (with_reducible exact rfl); (exact rfl); (exact rfl); clear _t) | (have _t := A11; (with_reducible refine Rt.load_at 33 (x := .tmp 11) ?_ ⟨w6.heap.size, 0, none⟩ ?_ ?_ (A11.out.row.whole33 A11.out.size) ?_); (with_reducible exact rfl); (exact rfl); (exact rfl); clear _t) | (go_at_call 23; (with_reducible refine (HPU.out _ _ AT.out.val (Utf8Tabs_below hT BQ.out)).mono ?_); rintro e w4 ⟨hb, v, rfl, hv⟩; obtain ⟨ab, nb, cb, rfl, sb⟩ := ow_bs hv; ((replace RG := Lib.hid (RG.out.keep hb); replace SX := Lib.hid (SX.out.keep hb); replace VY := Lib.hid (VY.out.keep hb); replace BQ := Lib.hid (BQ.out.trans ((hb).mono BQ.out.size)); (try replace AT := Lib.hid (AT.out.keep hb)); (try replace A11 := Lib.hid (A11.out.keep hb)); (try replace B1 := Lib.hid ((Bs _).st _ _ _ B1.out hb)); (try replace B2 := Lib.hid ((Bs _).st _ _ _ B2.out hb)))); have B1 : Hid ((Bs L).p (.slice ab nb cb) w4) := Lib.hid ⟨ab, nb, cb, rfl, sb⟩; clear hv sb hb) | (go_at_call 24; (with_reducible refine (HPR.out _ _ AT.out.val (Utf8Tabs_below hT BQ.out)).mono ?_); rintro e w5 ⟨hb, v, rfl, hv⟩; obtain ⟨ad, nd, cd, rfl, sd⟩ := ow_bs hv; ((replace RG := Lib.hid (RG.out.keep hb); replace SX := Lib.hid (SX.out.keep hb); replace VY := Lib.hid (VY.out.keep hb); replace BQ := Lib.hid (BQ.out.trans ((hb).mono BQ.out.size)); (try replace AT := Lib.hid (AT.out.keep hb)); (try replace A11 := Lib.hid (A11.out.keep hb)); (try replace B1 := Lib.hid ((Bs _).st _ _ _ B1.out hb)); (try replace B2 := Lib.hid ((Bs _).st _ _ _ B2.out hb)))); have B2 : Hid ((Bs L).p (.slice ad nd cd) w5) := Lib.hid ⟨ad, nd, cd, rfl, sd⟩; clear hv sd hb) | (have _t := B1; (with_reducible refine Rt.conv_at 34 9 (x := .tmp 49) ?_ (v := .slice ab nb cb) ?_ ?_ (s := strOfNums L) (Rt.bs_conv B1.out) ?_); (with_reducible exact rfl); (exact rfl); (exact rfl); clear _t) | (have _t := B2; (with_reducible refine Rt.conv_at 34 9 (x := .tmp 51) ?_ (v := .slice ad nd cd) ?_ ?_ (s := strOfNums L) (Rt.bs_conv B2.out) ?_); (with_reducible exact rfl); (exact rfl); (exact rfl); clear _t) | (go_at_call 25; (with_reducible refine (HRD.out _ _ B1.out (Utf8Tabs_below hT BQ.out)).mono ?_); rintro e w6 ⟨hb, v, rfl, hv⟩; obtain ⟨ce, rfl, hf, hv⟩ := hv.fit HRI.out; have FE := Lib.hid hf; have VE := Lib.hid hv; ((replace RG := Lib.hid (RG.out.keep hb); replace SX := Lib.hid (SX.out.keep hb); replace VY := Lib.hid (VY.out.keep hb); replace BQ := Lib.hid (BQ.out.trans ((hb).mono BQ.out.size)); (try replace AT := Lib.hid (AT.out.keep hb)); (try replace A11 := Lib.hid (A11.out.keep hb)); (try replace B1 := Lib.hid ((Bs _).st _ _ _ B1.out hb)); (try replace B2 := Lib.hid ((Bs _).st _ _ _ B2.out hb)))); clear hf hv hb) | (have _t := FE; (with_reducible refine Rt.store_at 33 (x := .tmp 11) (v := .tmp 60) (cs := ce) ?_ w6.heap.size ?_ ?_ ?_ (Rt.Row.new w6 33 Tryd.zeroCells33) ?_ ?_ ?_ ?_); (with_reducible exact rfl); (exact rfl); (exact rfl); (kernel_rfl); (exact FE.out.eq); (exact FE.out.inf); (exact FE.out.one); (clear _t; intro w7 e1 e2 e3 e4; have b8 := e4 w6.heap.size w6 (Nat.le_refl _) ((Below.refl _ _).alloc (Nat.le_refl _) _); have A11 := Lib.hid (Rt.At.new e1 VE.out FE.out b8); ((replace RG := Lib.hid (RG.out.keep b8); replace SX := Lib.hid (SX.out.keep b8); replace VY := Lib.hid (VY.out.keep b8); replace BQ := Lib.hid (BQ.out.trans ((b8).mono BQ.out.size)); (try replace AT := Lib.hid (AT.out.keep b8)); (try replace A11 := Lib.hid (A11.out.keep b8)); (try replace B1 := Lib.hid ((Bs _).st _ _ _ B1.out b8)); (try replace B2 := Lib.hid ((Bs _).st _ _ _ B2.out b8)))); clear e1 e2 e3 e4 b8)) | (go_at_call 22; (with_reducible refine (HSM.out _ _ _ AT.out.val A11.out.val).mono ?_); rintro e w8 ⟨rfl, hb⟩; ((replace RG := Lib.hid (RG.out.keep hb); replace SX := Lib.hid (SX.out.keep hb); replace VY := Lib.hid (VY.out.keep hb); replace BQ := Lib.hid (BQ.out.trans ((hb).mono BQ.out.size)); (try replace AT := Lib.hid (AT.out.keep hb)); (try replace A11 := Lib.hid (A11.out.keep hb)); (try replace B1 := Lib.hid ((Bs _).st _ _ _ B1.out hb)); (try replace B2 := Lib.hid ((Bs _).st _ _ _ B2.out hb)))); clear hb) | (go_at_call 17; (with_reducible refine (HSR.out _ _ _ AT.out.val A11.out.val).mono ?_); rintro e w9 ⟨rfl, hb⟩; ((replace RG := Lib.hid (RG.out.keep hb); replace SX := Lib.hid (SX.out.keep hb); replace VY := Lib.hid (VY.out.keep hb); replace BQ := Lib.hid (BQ.out.trans ((hb).mono BQ.out.size)); (try replace AT := Lib.hid (AT.out.keep hb)); (try replace A11 := Lib.hid (A11.out.keep hb)); (try replace B1 := Lib.hid ((Bs _).st _ _ _ B1.out hb)); (try replace B2 := Lib.hid ((Bs _).st _ _ _ B2.out hb)))); clear hb))
            go_roundw
            case rel => exact ⟨1, by omega, rfl, RG.out, SX.out, VY.out, BQ.out⟩
            case measure => simp [Go.RowKit.intOf]
        · have hm := RG.out.mid 79 79 33 (cc := cy) (by simp [HS79.out, SY.out]) (Rt.extract_two cx cy HS79.out SY.out) Tryd.underlying33 rfl (by rw [Rt.size33])
          obtain ⟨r, cr, hin, HLD, VR, FR⟩ : ∃ (r : Rt.RV) (cr : Array Value), r.In ∧ Hid ((loadVar 33 ⟨g, 79, none⟩).run Tryd.prog wr = .ok (.agg cr) wr) ∧ Hid (Rt.Val wr r (.agg cr)) ∧ Hid (Rt.Fit cr) := ⟨y, cy, IY, Lib.hid hm, Lib.hid VY.out.val, Lib.hid (by obtain ⟨cs, e, hf, _⟩ := VY.out.fit IY; cases e; exact hf)⟩
          clear hm
          obtain ⟨RR, hRR⟩ : ∃ b, r.right = b := ⟨_, rfl⟩
          have HRI := Lib.hid hin
          cases RR
          · obtain ⟨L, hL⟩ : ∃ L : List Int, L = [] := ⟨_, rfl⟩
            have HPU : Hid (∀ u v, Rt.Val u r v → Utf8Tabs 0 1 u → Calls Tryd.prog 23 #[v] u (Rt.Wrote u L 20)) := Lib.hid fun u v hv hT => by
              have := Rt.V.put hv HRI.out hT
              unfold Rt.RV.wrote Rt.RV.werr at this
              rw [hRR] at this
              rw [hL]
              exact this
            have HPR : Hid (∀ u v, Rt.Val u r v → Utf8Tabs 0 1 u → Calls Tryd.prog 24 #[v] u (Rt.Wrote u L 20)) := Lib.hid fun u v hv hT => by
              have := Rt.V.putR hv HRI.out hT
              unfold Rt.RV.wrote Rt.RV.werr at this
              rw [hRR] at this
              rw [hL]
              exact this
            clear hRR hL
            go_wp2_with (first | (have _t := HLD; (with_reducible refine Rt.load_at 33 (x := .tmp 33) ?_ ⟨g, 79, none⟩ ?_ ?_ HLD.out ?_); (with_reducible exact rfl); (exact rfl); (kernel_rfl); clear _t) | (have _t := FR; (with_reducible refine Rt.store_at 33 (x := .tmp 6) (v := .tmp 34) (cs := cr) ?_ wr.heap.size ?_ ?_ ?_ (Rt.Row.new wr 33 Tryd.zeroCells33) ?_ ?_ ?_ ?_); (with_reducible exact rfl); (exact rfl); (exact rfl); (kernel_rfl); (exact FR.out.eq); (exact FR.out.inf); (exact FR.out.one); (clear _t; intro w3 e1 e2 e3 e4; have b8 := e4 wr.heap.size wr (Nat.le_refl _) ((Below.refl _ _).alloc (Nat.le_refl _) _); have AT := Lib.hid (Rt.At.new e1 VR.out FR.out b8); ((replace RG := Lib.hid (RG.out.keep b8); replace SX := Lib.hid (SX.out.keep b8); replace VY := Lib.hid (VY.out.keep b8); replace BQ := Lib.hid (BQ.out.trans ((b8).mono BQ.out.size)); (try replace AT := Lib.hid (AT.out.keep b8)); (try replace A11 := Lib.hid (A11.out.keep b8)); (try replace B1 := Lib.hid ((Bs _).st _ _ _ B1.out b8)); (try replace B2 := Lib.hid ((Bs _).st _ _ _ B2.out b8)))); clear e1 e2 e3 e4 b8)) | (have _t := AT; (with_reducible refine Rt.load_at 33 (x := .tmp 6) ?_ ⟨wr.heap.size, 0, none⟩ ?_ ?_ (AT.out.row.whole33 AT.out.size) ?_); (with_reducible exact rfl); (exact rfl); (exact rfl); clear _t) | (go_at_call 23; (with_reducible refine (HPU.out _ _ AT.out.val (Utf8Tabs_below hT BQ.out)).mono ?_); rintro e w4 ⟨hb, v, rfl, hv⟩; obtain ⟨ab, nb, cb, rfl, sb⟩ := ow_bs hv; ((replace RG := Lib.hid (RG.out.keep hb); replace SX := Lib.hid (SX.out.keep hb); replace VY := Lib.hid (VY.out.keep hb); replace BQ := Lib.hid (BQ.out.trans ((hb).mono BQ.out.size)); (try replace AT := Lib.hid (AT.out.keep hb)); (try replace A11 := Lib.hid (A11.out.keep hb)); (try replace B1 := Lib.hid ((Bs _).st _ _ _ B1.out hb)); (try replace B2 := Lib.hid ((Bs _).st _ _ _ B2.out hb)))); have B1 : Hid ((Bs L).p (.slice ab nb cb) w4) := Lib.hid ⟨ab, nb, cb, rfl, sb⟩; clear hv sb hb) | (go_at_call 24; (with_reducible refine (HPR.out _ _ AT.out.val (Utf8Tabs_below hT BQ.out)).mono ?_); rintro e w5 ⟨hb, v, rfl, hv⟩; obtain ⟨ad, nd, cd, rfl, sd⟩ := ow_bs hv; ((replace RG := Lib.hid (RG.out.keep hb); replace SX := Lib.hid (SX.out.keep hb); replace VY := Lib.hid (VY.out.keep hb); replace BQ := Lib.hid (BQ.out.trans ((hb).mono BQ.out.size)); (try replace AT := Lib.hid (AT.out.keep hb)); (try replace A11 := Lib.hid (A11.out.keep hb)); (try replace B1 := Lib.hid ((Bs _).st _ _ _ B1.out hb)); (try replace B2 := Lib.hid ((Bs _).st _ _ _ B2.out hb)))); have B2 : Hid ((Bs L).p (.slice ad nd cd) w5) := Lib.hid ⟨ad, nd, cd, rfl, sd⟩; clear hv sd hb) | (have _t := B1; (with_reducible refine Rt.conv_at 34 9 (x := .tmp 49) ?_ (v := .slice ab nb cb) ?_ ?_ (s := strOfNums L) (Rt.bs_conv B1.out) ?_); (with_reducible exact rfl); (exact rfl); (exact rfl); clear _t) | (have _t := B2; (with_reducible refine Rt.conv_at 34 9 (x := .tmp 51) ?_ (v := .slice ad nd cd) ?_ ?_ (s := strOfNums L) (Rt.bs_conv B2.out) ?_); (with_reducible exact rfl); (exact rfl); (exact rfl); clear _t))
            go_roundw
            case rel => exact ⟨2, by omega, rfl, RG.out, SX.out, VY.out, BQ.out⟩
            case measure => simp [Go.RowKit.intOf]
          · obtain ⟨L, hL⟩ : ∃ L : List Int, L = r.bytes := ⟨_, rfl⟩
            have HPU : Hid (∀ u v, Rt.Val u r v → Utf8Tabs 0 1 u → Calls Tryd.prog 23 #[v] u (Rt.Wrote u L 0)) := Lib.hid fun u v hv hT => by
              have := Rt.V.put hv HRI.out hT
              unfold Rt.RV.wrote Rt.RV.werr at this
              rw [hRR] at this
              rw [hL]
              exact this
            have HPR : Hid (∀ u v, Rt.Val u r v → Utf8Tabs 0 1 u → Calls Tryd.prog 24 #[v] u (Rt.Wrote u L 0)) := Lib.hid fun u v hv hT => by
              have := Rt.V.putR hv HRI.out hT
              unfold Rt.RV.wrote Rt.RV.werr at this
              rw [hRR] at this
              rw [hL]
              exact this
            have HRD : Hid (∀ u v, (Bs L).p v u → Utf8Tabs 0 1 u → Calls Tryd.prog 25 #[v] u (Rt.Tells u r 0)) := Lib.hid fun u v hv hT => by
              rw [hL] at hv
              have h := Rt.V.read hv (Rt.bytes_in r HRI.out hRR).2 (Rt.bytes_in r HRI.out hRR).1 hT
              rwa [(Rt.rd_back r HRI.out hRR).1, (Rt.rd_back r HRI.out hRR).2] at h
            have HSM : Hid (∀ u v v', Rt.Val u r v → Rt.Val u r v' → Calls Tryd.prog 22 #[v, v'] u (Rt.Says u true)) := Lib.hid fun u v v' h h' => by
              have := Rt.V.same h h' HRI.out HRI.out
              rwa [Rt.RV.same_self] at this
            have HSR : Hid (∀ u v v', Rt.Val u r v → Rt.Val u r v' → Calls Tryd.prog 17 #[v, v'] u (Rt.Says u true)) := Lib.hid fun u v v' h h' => by
              have := Rt.V.sameR h h' HRI.out HRI.out
              rwa [Rt.RV.same_self] at this
            clear hRR hL
            go_wp2_with (first | (have _t := HLD; (with_reducible refine Rt.load_at 33 (x := .tmp 33) ?_ ⟨g, 79, none⟩ ?_ ?_ HLD.out ?_); (with_reducible exact rfl); (exact rfl); (kernel_rfl); clear _t) | (have _t := FR; (with_reducible refine Rt.store_at 33 (x := .tmp 6) (v := .tmp 34) (cs := cr) ?_ wr.heap.size ?_ ?_ ?_ (Rt.Row.new wr 33 Tryd.zeroCells33) ?_ ?_ ?_ ?_); (with_reducible exact rfl); (exact rfl); (exact rfl); (kernel_rfl); (exact FR.out.eq); (exact FR.out.inf); (exact FR.out.one); (clear _t; intro w3 e1 e2 e3 e4; have b8 := e4 wr.heap.size wr (Nat.le_refl _) ((Below.refl _ _).alloc (Nat.le_refl _) _); have AT := Lib.hid (Rt.At.new e1 VR.out FR.out b8); ((replace RG := Lib.hid (RG.out.keep b8); replace SX := Lib.hid (SX.out.keep b8); replace VY := Lib.hid (VY.out.keep b8); replace BQ := Lib.hid (BQ.out.trans ((b8).mono BQ.out.size)); (try replace AT := Lib.hid (AT.out.keep b8)); (try replace A11 := Lib.hid (A11.out.keep b8)); (try replace B1 := Lib.hid ((Bs _).st _ _ _ B1.out b8)); (try replace B2 := Lib.hid ((Bs _).st _ _ _ B2.out b8)))); clear e1 e2 e3 e4 b8)) | (have _t := AT; (with_reducible refine Rt.load_at 33 (x := .tmp 6) ?_ ⟨wr.heap.size, 0, none⟩ ?_ ?_ (AT.out.row.whole33 AT.out.size) ?_); (with_reducible exact rfl); (exact rfl); (exact rfl); clear _t) | (have _t := A11; (with_reducible refine Rt.load_at 33 (x := .tmp 11) ?_ ⟨w6.heap.size, 0, none⟩ ?_ ?_ (A11.out.row.whole33 A11.out.size) ?_); (with_reducible exact rfl); (exact rfl); (exact rfl); clear _t) | (go_at_call 23; (with_reducible refine (HPU.out _ _ AT.out.val (Utf8Tabs_below hT BQ.out)).mono ?_); rintro e w4 ⟨hb, v, rfl, hv⟩; obtain ⟨ab, nb, cb, rfl, sb⟩ := ow_bs hv; ((replace RG := Lib.hid (RG.out.keep hb); replace SX := Lib.hid (SX.out.keep hb); replace VY := Lib.hid (VY.out.keep hb); replace BQ := Lib.hid (BQ.out.trans ((hb).mono BQ.out.size)); (try replace AT := Lib.hid (AT.out.keep hb)); (try replace A11 := Lib.hid (A11.out.keep hb)); (try replace B1 := Lib.hid ((Bs _).st _ _ _ B1.out hb)); (try replace B2 := Lib.hid ((Bs _).st _ _ _ B2.out hb)))); have B1 : Hid ((Bs L).p (.slice ab nb cb) w4) := Lib.hid ⟨ab, nb, cb, rfl, sb⟩; clear hv sb hb) | (go_at_call 24; (with_reducible refine (HPR.out _ _ AT.out.val (Utf8Tabs_below hT BQ.out)).mono ?_); rintro e w5 ⟨hb, v, rfl, hv⟩; obtain ⟨ad, nd, cd, rfl, sd⟩ := ow_bs hv; ((replace RG := Lib.hid (RG.out.keep hb); replace SX := Lib.hid (SX.out.keep hb); replace VY := Lib.hid (VY.out.keep hb); replace BQ := Lib.hid (BQ.out.trans ((hb).mono BQ.out.size)); (try replace AT := Lib.hid (AT.out.keep hb)); (try replace A11 := Lib.hid (A11.out.keep hb)); (try replace B1 := Lib.hid ((Bs _).st _ _ _ B1.out hb)); (try replace B2 := Lib.hid ((Bs _).st _ _ _ B2.out hb)))); have B2 : Hid ((Bs L).p (.slice ad nd cd) w5) := Lib.hid ⟨ad, nd, cd, rfl, sd⟩; clear hv sd hb) | (have _t := B1; (with_reducible refine Rt.conv_at 34 9 (x := .tmp 49) ?_ (v := .slice ab nb cb) ?_ ?_ (s := strOfNums L) (Rt.bs_conv B1.out) ?_); (with_reducible exact rfl); (exact rfl); (exact rfl); clear _t) | (have _t := B2; (with_reducible refine Rt.conv_at 34 9 (x := .tmp 51) ?_ (v := .slice ad nd cd) ?_ ?_ (s := strOfNums L) (Rt.bs_conv B2.out) ?_); (with_reducible exact rfl); (exact rfl); (exact rfl); clear _t) | (go_at_call 25; (with_reducible refine (HRD.out _ _ B1.out (Utf8Tabs_below hT BQ.out)).mono ?_); rintro e w6 ⟨hb, v, rfl, hv⟩; obtain ⟨ce, rfl, hf, hv⟩ := hv.fit HRI.out; have FE := Lib.hid hf; have VE := Lib.hid hv; ((replace RG := Lib.hid (RG.out.keep hb); replace SX := Lib.hid (SX.out.keep hb); replace VY := Lib.hid (VY.out.keep hb); replace BQ := Lib.hid (BQ.out.trans ((hb).mono BQ.out.size)); (try replace AT := Lib.hid (AT.out.keep hb)); (try replace A11 := Lib.hid (A11.out.keep hb)); (try replace B1 := Lib.hid ((Bs _).st _ _ _ B1.out hb)); (try replace B2 := Lib.hid ((Bs _).st _ _ _ B2.out hb)))); clear hf hv hb) | (have _t := FE; (with_reducible refine Rt.store_at 33 (x := .tmp 11) (v := .tmp 60) (cs := ce) ?_ w6.heap.size ?_ ?_ ?_ (Rt.Row.new w6 33 Tryd.zeroCells33) ?_ ?_ ?_ ?_); (with_reducible exact rfl); (exact rfl); (exact rfl); (kernel_rfl); (exact FE.out.eq); (exact FE.out.inf); (exact FE.out.one); (clear _t; intro w7 e1 e2 e3 e4; have b8 := e4 w6.heap.size w6 (Nat.le_refl _) ((Below.refl _ _).alloc (Nat.le_refl _) _); have A11 := Lib.hid (Rt.At.new e1 VE.out FE.out b8); ((replace RG := Lib.hid (RG.out.keep b8); replace SX := Lib.hid (SX.out.keep b8); replace VY := Lib.hid (VY.out.keep b8); replace BQ := Lib.hid (BQ.out.trans ((b8).mono BQ.out.size)); (try replace AT := Lib.hid (AT.out.keep b8)); (try replace A11 := Lib.hid (A11.out.keep b8)); (try replace B1 := Lib.hid ((Bs _).st _ _ _ B1.out b8)); (try replace B2 := Lib.hid ((Bs _).st _ _ _ B2.out b8)))); clear e1 e2 e3 e4 b8)) | (go_at_call 22; (with_reducible refine (HSM.out _ _ _ AT.out.val A11.out.val).mono ?_); rintro e w8 ⟨rfl, hb⟩; ((replace RG := Lib.hid (RG.out.keep hb); replace SX := Lib.hid (SX.out.keep hb); replace VY := Lib.hid (VY.out.keep hb); replace BQ := Lib.hid (BQ.out.trans ((hb).mono BQ.out.size)); (try replace AT := Lib.hid (AT.out.keep hb)); (try replace A11 := Lib.hid (A11.out.keep hb)); (try replace B1 := Lib.hid ((Bs _).st _ _ _ B1.out hb)); (try replace B2 := Lib.hid ((Bs _).st _ _ _ B2.out hb)))); clear hb) | (go_at_call 17; (with_reducible refine (HSR.out _ _ _ AT.out.val A11.out.val).mono ?_); rintro e w9 ⟨rfl, hb⟩; ((replace RG := Lib.hid (RG.out.keep hb); replace SX := Lib.hid (SX.out.keep hb); replace VY := Lib.hid (VY.out.keep hb); replace BQ := Lib.hid (BQ.out.trans ((hb).mono BQ.out.size)); (try replace AT := Lib.hid (AT.out.keep hb)); (try replace A11 := Lib.hid (A11.out.keep hb)); (try replace B1 := Lib.hid ((Bs _).st _ _ _ B1.out hb)); (try replace B2 := Lib.hid ((Bs _).st _ _ _ B2.out hb)))); clear hb))
            go_roundw
            case rel => exact ⟨2, by omega, rfl, RG.out, SX.out, VY.out, BQ.out⟩
            case measure => simp [Go.RowKit.intOf]
        · go_wp2_with fail
          rw [← HQ.out]
          exact ⟨rfl, BQ.out⟩
    · have hs1 : (100 : Int) < (st.size : Int) := by omega
      go_wp2_with (go_at_call 10; refine (Rt.known _ (Utf8Tabs_below hT BB.out)).mono ?_; rintro e w2 ⟨rfl, hb⟩; replace R1 := Lib.hid (R1.out.keep hb); replace R2 := Lib.hid (R2.out.keep hb); replace BB := Lib.hid (BB.out.trans (hb.mono BB.out.size)); clear hb; have k4 := R1.out.cell 4 H4.out; have k6 := R1.out.cell 6 H6.out)
      rw [← HQ.out]
      exact ⟨rfl, BB.out⟩
  · have hn1 : (30 : Int) < (n : Int) := by omega
    go_wp2_with (go_at_call 10; refine (Rt.known _ (Utf8Tabs_below hT BB.out)).mono ?_; rintro e w2 ⟨rfl, hb⟩; replace R1 := Lib.hid (R1.out.keep hb); replace R2 := Lib.hid (R2.out.keep hb); replace BB := Lib.hid (BB.out.trans (hb.mono BB.out.size)); clear hb; have k4 := R1.out.cell 4 H4.out; have k6 := R1.out.cell 6 H6.out)
    rw [← HQ.out]
    exact ⟨rfl, BB.out⟩
end Go.Proofs
