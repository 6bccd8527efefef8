/- The seat's routes. -/
import Derived.Test.YtfiillledfkdkaaDoorRtY1
set_option linter.unusedVariables false
set_option linter.unusedSimpArgs false
set_option linter.unusedSimpArgs false
namespace Go.Proofs
open Go.Shelf Go.RowKit Go.Lib Go.Rt Go.Nam Go.Tp
/-- What stays while the path is built. -/
structure Rt.AnK (w : World) (R N : Nat) (an : Array Value) (X : Rt.RV) (v : Value) (j : Nat) (zs : List ByteArray) (u : World) : Prop where
  own : u.ownsRow N 9 1 v j (zs.map Value.string)
  ann : Rt.Row u w.heap.size 37 an
  res : Rt.Row u (w.heap.size + 1) 33 Tryd.zeroCells33
  row : Rt.Row u R 33 ((X.cells none 0 0).setIfInBounds 4 v)
  bel : Below w.heap.size w u
  sz : N ≤ u.heap.size
theorem Rt.AnK.keep {w u u' : World} {R N j : Nat} {an : Array Value} {X : Rt.RV} {v : Value} {zs : List ByteArray} (h : Rt.AnK w R N an X v j zs u) (k : Below u.heap.size u u') : Rt.AnK w R N an X v j zs u' :=
  ⟨h.own.kept (grown_below (row := none) k) (by
      cases hv : v.ownBlock with
      | none => exact .inl rfl
      | some g => exact .inr (by simp)), h.ann.keep k, h.res.keep k, h.row.keep k, h.bel.trans (k.mono h.bel.size), Nat.le_trans h.sz k.size⟩
/-- What stays behind it. -/
structure Rt.AnT (w : World) (R C : Nat) (an D : Array Value) (p : Rt.Pf) (a : Option Addr) (n : Nat) (zs : List ByteArray) (u : World) : Prop where
  ann : Rt.Row u w.heap.size 37 an
  res : Rt.Row u (w.heap.size + 1) 33 Tryd.zeroCells33
  row : Rt.Row u R 33 D
  pf : Rt.Row u C 26 p.cells
  st : Rt.Strs u a n zs
  bel : Below w.heap.size w u
  ty : Rt.StrT u a
  far : ∀ b off, a = some ⟨b, off, none⟩ → R < b ∧ b < C
  r0 : w.heap.size + 1 < R
  r1 : R < C
section
variable {w u u' : World} {R C n : Nat} {an D D' : Array Value} {p p' : Rt.Pf} {a : Option Addr} {zs : List ByteArray}
theorem Rt.AnT.keep (h : Rt.AnT w R C an D p a n zs u) (k : Below u.heap.size u u') : Rt.AnT w R C an D p a n zs u' :=
  ⟨h.ann.keep k, h.res.keep k, h.row.keep k, h.pf.keep k, h.st.keep k, h.bel.trans (k.mono h.bel.size), h.ty.keep k, h.far, h.r0, h.r1⟩
theorem Rt.AnT.setR (h : Rt.AnT w R C an D p a n zs u) (hr : Rt.Row u' R 33 D') (g : u.grownBy u' (some R)) : Rt.AnT w R C an D' p a n zs u' :=
  ⟨h.ann.by g (by simp; have := h.r0; omega), h.res.by g (by simp; have := h.r0; omega), hr, h.pf.by g (by simp; have := h.r1; omega), h.st.moved g.size (fun b off e => g.block b (by obtain ⟨_, h2⟩ := h.far b off e; have := h.pf.lt; omega) (by simp; have := h.far b off e; omega)),
    h.bel.grown g h.bel.size (fun b e => by cases e; have := h.r0; omega), h.ty.moved (fun b off e => g.block b (by obtain ⟨_, h2⟩ := h.far b off e; have := h.pf.lt; omega) (by simp; have := h.far b off e; omega)), h.far, h.r0, h.r1⟩
theorem Rt.AnT.setC (h : Rt.AnT w R C an D p a n zs u) (hr : Rt.Row u' C 26 p'.cells) (g : u.grownBy u' (some C)) : Rt.AnT w R C an D p' a n zs u' :=
  ⟨h.ann.by g (by simp; have := h.r0; have := h.r1; omega), h.res.by g (by simp; have := h.r0; have := h.r1; omega), h.row.by g (by simp; have := h.r1; omega), hr, h.st.moved g.size (fun b off e => g.block b (by obtain ⟨_, h2⟩ := h.far b off e; have := h.pf.lt; omega) (by simp; have := h.far b off e; omega)),
    h.bel.grown g h.bel.size (fun b e => by cases e; have := h.r0; have := h.r1; omega), h.ty.moved (fun b off e => g.block b (by obtain ⟨_, h2⟩ := h.far b off e; have := h.pf.lt; omega) (by simp; have := h.far b off e; omega)), h.far, h.r0, h.r1⟩
end
theorem Rt.grown_eq {w w' : World} {B : Nat} (hs : w'.heap.size = w.heap.size) (h : ∀ b, b ≠ B → w'.heap[b]? = w.heap[b]?) (hb : Below 0 w w') : w.grownBy w' (some B) :=
  ⟨hb.os, hb.tape, hb.output, by omega, fun b _ hn => h b (fun e => hn (by rw [e]))⟩
theorem Rt.getLastD_snoc (l : List ByteArray) (x s : ByteArray) : (l ++ [x]).getLastD s = x := by simp [List.getLastD_eq_getLast?]
theorem Rt.Ann.zs_succ (A : Rt.Ann) (j : Nat) (h : j < A.path.length) : A.zs (j + 1) = A.zs j ++ [Rt.nameOf (A.path.getD j 0)] := by
  unfold Rt.Ann.zs
  rw [List.take_succ_eq_append_getElem h, List.map_append]
  simp [List.getD, h]
theorem Rt.Ann.zs_length (A : Rt.Ann) (j : Nat) (h : j ≤ A.path.length) : (A.zs j).length = j := by simp [Rt.Ann.zs]; omega
theorem Rt.Ann.zs_end (A : Rt.Ann) (j : Nat) (h : j ≤ 6) (h2 : j = 6 ∨ j = A.path.length) : A.zs 6 = A.zs j := by
  unfold Rt.Ann.zs
  rcases h2 with rfl | rfl
  · rfl
  · rw [List.take_of_length_le h, List.take_of_length_le (Nat.le_refl _)]
theorem Rt.own_ne {u : World} {base R n : Nat} {e : TypeId} {v : Value} {xs : List Value} (h : u.ownsRow base e 1 v n xs) (hR : R < base) : v.ownBlock = none ∨ v.ownBlock ≠ some R := .inr fun e => by have := (h.lt R e).1; omega
theorem Rt.new_row {u : World} {base : Nat} {t : TypeId} {cs : Array Value} (hb : base ≤ u.heap.size) : (NewRow base t cs).p (.pointer (some ⟨u.heap.size, 0, none⟩)) (u.alloc (.cells cs t)) := ⟨_, rfl, hb, heap_alloc_new u _⟩
def Rt.Ann.x0 (A : Rt.Ann) : Rt.RV := ⟨A.pfx.v, A.pfx.hi, A.pfx.lo, A.pfx.len, [], A.cost, Rt.CV.zero⟩
def Rt.Ann.x1 (A : Rt.Ann) (j : Nat) : Rt.RV := ⟨A.pfx.v, A.pfx.hi, A.pfx.lo, A.pfx.len, A.zs j, A.cost, Rt.CV.zero⟩
theorem Rt.RV.cells_split (x : Rt.RV) (a : Option Addr) (n c : Nat) : x.cells a n c = (([.bool x.v, .int .u64 x.hi, .int .u64 x.lo, .int .i64 x.len, .slice a n c, .int .u32 x.co] : List Value) ++ x.cert.list ++ []).toArray := by simp [Rt.RV.cells]
theorem Rt.RV.cells_join (x : Rt.RV) (cc : Rt.CV) (a : Option Addr) (n c : Nat) : (([.bool x.v, .int .u64 x.hi, .int .u64 x.lo, .int .i64 x.len, .slice a n c, .int .u32 x.co] : List Value) ++ cc.cells.toList ++ []).toArray = Rt.RV.cells { x with cert := cc } a n c := by simp [Rt.RV.cells, Rt.CV.cells]
theorem Rt.CV.zero_len : Rt.CV.zero.list.length = 73 := by decide
theorem Rt.certV_sg (st : ByteArray) (v : Bool) (hi lo len k : Int) : (Rt.certV st v hi lo len k).sg.length = 64 := by simp [Rt.certV]
theorem Rt.Ann.rv2 (A : Rt.Ann) (s : ByteArray) (h : A.k % 8 = 2) : A.rv s = ⟨A.pfx.v, A.pfx.hi, A.pfx.lo, A.pfx.len, A.zs 6, A.cost, Rt.certV (Rt.nameOf (A.k / 8)) A.pfx.v A.pfx.hi A.pfx.lo A.pfx.len A.k⟩ := by
  simp [Rt.Ann.rv, Rt.Ann.cert, Rt.Ann.site, Rt.Ann.cpf, h]
theorem Rt.Ann.rv3 (A : Rt.Ann) (s : ByteArray) (h : A.k % 8 = 3) : A.rv s = ⟨A.pfx.v, A.pfx.hi, A.pfx.lo, A.pfx.len, A.zs 6, A.cost, Rt.certV (Rt.lastOf s (A.zs 6)) (Rt.pfS (A.k / 8) A.n).v (Rt.pfS (A.k / 8) A.n).hi (Rt.pfS (A.k / 8) A.n).lo (Rt.pfS (A.k / 8) A.n).len A.k⟩ := by
  simp [Rt.Ann.rv, Rt.Ann.cert, Rt.Ann.site, Rt.Ann.cpf, h]
theorem Rt.Ann.rv0 (A : Rt.Ann) (s : ByteArray) (h1 : ¬ A.k % 8 = 1) (h2 : ¬ A.k % 8 = 2) (h3 : ¬ A.k % 8 = 3) : A.rv s = ⟨A.pfx.v, A.pfx.hi, A.pfx.lo, A.pfx.len, A.zs 6, A.cost, Rt.certV (Rt.lastOf s (A.zs 6)) A.pfx.v A.pfx.hi A.pfx.lo A.pfx.len A.k⟩ := by
  simp [Rt.Ann.rv, Rt.Ann.cert, Rt.Ann.site, Rt.Ann.cpf, h1, h2, h3]
theorem Rt.Ann.rv1a (A : Rt.Ann) (s : ByteArray) (h : A.k % 8 = 1) (hl : A.pfx.len > 8) : A.rv s = ⟨A.pfx.v, A.pfx.hi, A.pfx.lo, A.pfx.len, A.zs 6, A.cost, { Rt.certV (Rt.lastOf s (A.zs 6)) (⟨A.pfx.v, mHi A.pfx.hi (A.pfx.len - 8), mLo A.pfx.lo (A.pfx.len - 8), A.pfx.len - 8⟩ : Rt.Pf).v (⟨A.pfx.v, mHi A.pfx.hi (A.pfx.len - 8), mLo A.pfx.lo (A.pfx.len - 8), A.pfx.len - 8⟩ : Rt.Pf).hi (⟨A.pfx.v, mHi A.pfx.hi (A.pfx.len - 8), mLo A.pfx.lo (A.pfx.len - 8), A.pfx.len - 8⟩ : Rt.Pf).lo (⟨A.pfx.v, mHi A.pfx.hi (A.pfx.len - 8), mLo A.pfx.lo (A.pfx.len - 8), A.pfx.len - 8⟩ : Rt.Pf).len A.k with mx := A.pfx.len }⟩ := by
  simp [Rt.Ann.rv, Rt.Ann.cert, Rt.Ann.site, Rt.Ann.cpf, h, hl]
theorem Rt.Ann.rv1b (A : Rt.Ann) (s : ByteArray) (h : A.k % 8 = 1) (hl : ¬ A.pfx.len > 8) : A.rv s = ⟨A.pfx.v, A.pfx.hi, A.pfx.lo, A.pfx.len, A.zs 6, A.cost, { Rt.certV (Rt.lastOf s (A.zs 6)) A.pfx.v A.pfx.hi A.pfx.lo A.pfx.len A.k with mx := A.pfx.len }⟩ := by
  simp [Rt.Ann.rv, Rt.Ann.cert, Rt.Ann.site, Rt.Ann.cpf, h, hl]
set_option maxHeartbeats 10000000 in
set_option maxRecDepth 100000 in
theorem Rt.annRoute (M : Rt.Ann) (hA : M.In) (s : ByteArray) (hss : s.size ≤ 255) (a : Option Addr) (m c : Nat) (w : World) (hZ : Sl w a m c (M.path.map (Value.int .u8))) :
    Calls Tryd.prog 11 #[.agg (M.cells a m c), .string s] w fun e w' => ∃ v, e = .returned v ∧ Rt.ValN w' (M.rv s) v ∧ Below w.heap.size w w' := by
  obtain ⟨i9, hi9, hz0, hz1, hz2⟩ := info_parts Rt.info9
  obtain ⟨w1, ew, ra, rr, hb1⟩ := Rt.box2 w (M.cells a m c) Tryd.zeroCells33 37 33
  have RA := Lib.hid ra
  have RR := Lib.hid rr
  have RB := Lib.hid hb1
  have HA := Lib.hid hA
  have HZ := Lib.hid hZ
  have hpx := fun u => Rt.prefixS M.p M.n hA.p0 hA.p1 hA.n0 hA.n1 u
  have K1 : ∀ u, Below w1.heap.size w1 u → u.cell? ⟨w.heap.size, 1, none⟩ = some (.int .u8 M.p) := fun u k => (RA.out.keep k).cell 1 rfl
  have K2 : ∀ u, Below w1.heap.size w1 u → u.cell? ⟨w.heap.size, 2, none⟩ = some (.int .u8 M.n) := fun u k => (RA.out.keep k).cell 2 rfl
  have K3 : ∀ u, Below w1.heap.size w1 u → u.cell? ⟨w.heap.size, 3, none⟩ = some (.int .u16 M.cost) := fun u k => (RA.out.keep k).cell 3 rfl
  have wc : IntKind.u32.wrap M.cost = M.cost := by rw [IntKind.wrap_u32]; have := hA.c0; have := hA.c1; omega
  have hml : M.path.length = m := by have := hZ.len; simpa using this
  clear ra rr hb1 hA hZ
  go_enter Tryd.func11, Tryd.ntmps11
  go_wp2_with fail
  refine Tp.region_ex (by kernel_rfl) 10 101 [[(2, none)], [(9, some 0)], [(2, none)], [(11, some 2)], [(10, some 1), (12, some 3)], [(2, none)], [(14, some 5)], [(15, some 6)], [(13, some 4), (16, some 7)], []] (by kernel_rfl) rfl ?_
  apply Exists.intro [_, _, _, _, _, _, _, _, _, _]
  refine ⟨⟨?_, ?_, ?_, ?_, ?_, ?_, ?_, ?_, ?_, ?_, trivial⟩, ?_⟩
  · intro A u hC hG hF hu hR; clear hG
    refine Tp.facts_old (fun h2 => ?_) rfl; conv at h2 => rhs; whnf
    refine Tp.facts_nil ?_
    refine Tp.wants_plain rfl ?_
    (apply Tp.gives_run; (simp [go_sem, hC, hF, hu, h2, K1, K2, K3, wc]; exact rfl); (refine Tp.given_is ?_; exact rfl))
  · intro A u hC hG hF hu hR; clear hG
    first | refine Tp.facts_is rfl (fun h9 => ?_) | refine Tp.facts_ty rfl (fun v9 h9 k9 => ?_)
    refine Tp.facts_nil ?_
    refine Tp.wants_plain rfl ?_
    (apply Tp.gives_run; (simp [go_sem, hC, hF, hu, h9, K1, K2, K3, wc]; exact rfl); (refine Tp.given_is ?_; exact rfl))
  · intro A u hC hG hF hu hR; clear hG
    refine Tp.facts_old (fun h2 => ?_) rfl; conv at h2 => rhs; whnf
    refine Tp.facts_nil ?_
    refine Tp.wants_plain rfl ?_
    (apply Tp.gives_run; (simp [go_sem, hC, hF, hu, h2, K1, K2, K3, wc]; exact rfl); (refine Tp.given_is ?_; exact rfl))
  · intro A u hC hG hF hu hR; clear hG
    first | refine Tp.facts_is rfl (fun h11 => ?_) | refine Tp.facts_ty rfl (fun v11 h11 k11 => ?_)
    refine Tp.facts_nil ?_
    refine Tp.wants_plain rfl ?_
    (apply Tp.gives_run; (simp [go_sem, hC, hF, hu, h11, K1, K2, K3, wc]; exact rfl); (refine Tp.given_is ?_; exact rfl))
  · intro A u hC hG hF hu hR; clear hG
    first | refine Tp.facts_is rfl (fun h10 => ?_) | refine Tp.facts_ty rfl (fun v10 h10 k10 => ?_)
    first | refine Tp.facts_is rfl (fun h12 => ?_) | refine Tp.facts_ty rfl (fun v12 h12 k12 => ?_)
    refine Tp.facts_nil ?_
    refine Tp.wants_plain rfl ?_
    (apply Tp.gives_run; (simp [go_sem, hC, hF, hu, h10, h12, K1, K2, K3, wc]; exact rfl); (refine Tp.given_call ?_ (T := Ty.is (.agg M.pfx.cells)) (Calls.mono (hpx u) fun _ _ h => ⟨_, h.1, rfl, h.2⟩); exact rfl))
  · intro A u hC hG hF hu hR; clear hG
    refine Tp.facts_old (fun h2 => ?_) rfl; conv at h2 => rhs; whnf
    refine Tp.facts_nil ?_
    refine Tp.wants_plain rfl ?_
    (apply Tp.gives_run; (simp [go_sem, hC, hF, hu, h2, K1, K2, K3, wc]; exact rfl); (refine Tp.given_is ?_; exact rfl))
  · intro A u hC hG hF hu hR; clear hG
    first | refine Tp.facts_is rfl (fun h14 => ?_) | refine Tp.facts_ty rfl (fun v14 h14 k14 => ?_)
    refine Tp.facts_nil ?_
    refine Tp.wants_plain rfl ?_
    (apply Tp.gives_run; (simp [go_sem, hC, hF, hu, h14, K1, K2, K3, wc]; exact rfl); (refine Tp.given_is ?_; exact rfl))
  · intro A u hC hG hF hu hR; clear hG
    first | refine Tp.facts_is rfl (fun h15 => ?_) | refine Tp.facts_ty rfl (fun v15 h15 k15 => ?_)
    refine Tp.facts_nil ?_
    refine Tp.wants_plain rfl ?_
    (apply Tp.gives_run; (simp [go_sem, hC, hF, hu, h15, K1, K2, K3, wc]; exact rfl); (refine Tp.given_is ?_; exact rfl))
  · intro A u hC hG hF hu hR; clear hG
    first | refine Tp.facts_is rfl (fun h13 => ?_) | refine Tp.facts_ty rfl (fun v13 h13 k13 => ?_)
    first | refine Tp.facts_is rfl (fun h16 => ?_) | refine Tp.facts_ty rfl (fun v16 h16 k16 => ?_)
    refine Tp.facts_nil ?_
    refine Tp.wants_plain rfl ?_
    (apply Tp.gives_run; (simp [go_sem, hC, hF, hu, h13, h16, K1, K2, K3, wc]; exact rfl); (refine Tp.given_is ?_; exact rfl))
  · intro A u hC hG hF hu hR; clear hG
    refine Tp.facts_nil ?_
    refine Tp.wants_plain rfl ?_
    (apply Tp.gives_run; (simp [go_sem, hC, hF, hu, K1, K2, K3, wc]; exact rfl); (refine Tp.given_ty ?_ (Rt.new_row (t := 33) (cs := Tryd.zeroCells33) hu.size) ((Below.refl _ _).alloc (Nat.le_refl _) _); exact rfl))
  intro wq1 bq1
  first | refine Tp.fin_is rfl rfl rfl ?_ | refine Tp.fin_ty rfl rfl rfl (fun y9 q9 => ?_)
  first | refine Tp.fin_is rfl rfl rfl ?_ | refine Tp.fin_ty rfl rfl rfl (fun y10 q10 => ?_)
  first | refine Tp.fin_is rfl rfl rfl ?_ | refine Tp.fin_ty rfl rfl rfl (fun y11 q11 => ?_)
  first | refine Tp.fin_is rfl rfl rfl ?_ | refine Tp.fin_ty rfl rfl rfl (fun y12 q12 => ?_)
  first | refine Tp.fin_is rfl rfl rfl ?_ | refine Tp.fin_ty rfl rfl rfl (fun y13 q13 => ?_)
  first | refine Tp.fin_is rfl rfl rfl ?_ | refine Tp.fin_ty rfl rfl rfl (fun y14 q14 => ?_)
  first | refine Tp.fin_is rfl rfl rfl ?_ | refine Tp.fin_ty rfl rfl rfl (fun y15 q15 => ?_)
  first | refine Tp.fin_is rfl rfl rfl ?_ | refine Tp.fin_ty rfl rfl rfl (fun y16 q16 => ?_)
  first | refine Tp.fin_is rfl rfl rfl ?_ | refine Tp.fin_ty rfl rfl rfl (fun y17 q17 => ?_)
  first | refine Tp.fin_is rfl rfl rfl ?_ | refine Tp.fin_ty rfl rfl rfl (fun y5 q5 => ?_)
  refine Tp.fin_nil ?_
  simp only [Act.put, List.setIfInBounds_toArray, List.set_cons_succ, List.set_cons_zero, List.drop_succ_cons, List.drop_zero, List.drop_nil]
  obtain ⟨R, rfl, hR0, hRR⟩ := q5
  have RQ : Rt.Row wq1 R 33 Tryd.zeroCells33 := hRR
  obtain ⟨x1, x2, x3⟩ : (M.x0.cells none 0 0).size = Tryd.zeroCells33.size ∧ (Tryd.prog.info? 33).map (·.size) = some (M.x0.cells none 0 0).size ∧ (M.x0.cells none 0 0).all (·.oneCell') = true := ⟨M.x0.size (by simp [Rt.Ann.x0, Rt.CV.zero]) _ _ _, M.x0.inf (by simp [Rt.Ann.x0, Rt.CV.zero]) _ _ _, M.x0.one _ _ _⟩
  have HX1 := Lib.hid x1
  have HS4 : Hid (∀ v, 4 < ((M.x0.cells none 0 0).setIfInBounds 4 v).size) := Lib.hid fun v => by rw [Array.size_setIfInBounds, M.x0.size (by simp [Rt.Ann.x0, Rt.CV.zero])]; decide
  have HX2 := Lib.hid x2
  have HX3 := Lib.hid x3
  clear x1 x2 x3 K1 K2 K3 hRR
  have hRs : w.heap.size + 1 < R := by
    have : w1.heap.size = w.heap.size + 2 := by rw [← ew]; simp
    omega
  have hRA := (RA.out.keep bq1)
  have hRO := (RR.out.keep bq1)
  have RBQ := Lib.hid (RB.out.trans (bq1.mono RB.out.size))
  have RA1 := Lib.hid hRA
  have RO1 := Lib.hid hRO
  have hRq := RQ.lt
  have RQ1 := Lib.hid RQ
  clear hRA hRO bq1 RB RA RR RQ
  go_wp2_with (refine Rt.store_at 33 rfl R rfl (cs := M.x0.cells none 0 0) rfl (by kernel_rfl) RQ1.out HX1.out HX2.out HX3.out ?_; intro w3 s1 s2 s3 s4)
  have HK0 : Hid (Rt.AnK w R w3.heap.size (M.cells a m c) M.x0 (.slice none 0 0) 0 [] w3) := Lib.hid ⟨World.ownsRow_nil _ _ _ _, (s3 _ (by omega)).trans RA1.out, (s3 _ (by omega)).trans RO1.out, s1, s4 _ _ (by omega) RBQ.out, Nat.le_refl _⟩
  have hRN : R < w3.heap.size := by rw [s2]; exact hRq
  clear s1 s2 s3 s4 RA1 RO1 RBQ RQ1 hRq hR0 ew
  generalize w3.heap.size = N at *
  go_loopw [6, 7] (fun l i wr => ∃ (j : Nat) (v : Value), j ≤ 6 ∧ j ≤ m ∧ i = .int .i64 (j : Int) ∧ l = .string (Rt.lastOf s (M.zs j)) ∧ Rt.AnK w R N (M.cells a m c) M.x0 v j (M.zs j) wr) (fun _ i _ => 6 - (Go.RowKit.intOf i).toNat)
  case atStart => exact ⟨0, .slice none 0 0, by omega, by omega, rfl, rfl, HK0.out⟩
  case round =>
    obtain ⟨j, v, hj6, hjm, rfl, rfl, hk⟩ := hrel
    have HK := Lib.hid hk
    clear hk
    have k0 : wr.cell? ⟨w.heap.size, 0, none⟩ = some (.slice a m c) := HK.out.ann.cell 0 rfl
    have HNM := Lib.hid (fun k => Rt.nameOf_small k)
    by_cases hj : j < 6 ∧ j < m
    · obtain ⟨hj6', hjm'⟩ := hj
      obtain ⟨b, off, rfl, hb⟩ := HZ.out.at_ (by omega)
      obtain ⟨X, hX⟩ : ∃ X, M.path.getD j 0 = X := ⟨_, rfl⟩
      have hXj : M.path[j]? = some X := by rw [← hX]; simp [List.getD, List.getElem?_eq_getElem (show j < M.path.length by omega)]
      have hX2 := HA.out.path X (List.mem_of_getElem? hXj)
      have hcell := HZ.out.cell b off rfl j (.int .u8 X) (by rw [List.getElem?_map, hXj]; rfl)
      have HCX : Hid (∀ u, Below w.heap.size w u → u.cell? ⟨b, off + j, none⟩ = some (.int .u8 X)) := Lib.hid fun u hu => (hu.cell (World.block_lt_of_cell? w _ hcell)).trans hcell
      have hzs := Rt.Ann.zs_succ M j (by omega)
      rw [hX] at hzs
      have HZS := Lib.hid hzs
      have hnm := fun u => Rt.name X hX2.1 hX2.2 u
      have K1 : ∀ u, Below wr.heap.size wr u → u.cell? ⟨R, 4, none⟩ = some v := fun u k => (HK.out.row.keep k).cell 4 rfl
      have K2 : ∀ u, Below wr.heap.size wr u → u.cell? ⟨w.heap.size, 0, none⟩ = some (.slice (some ⟨b, off, none⟩) m c) := fun u k => (HK.out.ann.keep k).cell 0 rfl
      have K3 : ∀ u, Below wr.heap.size wr u → u.cell? ⟨b, off + j, none⟩ = some (.int .u8 X) := fun u k => HCX.out u (HK.out.bel.trans (k.mono HK.out.bel.size))
      have q0 : (0 : Int) ≤ (j : Int) := Int.natCast_nonneg _
      have q1 : (j : Int) < (m : Int) := by omega
      have q2 : (j : Int) < 6 := by omega
      clear hX hXj hcell hzs hb
      go_wp2
      refine Tp.region_ex (by kernel_rfl) 9 101 [[(5, none)], [(30, some 0)], [(2, none)], [(32, some 2)], [(7, none)], [(33, some 3), (34, some 4)], [(35, some 5)], [(36, some 6)], [(37, some 7)]] (by kernel_rfl) rfl ?_
      apply Exists.intro [_, _, _, _, _, _, _, _, _]
      refine ⟨⟨?_, ?_, ?_, ?_, ?_, ?_, ?_, ?_, ?_, trivial⟩, ?_⟩
      · intro A u hC hG hF hu hR; clear hG
        refine Tp.facts_old (fun h5 => ?_) rfl; conv at h5 => rhs; whnf
        refine Tp.facts_nil ?_
        refine Tp.wants_plain rfl ?_
        (apply Tp.gives_run; (simp [go_sem, hC, hF, hu, h5, K1, K2, K3, addN, hjm', q0, q1]; exact rfl); (refine Tp.given_is ?_; exact rfl))
      · intro A u hC hG hF hu hR; clear hG
        first | refine Tp.facts_is rfl (fun h30 => ?_) | refine Tp.facts_ty rfl (fun v30 h30 k30 => ?_)
        refine Tp.facts_nil ?_
        refine Tp.wants_plain rfl ?_
        (apply Tp.gives_run; (simp [go_sem, hC, hF, hu, h30, K1, K2, K3, addN, hjm', q0, q1]; exact rfl); (refine Tp.given_is ?_; exact rfl))
      · intro A u hC hG hF hu hR; clear hG
        refine Tp.facts_old (fun h2 => ?_) rfl; conv at h2 => rhs; whnf
        refine Tp.facts_nil ?_
        refine Tp.wants_plain rfl ?_
        (apply Tp.gives_run; (simp [go_sem, hC, hF, hu, h2, K1, K2, K3, addN, hjm', q0, q1]; exact rfl); (refine Tp.given_is ?_; exact rfl))
      · intro A u hC hG hF hu hR; clear hG
        first | refine Tp.facts_is rfl (fun h32 => ?_) | refine Tp.facts_ty rfl (fun v32 h32 k32 => ?_)
        refine Tp.facts_nil ?_
        refine Tp.wants_plain rfl ?_
        (apply Tp.gives_run; (simp [go_sem, hC, hF, hu, h32, K1, K2, K3, addN, hjm', q0, q1]; exact rfl); (refine Tp.given_is ?_; exact rfl))
      · intro A u hC hG hF hu hR; clear hG
        refine Tp.facts_old (fun h7 => ?_) rfl; conv at h7 => rhs; whnf
        refine Tp.facts_nil ?_
        refine Tp.wants_plain rfl ?_
        (apply Tp.gives_run; (simp [go_sem, hC, hF, hu, h7, K1, K2, K3, addN, hjm', q0, q1]; exact rfl); (refine Tp.given_is ?_; exact rfl))
      · intro A u hC hG hF hu hR; clear hG
        first | refine Tp.facts_is rfl (fun h33 => ?_) | refine Tp.facts_ty rfl (fun v33 h33 k33 => ?_)
        first | refine Tp.facts_is rfl (fun h34 => ?_) | refine Tp.facts_ty rfl (fun v34 h34 k34 => ?_)
        refine Tp.facts_nil ?_
        refine Tp.wants_plain rfl ?_
        (apply Tp.gives_run; (simp [go_sem, hC, hF, hu, h33, h34, K1, K2, K3, addN, hjm', q0, q1]; exact rfl); (refine Tp.given_is ?_; exact rfl))
      · intro A u hC hG hF hu hR; clear hG
        first | refine Tp.facts_is rfl (fun h35 => ?_) | refine Tp.facts_ty rfl (fun v35 h35 k35 => ?_)
        refine Tp.facts_nil ?_
        refine Tp.wants_plain rfl ?_
        (apply Tp.gives_run; (simp [go_sem, hC, hF, hu, h35, K1, K2, K3, addN, hjm', q0, q1]; exact rfl); (refine Tp.given_is ?_; exact rfl))
      · intro A u hC hG hF hu hR; clear hG
        first | refine Tp.facts_is rfl (fun h36 => ?_) | refine Tp.facts_ty rfl (fun v36 h36 k36 => ?_)
        refine Tp.facts_nil ?_
        refine Tp.wants_plain rfl ?_
        (apply Tp.gives_run; (simp [go_sem, hC, hF, hu, h36, K1, K2, K3, addN, hjm', q0, q1]; exact rfl); (refine Tp.given_call ?_ (T := Ty.is (.string (Rt.nameOf X))) (Calls.mono (hnm u) fun _ _ h => ⟨_, h.1, rfl, h.2⟩); exact rfl))
      · intro A u hC hG hF hu hR; clear hG
        first | refine Tp.facts_is rfl (fun h37 => ?_) | refine Tp.facts_ty rfl (fun v37 h37 k37 => ?_)
        refine Tp.facts_nil ?_
        refine Tp.wants_plain rfl ?_
        (apply Tp.gives_run; (simp [go_sem, hC, hF, hu, h37, K1, K2, K3, addN, hjm', q0, q1]; exact rfl); (refine Tp.given_ty ?_ (Tp.cell1_new u 9 _) ((Below.refl _ _).alloc (Nat.le_refl _) _); exact rfl))
      intro wq2 bq2
      first | refine Tp.fin_is rfl rfl rfl ?_ | refine Tp.fin_ty rfl rfl rfl (fun y30 q30 => ?_)
      first | refine Tp.fin_is rfl rfl rfl ?_ | refine Tp.fin_ty rfl rfl rfl (fun y31 q31 => ?_)
      first | refine Tp.fin_is rfl rfl rfl ?_ | refine Tp.fin_ty rfl rfl rfl (fun y32 q32 => ?_)
      first | refine Tp.fin_is rfl rfl rfl ?_ | refine Tp.fin_ty rfl rfl rfl (fun y33 q33 => ?_)
      first | refine Tp.fin_is rfl rfl rfl ?_ | refine Tp.fin_ty rfl rfl rfl (fun y34 q34 => ?_)
      first | refine Tp.fin_is rfl rfl rfl ?_ | refine Tp.fin_ty rfl rfl rfl (fun y35 q35 => ?_)
      first | refine Tp.fin_is rfl rfl rfl ?_ | refine Tp.fin_ty rfl rfl rfl (fun y36 q36 => ?_)
      first | refine Tp.fin_is rfl rfl rfl ?_ | refine Tp.fin_ty rfl rfl rfl (fun y37 q37 => ?_)
      first | refine Tp.fin_is rfl rfl rfl ?_ | refine Tp.fin_ty rfl rfl rfl (fun y38 q38 => ?_)
      refine Tp.fin_nil ?_
      simp only [Act.put, List.setIfInBounds_toArray, List.set_cons_succ, List.set_cons_zero, List.drop_succ_cons, List.drop_zero, List.drop_nil]
      obtain ⟨g, rfl, s19⟩ := cell1_sl q38
      have HK1 := Lib.hid (HK.out.keep bq2)
      have S19 := Lib.hid s19
      clear q38 s19 bq2 K1 K2 K3 k0 HK
      go_wp2_with (first
        | (at_builtin; refine wpList_append_sl rfl (.tmp 31) (.tmp 38) 27 rfl N 9 i9 _ 16 Tryd.underlying27 hi9 hz0 hz1 hz2 rfl v j _ rfl HK1.out.own (some ⟨g, 0, none⟩) 1 1 _ rfl S19.out (by intro u hu; simp at hu; subst hu; rfl) (by simp only [maxLen]; omega) (by omega) HK1.out.sz ?_; intro v5 w5 own5 hg5 hat5; have hne : ∀ b, v.ownBlock = some b → N ≤ b := fun b e => (HK1.out.own.lt b e).1; have R5 : Hid (Rt.Row w5 R 33 ((M.x0.cells none 0 0).setIfInBounds 4 v)) := Lib.hid (HK1.out.row.by hg5 (fun e => by have := hne R e.symm; omega)); have A5 : Hid (Rt.Row w5 w.heap.size 37 (M.cells (some ⟨b, off, none⟩) m c)) := Lib.hid (HK1.out.ann.by hg5 (fun e => by have := hne _ e.symm; omega)); have O5 : Hid (Rt.Row w5 (w.heap.size + 1) 33 Tryd.zeroCells33) := Lib.hid (HK1.out.res.by hg5 (fun e => by have := hne _ e.symm; omega)); have B5 : Hid (Below w.heap.size w w5) := Lib.hid (HK1.out.bel.grown hg5 HK1.out.bel.size (fun b e => by have := hne b e; omega)); have Z5 : N ≤ w5.heap.size := Nat.le_trans HK1.out.sz hg5.size; obtain ⟨a5, cc5, rfl, s5, b5⟩ := Sl.of_own own5; have OW5 := Lib.hid own5; have BB5 := Lib.hid b5; clear own5 s5 hat5 hg5 b5 hne)
        | (have _t := R5; (with_reducible refine Rt.store_one 27 (x := .tmp 40) (v := .tmp 39) ?_ R 4 ?_ (z := .slice a5 (j + 1) cc5) ?_ ?_ R5.out ?_ ?_ ?_ ?_); (with_reducible exact rfl); (exact rfl); (exact rfl); (kernel_rfl); (exact HS4.out v); (kernel_rfl); (exact rfl); (clear _t; intro w6 r6 g6; have HK6 : Hid (Rt.AnK w R N (M.cells (some ⟨b, off, none⟩) m c) M.x0 (.slice a5 (j + 1) cc5) (j + 1) (M.zs (j + 1)) w6) := Lib.hid ⟨(by rw [HZS.out, List.map_append]; exact OW5.out.kept g6 (Rt.own_ne OW5.out (by omega))), A5.out.by g6 (by simp; omega), O5.out.by g6 (by simp; omega), (by rw [Array.setIfInBounds_setIfInBounds] at r6; exact r6), B5.out.grown g6 B5.out.size (fun b e => by cases e; omega), Nat.le_trans Z5 g6.size⟩; have k0 : w6.cell? ⟨w.heap.size, 0, none⟩ = some (.slice (some ⟨b, off, none⟩) m c) := HK6.out.ann.cell 0 rfl; have k3 : w6.cell? ⟨b, off + j, none⟩ = some (.int .u8 X) := HCX.out w6 HK6.out.bel; clear r6 g6))
        | (go_at_call 14; go_fit (hnm _); rintro e w7 ⟨rfl, hb7⟩; have HK7 := Lib.hid (HK6.out.keep hb7); clear hb7))
      go_roundw
      case rel => exact ⟨j + 1, .slice a5 (j + 1) cc5, by omega, by omega, by simp, by rw [HZS.out]; unfold Rt.lastOf; rw [Rt.getLastD_snoc], HK7.out⟩
      case measure => simp [Go.RowKit.intOf]; omega
    · have hzs := Rt.Ann.zs_end M j hj6 (by omega)
      obtain ⟨av, cv, hv, sv, bv⟩ := Sl.of_own HK.out.own
      subst hv
      have row : Rt.Row wr R 33 ((M.x1 j).cells av j cv) := HK.out.row
      have hx1 : ((M.x1 j).cells av j cv).size = 79 := (M.x1 j).size (by simp [Rt.Ann.x1, Rt.CV.zero]) _ _ _
      have HL26 := Lib.hid (row.mid 0 4 26 (cc := M.pfx.cells) (by rw [hx1]; decide) (by simp [Rt.RV.cells, Rt.Ann.x1, Rt.Pf.cells]) Tryd.underlying26 rfl (by kernel_rfl))
      have st : Rt.Strs wr av j (M.zs j) := Rt.Strs.of_sl sv (by omega) (by
        intro y hy
        obtain ⟨k, _, rfl⟩ := List.mem_map.1 hy
        have := Rt.nameOf_small k
        omega)
      have HT : Hid (∀ w8, Rt.Row w8 wr.heap.size 26 M.pfx.cells → w8.heap.size = (wr.alloc (.cells #[.bool false, .int .u64 0, .int .u64 0, .int .i64 0] 26)).heap.size → (∀ b, b ≠ wr.heap.size → w8.heap[b]? = (wr.alloc (.cells #[.bool false, .int .u64 0, .int .u64 0, .int .i64 0] 26)).heap[b]?) → (∀ (B0 : Nat) (x : World), B0 ≤ wr.heap.size → Below B0 x (wr.alloc (.cells #[.bool false, .int .u64 0, .int .u64 0, .int .i64 0] 26)) → Below B0 x w8) → Rt.AnT w R wr.heap.size (M.cells a m c) ((M.x1 j).cells av j cv) M.pfx av j (M.zs j) w8) := Lib.hid fun w8 e1 e2 e3 e4 => by
        have b8 := e4 wr.heap.size wr (Nat.le_refl _) ((Below.refl _ _).alloc (Nat.le_refl _) _)
        exact ⟨HK.out.ann.keep b8, HK.out.res.keep b8, row.keep b8, e1, st.keep b8, HK.out.bel.trans (b8.mono HK.out.bel.size), (Rt.StrT.of_own HK.out.own).keep b8, fun b off e => ⟨by have := bv b off e; omega, (HK.out.own.lt b (by rw [e]; rfl)).2⟩, hRs, row.lt⟩
      have HCV := Lib.hid sv.cap
      have HZS := Lib.hid hzs
      have t8 : M.k.tmod 8 = M.k % 8 := Int.tmod_eq_emod_of_nonneg HA.out.k0
      have t9 : M.k.tdiv 8 = M.k / 8 := Int.tdiv_eq_ediv_of_nonneg HA.out.k0
      have T8 := Lib.hid t8
      clear hzs sv bv row hx1 st t8
      have q0 : (0 : Int) ≤ (j : Int) := Int.natCast_nonneg _
      have k8 : M.k / 8 % 256 = M.k / 8 := by have := HA.out.k0; have := HA.out.k1; omega
      by_cases hjm' : j < m
      · have q1 : (j : Int) < (m : Int) := by omega
        have q2 : ¬ (j : Int) < 6 := by omega
        by_cases hk2 : M.k % 8 = 2
        · have t8 := T8.out
          rw [hk2] at t8
          obtain ⟨PF, hPF⟩ : ∃ p : Rt.Pf, p = M.pfx := ⟨_, rfl⟩
          obtain ⟨CC, hCC⟩ : ∃ x : Rt.CV, x = Rt.certV (Rt.nameOf (M.k / 8)) PF.v PF.hi PF.lo PF.len M.k := ⟨_, rfl⟩
          obtain ⟨XF, hXF⟩ : ∃ x : Rt.RV, x = ({ M.x1 j with cert := CC }) := ⟨_, rfl⟩
          have hsg : CC.sg.length = 64 := by rw [hCC]; exact Rt.certV_sg _ _ _ _ _ _
          have hsx : XF.cert.sg.length = 64 := by rw [hXF]; exact hsg
          have hpl : 0 ≤ PF.len ∧ PF.len ≤ 128 := by rw [hPF]; exact ⟨(Rt.pfS_len _ _).1, (Rt.pfS_len _ _).2.1⟩
          have hct : ∀ u, Calls Tryd.prog 28 #[.string (Rt.nameOf (M.k / 8)), .agg PF.cells, .int .u8 M.k] u fun e w' => e = .returned (.agg CC.cells) ∧ Below u.heap.size u w' := fun u => by rw [hCC]; exact Rt.certS (Rt.nameOf (M.k / 8)) PF.v PF.hi PF.lo PF.len M.k HA.out.k0 HA.out.k1 hpl.1 hpl.2 u
          have HC1 : Hid ((M.x1 j).cert.list.length = CC.cells.size) := Lib.hid (by show Rt.CV.zero.list.length = _; rw [Rt.CV.zero_len, CC.cells_size hsg])
          have HC2 : Hid ((Tryd.prog.info? 31).map (·.size) = some CC.cells.size) := Lib.hid (by rw [CC.cells_size hsg]; exact Rt.size31)
          have HC3 : Hid (CC.cells.all (·.oneCell') = true) := Lib.hid CC.one
          have HC5 : Hid (11 < (Rt.RV.cells { M.x1 j with cert := CC } av j cv).size) := Lib.hid (by rw [Rt.RV.size _ hsg]; decide)
          have HF1 : Hid ((XF.cells av j cv).size = 79) := Lib.hid (XF.size hsx _ _ _)
          have HF2 : Hid ((XF.cells av j cv).size = Tryd.zeroCells33.size) := Lib.hid (by rw [XF.size hsx]; kernel_rfl)
          have HF3 : Hid ((Tryd.prog.info? 33).map (·.size) = some (XF.cells av j cv).size) := Lib.hid (XF.inf hsx _ _ _)
          have HF4 : Hid ((XF.cells av j cv).all (·.oneCell') = true) := Lib.hid (XF.one _ _ _)
          have HFX := Lib.hid hXF
          have HCC := Lib.hid hCC
          have HPF := Lib.hid hPF
          clear hpl hsg hsx hCC hPF hXF
          have hn8 := fun u => Rt.name (M.k / 8) (by have := HA.out.k0; omega) (by have := HA.out.k0; have := HA.out.k1; omega) u
          go_wp2_with (first | (have _t := HL26; (with_reducible refine Rt.load_at 26 (x := .tmp 47) ?_ ⟨R, 0, none⟩ ?_ ?_ HL26.out ?_); (with_reducible exact rfl); (exact rfl); (kernel_rfl); clear _t) | (have _t := HL26; (with_reducible refine Rt.store_at 26 (x := .tmp 8) (v := .tmp 48) (cs := M.pfx.cells) ?_ wr.heap.size ?_ ?_ ?_ (Rt.Row.new wr 26 #[.bool false, .int .u64 0, .int .u64 0, .int .i64 0]) ?_ ?_ ?_ ?_); (with_reducible exact rfl); (exact rfl); (exact rfl); (kernel_rfl); (kernel_rfl); (kernel_rfl); (kernel_rfl); (clear _t; intro w8 e1 e2 e3 e4; have KK : Hid (Rt.AnT w R wr.heap.size (M.cells a m c) ((M.x1 j).cells av j cv) M.pfx av j (M.zs j) w8) := Lib.hid (HT.out w8 e1 e2 e3 e4); have kA4 := KK.out.ann.cell 4 (x := .int .u8 M.k) rfl; have kA2 := KK.out.ann.cell 2 (x := .int .u8 M.n) rfl; have kC3 := KK.out.pf.cell 3 (x := .int .i64 _) rfl; have kR3 := KK.out.row.cell 3 (x := .int .i64 M.pfx.len) rfl; clear e1 e2 e3 e4)) | (go_at_call 14; go_fit (hn8 _); rintro e w11 ⟨rfl, hb9⟩; replace KK := Lib.hid (KK.out.keep hb9); clear hb9; (clear kA4 kA2 kC3 kR3; have kA4 := KK.out.ann.cell 4 (x := .int .u8 M.k) rfl; have kA2 := KK.out.ann.cell 2 (x := .int .u8 M.n) rfl; have kC3 := KK.out.pf.cell 3 (x := .int .i64 _) rfl; have kR3 := KK.out.row.cell 3 (x := .int .i64 M.pfx.len) rfl)) | (have _t := KK; (with_reducible refine Rt.load_at 26 (x := .tmp 8) ?_ ⟨wr.heap.size, 0, none⟩ ?_ ?_ (KK.out.pf.mid 0 4 26 (cc := PF.cells) (by simp [Rt.Pf.cells]) (by rw [HPF.out]; simp [Rt.Pf.cells]) Tryd.underlying26 rfl (by kernel_rfl)) ?_); (with_reducible exact rfl); (exact rfl); (kernel_rfl); clear _t) | (go_at_call 28; go_fit (hct _); rintro e w12 ⟨rfl, hb9⟩; replace KK := Lib.hid (KK.out.keep hb9); clear hb9; (clear kA4 kA2 kC3 kR3; have kA4 := KK.out.ann.cell 4 (x := .int .u8 M.k) rfl; have kA2 := KK.out.ann.cell 2 (x := .int .u8 M.n) rfl; have kC3 := KK.out.pf.cell 3 (x := .int .i64 _) rfl; have kR3 := KK.out.row.cell 3 (x := .int .i64 M.pfx.len) rfl)) | (have t12 := KK.out.row; rw [Rt.RV.cells_split] at t12; (with_reducible refine Rt.store_part 31 (x := .tmp 90) (v := .tmp 89) ?_ R 6 ?_ (cs := CC.cells) ?_ ?_ t12 ?_ HC1.out HC2.out HC3.out ?_); (with_reducible exact rfl); (exact rfl); (exact rfl); (kernel_rfl); (exact rfl); (clear t12; intro w13 t13 g13; have t14 : Rt.Row w13 R 33 (Rt.RV.cells { M.x1 j with cert := CC } av j cv) := (Rt.RV.cells_join (M.x1 j) CC av j cv) ▸ t13; replace KK := Lib.hid (KK.out.setR t14 g13); clear t13 g13 t14; (clear kA4 kA2 kC3 kR3; have kA4 := KK.out.ann.cell 4 (x := .int .u8 M.k) rfl; have kA2 := KK.out.ann.cell 2 (x := .int .u8 M.n) rfl; have kC3 := KK.out.pf.cell 3 (x := .int .i64 _) rfl; have kR3 := KK.out.row.cell 3 (x := .int .i64 M.pfx.len) rfl); have kM := KK.out.row.cell 11 (x := .int .i64 CC.mx) rfl)) | (have t33 := KK.out.row; rw [← HFX.out] at t33; (with_reducible refine Rt.load_at 33 (x := .tmp 5) ?_ ⟨R, 0, none⟩ ?_ ?_ (t33.whole33 HF1.out) ?_); (with_reducible exact rfl); (exact rfl); (kernel_rfl); clear t33) | (have _t := KK; (with_reducible refine Rt.store_at 33 (x := .tmp 4) (v := .tmp 100) (cs := XF.cells av j cv) ?_ (w.heap.size + 1) ?_ ?_ ?_ KK.out.res ?_ ?_ ?_ ?_); (with_reducible exact rfl); (exact rfl); (exact rfl); (kernel_rfl); (exact HF2.out); (exact HF3.out); (exact HF4.out); (clear _t; intro w15 r1 r2 r3 r4)))
          exact bodyPost_ret (results_cell_row rfl _ _ _ 33 _ (0, 0) _ rfl r1 Tryd.underlying33 rfl HF3.out) rfl ⟨_, rfl, ⟨av, j, cv, by rw [HFX.out]; rw [Rt.Ann.rv2 M s hk2, HZS.out, HCC.out, HPF.out]; rfl, (show Rt.Strs w15 av j (M.rv s).path from by rw [show (M.rv s).path = M.zs j from HZS.out]; exact KK.out.st.moved (by rw [r2]; exact Nat.le_refl _) (fun b off e => r3 b (by have := KK.out.far b off e; have := KK.out.r0; omega))), HCV.out, KK.out.ty.moved (fun b off e => r3 b (by have := KK.out.far b off e; have := KK.out.r0; omega))⟩, r4 _ _ (by omega) KK.out.bel⟩
        · by_cases hk3 : M.k % 8 = 3
          · have t8 := T8.out
            rw [hk3] at t8
            obtain ⟨PF, hPF⟩ : ∃ p : Rt.Pf, p = Rt.pfS (M.k / 8) M.n := ⟨_, rfl⟩
            obtain ⟨CC, hCC⟩ : ∃ x : Rt.CV, x = Rt.certV (Rt.lastOf s (M.zs j)) PF.v PF.hi PF.lo PF.len M.k := ⟨_, rfl⟩
            obtain ⟨XF, hXF⟩ : ∃ x : Rt.RV, x = ({ M.x1 j with cert := CC }) := ⟨_, rfl⟩
            have hsg : CC.sg.length = 64 := by rw [hCC]; exact Rt.certV_sg _ _ _ _ _ _
            have hsx : XF.cert.sg.length = 64 := by rw [hXF]; exact hsg
            have hpl : 0 ≤ PF.len ∧ PF.len ≤ 128 := by rw [hPF]; exact ⟨(Rt.pfS_len _ _).1, (Rt.pfS_len _ _).2.1⟩
            have hct : ∀ u, Calls Tryd.prog 28 #[.string (Rt.lastOf s (M.zs j)), .agg PF.cells, .int .u8 M.k] u fun e w' => e = .returned (.agg CC.cells) ∧ Below u.heap.size u w' := fun u => by rw [hCC]; exact Rt.certS (Rt.lastOf s (M.zs j)) PF.v PF.hi PF.lo PF.len M.k HA.out.k0 HA.out.k1 hpl.1 hpl.2 u
            have HC1 : Hid ((M.x1 j).cert.list.length = CC.cells.size) := Lib.hid (by show Rt.CV.zero.list.length = _; rw [Rt.CV.zero_len, CC.cells_size hsg])
            have HC2 : Hid ((Tryd.prog.info? 31).map (·.size) = some CC.cells.size) := Lib.hid (by rw [CC.cells_size hsg]; exact Rt.size31)
            have HC3 : Hid (CC.cells.all (·.oneCell') = true) := Lib.hid CC.one
            have HC5 : Hid (11 < (Rt.RV.cells { M.x1 j with cert := CC } av j cv).size) := Lib.hid (by rw [Rt.RV.size _ hsg]; decide)
            have HF1 : Hid ((XF.cells av j cv).size = 79) := Lib.hid (XF.size hsx _ _ _)
            have HF2 : Hid ((XF.cells av j cv).size = Tryd.zeroCells33.size) := Lib.hid (by rw [XF.size hsx]; kernel_rfl)
            have HF3 : Hid ((Tryd.prog.info? 33).map (·.size) = some (XF.cells av j cv).size) := Lib.hid (XF.inf hsx _ _ _)
            have HF4 : Hid ((XF.cells av j cv).all (·.oneCell') = true) := Lib.hid (XF.one _ _ _)
            have HFX := Lib.hid hXF
            have HCC := Lib.hid hCC
            have HPF := Lib.hid hPF
            clear hpl hsg hsx hCC hPF hXF
            have hp8 := fun u => Rt.prefixS (M.k / 8) M.n (by have := HA.out.k0; omega) (by have := HA.out.k0; have := HA.out.k1; omega) HA.out.n0 HA.out.n1 u
            have hp8 : ∀ u, Calls Tryd.prog 27 #[.int .u8 (M.k / 8), .int .u8 M.n] u fun e w' => e = .returned (.agg PF.cells) ∧ Below u.heap.size u w' := by rw [← HPF.out.symm]; exact hp8
            go_wp2_with (first | (have _t := HL26; (with_reducible refine Rt.load_at 26 (x := .tmp 47) ?_ ⟨R, 0, none⟩ ?_ ?_ HL26.out ?_); (with_reducible exact rfl); (exact rfl); (kernel_rfl); clear _t) | (have _t := HL26; (with_reducible refine Rt.store_at 26 (x := .tmp 8) (v := .tmp 48) (cs := M.pfx.cells) ?_ wr.heap.size ?_ ?_ ?_ (Rt.Row.new wr 26 #[.bool false, .int .u64 0, .int .u64 0, .int .i64 0]) ?_ ?_ ?_ ?_); (with_reducible exact rfl); (exact rfl); (exact rfl); (kernel_rfl); (kernel_rfl); (kernel_rfl); (kernel_rfl); (clear _t; intro w8 e1 e2 e3 e4; have KK : Hid (Rt.AnT w R wr.heap.size (M.cells a m c) ((M.x1 j).cells av j cv) M.pfx av j (M.zs j) w8) := Lib.hid (HT.out w8 e1 e2 e3 e4); have kA4 := KK.out.ann.cell 4 (x := .int .u8 M.k) rfl; have kA2 := KK.out.ann.cell 2 (x := .int .u8 M.n) rfl; have kC3 := KK.out.pf.cell 3 (x := .int .i64 _) rfl; have kR3 := KK.out.row.cell 3 (x := .int .i64 M.pfx.len) rfl; clear e1 e2 e3 e4)) | (go_at_call 27; go_fit (hp8 _); rintro e w11 ⟨rfl, hb9⟩; replace KK := Lib.hid (KK.out.keep hb9); clear hb9; (clear kA4 kA2 kC3 kR3; have kA4 := KK.out.ann.cell 4 (x := .int .u8 M.k) rfl; have kA2 := KK.out.ann.cell 2 (x := .int .u8 M.n) rfl; have kC3 := KK.out.pf.cell 3 (x := .int .i64 _) rfl; have kR3 := KK.out.row.cell 3 (x := .int .i64 M.pfx.len) rfl)) | (have _t := KK; (with_reducible refine Rt.store_at 26 (x := .tmp 8) (v := .tmp 84) (cs := PF.cells) ?_ wr.heap.size ?_ ?_ ?_ KK.out.pf ?_ ?_ ?_ ?_); (with_reducible exact rfl); (exact rfl); (exact rfl); (kernel_rfl); (kernel_rfl); (kernel_rfl); (kernel_rfl); (clear _t; intro w10 e1 e2 e3 e4; replace KK := Lib.hid (KK.out.setC (p' := PF) e1 (Rt.grown_eq e2 e3 (e4 _ _ (Nat.zero_le _) (Below.refl _ _)))); clear e1 e2 e3 e4; (clear kA4 kA2 kC3 kR3; have kA4 := KK.out.ann.cell 4 (x := .int .u8 M.k) rfl; have kA2 := KK.out.ann.cell 2 (x := .int .u8 M.n) rfl; have kC3 := KK.out.pf.cell 3 (x := .int .i64 _) rfl; have kR3 := KK.out.row.cell 3 (x := .int .i64 M.pfx.len) rfl))) | (have _t := KK; (with_reducible refine Rt.load_at 26 (x := .tmp 8) ?_ ⟨wr.heap.size, 0, none⟩ ?_ ?_ (KK.out.pf.mid 0 4 26 (cc := PF.cells) (by simp [Rt.Pf.cells]) (by rw [HPF.out]; simp [Rt.Pf.cells]) Tryd.underlying26 rfl (by kernel_rfl)) ?_); (with_reducible exact rfl); (exact rfl); (kernel_rfl); clear _t) | (go_at_call 28; go_fit (hct _); rintro e w12 ⟨rfl, hb9⟩; replace KK := Lib.hid (KK.out.keep hb9); clear hb9; (clear kA4 kA2 kC3 kR3; have kA4 := KK.out.ann.cell 4 (x := .int .u8 M.k) rfl; have kA2 := KK.out.ann.cell 2 (x := .int .u8 M.n) rfl; have kC3 := KK.out.pf.cell 3 (x := .int .i64 _) rfl; have kR3 := KK.out.row.cell 3 (x := .int .i64 M.pfx.len) rfl)) | (have t12 := KK.out.row; rw [Rt.RV.cells_split] at t12; (with_reducible refine Rt.store_part 31 (x := .tmp 90) (v := .tmp 89) ?_ R 6 ?_ (cs := CC.cells) ?_ ?_ t12 ?_ HC1.out HC2.out HC3.out ?_); (with_reducible exact rfl); (exact rfl); (exact rfl); (kernel_rfl); (exact rfl); (clear t12; intro w13 t13 g13; have t14 : Rt.Row w13 R 33 (Rt.RV.cells { M.x1 j with cert := CC } av j cv) := (Rt.RV.cells_join (M.x1 j) CC av j cv) ▸ t13; replace KK := Lib.hid (KK.out.setR t14 g13); clear t13 g13 t14; (clear kA4 kA2 kC3 kR3; have kA4 := KK.out.ann.cell 4 (x := .int .u8 M.k) rfl; have kA2 := KK.out.ann.cell 2 (x := .int .u8 M.n) rfl; have kC3 := KK.out.pf.cell 3 (x := .int .i64 _) rfl; have kR3 := KK.out.row.cell 3 (x := .int .i64 M.pfx.len) rfl); have kM := KK.out.row.cell 11 (x := .int .i64 CC.mx) rfl)) | (have t33 := KK.out.row; rw [← HFX.out] at t33; (with_reducible refine Rt.load_at 33 (x := .tmp 5) ?_ ⟨R, 0, none⟩ ?_ ?_ (t33.whole33 HF1.out) ?_); (with_reducible exact rfl); (exact rfl); (kernel_rfl); clear t33) | (have _t := KK; (with_reducible refine Rt.store_at 33 (x := .tmp 4) (v := .tmp 100) (cs := XF.cells av j cv) ?_ (w.heap.size + 1) ?_ ?_ ?_ KK.out.res ?_ ?_ ?_ ?_); (with_reducible exact rfl); (exact rfl); (exact rfl); (kernel_rfl); (exact HF2.out); (exact HF3.out); (exact HF4.out); (clear _t; intro w15 r1 r2 r3 r4)))
            exact bodyPost_ret (results_cell_row rfl _ _ _ 33 _ (0, 0) _ rfl r1 Tryd.underlying33 rfl HF3.out) rfl ⟨_, rfl, ⟨av, j, cv, by rw [HFX.out]; rw [Rt.Ann.rv3 M s hk3, HZS.out, ← HPF.out, ← HCC.out]; rfl, (show Rt.Strs w15 av j (M.rv s).path from by rw [show (M.rv s).path = M.zs j from HZS.out]; exact KK.out.st.moved (by rw [r2]; exact Nat.le_refl _) (fun b off e => r3 b (by have := KK.out.far b off e; have := KK.out.r0; omega))), HCV.out, KK.out.ty.moved (fun b off e => r3 b (by have := KK.out.far b off e; have := KK.out.r0; omega))⟩, r4 _ _ (by omega) KK.out.bel⟩
          · by_cases hk1 : M.k % 8 = 1
            · have t8 := T8.out
              rw [hk1] at t8
              by_cases hl : M.pfx.len > 8
              · have hpi := Rt.pfS_in M.p M.n HA.out.n0
                have hpl8 := Rt.pfS_len M.p M.n
                have hmk0 := fun u => Rt.maskR M.pfx.v M.pfx.hi M.pfx.lo (M.pfx.len - 8) u hpi.1.1 hpi.1.2 hpi.2.1 hpi.2.2 (by omega) (by have : M.pfx.len ≤ Rt.wide M.pfx.v := hpl8.2.2; omega)
                have d8 : (8 : Int) < M.pfx.len := hl
                have hpl9 : M.pfx.len ≤ 128 := hpl8.2.1
                obtain ⟨PF, hPF⟩ : ∃ p : Rt.Pf, p = (⟨M.pfx.v, mHi M.pfx.hi (M.pfx.len - 8), mLo M.pfx.lo (M.pfx.len - 8), M.pfx.len - 8⟩ : Rt.Pf) := ⟨_, rfl⟩
                obtain ⟨CC, hCC⟩ : ∃ x : Rt.CV, x = Rt.certV (Rt.lastOf s (M.zs j)) PF.v PF.hi PF.lo PF.len M.k := ⟨_, rfl⟩
                obtain ⟨XF, hXF⟩ : ∃ x : Rt.RV, x = ({ M.x1 j with cert := { CC with mx := M.pfx.len } }) := ⟨_, rfl⟩
                have hsg : CC.sg.length = 64 := by rw [hCC]; exact Rt.certV_sg _ _ _ _ _ _
                have hsx : XF.cert.sg.length = 64 := by rw [hXF]; exact hsg
                have hpl : 0 ≤ PF.len ∧ PF.len ≤ 128 := by rw [hPF]; exact ⟨by show 0 ≤ M.pfx.len - 8; omega, by show M.pfx.len - 8 ≤ 128; omega⟩
                have hct : ∀ u, Calls Tryd.prog 28 #[.string (Rt.lastOf s (M.zs j)), .agg PF.cells, .int .u8 M.k] u fun e w' => e = .returned (.agg CC.cells) ∧ Below u.heap.size u w' := fun u => by rw [hCC]; exact Rt.certS (Rt.lastOf s (M.zs j)) PF.v PF.hi PF.lo PF.len M.k HA.out.k0 HA.out.k1 hpl.1 hpl.2 u
                have HC1 : Hid ((M.x1 j).cert.list.length = CC.cells.size) := Lib.hid (by show Rt.CV.zero.list.length = _; rw [Rt.CV.zero_len, CC.cells_size hsg])
                have HC2 : Hid ((Tryd.prog.info? 31).map (·.size) = some CC.cells.size) := Lib.hid (by rw [CC.cells_size hsg]; exact Rt.size31)
                have HC3 : Hid (CC.cells.all (·.oneCell') = true) := Lib.hid CC.one
                have HC5 : Hid (11 < (Rt.RV.cells { M.x1 j with cert := CC } av j cv).size) := Lib.hid (by rw [Rt.RV.size _ hsg]; decide)
                have HF1 : Hid ((XF.cells av j cv).size = 79) := Lib.hid (XF.size hsx _ _ _)
                have HF2 : Hid ((XF.cells av j cv).size = Tryd.zeroCells33.size) := Lib.hid (by rw [XF.size hsx]; kernel_rfl)
                have HF3 : Hid ((Tryd.prog.info? 33).map (·.size) = some (XF.cells av j cv).size) := Lib.hid (XF.inf hsx _ _ _)
                have HF4 : Hid ((XF.cells av j cv).all (·.oneCell') = true) := Lib.hid (XF.one _ _ _)
                have HFX := Lib.hid hXF
                have HCC := Lib.hid hCC
                have HPF := Lib.hid hPF
                clear hpl hsg hsx hCC hPF hXF
                have hmk : ∀ u, Calls Tryd.prog 29 #[.agg #[.bool M.pfx.v, .int .u64 M.pfx.hi, .int .u64 M.pfx.lo], .int .i64 (M.pfx.len - 8)] u fun e w' => e = .returned (.tuple #[.agg PF.cells, .bool true]) ∧ Below u.heap.size u w' := by rw [HPF.out]; exact hmk0
                clear hmk0 hpi hpl8
                go_wp2_with (first | (have _t := HL26; (with_reducible refine Rt.load_at 26 (x := .tmp 47) ?_ ⟨R, 0, none⟩ ?_ ?_ HL26.out ?_); (with_reducible exact rfl); (exact rfl); (kernel_rfl); clear _t) | (have _t := HL26; (with_reducible refine Rt.store_at 26 (x := .tmp 8) (v := .tmp 48) (cs := M.pfx.cells) ?_ wr.heap.size ?_ ?_ ?_ (Rt.Row.new wr 26 #[.bool false, .int .u64 0, .int .u64 0, .int .i64 0]) ?_ ?_ ?_ ?_); (with_reducible exact rfl); (exact rfl); (exact rfl); (kernel_rfl); (kernel_rfl); (kernel_rfl); (kernel_rfl); (clear _t; intro w8 e1 e2 e3 e4; have KK : Hid (Rt.AnT w R wr.heap.size (M.cells a m c) ((M.x1 j).cells av j cv) M.pfx av j (M.zs j) w8) := Lib.hid (HT.out w8 e1 e2 e3 e4); have kA4 := KK.out.ann.cell 4 (x := .int .u8 M.k) rfl; have kA2 := KK.out.ann.cell 2 (x := .int .u8 M.n) rfl; have kC3 := KK.out.pf.cell 3 (x := .int .i64 _) rfl; have kR3 := KK.out.row.cell 3 (x := .int .i64 M.pfx.len) rfl; clear e1 e2 e3 e4)) | (have _t := KK; (with_reducible refine Rt.load_at 24 (x := .tmp 59) ?_ ⟨wr.heap.size, 0, none⟩ ?_ ?_ (KK.out.pf.mid 0 3 24 (cc := #[.bool M.pfx.v, .int .u64 M.pfx.hi, .int .u64 M.pfx.lo]) (by simp [Rt.Pf.cells]) (by simp [Rt.Pf.cells]) Tryd.underlying24 rfl (by kernel_rfl)) ?_); (with_reducible exact rfl); (exact rfl); (kernel_rfl); clear _t) | (go_at_call 29; go_fit (hmk _); rintro e w9 ⟨rfl, hb9⟩; replace KK := Lib.hid (KK.out.keep hb9); clear hb9; (clear kA4 kA2 kC3 kR3; have kA4 := KK.out.ann.cell 4 (x := .int .u8 M.k) rfl; have kA2 := KK.out.ann.cell 2 (x := .int .u8 M.n) rfl; have kC3 := KK.out.pf.cell 3 (x := .int .i64 _) rfl; have kR3 := KK.out.row.cell 3 (x := .int .i64 M.pfx.len) rfl)) | (have _t := KK; (with_reducible refine Rt.store_at 26 (x := .tmp 8) (v := .tmp 65) (cs := PF.cells) ?_ wr.heap.size ?_ ?_ ?_ KK.out.pf ?_ ?_ ?_ ?_); (with_reducible exact rfl); (exact rfl); (exact rfl); (kernel_rfl); (kernel_rfl); (kernel_rfl); (kernel_rfl); (clear _t; intro w10 e1 e2 e3 e4; replace KK := Lib.hid (KK.out.setC (p' := PF) e1 (Rt.grown_eq e2 e3 (e4 _ _ (Nat.zero_le _) (Below.refl _ _)))); clear e1 e2 e3 e4; (clear kA4 kA2 kC3 kR3; have kA4 := KK.out.ann.cell 4 (x := .int .u8 M.k) rfl; have kA2 := KK.out.ann.cell 2 (x := .int .u8 M.n) rfl; have kC3 := KK.out.pf.cell 3 (x := .int .i64 _) rfl; have kR3 := KK.out.row.cell 3 (x := .int .i64 M.pfx.len) rfl))) | (have _t := KK; (with_reducible refine Rt.load_at 26 (x := .tmp 8) ?_ ⟨wr.heap.size, 0, none⟩ ?_ ?_ (KK.out.pf.mid 0 4 26 (cc := PF.cells) (by simp [Rt.Pf.cells]) (by rw [HPF.out]; simp [Rt.Pf.cells]) Tryd.underlying26 rfl (by kernel_rfl)) ?_); (with_reducible exact rfl); (exact rfl); (kernel_rfl); clear _t) | (go_at_call 28; go_fit (hct _); rintro e w12 ⟨rfl, hb9⟩; replace KK := Lib.hid (KK.out.keep hb9); clear hb9; (clear kA4 kA2 kC3 kR3; have kA4 := KK.out.ann.cell 4 (x := .int .u8 M.k) rfl; have kA2 := KK.out.ann.cell 2 (x := .int .u8 M.n) rfl; have kC3 := KK.out.pf.cell 3 (x := .int .i64 _) rfl; have kR3 := KK.out.row.cell 3 (x := .int .i64 M.pfx.len) rfl)) | (have t12 := KK.out.row; rw [Rt.RV.cells_split] at t12; (with_reducible refine Rt.store_part 31 (x := .tmp 90) (v := .tmp 89) ?_ R 6 ?_ (cs := CC.cells) ?_ ?_ t12 ?_ HC1.out HC2.out HC3.out ?_); (with_reducible exact rfl); (exact rfl); (exact rfl); (kernel_rfl); (exact rfl); (clear t12; intro w13 t13 g13; have t14 : Rt.Row w13 R 33 (Rt.RV.cells { M.x1 j with cert := CC } av j cv) := (Rt.RV.cells_join (M.x1 j) CC av j cv) ▸ t13; replace KK := Lib.hid (KK.out.setR t14 g13); clear t13 g13 t14; (clear kA4 kA2 kC3 kR3; have kA4 := KK.out.ann.cell 4 (x := .int .u8 M.k) rfl; have kA2 := KK.out.ann.cell 2 (x := .int .u8 M.n) rfl; have kC3 := KK.out.pf.cell 3 (x := .int .i64 _) rfl; have kR3 := KK.out.row.cell 3 (x := .int .i64 M.pfx.len) rfl); have kM := KK.out.row.cell 11 (x := .int .i64 CC.mx) rfl)) | (have _t := KK; (with_reducible refine Rt.store_one 3 (x := .tmp 99) (v := .tmp 97) ?_ R 11 ?_ (z := .int .i64 M.pfx.len) ?_ ?_ KK.out.row ?_ ?_ ?_ ?_); (with_reducible exact rfl); (exact rfl); (exact rfl); (kernel_rfl); (exact HC5.out); (kernel_rfl); (exact rfl); (clear _t; intro w14 t14 g14; have t15 : Rt.Row w14 R 33 (Rt.RV.cells { M.x1 j with cert := { CC with mx := M.pfx.len } } av j cv) := t14; replace KK := Lib.hid (KK.out.setR t15 g14); clear t14 g14 t15; (clear kA4 kA2 kC3 kR3; have kA4 := KK.out.ann.cell 4 (x := .int .u8 M.k) rfl; have kA2 := KK.out.ann.cell 2 (x := .int .u8 M.n) rfl; have kC3 := KK.out.pf.cell 3 (x := .int .i64 _) rfl; have kR3 := KK.out.row.cell 3 (x := .int .i64 M.pfx.len) rfl))) | (have t33 := KK.out.row; rw [← HFX.out] at t33; (with_reducible refine Rt.load_at 33 (x := .tmp 5) ?_ ⟨R, 0, none⟩ ?_ ?_ (t33.whole33 HF1.out) ?_); (with_reducible exact rfl); (exact rfl); (kernel_rfl); clear t33) | (have _t := KK; (with_reducible refine Rt.store_at 33 (x := .tmp 4) (v := .tmp 100) (cs := XF.cells av j cv) ?_ (w.heap.size + 1) ?_ ?_ ?_ KK.out.res ?_ ?_ ?_ ?_); (with_reducible exact rfl); (exact rfl); (exact rfl); (kernel_rfl); (exact HF2.out); (exact HF3.out); (exact HF4.out); (clear _t; intro w15 r1 r2 r3 r4)))
                exact bodyPost_ret (results_cell_row rfl _ _ _ 33 _ (0, 0) _ rfl r1 Tryd.underlying33 rfl HF3.out) rfl ⟨_, rfl, ⟨av, j, cv, by rw [HFX.out]; rw [Rt.Ann.rv1a M s hk1 hl, HZS.out, ← HPF.out, ← HCC.out]; rfl, (show Rt.Strs w15 av j (M.rv s).path from by rw [show (M.rv s).path = M.zs j from HZS.out]; exact KK.out.st.moved (by rw [r2]; exact Nat.le_refl _) (fun b off e => r3 b (by have := KK.out.far b off e; have := KK.out.r0; omega))), HCV.out, KK.out.ty.moved (fun b off e => r3 b (by have := KK.out.far b off e; have := KK.out.r0; omega))⟩, r4 _ _ (by omega) KK.out.bel⟩
              · have d8 : ¬ (8 : Int) < M.pfx.len := hl
                obtain ⟨PF, hPF⟩ : ∃ p : Rt.Pf, p = M.pfx := ⟨_, rfl⟩
                obtain ⟨CC, hCC⟩ : ∃ x : Rt.CV, x = Rt.certV (Rt.lastOf s (M.zs j)) PF.v PF.hi PF.lo PF.len M.k := ⟨_, rfl⟩
                obtain ⟨XF, hXF⟩ : ∃ x : Rt.RV, x = ({ M.x1 j with cert := { CC with mx := M.pfx.len } }) := ⟨_, rfl⟩
                have hsg : CC.sg.length = 64 := by rw [hCC]; exact Rt.certV_sg _ _ _ _ _ _
                have hsx : XF.cert.sg.length = 64 := by rw [hXF]; exact hsg
                have hpl : 0 ≤ PF.len ∧ PF.len ≤ 128 := by rw [hPF]; exact ⟨(Rt.pfS_len _ _).1, (Rt.pfS_len _ _).2.1⟩
                have hct : ∀ u, Calls Tryd.prog 28 #[.string (Rt.lastOf s (M.zs j)), .agg PF.cells, .int .u8 M.k] u fun e w' => e = .returned (.agg CC.cells) ∧ Below u.heap.size u w' := fun u => by rw [hCC]; exact Rt.certS (Rt.lastOf s (M.zs j)) PF.v PF.hi PF.lo PF.len M.k HA.out.k0 HA.out.k1 hpl.1 hpl.2 u
                have HC1 : Hid ((M.x1 j).cert.list.length = CC.cells.size) := Lib.hid (by show Rt.CV.zero.list.length = _; rw [Rt.CV.zero_len, CC.cells_size hsg])
                have HC2 : Hid ((Tryd.prog.info? 31).map (·.size) = some CC.cells.size) := Lib.hid (by rw [CC.cells_size hsg]; exact Rt.size31)
                have HC3 : Hid (CC.cells.all (·.oneCell') = true) := Lib.hid CC.one
                have HC5 : Hid (11 < (Rt.RV.cells { M.x1 j with cert := CC } av j cv).size) := Lib.hid (by rw [Rt.RV.size _ hsg]; decide)
                have HF1 : Hid ((XF.cells av j cv).size = 79) := Lib.hid (XF.size hsx _ _ _)
                have HF2 : Hid ((XF.cells av j cv).size = Tryd.zeroCells33.size) := Lib.hid (by rw [XF.size hsx]; kernel_rfl)
                have HF3 : Hid ((Tryd.prog.info? 33).map (·.size) = some (XF.cells av j cv).size) := Lib.hid (XF.inf hsx _ _ _)
                have HF4 : Hid ((XF.cells av j cv).all (·.oneCell') = true) := Lib.hid (XF.one _ _ _)
                have HFX := Lib.hid hXF
                have HCC := Lib.hid hCC
                have HPF := Lib.hid hPF
                clear hpl hsg hsx hCC hPF hXF
                go_wp2_with (first | (have _t := HL26; (with_reducible refine Rt.load_at 26 (x := .tmp 47) ?_ ⟨R, 0, none⟩ ?_ ?_ HL26.out ?_); (with_reducible exact rfl); (exact rfl); (kernel_rfl); clear _t) | (have _t := HL26; (with_reducible refine Rt.store_at 26 (x := .tmp 8) (v := .tmp 48) (cs := M.pfx.cells) ?_ wr.heap.size ?_ ?_ ?_ (Rt.Row.new wr 26 #[.bool false, .int .u64 0, .int .u64 0, .int .i64 0]) ?_ ?_ ?_ ?_); (with_reducible exact rfl); (exact rfl); (exact rfl); (kernel_rfl); (kernel_rfl); (kernel_rfl); (kernel_rfl); (clear _t; intro w8 e1 e2 e3 e4; have KK : Hid (Rt.AnT w R wr.heap.size (M.cells a m c) ((M.x1 j).cells av j cv) M.pfx av j (M.zs j) w8) := Lib.hid (HT.out w8 e1 e2 e3 e4); have kA4 := KK.out.ann.cell 4 (x := .int .u8 M.k) rfl; have kA2 := KK.out.ann.cell 2 (x := .int .u8 M.n) rfl; have kC3 := KK.out.pf.cell 3 (x := .int .i64 _) rfl; have kR3 := KK.out.row.cell 3 (x := .int .i64 M.pfx.len) rfl; clear e1 e2 e3 e4)) | (have _t := KK; (with_reducible refine Rt.load_at 26 (x := .tmp 8) ?_ ⟨wr.heap.size, 0, none⟩ ?_ ?_ (KK.out.pf.mid 0 4 26 (cc := PF.cells) (by simp [Rt.Pf.cells]) (by rw [HPF.out]; simp [Rt.Pf.cells]) Tryd.underlying26 rfl (by kernel_rfl)) ?_); (with_reducible exact rfl); (exact rfl); (kernel_rfl); clear _t) | (go_at_call 28; go_fit (hct _); rintro e w12 ⟨rfl, hb9⟩; replace KK := Lib.hid (KK.out.keep hb9); clear hb9; (clear kA4 kA2 kC3 kR3; have kA4 := KK.out.ann.cell 4 (x := .int .u8 M.k) rfl; have kA2 := KK.out.ann.cell 2 (x := .int .u8 M.n) rfl; have kC3 := KK.out.pf.cell 3 (x := .int .i64 _) rfl; have kR3 := KK.out.row.cell 3 (x := .int .i64 M.pfx.len) rfl)) | (have t12 := KK.out.row; rw [Rt.RV.cells_split] at t12; (with_reducible refine Rt.store_part 31 (x := .tmp 90) (v := .tmp 89) ?_ R 6 ?_ (cs := CC.cells) ?_ ?_ t12 ?_ HC1.out HC2.out HC3.out ?_); (with_reducible exact rfl); (exact rfl); (exact rfl); (kernel_rfl); (exact rfl); (clear t12; intro w13 t13 g13; have t14 : Rt.Row w13 R 33 (Rt.RV.cells { M.x1 j with cert := CC } av j cv) := (Rt.RV.cells_join (M.x1 j) CC av j cv) ▸ t13; replace KK := Lib.hid (KK.out.setR t14 g13); clear t13 g13 t14; (clear kA4 kA2 kC3 kR3; have kA4 := KK.out.ann.cell 4 (x := .int .u8 M.k) rfl; have kA2 := KK.out.ann.cell 2 (x := .int .u8 M.n) rfl; have kC3 := KK.out.pf.cell 3 (x := .int .i64 _) rfl; have kR3 := KK.out.row.cell 3 (x := .int .i64 M.pfx.len) rfl); have kM := KK.out.row.cell 11 (x := .int .i64 CC.mx) rfl)) | (have _t := KK; (with_reducible refine Rt.store_one 3 (x := .tmp 99) (v := .tmp 97) ?_ R 11 ?_ (z := .int .i64 M.pfx.len) ?_ ?_ KK.out.row ?_ ?_ ?_ ?_); (with_reducible exact rfl); (exact rfl); (exact rfl); (kernel_rfl); (exact HC5.out); (kernel_rfl); (exact rfl); (clear _t; intro w14 t14 g14; have t15 : Rt.Row w14 R 33 (Rt.RV.cells { M.x1 j with cert := { CC with mx := M.pfx.len } } av j cv) := t14; replace KK := Lib.hid (KK.out.setR t15 g14); clear t14 g14 t15; (clear kA4 kA2 kC3 kR3; have kA4 := KK.out.ann.cell 4 (x := .int .u8 M.k) rfl; have kA2 := KK.out.ann.cell 2 (x := .int .u8 M.n) rfl; have kC3 := KK.out.pf.cell 3 (x := .int .i64 _) rfl; have kR3 := KK.out.row.cell 3 (x := .int .i64 M.pfx.len) rfl))) | (have t33 := KK.out.row; rw [← HFX.out] at t33; (with_reducible refine Rt.load_at 33 (x := .tmp 5) ?_ ⟨R, 0, none⟩ ?_ ?_ (t33.whole33 HF1.out) ?_); (with_reducible exact rfl); (exact rfl); (kernel_rfl); clear t33) | (have _t := KK; (with_reducible refine Rt.store_at 33 (x := .tmp 4) (v := .tmp 100) (cs := XF.cells av j cv) ?_ (w.heap.size + 1) ?_ ?_ ?_ KK.out.res ?_ ?_ ?_ ?_); (with_reducible exact rfl); (exact rfl); (exact rfl); (kernel_rfl); (exact HF2.out); (exact HF3.out); (exact HF4.out); (clear _t; intro w15 r1 r2 r3 r4)))
                exact bodyPost_ret (results_cell_row rfl _ _ _ 33 _ (0, 0) _ rfl r1 Tryd.underlying33 rfl HF3.out) rfl ⟨_, rfl, ⟨av, j, cv, by rw [HFX.out]; rw [Rt.Ann.rv1b M s hk1 (fun h => by omega), HZS.out, HCC.out, HPF.out]; rfl, (show Rt.Strs w15 av j (M.rv s).path from by rw [show (M.rv s).path = M.zs j from HZS.out]; exact KK.out.st.moved (by rw [r2]; exact Nat.le_refl _) (fun b off e => r3 b (by have := KK.out.far b off e; have := KK.out.r0; omega))), HCV.out, KK.out.ty.moved (fun b off e => r3 b (by have := KK.out.far b off e; have := KK.out.r0; omega))⟩, r4 _ _ (by omega) KK.out.bel⟩
            · have t8 := T8.out
              obtain ⟨r8, hr8⟩ : ∃ r, M.k % 8 = r := ⟨_, rfl⟩
              rw [hr8] at t8
              have h1 : ¬ r8 = 1 := by omega
              have h2 : ¬ r8 = 2 := by omega
              have h3 : ¬ r8 = 3 := by omega
              have h4 : 0 ≤ r8 := by omega
              have h5 : r8 < 8 := by omega
              clear hr8
              obtain ⟨PF, hPF⟩ : ∃ p : Rt.Pf, p = M.pfx := ⟨_, rfl⟩
              obtain ⟨CC, hCC⟩ : ∃ x : Rt.CV, x = Rt.certV (Rt.lastOf s (M.zs j)) PF.v PF.hi PF.lo PF.len M.k := ⟨_, rfl⟩
              obtain ⟨XF, hXF⟩ : ∃ x : Rt.RV, x = ({ M.x1 j with cert := CC }) := ⟨_, rfl⟩
              have hsg : CC.sg.length = 64 := by rw [hCC]; exact Rt.certV_sg _ _ _ _ _ _
              have hsx : XF.cert.sg.length = 64 := by rw [hXF]; exact hsg
              have hpl : 0 ≤ PF.len ∧ PF.len ≤ 128 := by rw [hPF]; exact ⟨(Rt.pfS_len _ _).1, (Rt.pfS_len _ _).2.1⟩
              have hct : ∀ u, Calls Tryd.prog 28 #[.string (Rt.lastOf s (M.zs j)), .agg PF.cells, .int .u8 M.k] u fun e w' => e = .returned (.agg CC.cells) ∧ Below u.heap.size u w' := fun u => by rw [hCC]; exact Rt.certS (Rt.lastOf s (M.zs j)) PF.v PF.hi PF.lo PF.len M.k HA.out.k0 HA.out.k1 hpl.1 hpl.2 u
              have HC1 : Hid ((M.x1 j).cert.list.length = CC.cells.size) := Lib.hid (by show Rt.CV.zero.list.length = _; rw [Rt.CV.zero_len, CC.cells_size hsg])
              have HC2 : Hid ((Tryd.prog.info? 31).map (·.size) = some CC.cells.size) := Lib.hid (by rw [CC.cells_size hsg]; exact Rt.size31)
              have HC3 : Hid (CC.cells.all (·.oneCell') = true) := Lib.hid CC.one
              have HC5 : Hid (11 < (Rt.RV.cells { M.x1 j with cert := CC } av j cv).size) := Lib.hid (by rw [Rt.RV.size _ hsg]; decide)
              have HF1 : Hid ((XF.cells av j cv).size = 79) := Lib.hid (XF.size hsx _ _ _)
              have HF2 : Hid ((XF.cells av j cv).size = Tryd.zeroCells33.size) := Lib.hid (by rw [XF.size hsx]; kernel_rfl)
              have HF3 : Hid ((Tryd.prog.info? 33).map (·.size) = some (XF.cells av j cv).size) := Lib.hid (XF.inf hsx _ _ _)
              have HF4 : Hid ((XF.cells av j cv).all (·.oneCell') = true) := Lib.hid (XF.one _ _ _)
              have HFX := Lib.hid hXF
              have HCC := Lib.hid hCC
              have HPF := Lib.hid hPF
              clear hpl hsg hsx hCC hPF hXF
              go_wp2_with (first | (have _t := HL26; (with_reducible refine Rt.load_at 26 (x := .tmp 47) ?_ ⟨R, 0, none⟩ ?_ ?_ HL26.out ?_); (with_reducible exact rfl); (exact rfl); (kernel_rfl); clear _t) | (have _t := HL26; (with_reducible refine Rt.store_at 26 (x := .tmp 8) (v := .tmp 48) (cs := M.pfx.cells) ?_ wr.heap.size ?_ ?_ ?_ (Rt.Row.new wr 26 #[.bool false, .int .u64 0, .int .u64 0, .int .i64 0]) ?_ ?_ ?_ ?_); (with_reducible exact rfl); (exact rfl); (exact rfl); (kernel_rfl); (kernel_rfl); (kernel_rfl); (kernel_rfl); (clear _t; intro w8 e1 e2 e3 e4; have KK : Hid (Rt.AnT w R wr.heap.size (M.cells a m c) ((M.x1 j).cells av j cv) M.pfx av j (M.zs j) w8) := Lib.hid (HT.out w8 e1 e2 e3 e4); have kA4 := KK.out.ann.cell 4 (x := .int .u8 M.k) rfl; have kA2 := KK.out.ann.cell 2 (x := .int .u8 M.n) rfl; have kC3 := KK.out.pf.cell 3 (x := .int .i64 _) rfl; have kR3 := KK.out.row.cell 3 (x := .int .i64 M.pfx.len) rfl; clear e1 e2 e3 e4)) | (have _t := KK; (with_reducible refine Rt.load_at 26 (x := .tmp 8) ?_ ⟨wr.heap.size, 0, none⟩ ?_ ?_ (KK.out.pf.mid 0 4 26 (cc := PF.cells) (by simp [Rt.Pf.cells]) (by rw [HPF.out]; simp [Rt.Pf.cells]) Tryd.underlying26 rfl (by kernel_rfl)) ?_); (with_reducible exact rfl); (exact rfl); (kernel_rfl); clear _t) | (go_at_call 28; go_fit (hct _); rintro e w12 ⟨rfl, hb9⟩; replace KK := Lib.hid (KK.out.keep hb9); clear hb9; (clear kA4 kA2 kC3 kR3; have kA4 := KK.out.ann.cell 4 (x := .int .u8 M.k) rfl; have kA2 := KK.out.ann.cell 2 (x := .int .u8 M.n) rfl; have kC3 := KK.out.pf.cell 3 (x := .int .i64 _) rfl; have kR3 := KK.out.row.cell 3 (x := .int .i64 M.pfx.len) rfl)) | (have t12 := KK.out.row; rw [Rt.RV.cells_split] at t12; (with_reducible refine Rt.store_part 31 (x := .tmp 90) (v := .tmp 89) ?_ R 6 ?_ (cs := CC.cells) ?_ ?_ t12 ?_ HC1.out HC2.out HC3.out ?_); (with_reducible exact rfl); (exact rfl); (exact rfl); (kernel_rfl); (exact rfl); (clear t12; intro w13 t13 g13; have t14 : Rt.Row w13 R 33 (Rt.RV.cells { M.x1 j with cert := CC } av j cv) := (Rt.RV.cells_join (M.x1 j) CC av j cv) ▸ t13; replace KK := Lib.hid (KK.out.setR t14 g13); clear t13 g13 t14; (clear kA4 kA2 kC3 kR3; have kA4 := KK.out.ann.cell 4 (x := .int .u8 M.k) rfl; have kA2 := KK.out.ann.cell 2 (x := .int .u8 M.n) rfl; have kC3 := KK.out.pf.cell 3 (x := .int .i64 _) rfl; have kR3 := KK.out.row.cell 3 (x := .int .i64 M.pfx.len) rfl); have kM := KK.out.row.cell 11 (x := .int .i64 CC.mx) rfl)) | (have t33 := KK.out.row; rw [← HFX.out] at t33; (with_reducible refine Rt.load_at 33 (x := .tmp 5) ?_ ⟨R, 0, none⟩ ?_ ?_ (t33.whole33 HF1.out) ?_); (with_reducible exact rfl); (exact rfl); (kernel_rfl); clear t33) | (have _t := KK; (with_reducible refine Rt.store_at 33 (x := .tmp 4) (v := .tmp 100) (cs := XF.cells av j cv) ?_ (w.heap.size + 1) ?_ ?_ ?_ KK.out.res ?_ ?_ ?_ ?_); (with_reducible exact rfl); (exact rfl); (exact rfl); (kernel_rfl); (exact HF2.out); (exact HF3.out); (exact HF4.out); (clear _t; intro w15 r1 r2 r3 r4)))
              exact bodyPost_ret (results_cell_row rfl _ _ _ 33 _ (0, 0) _ rfl r1 Tryd.underlying33 rfl HF3.out) rfl ⟨_, rfl, ⟨av, j, cv, by rw [HFX.out]; rw [Rt.Ann.rv0 M s hk1 hk2 hk3, HZS.out, HCC.out, HPF.out]; rfl, (show Rt.Strs w15 av j (M.rv s).path from by rw [show (M.rv s).path = M.zs j from HZS.out]; exact KK.out.st.moved (by rw [r2]; exact Nat.le_refl _) (fun b off e => r3 b (by have := KK.out.far b off e; have := KK.out.r0; omega))), HCV.out, KK.out.ty.moved (fun b off e => r3 b (by have := KK.out.far b off e; have := KK.out.r0; omega))⟩, r4 _ _ (by omega) KK.out.bel⟩
      · have q1 : ¬ (j : Int) < (m : Int) := by omega
        by_cases hk2 : M.k % 8 = 2
        · have t8 := T8.out
          rw [hk2] at t8
          obtain ⟨PF, hPF⟩ : ∃ p : Rt.Pf, p = M.pfx := ⟨_, rfl⟩
          obtain ⟨CC, hCC⟩ : ∃ x : Rt.CV, x = Rt.certV (Rt.nameOf (M.k / 8)) PF.v PF.hi PF.lo PF.len M.k := ⟨_, rfl⟩
          obtain ⟨XF, hXF⟩ : ∃ x : Rt.RV, x = ({ M.x1 j with cert := CC }) := ⟨_, rfl⟩
          have hsg : CC.sg.length = 64 := by rw [hCC]; exact Rt.certV_sg _ _ _ _ _ _
          have hsx : XF.cert.sg.length = 64 := by rw [hXF]; exact hsg
          have hpl : 0 ≤ PF.len ∧ PF.len ≤ 128 := by rw [hPF]; exact ⟨(Rt.pfS_len _ _).1, (Rt.pfS_len _ _).2.1⟩
          have hct : ∀ u, Calls Tryd.prog 28 #[.string (Rt.nameOf (M.k / 8)), .agg PF.cells, .int .u8 M.k] u fun e w' => e = .returned (.agg CC.cells) ∧ Below u.heap.size u w' := fun u => by rw [hCC]; exact Rt.certS (Rt.nameOf (M.k / 8)) PF.v PF.hi PF.lo PF.len M.k HA.out.k0 HA.out.k1 hpl.1 hpl.2 u
          have HC1 : Hid ((M.x1 j).cert.list.length = CC.cells.size) := Lib.hid (by show Rt.CV.zero.list.length = _; rw [Rt.CV.zero_len, CC.cells_size hsg])
          have HC2 : Hid ((Tryd.prog.info? 31).map (·.size) = some CC.cells.size) := Lib.hid (by rw [CC.cells_size hsg]; exact Rt.size31)
          have HC3 : Hid (CC.cells.all (·.oneCell') = true) := Lib.hid CC.one
          have HC5 : Hid (11 < (Rt.RV.cells { M.x1 j with cert := CC } av j cv).size) := Lib.hid (by rw [Rt.RV.size _ hsg]; decide)
          have HF1 : Hid ((XF.cells av j cv).size = 79) := Lib.hid (XF.size hsx _ _ _)
          have HF2 : Hid ((XF.cells av j cv).size = Tryd.zeroCells33.size) := Lib.hid (by rw [XF.size hsx]; kernel_rfl)
          have HF3 : Hid ((Tryd.prog.info? 33).map (·.size) = some (XF.cells av j cv).size) := Lib.hid (XF.inf hsx _ _ _)
          have HF4 : Hid ((XF.cells av j cv).all (·.oneCell') = true) := Lib.hid (XF.one _ _ _)
          have HFX := Lib.hid hXF
          have HCC := Lib.hid hCC
          have HPF := Lib.hid hPF
          clear hpl hsg hsx hCC hPF hXF
          have hn8 := fun u => Rt.name (M.k / 8) (by have := HA.out.k0; omega) (by have := HA.out.k0; have := HA.out.k1; omega) u
          go_wp2_with (first | (have _t := HL26; (with_reducible refine Rt.load_at 26 (x := .tmp 47) ?_ ⟨R, 0, none⟩ ?_ ?_ HL26.out ?_); (with_reducible exact rfl); (exact rfl); (kernel_rfl); clear _t) | (have _t := HL26; (with_reducible refine Rt.store_at 26 (x := .tmp 8) (v := .tmp 48) (cs := M.pfx.cells) ?_ wr.heap.size ?_ ?_ ?_ (Rt.Row.new wr 26 #[.bool false, .int .u64 0, .int .u64 0, .int .i64 0]) ?_ ?_ ?_ ?_); (with_reducible exact rfl); (exact rfl); (exact rfl); (kernel_rfl); (kernel_rfl); (kernel_rfl); (kernel_rfl); (clear _t; intro w8 e1 e2 e3 e4; have KK : Hid (Rt.AnT w R wr.heap.size (M.cells a m c) ((M.x1 j).cells av j cv) M.pfx av j (M.zs j) w8) := Lib.hid (HT.out w8 e1 e2 e3 e4); have kA4 := KK.out.ann.cell 4 (x := .int .u8 M.k) rfl; have kA2 := KK.out.ann.cell 2 (x := .int .u8 M.n) rfl; have kC3 := KK.out.pf.cell 3 (x := .int .i64 _) rfl; have kR3 := KK.out.row.cell 3 (x := .int .i64 M.pfx.len) rfl; clear e1 e2 e3 e4)) | (go_at_call 14; go_fit (hn8 _); rintro e w11 ⟨rfl, hb9⟩; replace KK := Lib.hid (KK.out.keep hb9); clear hb9; (clear kA4 kA2 kC3 kR3; have kA4 := KK.out.ann.cell 4 (x := .int .u8 M.k) rfl; have kA2 := KK.out.ann.cell 2 (x := .int .u8 M.n) rfl; have kC3 := KK.out.pf.cell 3 (x := .int .i64 _) rfl; have kR3 := KK.out.row.cell 3 (x := .int .i64 M.pfx.len) rfl)) | (have _t := KK; (with_reducible refine Rt.load_at 26 (x := .tmp 8) ?_ ⟨wr.heap.size, 0, none⟩ ?_ ?_ (KK.out.pf.mid 0 4 26 (cc := PF.cells) (by simp [Rt.Pf.cells]) (by rw [HPF.out]; simp [Rt.Pf.cells]) Tryd.underlying26 rfl (by kernel_rfl)) ?_); (with_reducible exact rfl); (exact rfl); (kernel_rfl); clear _t) | (go_at_call 28; go_fit (hct _); rintro e w12 ⟨rfl, hb9⟩; replace KK := Lib.hid (KK.out.keep hb9); clear hb9; (clear kA4 kA2 kC3 kR3; have kA4 := KK.out.ann.cell 4 (x := .int .u8 M.k) rfl; have kA2 := KK.out.ann.cell 2 (x := .int .u8 M.n) rfl; have kC3 := KK.out.pf.cell 3 (x := .int .i64 _) rfl; have kR3 := KK.out.row.cell 3 (x := .int .i64 M.pfx.len) rfl)) | (have t12 := KK.out.row; rw [Rt.RV.cells_split] at t12; (with_reducible refine Rt.store_part 31 (x := .tmp 90) (v := .tmp 89) ?_ R 6 ?_ (cs := CC.cells) ?_ ?_ t12 ?_ HC1.out HC2.out HC3.out ?_); (with_reducible exact rfl); (exact rfl); (exact rfl); (kernel_rfl); (exact rfl); (clear t12; intro w13 t13 g13; have t14 : Rt.Row w13 R 33 (Rt.RV.cells { M.x1 j with cert := CC } av j cv) := (Rt.RV.cells_join (M.x1 j) CC av j cv) ▸ t13; replace KK := Lib.hid (KK.out.setR t14 g13); clear t13 g13 t14; (clear kA4 kA2 kC3 kR3; have kA4 := KK.out.ann.cell 4 (x := .int .u8 M.k) rfl; have kA2 := KK.out.ann.cell 2 (x := .int .u8 M.n) rfl; have kC3 := KK.out.pf.cell 3 (x := .int .i64 _) rfl; have kR3 := KK.out.row.cell 3 (x := .int .i64 M.pfx.len) rfl); have kM := KK.out.row.cell 11 (x := .int .i64 CC.mx) rfl)) | (have t33 := KK.out.row; rw [← HFX.out] at t33; (with_reducible refine Rt.load_at 33 (x := .tmp 5) ?_ ⟨R, 0, none⟩ ?_ ?_ (t33.whole33 HF1.out) ?_); (with_reducible exact rfl); (exact rfl); (kernel_rfl); clear t33) | (have _t := KK; (with_reducible refine Rt.store_at 33 (x := .tmp 4) (v := .tmp 100) (cs := XF.cells av j cv) ?_ (w.heap.size + 1) ?_ ?_ ?_ KK.out.res ?_ ?_ ?_ ?_); (with_reducible exact rfl); (exact rfl); (exact rfl); (kernel_rfl); (exact HF2.out); (exact HF3.out); (exact HF4.out); (clear _t; intro w15 r1 r2 r3 r4)))
          exact bodyPost_ret (results_cell_row rfl _ _ _ 33 _ (0, 0) _ rfl r1 Tryd.underlying33 rfl HF3.out) rfl ⟨_, rfl, ⟨av, j, cv, by rw [HFX.out]; rw [Rt.Ann.rv2 M s hk2, HZS.out, HCC.out, HPF.out]; rfl, (show Rt.Strs w15 av j (M.rv s).path from by rw [show (M.rv s).path = M.zs j from HZS.out]; exact KK.out.st.moved (by rw [r2]; exact Nat.le_refl _) (fun b off e => r3 b (by have := KK.out.far b off e; have := KK.out.r0; omega))), HCV.out, KK.out.ty.moved (fun b off e => r3 b (by have := KK.out.far b off e; have := KK.out.r0; omega))⟩, r4 _ _ (by omega) KK.out.bel⟩
        · by_cases hk3 : M.k % 8 = 3
          · have t8 := T8.out
            rw [hk3] at t8
            obtain ⟨PF, hPF⟩ : ∃ p : Rt.Pf, p = Rt.pfS (M.k / 8) M.n := ⟨_, rfl⟩
            obtain ⟨CC, hCC⟩ : ∃ x : Rt.CV, x = Rt.certV (Rt.lastOf s (M.zs j)) PF.v PF.hi PF.lo PF.len M.k := ⟨_, rfl⟩
            obtain ⟨XF, hXF⟩ : ∃ x : Rt.RV, x = ({ M.x1 j with cert := CC }) := ⟨_, rfl⟩
            have hsg : CC.sg.length = 64 := by rw [hCC]; exact Rt.certV_sg _ _ _ _ _ _
            have hsx : XF.cert.sg.length = 64 := by rw [hXF]; exact hsg
            have hpl : 0 ≤ PF.len ∧ PF.len ≤ 128 := by rw [hPF]; exact ⟨(Rt.pfS_len _ _).1, (Rt.pfS_len _ _).2.1⟩
            have hct : ∀ u, Calls Tryd.prog 28 #[.string (Rt.lastOf s (M.zs j)), .agg PF.cells, .int .u8 M.k] u fun e w' => e = .returned (.agg CC.cells) ∧ Below u.heap.size u w' := fun u => by rw [hCC]; exact Rt.certS (Rt.lastOf s (M.zs j)) PF.v PF.hi PF.lo PF.len M.k HA.out.k0 HA.out.k1 hpl.1 hpl.2 u
            have HC1 : Hid ((M.x1 j).cert.list.length = CC.cells.size) := Lib.hid (by show Rt.CV.zero.list.length = _; rw [Rt.CV.zero_len, CC.cells_size hsg])
            have HC2 : Hid ((Tryd.prog.info? 31).map (·.size) = some CC.cells.size) := Lib.hid (by rw [CC.cells_size hsg]; exact Rt.size31)
            have HC3 : Hid (CC.cells.all (·.oneCell') = true) := Lib.hid CC.one
            have HC5 : Hid (11 < (Rt.RV.cells { M.x1 j with cert := CC } av j cv).size) := Lib.hid (by rw [Rt.RV.size _ hsg]; decide)
            have HF1 : Hid ((XF.cells av j cv).size = 79) := Lib.hid (XF.size hsx _ _ _)
            have HF2 : Hid ((XF.cells av j cv).size = Tryd.zeroCells33.size) := Lib.hid (by rw [XF.size hsx]; kernel_rfl)
            have HF3 : Hid ((Tryd.prog.info? 33).map (·.size) = some (XF.cells av j cv).size) := Lib.hid (XF.inf hsx _ _ _)
            have HF4 : Hid ((XF.cells av j cv).all (·.oneCell') = true) := Lib.hid (XF.one _ _ _)
            have HFX := Lib.hid hXF
            have HCC := Lib.hid hCC
            have HPF := Lib.hid hPF
            clear hpl hsg hsx hCC hPF hXF
            have hp8 := fun u => Rt.prefixS (M.k / 8) M.n (by have := HA.out.k0; omega) (by have := HA.out.k0; have := HA.out.k1; omega) HA.out.n0 HA.out.n1 u
            have hp8 : ∀ u, Calls Tryd.prog 27 #[.int .u8 (M.k / 8), .int .u8 M.n] u fun e w' => e = .returned (.agg PF.cells) ∧ Below u.heap.size u w' := by rw [← HPF.out.symm]; exact hp8
            go_wp2_with (first | (have _t := HL26; (with_reducible refine Rt.load_at 26 (x := .tmp 47) ?_ ⟨R, 0, none⟩ ?_ ?_ HL26.out ?_); (with_reducible exact rfl); (exact rfl); (kernel_rfl); clear _t) | (have _t := HL26; (with_reducible refine Rt.store_at 26 (x := .tmp 8) (v := .tmp 48) (cs := M.pfx.cells) ?_ wr.heap.size ?_ ?_ ?_ (Rt.Row.new wr 26 #[.bool false, .int .u64 0, .int .u64 0, .int .i64 0]) ?_ ?_ ?_ ?_); (with_reducible exact rfl); (exact rfl); (exact rfl); (kernel_rfl); (kernel_rfl); (kernel_rfl); (kernel_rfl); (clear _t; intro w8 e1 e2 e3 e4; have KK : Hid (Rt.AnT w R wr.heap.size (M.cells a m c) ((M.x1 j).cells av j cv) M.pfx av j (M.zs j) w8) := Lib.hid (HT.out w8 e1 e2 e3 e4); have kA4 := KK.out.ann.cell 4 (x := .int .u8 M.k) rfl; have kA2 := KK.out.ann.cell 2 (x := .int .u8 M.n) rfl; have kC3 := KK.out.pf.cell 3 (x := .int .i64 _) rfl; have kR3 := KK.out.row.cell 3 (x := .int .i64 M.pfx.len) rfl; clear e1 e2 e3 e4)) | (go_at_call 27; go_fit (hp8 _); rintro e w11 ⟨rfl, hb9⟩; replace KK := Lib.hid (KK.out.keep hb9); clear hb9; (clear kA4 kA2 kC3 kR3; have kA4 := KK.out.ann.cell 4 (x := .int .u8 M.k) rfl; have kA2 := KK.out.ann.cell 2 (x := .int .u8 M.n) rfl; have kC3 := KK.out.pf.cell 3 (x := .int .i64 _) rfl; have kR3 := KK.out.row.cell 3 (x := .int .i64 M.pfx.len) rfl)) | (have _t := KK; (with_reducible refine Rt.store_at 26 (x := .tmp 8) (v := .tmp 84) (cs := PF.cells) ?_ wr.heap.size ?_ ?_ ?_ KK.out.pf ?_ ?_ ?_ ?_); (with_reducible exact rfl); (exact rfl); (exact rfl); (kernel_rfl); (kernel_rfl); (kernel_rfl); (kernel_rfl); (clear _t; intro w10 e1 e2 e3 e4; replace KK := Lib.hid (KK.out.setC (p' := PF) e1 (Rt.grown_eq e2 e3 (e4 _ _ (Nat.zero_le _) (Below.refl _ _)))); clear e1 e2 e3 e4; (clear kA4 kA2 kC3 kR3; have kA4 := KK.out.ann.cell 4 (x := .int .u8 M.k) rfl; have kA2 := KK.out.ann.cell 2 (x := .int .u8 M.n) rfl; have kC3 := KK.out.pf.cell 3 (x := .int .i64 _) rfl; have kR3 := KK.out.row.cell 3 (x := .int .i64 M.pfx.len) rfl))) | (have _t := KK; (with_reducible refine Rt.load_at 26 (x := .tmp 8) ?_ ⟨wr.heap.size, 0, none⟩ ?_ ?_ (KK.out.pf.mid 0 4 26 (cc := PF.cells) (by simp [Rt.Pf.cells]) (by rw [HPF.out]; simp [Rt.Pf.cells]) Tryd.underlying26 rfl (by kernel_rfl)) ?_); (with_reducible exact rfl); (exact rfl); (kernel_rfl); clear _t) | (go_at_call 28; go_fit (hct _); rintro e w12 ⟨rfl, hb9⟩; replace KK := Lib.hid (KK.out.keep hb9); clear hb9; (clear kA4 kA2 kC3 kR3; have kA4 := KK.out.ann.cell 4 (x := .int .u8 M.k) rfl; have kA2 := KK.out.ann.cell 2 (x := .int .u8 M.n) rfl; have kC3 := KK.out.pf.cell 3 (x := .int .i64 _) rfl; have kR3 := KK.out.row.cell 3 (x := .int .i64 M.pfx.len) rfl)) | (have t12 := KK.out.row; rw [Rt.RV.cells_split] at t12; (with_reducible refine Rt.store_part 31 (x := .tmp 90) (v := .tmp 89) ?_ R 6 ?_ (cs := CC.cells) ?_ ?_ t12 ?_ HC1.out HC2.out HC3.out ?_); (with_reducible exact rfl); (exact rfl); (exact rfl); (kernel_rfl); (exact rfl); (clear t12; intro w13 t13 g13; have t14 : Rt.Row w13 R 33 (Rt.RV.cells { M.x1 j with cert := CC } av j cv) := (Rt.RV.cells_join (M.x1 j) CC av j cv) ▸ t13; replace KK := Lib.hid (KK.out.setR t14 g13); clear t13 g13 t14; (clear kA4 kA2 kC3 kR3; have kA4 := KK.out.ann.cell 4 (x := .int .u8 M.k) rfl; have kA2 := KK.out.ann.cell 2 (x := .int .u8 M.n) rfl; have kC3 := KK.out.pf.cell 3 (x := .int .i64 _) rfl; have kR3 := KK.out.row.cell 3 (x := .int .i64 M.pfx.len) rfl); have kM := KK.out.row.cell 11 (x := .int .i64 CC.mx) rfl)) | (have t33 := KK.out.row; rw [← HFX.out] at t33; (with_reducible refine Rt.load_at 33 (x := .tmp 5) ?_ ⟨R, 0, none⟩ ?_ ?_ (t33.whole33 HF1.out) ?_); (with_reducible exact rfl); (exact rfl); (kernel_rfl); clear t33) | (have _t := KK; (with_reducible refine Rt.store_at 33 (x := .tmp 4) (v := .tmp 100) (cs := XF.cells av j cv) ?_ (w.heap.size + 1) ?_ ?_ ?_ KK.out.res ?_ ?_ ?_ ?_); (with_reducible exact rfl); (exact rfl); (exact rfl); (kernel_rfl); (exact HF2.out); (exact HF3.out); (exact HF4.out); (clear _t; intro w15 r1 r2 r3 r4)))
            exact bodyPost_ret (results_cell_row rfl _ _ _ 33 _ (0, 0) _ rfl r1 Tryd.underlying33 rfl HF3.out) rfl ⟨_, rfl, ⟨av, j, cv, by rw [HFX.out]; rw [Rt.Ann.rv3 M s hk3, HZS.out, ← HPF.out, ← HCC.out]; rfl, (show Rt.Strs w15 av j (M.rv s).path from by rw [show (M.rv s).path = M.zs j from HZS.out]; exact KK.out.st.moved (by rw [r2]; exact Nat.le_refl _) (fun b off e => r3 b (by have := KK.out.far b off e; have := KK.out.r0; omega))), HCV.out, KK.out.ty.moved (fun b off e => r3 b (by have := KK.out.far b off e; have := KK.out.r0; omega))⟩, r4 _ _ (by omega) KK.out.bel⟩
          · by_cases hk1 : M.k % 8 = 1
            · have t8 := T8.out
              rw [hk1] at t8
              by_cases hl : M.pfx.len > 8
              · have hpi := Rt.pfS_in M.p M.n HA.out.n0
                have hpl8 := Rt.pfS_len M.p M.n
                have hmk0 := fun u => Rt.maskR M.pfx.v M.pfx.hi M.pfx.lo (M.pfx.len - 8) u hpi.1.1 hpi.1.2 hpi.2.1 hpi.2.2 (by omega) (by have : M.pfx.len ≤ Rt.wide M.pfx.v := hpl8.2.2; omega)
                have d8 : (8 : Int) < M.pfx.len := hl
                have hpl9 : M.pfx.len ≤ 128 := hpl8.2.1
                obtain ⟨PF, hPF⟩ : ∃ p : Rt.Pf, p = (⟨M.pfx.v, mHi M.pfx.hi (M.pfx.len - 8), mLo M.pfx.lo (M.pfx.len - 8), M.pfx.len - 8⟩ : Rt.Pf) := ⟨_, rfl⟩
                obtain ⟨CC, hCC⟩ : ∃ x : Rt.CV, x = Rt.certV (Rt.lastOf s (M.zs j)) PF.v PF.hi PF.lo PF.len M.k := ⟨_, rfl⟩
                obtain ⟨XF, hXF⟩ : ∃ x : Rt.RV, x = ({ M.x1 j with cert := { CC with mx := M.pfx.len } }) := ⟨_, rfl⟩
                have hsg : CC.sg.length = 64 := by rw [hCC]; exact Rt.certV_sg _ _ _ _ _ _
                have hsx : XF.cert.sg.length = 64 := by rw [hXF]; exact hsg
                have hpl : 0 ≤ PF.len ∧ PF.len ≤ 128 := by rw [hPF]; exact ⟨by show 0 ≤ M.pfx.len - 8; omega, by show M.pfx.len - 8 ≤ 128; omega⟩
                have hct : ∀ u, Calls Tryd.prog 28 #[.string (Rt.lastOf s (M.zs j)), .agg PF.cells, .int .u8 M.k] u fun e w' => e = .returned (.agg CC.cells) ∧ Below u.heap.size u w' := fun u => by rw [hCC]; exact Rt.certS (Rt.lastOf s (M.zs j)) PF.v PF.hi PF.lo PF.len M.k HA.out.k0 HA.out.k1 hpl.1 hpl.2 u
                have HC1 : Hid ((M.x1 j).cert.list.length = CC.cells.size) := Lib.hid (by show Rt.CV.zero.list.length = _; rw [Rt.CV.zero_len, CC.cells_size hsg])
                have HC2 : Hid ((Tryd.prog.info? 31).map (·.size) = some CC.cells.size) := Lib.hid (by rw [CC.cells_size hsg]; exact Rt.size31)
                have HC3 : Hid (CC.cells.all (·.oneCell') = true) := Lib.hid CC.one
                have HC5 : Hid (11 < (Rt.RV.cells { M.x1 j with cert := CC } av j cv).size) := Lib.hid (by rw [Rt.RV.size _ hsg]; decide)
                have HF1 : Hid ((XF.cells av j cv).size = 79) := Lib.hid (XF.size hsx _ _ _)
                have HF2 : Hid ((XF.cells av j cv).size = Tryd.zeroCells33.size) := Lib.hid (by rw [XF.size hsx]; kernel_rfl)
                have HF3 : Hid ((Tryd.prog.info? 33).map (·.size) = some (XF.cells av j cv).size) := Lib.hid (XF.inf hsx _ _ _)
                have HF4 : Hid ((XF.cells av j cv).all (·.oneCell') = true) := Lib.hid (XF.one _ _ _)
                have HFX := Lib.hid hXF
                have HCC := Lib.hid hCC
                have HPF := Lib.hid hPF
                clear hpl hsg hsx hCC hPF hXF
                have hmk : ∀ u, Calls Tryd.prog 29 #[.agg #[.bool M.pfx.v, .int .u64 M.pfx.hi, .int .u64 M.pfx.lo], .int .i64 (M.pfx.len - 8)] u fun e w' => e = .returned (.tuple #[.agg PF.cells, .bool true]) ∧ Below u.heap.size u w' := by rw [HPF.out]; exact hmk0
                clear hmk0 hpi hpl8
                go_wp2_with (first | (have _t := HL26; (with_reducible refine Rt.load_at 26 (x := .tmp 47) ?_ ⟨R, 0, none⟩ ?_ ?_ HL26.out ?_); (with_reducible exact rfl); (exact rfl); (kernel_rfl); clear _t) | (have _t := HL26; (with_reducible refine Rt.store_at 26 (x := .tmp 8) (v := .tmp 48) (cs := M.pfx.cells) ?_ wr.heap.size ?_ ?_ ?_ (Rt.Row.new wr 26 #[.bool false, .int .u64 0, .int .u64 0, .int .i64 0]) ?_ ?_ ?_ ?_); (with_reducible exact rfl); (exact rfl); (exact rfl); (kernel_rfl); (kernel_rfl); (kernel_rfl); (kernel_rfl); (clear _t; intro w8 e1 e2 e3 e4; have KK : Hid (Rt.AnT w R wr.heap.size (M.cells a m c) ((M.x1 j).cells av j cv) M.pfx av j (M.zs j) w8) := Lib.hid (HT.out w8 e1 e2 e3 e4); have kA4 := KK.out.ann.cell 4 (x := .int .u8 M.k) rfl; have kA2 := KK.out.ann.cell 2 (x := .int .u8 M.n) rfl; have kC3 := KK.out.pf.cell 3 (x := .int .i64 _) rfl; have kR3 := KK.out.row.cell 3 (x := .int .i64 M.pfx.len) rfl; clear e1 e2 e3 e4)) | (have _t := KK; (with_reducible refine Rt.load_at 24 (x := .tmp 59) ?_ ⟨wr.heap.size, 0, none⟩ ?_ ?_ (KK.out.pf.mid 0 3 24 (cc := #[.bool M.pfx.v, .int .u64 M.pfx.hi, .int .u64 M.pfx.lo]) (by simp [Rt.Pf.cells]) (by simp [Rt.Pf.cells]) Tryd.underlying24 rfl (by kernel_rfl)) ?_); (with_reducible exact rfl); (exact rfl); (kernel_rfl); clear _t) | (go_at_call 29; go_fit (hmk _); rintro e w9 ⟨rfl, hb9⟩; replace KK := Lib.hid (KK.out.keep hb9); clear hb9; (clear kA4 kA2 kC3 kR3; have kA4 := KK.out.ann.cell 4 (x := .int .u8 M.k) rfl; have kA2 := KK.out.ann.cell 2 (x := .int .u8 M.n) rfl; have kC3 := KK.out.pf.cell 3 (x := .int .i64 _) rfl; have kR3 := KK.out.row.cell 3 (x := .int .i64 M.pfx.len) rfl)) | (have _t := KK; (with_reducible refine Rt.store_at 26 (x := .tmp 8) (v := .tmp 65) (cs := PF.cells) ?_ wr.heap.size ?_ ?_ ?_ KK.out.pf ?_ ?_ ?_ ?_); (with_reducible exact rfl); (exact rfl); (exact rfl); (kernel_rfl); (kernel_rfl); (kernel_rfl); (kernel_rfl); (clear _t; intro w10 e1 e2 e3 e4; replace KK := Lib.hid (KK.out.setC (p' := PF) e1 (Rt.grown_eq e2 e3 (e4 _ _ (Nat.zero_le _) (Below.refl _ _)))); clear e1 e2 e3 e4; (clear kA4 kA2 kC3 kR3; have kA4 := KK.out.ann.cell 4 (x := .int .u8 M.k) rfl; have kA2 := KK.out.ann.cell 2 (x := .int .u8 M.n) rfl; have kC3 := KK.out.pf.cell 3 (x := .int .i64 _) rfl; have kR3 := KK.out.row.cell 3 (x := .int .i64 M.pfx.len) rfl))) | (have _t := KK; (with_reducible refine Rt.load_at 26 (x := .tmp 8) ?_ ⟨wr.heap.size, 0, none⟩ ?_ ?_ (KK.out.pf.mid 0 4 26 (cc := PF.cells) (by simp [Rt.Pf.cells]) (by rw [HPF.out]; simp [Rt.Pf.cells]) Tryd.underlying26 rfl (by kernel_rfl)) ?_); (with_reducible exact rfl); (exact rfl); (kernel_rfl); clear _t) | (go_at_call 28; go_fit (hct _); rintro e w12 ⟨rfl, hb9⟩; replace KK := Lib.hid (KK.out.keep hb9); clear hb9; (clear kA4 kA2 kC3 kR3; have kA4 := KK.out.ann.cell 4 (x := .int .u8 M.k) rfl; have kA2 := KK.out.ann.cell 2 (x := .int .u8 M.n) rfl; have kC3 := KK.out.pf.cell 3 (x := .int .i64 _) rfl; have kR3 := KK.out.row.cell 3 (x := .int .i64 M.pfx.len) rfl)) | (have t12 := KK.out.row; rw [Rt.RV.cells_split] at t12; (with_reducible refine Rt.store_part 31 (x := .tmp 90) (v := .tmp 89) ?_ R 6 ?_ (cs := CC.cells) ?_ ?_ t12 ?_ HC1.out HC2.out HC3.out ?_); (with_reducible exact rfl); (exact rfl); (exact rfl); (kernel_rfl); (exact rfl); (clear t12; intro w13 t13 g13; have t14 : Rt.Row w13 R 33 (Rt.RV.cells { M.x1 j with cert := CC } av j cv) := (Rt.RV.cells_join (M.x1 j) CC av j cv) ▸ t13; replace KK := Lib.hid (KK.out.setR t14 g13); clear t13 g13 t14; (clear kA4 kA2 kC3 kR3; have kA4 := KK.out.ann.cell 4 (x := .int .u8 M.k) rfl; have kA2 := KK.out.ann.cell 2 (x := .int .u8 M.n) rfl; have kC3 := KK.out.pf.cell 3 (x := .int .i64 _) rfl; have kR3 := KK.out.row.cell 3 (x := .int .i64 M.pfx.len) rfl); have kM := KK.out.row.cell 11 (x := .int .i64 CC.mx) rfl)) | (have _t := KK; (with_reducible refine Rt.store_one 3 (x := .tmp 99) (v := .tmp 97) ?_ R 11 ?_ (z := .int .i64 M.pfx.len) ?_ ?_ KK.out.row ?_ ?_ ?_ ?_); (with_reducible exact rfl); (exact rfl); (exact rfl); (kernel_rfl); (exact HC5.out); (kernel_rfl); (exact rfl); (clear _t; intro w14 t14 g14; have t15 : Rt.Row w14 R 33 (Rt.RV.cells { M.x1 j with cert := { CC with mx := M.pfx.len } } av j cv) := t14; replace KK := Lib.hid (KK.out.setR t15 g14); clear t14 g14 t15; (clear kA4 kA2 kC3 kR3; have kA4 := KK.out.ann.cell 4 (x := .int .u8 M.k) rfl; have kA2 := KK.out.ann.cell 2 (x := .int .u8 M.n) rfl; have kC3 := KK.out.pf.cell 3 (x := .int .i64 _) rfl; have kR3 := KK.out.row.cell 3 (x := .int .i64 M.pfx.len) rfl))) | (have t33 := KK.out.row; rw [← HFX.out] at t33; (with_reducible refine Rt.load_at 33 (x := .tmp 5) ?_ ⟨R, 0, none⟩ ?_ ?_ (t33.whole33 HF1.out) ?_); (with_reducible exact rfl); (exact rfl); (kernel_rfl); clear t33) | (have _t := KK; (with_reducible refine Rt.store_at 33 (x := .tmp 4) (v := .tmp 100) (cs := XF.cells av j cv) ?_ (w.heap.size + 1) ?_ ?_ ?_ KK.out.res ?_ ?_ ?_ ?_); (with_reducible exact rfl); (exact rfl); (exact rfl); (kernel_rfl); (exact HF2.out); (exact HF3.out); (exact HF4.out); (clear _t; intro w15 r1 r2 r3 r4)))
                exact bodyPost_ret (results_cell_row rfl _ _ _ 33 _ (0, 0) _ rfl r1 Tryd.underlying33 rfl HF3.out) rfl ⟨_, rfl, ⟨av, j, cv, by rw [HFX.out]; rw [Rt.Ann.rv1a M s hk1 hl, HZS.out, ← HPF.out, ← HCC.out]; rfl, (show Rt.Strs w15 av j (M.rv s).path from by rw [show (M.rv s).path = M.zs j from HZS.out]; exact KK.out.st.moved (by rw [r2]; exact Nat.le_refl _) (fun b off e => r3 b (by have := KK.out.far b off e; have := KK.out.r0; omega))), HCV.out, KK.out.ty.moved (fun b off e => r3 b (by have := KK.out.far b off e; have := KK.out.r0; omega))⟩, r4 _ _ (by omega) KK.out.bel⟩
              · have d8 : ¬ (8 : Int) < M.pfx.len := hl
                obtain ⟨PF, hPF⟩ : ∃ p : Rt.Pf, p = M.pfx := ⟨_, rfl⟩
                obtain ⟨CC, hCC⟩ : ∃ x : Rt.CV, x = Rt.certV (Rt.lastOf s (M.zs j)) PF.v PF.hi PF.lo PF.len M.k := ⟨_, rfl⟩
                obtain ⟨XF, hXF⟩ : ∃ x : Rt.RV, x = ({ M.x1 j with cert := { CC with mx := M.pfx.len } }) := ⟨_, rfl⟩
                have hsg : CC.sg.length = 64 := by rw [hCC]; exact Rt.certV_sg _ _ _ _ _ _
                have hsx : XF.cert.sg.length = 64 := by rw [hXF]; exact hsg
                have hpl : 0 ≤ PF.len ∧ PF.len ≤ 128 := by rw [hPF]; exact ⟨(Rt.pfS_len _ _).1, (Rt.pfS_len _ _).2.1⟩
                have hct : ∀ u, Calls Tryd.prog 28 #[.string (Rt.lastOf s (M.zs j)), .agg PF.cells, .int .u8 M.k] u fun e w' => e = .returned (.agg CC.cells) ∧ Below u.heap.size u w' := fun u => by rw [hCC]; exact Rt.certS (Rt.lastOf s (M.zs j)) PF.v PF.hi PF.lo PF.len M.k HA.out.k0 HA.out.k1 hpl.1 hpl.2 u
                have HC1 : Hid ((M.x1 j).cert.list.length = CC.cells.size) := Lib.hid (by show Rt.CV.zero.list.length = _; rw [Rt.CV.zero_len, CC.cells_size hsg])
                have HC2 : Hid ((Tryd.prog.info? 31).map (·.size) = some CC.cells.size) := Lib.hid (by rw [CC.cells_size hsg]; exact Rt.size31)
                have HC3 : Hid (CC.cells.all (·.oneCell') = true) := Lib.hid CC.one
                have HC5 : Hid (11 < (Rt.RV.cells { M.x1 j with cert := CC } av j cv).size) := Lib.hid (by rw [Rt.RV.size _ hsg]; decide)
                have HF1 : Hid ((XF.cells av j cv).size = 79) := Lib.hid (XF.size hsx _ _ _)
                have HF2 : Hid ((XF.cells av j cv).size = Tryd.zeroCells33.size) := Lib.hid (by rw [XF.size hsx]; kernel_rfl)
                have HF3 : Hid ((Tryd.prog.info? 33).map (·.size) = some (XF.cells av j cv).size) := Lib.hid (XF.inf hsx _ _ _)
                have HF4 : Hid ((XF.cells av j cv).all (·.oneCell') = true) := Lib.hid (XF.one _ _ _)
                have HFX := Lib.hid hXF
                have HCC := Lib.hid hCC
                have HPF := Lib.hid hPF
                clear hpl hsg hsx hCC hPF hXF
                go_wp2_with (first | (have _t := HL26; (with_reducible refine Rt.load_at 26 (x := .tmp 47) ?_ ⟨R, 0, none⟩ ?_ ?_ HL26.out ?_); (with_reducible exact rfl); (exact rfl); (kernel_rfl); clear _t) | (have _t := HL26; (with_reducible refine Rt.store_at 26 (x := .tmp 8) (v := .tmp 48) (cs := M.pfx.cells) ?_ wr.heap.size ?_ ?_ ?_ (Rt.Row.new wr 26 #[.bool false, .int .u64 0, .int .u64 0, .int .i64 0]) ?_ ?_ ?_ ?_); (with_reducible exact rfl); (exact rfl); (exact rfl); (kernel_rfl); (kernel_rfl); (kernel_rfl); (kernel_rfl); (clear _t; intro w8 e1 e2 e3 e4; have KK : Hid (Rt.AnT w R wr.heap.size (M.cells a m c) ((M.x1 j).cells av j cv) M.pfx av j (M.zs j) w8) := Lib.hid (HT.out w8 e1 e2 e3 e4); have kA4 := KK.out.ann.cell 4 (x := .int .u8 M.k) rfl; have kA2 := KK.out.ann.cell 2 (x := .int .u8 M.n) rfl; have kC3 := KK.out.pf.cell 3 (x := .int .i64 _) rfl; have kR3 := KK.out.row.cell 3 (x := .int .i64 M.pfx.len) rfl; clear e1 e2 e3 e4)) | (have _t := KK; (with_reducible refine Rt.load_at 26 (x := .tmp 8) ?_ ⟨wr.heap.size, 0, none⟩ ?_ ?_ (KK.out.pf.mid 0 4 26 (cc := PF.cells) (by simp [Rt.Pf.cells]) (by rw [HPF.out]; simp [Rt.Pf.cells]) Tryd.underlying26 rfl (by kernel_rfl)) ?_); (with_reducible exact rfl); (exact rfl); (kernel_rfl); clear _t) | (go_at_call 28; go_fit (hct _); rintro e w12 ⟨rfl, hb9⟩; replace KK := Lib.hid (KK.out.keep hb9); clear hb9; (clear kA4 kA2 kC3 kR3; have kA4 := KK.out.ann.cell 4 (x := .int .u8 M.k) rfl; have kA2 := KK.out.ann.cell 2 (x := .int .u8 M.n) rfl; have kC3 := KK.out.pf.cell 3 (x := .int .i64 _) rfl; have kR3 := KK.out.row.cell 3 (x := .int .i64 M.pfx.len) rfl)) | (have t12 := KK.out.row; rw [Rt.RV.cells_split] at t12; (with_reducible refine Rt.store_part 31 (x := .tmp 90) (v := .tmp 89) ?_ R 6 ?_ (cs := CC.cells) ?_ ?_ t12 ?_ HC1.out HC2.out HC3.out ?_); (with_reducible exact rfl); (exact rfl); (exact rfl); (kernel_rfl); (exact rfl); (clear t12; intro w13 t13 g13; have t14 : Rt.Row w13 R 33 (Rt.RV.cells { M.x1 j with cert := CC } av j cv) := (Rt.RV.cells_join (M.x1 j) CC av j cv) ▸ t13; replace KK := Lib.hid (KK.out.setR t14 g13); clear t13 g13 t14; (clear kA4 kA2 kC3 kR3; have kA4 := KK.out.ann.cell 4 (x := .int .u8 M.k) rfl; have kA2 := KK.out.ann.cell 2 (x := .int .u8 M.n) rfl; have kC3 := KK.out.pf.cell 3 (x := .int .i64 _) rfl; have kR3 := KK.out.row.cell 3 (x := .int .i64 M.pfx.len) rfl); have kM := KK.out.row.cell 11 (x := .int .i64 CC.mx) rfl)) | (have _t := KK; (with_reducible refine Rt.store_one 3 (x := .tmp 99) (v := .tmp 97) ?_ R 11 ?_ (z := .int .i64 M.pfx.len) ?_ ?_ KK.out.row ?_ ?_ ?_ ?_); (with_reducible exact rfl); (exact rfl); (exact rfl); (kernel_rfl); (exact HC5.out); (kernel_rfl); (exact rfl); (clear _t; intro w14 t14 g14; have t15 : Rt.Row w14 R 33 (Rt.RV.cells { M.x1 j with cert := { CC with mx := M.pfx.len } } av j cv) := t14; replace KK := Lib.hid (KK.out.setR t15 g14); clear t14 g14 t15; (clear kA4 kA2 kC3 kR3; have kA4 := KK.out.ann.cell 4 (x := .int .u8 M.k) rfl; have kA2 := KK.out.ann.cell 2 (x := .int .u8 M.n) rfl; have kC3 := KK.out.pf.cell 3 (x := .int .i64 _) rfl; have kR3 := KK.out.row.cell 3 (x := .int .i64 M.pfx.len) rfl))) | (have t33 := KK.out.row; rw [← HFX.out] at t33; (with_reducible refine Rt.load_at 33 (x := .tmp 5) ?_ ⟨R, 0, none⟩ ?_ ?_ (t33.whole33 HF1.out) ?_); (with_reducible exact rfl); (exact rfl); (kernel_rfl); clear t33) | (have _t := KK; (with_reducible refine Rt.store_at 33 (x := .tmp 4) (v := .tmp 100) (cs := XF.cells av j cv) ?_ (w.heap.size + 1) ?_ ?_ ?_ KK.out.res ?_ ?_ ?_ ?_); (with_reducible exact rfl); (exact rfl); (exact rfl); (kernel_rfl); (exact HF2.out); (exact HF3.out); (exact HF4.out); (clear _t; intro w15 r1 r2 r3 r4)))
                exact bodyPost_ret (results_cell_row rfl _ _ _ 33 _ (0, 0) _ rfl r1 Tryd.underlying33 rfl HF3.out) rfl ⟨_, rfl, ⟨av, j, cv, by rw [HFX.out]; rw [Rt.Ann.rv1b M s hk1 (fun h => by omega), HZS.out, HCC.out, HPF.out]; rfl, (show Rt.Strs w15 av j (M.rv s).path from by rw [show (M.rv s).path = M.zs j from HZS.out]; exact KK.out.st.moved (by rw [r2]; exact Nat.le_refl _) (fun b off e => r3 b (by have := KK.out.far b off e; have := KK.out.r0; omega))), HCV.out, KK.out.ty.moved (fun b off e => r3 b (by have := KK.out.far b off e; have := KK.out.r0; omega))⟩, r4 _ _ (by omega) KK.out.bel⟩
            · have t8 := T8.out
              obtain ⟨r8, hr8⟩ : ∃ r, M.k % 8 = r := ⟨_, rfl⟩
              rw [hr8] at t8
              have h1 : ¬ r8 = 1 := by omega
              have h2 : ¬ r8 = 2 := by omega
              have h3 : ¬ r8 = 3 := by omega
              have h4 : 0 ≤ r8 := by omega
              have h5 : r8 < 8 := by omega
              clear hr8
              obtain ⟨PF, hPF⟩ : ∃ p : Rt.Pf, p = M.pfx := ⟨_, rfl⟩
              obtain ⟨CC, hCC⟩ : ∃ x : Rt.CV, x = Rt.certV (Rt.lastOf s (M.zs j)) PF.v PF.hi PF.lo PF.len M.k := ⟨_, rfl⟩
              obtain ⟨XF, hXF⟩ : ∃ x : Rt.RV, x = ({ M.x1 j with cert := CC }) := ⟨_, rfl⟩
              have hsg : CC.sg.length = 64 := by rw [hCC]; exact Rt.certV_sg _ _ _ _ _ _
              have hsx : XF.cert.sg.length = 64 := by rw [hXF]; exact hsg
              have hpl : 0 ≤ PF.len ∧ PF.len ≤ 128 := by rw [hPF]; exact ⟨(Rt.pfS_len _ _).1, (Rt.pfS_len _ _).2.1⟩
              have hct : ∀ u, Calls Tryd.prog 28 #[.string (Rt.lastOf s (M.zs j)), .agg PF.cells, .int .u8 M.k] u fun e w' => e = .returned (.agg CC.cells) ∧ Below u.heap.size u w' := fun u => by rw [hCC]; exact Rt.certS (Rt.lastOf s (M.zs j)) PF.v PF.hi PF.lo PF.len M.k HA.out.k0 HA.out.k1 hpl.1 hpl.2 u
              have HC1 : Hid ((M.x1 j).cert.list.length = CC.cells.size) := Lib.hid (by show Rt.CV.zero.list.length = _; rw [Rt.CV.zero_len, CC.cells_size hsg])
              have HC2 : Hid ((Tryd.prog.info? 31).map (·.size) = some CC.cells.size) := Lib.hid (by rw [CC.cells_size hsg]; exact Rt.size31)
              have HC3 : Hid (CC.cells.all (·.oneCell') = true) := Lib.hid CC.one
              have HC5 : Hid (11 < (Rt.RV.cells { M.x1 j with cert := CC } av j cv).size) := Lib.hid (by rw [Rt.RV.size _ hsg]; decide)
              have HF1 : Hid ((XF.cells av j cv).size = 79) := Lib.hid (XF.size hsx _ _ _)
              have HF2 : Hid ((XF.cells av j cv).size = Tryd.zeroCells33.size) := Lib.hid (by rw [XF.size hsx]; kernel_rfl)
              have HF3 : Hid ((Tryd.prog.info? 33).map (·.size) = some (XF.cells av j cv).size) := Lib.hid (XF.inf hsx _ _ _)
              have HF4 : Hid ((XF.cells av j cv).all (·.oneCell') = true) := Lib.hid (XF.one _ _ _)
              have HFX := Lib.hid hXF
              have HCC := Lib.hid hCC
              have HPF := Lib.hid hPF
              clear hpl hsg hsx hCC hPF hXF
              go_wp2_with (first | (have _t := HL26; (with_reducible refine Rt.load_at 26 (x := .tmp 47) ?_ ⟨R, 0, none⟩ ?_ ?_ HL26.out ?_); (with_reducible exact rfl); (exact rfl); (kernel_rfl); clear _t) | (have _t := HL26; (with_reducible refine Rt.store_at 26 (x := .tmp 8) (v := .tmp 48) (cs := M.pfx.cells) ?_ wr.heap.size ?_ ?_ ?_ (Rt.Row.new wr 26 #[.bool false, .int .u64 0, .int .u64 0, .int .i64 0]) ?_ ?_ ?_ ?_); (with_reducible exact rfl); (exact rfl); (exact rfl); (kernel_rfl); (kernel_rfl); (kernel_rfl); (kernel_rfl); (clear _t; intro w8 e1 e2 e3 e4; have KK : Hid (Rt.AnT w R wr.heap.size (M.cells a m c) ((M.x1 j).cells av j cv) M.pfx av j (M.zs j) w8) := Lib.hid (HT.out w8 e1 e2 e3 e4); have kA4 := KK.out.ann.cell 4 (x := .int .u8 M.k) rfl; have kA2 := KK.out.ann.cell 2 (x := .int .u8 M.n) rfl; have kC3 := KK.out.pf.cell 3 (x := .int .i64 _) rfl; have kR3 := KK.out.row.cell 3 (x := .int .i64 M.pfx.len) rfl; clear e1 e2 e3 e4)) | (have _t := KK; (with_reducible refine Rt.load_at 26 (x := .tmp 8) ?_ ⟨wr.heap.size, 0, none⟩ ?_ ?_ (KK.out.pf.mid 0 4 26 (cc := PF.cells) (by simp [Rt.Pf.cells]) (by rw [HPF.out]; simp [Rt.Pf.cells]) Tryd.underlying26 rfl (by kernel_rfl)) ?_); (with_reducible exact rfl); (exact rfl); (kernel_rfl); clear _t) | (go_at_call 28; go_fit (hct _); rintro e w12 ⟨rfl, hb9⟩; replace KK := Lib.hid (KK.out.keep hb9); clear hb9; (clear kA4 kA2 kC3 kR3; have kA4 := KK.out.ann.cell 4 (x := .int .u8 M.k) rfl; have kA2 := KK.out.ann.cell 2 (x := .int .u8 M.n) rfl; have kC3 := KK.out.pf.cell 3 (x := .int .i64 _) rfl; have kR3 := KK.out.row.cell 3 (x := .int .i64 M.pfx.len) rfl)) | (have t12 := KK.out.row; rw [Rt.RV.cells_split] at t12; (with_reducible refine Rt.store_part 31 (x := .tmp 90) (v := .tmp 89) ?_ R 6 ?_ (cs := CC.cells) ?_ ?_ t12 ?_ HC1.out HC2.out HC3.out ?_); (with_reducible exact rfl); (exact rfl); (exact rfl); (kernel_rfl); (exact rfl); (clear t12; intro w13 t13 g13; have t14 : Rt.Row w13 R 33 (Rt.RV.cells { M.x1 j with cert := CC } av j cv) := (Rt.RV.cells_join (M.x1 j) CC av j cv) ▸ t13; replace KK := Lib.hid (KK.out.setR t14 g13); clear t13 g13 t14; (clear kA4 kA2 kC3 kR3; have kA4 := KK.out.ann.cell 4 (x := .int .u8 M.k) rfl; have kA2 := KK.out.ann.cell 2 (x := .int .u8 M.n) rfl; have kC3 := KK.out.pf.cell 3 (x := .int .i64 _) rfl; have kR3 := KK.out.row.cell 3 (x := .int .i64 M.pfx.len) rfl); have kM := KK.out.row.cell 11 (x := .int .i64 CC.mx) rfl)) | (have t33 := KK.out.row; rw [← HFX.out] at t33; (with_reducible refine Rt.load_at 33 (x := .tmp 5) ?_ ⟨R, 0, none⟩ ?_ ?_ (t33.whole33 HF1.out) ?_); (with_reducible exact rfl); (exact rfl); (kernel_rfl); clear t33) | (have _t := KK; (with_reducible refine Rt.store_at 33 (x := .tmp 4) (v := .tmp 100) (cs := XF.cells av j cv) ?_ (w.heap.size + 1) ?_ ?_ ?_ KK.out.res ?_ ?_ ?_ ?_); (with_reducible exact rfl); (exact rfl); (exact rfl); (kernel_rfl); (exact HF2.out); (exact HF3.out); (exact HF4.out); (clear _t; intro w15 r1 r2 r3 r4)))
              exact bodyPost_ret (results_cell_row rfl _ _ _ 33 _ (0, 0) _ rfl r1 Tryd.underlying33 rfl HF3.out) rfl ⟨_, rfl, ⟨av, j, cv, by rw [HFX.out]; rw [Rt.Ann.rv0 M s hk1 hk2 hk3, HZS.out, HCC.out, HPF.out]; rfl, (show Rt.Strs w15 av j (M.rv s).path from by rw [show (M.rv s).path = M.zs j from HZS.out]; exact KK.out.st.moved (by rw [r2]; exact Nat.le_refl _) (fun b off e => r3 b (by have := KK.out.far b off e; have := KK.out.r0; omega))), HCV.out, KK.out.ty.moved (fun b off e => r3 b (by have := KK.out.far b off e; have := KK.out.r0; omega))⟩, r4 _ _ (by omega) KK.out.bel⟩
end Go.Proofs
