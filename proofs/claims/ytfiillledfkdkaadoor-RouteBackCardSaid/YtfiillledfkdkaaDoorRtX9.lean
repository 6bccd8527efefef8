/- Routes read. -/
import Derived.Test.YtfiillledfkdkaaDoorRtX8
import Derived.Test.YtfiillledfkdkaaDoorRtX6
set_option linter.unusedVariables false
set_option linter.unusedSimpArgs false
set_option linter.unusedSimpArgs false
namespace Go.Proofs
open Go.Shelf Go.RowKit Go.Lib Go.Rt Go.Nam Go.Tp
/-- So many texts read. -/
def Rt.texts (l : List Int) (bad : Bool) : Nat → List ByteArray × List Int × Bool
  | 0 => ([], l, bad)
  | k + 1 => let p := Rt.texts l bad k; let t := Rt.text p.2.1 p.2.2; (p.1 ++ [t.1], t.2.1, t.2.2)
theorem Rt.texts_len (l : List Int) (bad : Bool) : ∀ k, (Rt.texts l bad k).1.length = k
  | 0 => rfl
  | k + 1 => by simp [Rt.texts, Rt.texts_len l bad k]
def Rt.RsT (B : Nat) (x : Value) (l : List Int) (bad : Bool) : Ty := ⟨fun v u => v = x ∧ Rt.Rs u B l bad, fun _ _ _ h k => ⟨h.1, h.2.grown k⟩⟩
theorem Rt.Rs.oe {u u' : World} {B : Nat} {l : List Int} {bad : Bool} (h : Rt.Rs u B l bad) (hg : u.grownBy u' (some B)) (n0 : Nat) : OE n0 (some B) u u' :=
  ⟨hg.os, hg.tape, hg.output, hg.size, fun b hb hc => by
    refine hg.block b hb fun e => ?_
    rcases hc with ⟨_, h2⟩ | ⟨x, t, fr, h2⟩
    · exact h2 e
    · cases e
      obtain ⟨⟨a, n, c, hr, _, _⟩, _, _⟩ := h
      rw [hr] at h2
      simp at h2⟩
theorem Rt.Rs.txt_oe {u : World} {B : Nat} {l : List Int} {bad : Bool} (h : Rt.Rs u B l bad) (n0 : Nat) :
    Calls Tryd.prog 51 #[.pointer (some ⟨B, 0, none⟩)] u fun e w' => ∃ v, e = .returned v ∧ (Rt.RsT B (.string (Rt.text l bad).1) (Rt.text l bad).2.1 (Rt.text l bad).2.2).p v w' ∧ OE n0 (some B) u w' :=
  Calls.mono h.txt fun _ _ ⟨a, b, c⟩ => ⟨_, a, ⟨rfl, b⟩, h.oe c n0⟩
theorem Rt.info9 : (Tryd.prog.info? 9).map (fun i => (i.zero, i.size, i.bytes)) = some (some (.string ByteArray.empty), 1, 16) := by kernel_rfl
theorem Rt.texts_small (l : List Int) (bad : Bool) (h : Rt.Byt l) : ∀ k, Rt.Byt (Rt.texts l bad k).2.1 ∧ ∀ s ∈ (Rt.texts l bad k).1, s.size ≤ 255
  | 0 => ⟨h, by simp [Rt.texts]⟩
  | k + 1 => by
    obtain ⟨h1, h2⟩ := Rt.texts_small l bad h k
    refine ⟨h1.text _, fun s hs => ?_⟩
    simp only [Rt.texts, List.mem_append, List.mem_singleton] at hs
    rcases hs with hs | rfl
    · exact h2 s hs
    · exact Rt.text_small h1 _
theorem Rt.Strs.of_own {u : World} {base : Nat} {a : Option Addr} {n c : Nat} {zs : List ByteArray} (h : u.ownsRow base 9 1 (.slice a n c) n (zs.map Value.string)) (hn : n ≤ 1099511627776) (hs : ∀ s ∈ zs, s.size ≤ 255) : Rt.Strs u a n zs := by
  obtain ⟨a', c', e, sl, _⟩ := Sl.of_own h
  cases e
  have hl : zs.length = n := by have := sl.len; simpa using this
  refine ⟨hl, fun j hj => sl.at_ (by omega), fun b off e j hj => ?_, hn, fun j hj => ?_⟩
  · exact sl.cell b off e j _ (by rw [List.getElem?_map, List.getElem?_eq_getElem (by omega)]; simp [List.getD, List.getElem?_eq_getElem (show j < zs.length by omega)])
  · have hj2 : j < zs.length := by omega
    have := hs (zs.getD j ByteArray.empty) (by simp [List.getD, List.getElem?_eq_getElem hj2])
    omega
/-- What a route's bytes come to. -/
def Rt.routeRd (l : List Int) : Rt.RV × Bool :=
  let c := Rt.num l false 1
  let t := Rt.texts c.2.1 c.2.2 c.1.toNat
  let o := Rt.num t.2.1 t.2.2 4
  let p := Rt.pfxR o.2.1 o.2.2
  let ct := Rt.certRd p.rest
  (⟨p.v, p.hi, p.lo, p.len, t.1, o.1, ct.1⟩, !p.bad && ct.2 && Rt.certOk ct.1)
def Rt.ReadPost (w : World) (x : Rt.RV) (ok : Bool) : Ending → World → Prop := fun e w' => Below w.heap.size w w' ∧
  if ok then ∃ a n c, e = .returned (.tuple #[.agg (x.cells a n c), .int .i64 0]) ∧ Rt.Strs w' a n x.path ∧ n ≤ c else e = .returned (.tuple #[.agg Tryd.zeroCells33, .int .i64 20])
theorem Rt.setCells_part (B : Nat) (t : TypeId) : ∀ (vs pre old post : List Value) (w : World), vs.length = old.length → Rt.Row w B t (pre ++ old ++ post).toArray → Rt.Row (w.setCells B pre.length vs) B t (pre ++ vs ++ post).toArray
  | [], pre, old, post, w, hl, h => by
    have : old = [] := List.length_eq_zero_iff.1 hl.symm
    subst this
    exact h
  | v :: r, pre, [], post, w, hl, h => by simp at hl
  | v :: r, pre, o :: os, post, w, hl, h => by
    have h1 := h.set pre.length v
    have e : (pre ++ o :: os ++ post).toArray.setIfInBounds pre.length v = ((pre ++ [v]) ++ os ++ post).toArray := by simp
    rw [e] at h1
    have h2 := Rt.setCells_part B t r (pre ++ [v]) os post _ (by simpa using hl) h1
    rw [World.setCells]
    simpa using h2
theorem Rt.store_part {P : Program} {ops : Array Oper} {rest : List Oper} {o : Oper} {a : Act} {w : World} {Q : Exit → Act → World → Prop} (ty : TypeId) {x v : Operand} (ho : o.op = .store ty x v)
    (B off : Nat) (hx : a.eval x = .pointer (some ⟨B, off, none⟩)) {cs : Array Value} (hv : a.eval v = .agg cs) (hw : Region.wanted o (yielded ops a.tmps) = true) {t : TypeId} {pre old post : List Value} (hB : Rt.Row w B t (pre ++ old ++ post).toArray) (hp : pre.length = off) (hl : old.length = cs.size) (hi : (P.info? ty).map (·.size) = some cs.size) (h1 : cs.all (·.oneCell') = true)
    (h : ∀ w', Rt.Row w' B t (pre ++ cs.toList ++ post).toArray → w.grownBy w' (some B) → wpList P ops Q rest (a.put o.dst undef) w') : wpList P ops Q (o :: rest) a w := by
  subst hp
  refine BigFrame.wpList_want hw fun K hK => ?_
  have hst : (storeVar ty ⟨B, pre.length, none⟩ (.agg cs)).run P w = .ok () (w.setCells B pre.length cs.toList) :=
    run_storeVar_mid w B pre.length ty cs (fun j hj => ⟨by
      have : ∃ y, (pre ++ old ++ post)[pre.length + j]? = some y := ⟨_, List.getElem?_eq_getElem (by simp; omega)⟩
      obtain ⟨y, hy⟩ := this
      rw [hB.cell (pre.length + j) (by simpa using hy)]; rfl, hB.free _⟩) hi h1
  have hr := h _ (Rt.setCells_part B t cs.toList pre old post w (by simp [hl]) hB) ⟨(Rt.setCells_below B cs.toList _ w (Nat.zero_le _) (Below.refl 0 w)).os, (Rt.setCells_below B cs.toList _ w (Nat.zero_le _) (Below.refl 0 w)).tape, (Rt.setCells_below B cs.toList _ w (Nat.zero_le _) (Below.refl 0 w)).output, by rw [Rt.setCells_size]; exact Nat.le_refl _, fun k _ hk => Rt.setCells_heap B cs.toList _ w k (fun e => hk (by rw [e]))⟩
  unfold Oper.wp execOp
  simp only [ho, hx, hv, Instr.storeAt, Instr.sureAddr, Sem.run_bind, Sem.run_pure, Result.andThen_ok, hst]
  exact hK _ _ hr
/-- What stays while the fields are filled. -/
structure Rt.RdK (w w2 : World) (n : Nat) (v : Value) (zs : List ByteArray) (u : World) : Prop where
  own : u.ownsRow w2.heap.size 9 1 v n (zs.map Value.string)
  res : Rt.Row u w.heap.size 33 Tryd.zeroCells33
  bel : Below w.heap.size w u
  sz : w2.heap.size ≤ u.heap.size
theorem Rt.RdK.grown {w w2 u u' : World} {n : Nat} {v : Value} {zs : List ByteArray} (h : Rt.RdK w w2 n v zs u) {row : Option Nat} (hg : u.grownBy u' row) (hr : ∀ b, row = some b → w.heap.size < b ∧ b < w2.heap.size) : Rt.RdK w w2 n v zs u' := by
  refine ⟨h.own.kept hg ?_, (hg.block _ h.res.lt (fun e => by have := hr _ e.symm; omega)).trans h.res, h.bel.grown hg h.bel.size (fun b e => by have := hr b e; omega), Nat.le_trans h.sz hg.size⟩
  cases hv : v.ownBlock with
  | none => exact .inl rfl
  | some g =>
    refine .inr fun e => ?_
    have := h.own.lt g hv
    have := hr g e.symm
    omega
theorem Rt.CV.one (x : Rt.CV) : x.cells.all (·.oneCell') = true := by
  rw [Array.all_eq_true_iff_forall_mem]
  intro y hy
  unfold Rt.CV.cells Rt.CV.list at hy
  simp only [List.mem_toArray, List.mem_cons, List.mem_map] at hy
  rcases hy with rfl | rfl | rfl | rfl | rfl | rfl | rfl | rfl | rfl | ⟨z, _, rfl⟩ <;> rfl
theorem Rt.ReadPost.bad {w w' : World} {x : Rt.RV} (h : Below w.heap.size w w') : Rt.ReadPost w x false (.returned (.tuple #[.agg Tryd.zeroCells33, .int .i64 20])) w' := ⟨h, by simp⟩
theorem Rt.ReadPost.good {w w' : World} {x : Rt.RV} {a : Option Addr} {n c : Nat} (h : Below w.heap.size w w') (hs : Rt.Strs w' a n x.path) (hn : n ≤ c) : Rt.ReadPost w x true (.returned (.tuple #[.agg (x.cells a n c), .int .i64 0])) w' := ⟨h, by simp only [if_true]; exact ⟨a, n, c, rfl, hs, hn⟩⟩
set_option maxHeartbeats 4000000 in
set_option maxRecDepth 100000 in
theorem Rt.routeRead (a : Option Addr) (n c : Nat) (l : List Int) (w : World) (hs : Sl w a n c (l.map (Value.int .u8))) (hl : l.length ≤ 1099511627776) (hb : Rt.Byt l) (hT : Utf8Tabs 0 1 w) :
    Calls Tryd.prog 25 #[.slice a n c] w (Rt.ReadPost w (Rt.routeRd l).1 ((Rt.routeRd l).2 && (Rt.routeRd l).1.right)) := by
  obtain ⟨i9, hi9, hz0, hz1, hz2⟩ := info_parts Rt.info9
  obtain ⟨X, hX⟩ : ∃ X, Rt.routeRd l = X := ⟨_, rfl⟩
  rw [hX]
  obtain ⟨Q, hQ⟩ : ∃ Q, Rt.ReadPost w X.1 (X.2 && X.1.right) = Q := ⟨_, rfl⟩
  rw [hQ]
  unfold Rt.routeRd at hX
  dsimp only at hX
  have HQ := Lib.hid hQ
  have HX := Lib.hid hX
  obtain ⟨B, hB⟩ : ∃ B, w.heap.size + 1 = B := ⟨_, rfl⟩
  obtain ⟨C, hC⟩ : ∃ C, w.heap.size + 1 + 1 = C := ⟨_, rfl⟩
  obtain ⟨w2, hw2⟩ : ∃ w2, ((w.alloc (.cells Tryd.zeroCells33 33)).alloc (.cells #[.slice a n c, .bool false] 88)).alloc (.cells Tryd.zeroCells33 33) = w2 := ⟨_, rfl⟩
  have hs2 : w2.heap.size = w.heap.size + 3 := by rw [← hw2]; simp
  have bb2 : Below w.heap.size w w2 := by rw [← hw2]; exact (((Below.refl _ _).alloc (Nat.le_refl _) _).alloc (by simp) _).alloc (by simp; omega) _
  have rr2 : Rt.Row w2 w.heap.size 33 Tryd.zeroCells33 := by rw [← hw2]; exact ((Rt.Row.new w 33 Tryd.zeroCells33).alloc _).alloc _
  have rb2 : Rt.Row w2 B 88 #[.slice a n c, .bool false] := by
    rw [← hw2, ← hB]
    have := (Rt.Row.new (w.alloc (.cells Tryd.zeroCells33 33)) 88 #[.slice a n c, .bool false]).alloc (.cells Tryd.zeroCells33 33)
    simpa using this
  have rc2 : Rt.Row w2 C 33 Tryd.zeroCells33 := by
    rw [← hw2, ← hC]
    have := Rt.Row.new ((w.alloc (.cells Tryd.zeroCells33 33)).alloc (.cells #[.slice a n c, .bool false] 88)) 33 Tryd.zeroCells33
    simpa using this
  have rs2 : Rt.Rs w2 B l false := ⟨⟨a, n, c, rb2, hs.keep bb2, fun h0 b off e => by obtain ⟨b', off', e', hb'⟩ := hs.at_ h0; rw [e] at e'; cases e'; omega⟩, hl, hb⟩
  have hBw : w.heap.size < B := by omega
  have hCB : B < C := by omega
  have hC2 : C < w2.heap.size := by omega
  have RK : Hid (∀ (u u' : World) (D : Nat) (cs : Array Value), D ≠ B → u.grownBy u' (some B) → Rt.Row u D 33 cs → Rt.Row u' D 33 cs) := Lib.hid fun u u' D cs hD hg hr => (hg.block D hr.lt (by simp; omega)).trans hr
  have BG : Hid (∀ (u u' : World), Below w.heap.size w u → u.grownBy u' (some B) → Below w.heap.size w u') := Lib.hid fun u u' h g => h.grown g h.size (fun k hk => by cases hk; omega)
  have H2 := Lib.hid rs2
  have R2 := Lib.hid rr2
  have C2 := Lib.hid rc2
  have D2 := Lib.hid bb2
  have HW2 := Lib.hid hw2
  have HBB := Lib.hid hB
  have HCC := Lib.hid hC
  have S2 : w2.heap.size ≤ w2.heap.size := Nat.le_refl _
  clear hX hs hl hb rs2 rr2 rb2 rc2 bb2 hw2 hB hC hQ hs2
  go_enter Tryd.func25, Tryd.ntmps25
  go_wp2_with fail
  rw [HCC.out, HBB.out, HW2.out]
  have m3 := Rt.num1_in (bad := false) H2.out.by_ 1
  refine (H2.out.num 1 1 rfl (by omega)).mono ?_
  rintro e w3 ⟨rfl, h3, g3⟩
  have H3 := Lib.hid h3
  have R3 := Lib.hid (RK.out _ _ w.heap.size _ (by omega) g3 R2.out)
  have C3 := Lib.hid (RK.out _ _ C _ (by omega) g3 C2.out)
  have S3 := Nat.le_trans S2 g3.size
  have D3 := Lib.hid (BG.out _ _ D2.out g3)
  clear h3 g3
  generalize Rt.num l false 1 = Z3 at *
  rw [Int.pow_one] at m3
  obtain ⟨m30, m31⟩ := m3
  obtain ⟨N, hN⟩ : ∃ N : Nat, Z3.1 = (N : Int) := ⟨Z3.1.toNat, by omega⟩
  have hN2 : Z3.1.toNat = N := by omega
  rw [hN2] at HX
  rw [hN] at m30 m31 ⊢
  clear hN2
  have hN255 : N ≤ 255 := by omega
  have HN := Lib.hid hN
  clear hN m30 m31
  go_wp2_with fail
  go_loopw [13] (fun u wr => ∃ (i : Nat) (v : Value), i ≤ N ∧ u = .int .u64 (i : Int) ∧ wr.ownsRow w2.heap.size 9 1 v i ((Rt.texts Z3.2.1 Z3.2.2 i).1.map Value.string) ∧ Rt.Rs wr B (Rt.texts Z3.2.1 Z3.2.2 i).2.1 (Rt.texts Z3.2.1 Z3.2.2 i).2.2 ∧ Rt.Row wr C 33 (Tryd.zeroCells33.setIfInBounds 4 v) ∧ Rt.Row wr w.heap.size 33 Tryd.zeroCells33 ∧ Below w.heap.size w wr ∧ w2.heap.size ≤ wr.heap.size) (fun u _ => N - (Go.RowKit.intOf u).toNat)
  case atStart => exact ⟨0, .slice none 0 0, Nat.zero_le _, rfl, World.ownsRow_nil _ _ _ _, H3.out, C3.out, R3.out, D3.out, S3⟩
  case round =>
    obtain ⟨i, v, hi, rfl, ho, hr, hc, hrr, hd, hsz⟩ := hrel
    have HO := Lib.hid ho
    have HR := Lib.hid hr
    have HC := Lib.hid hc
    have HRR := Lib.hid hrr
    have HD := Lib.hid hd
    clear ho hr hc hrr hd
    by_cases hin : i < N
    · have q0 : (0 : Int) ≤ (i : Int) := Int.natCast_nonneg _
      have q1 : (i : Int) < (N : Int) := by omega
      have K1 : ∀ u, wr.grownBy u (some B) → u.cell? ⟨C, 4, none⟩ = some v := fun u hu => (RK.out _ _ C _ (by omega) hu HC.out).cell 4 (by kernel_rfl)
      have hlen := Rt.texts_len Z3.2.1 Z3.2.2 i
      have HTX : Hid (Rt.texts Z3.2.1 Z3.2.2 (i + 1) = ((Rt.texts Z3.2.1 Z3.2.2 i).1 ++ [(Rt.text (Rt.texts Z3.2.1 Z3.2.2 i).2.1 (Rt.texts Z3.2.1 Z3.2.2 i).2.2).1], (Rt.text (Rt.texts Z3.2.1 Z3.2.2 i).2.1 (Rt.texts Z3.2.1 Z3.2.2 i).2.2).2)) := Lib.hid rfl
      generalize Rt.texts Z3.2.1 Z3.2.2 i = T at *
      have hcall := fun u (h : Rt.Rs u B T.2.1 T.2.2) => h.txt_oe wr.heap.size
      generalize Rt.text T.2.1 T.2.2 = Y at *
      go_wp2
      refine Tp.region_o [3] [] (some B) (fun u => Rt.Rs u B T.2.1 T.2.2) (fun u u' h k => h.grown k) (HR.out.grown (Below.refl _ _).drew) (by kernel_rfl) 5 55 [[(5, none)], [(15, some 0)], [(4, none)], [(17, some 2)], [(18, some 3)]] (by kernel_rfl) (by kernel_rfl) rfl ?_
      apply Exists.intro [_, _, _, _, _]
      refine ⟨⟨?_, ?_, ?_, ?_, ?_, trivial⟩, ?_, ?_⟩
      · intro A u hC hG hF hu hR; clear hG
        refine Tp.facts_old (fun h5 => ?_) rfl; conv at h5 => rhs; whnf
        refine Tp.facts_nil ?_
        refine Tp.wants_plain rfl ?_
        refine Tp.aim_l ?_
        (apply Tp.gives_run; (simp [go_sem, hC, hF, hu, h5,  K1]; exact rfl); (refine Tp.given_is ?_; exact rfl))
      · intro A u hC hG hF hu hR; clear hG
        first | refine Tp.facts_is rfl (fun h15 => ?_) | refine Tp.facts_ty rfl (fun v15 h15 k15 => ?_)
        refine Tp.facts_nil ?_
        refine Tp.wants_plain rfl ?_
        refine Tp.aim_l ?_
        (apply Tp.gives_run; (simp [go_sem, hC, hF, hu, h15,  K1]; exact rfl); (refine Tp.given_is ?_; exact rfl))
      · intro A u hC hG hF hu hR; clear hG
        refine Tp.facts_old (fun h4 => ?_) rfl; conv at h4 => rhs; whnf
        refine Tp.facts_nil ?_
        refine Tp.wants_plain rfl ?_
        refine Tp.aim_l ?_
        (apply Tp.gives_run; (simp [go_sem, hC, hF, hu, h4,  K1]; exact rfl); (refine Tp.given_is ?_; exact rfl))
      · intro A u hC hG hF hu hR; clear hG
        first | refine Tp.facts_is rfl (fun h17 => ?_) | refine Tp.facts_ty rfl (fun v17 h17 k17 => ?_)
        refine Tp.facts_nil ?_
        refine Tp.wants_plain rfl ?_
        (apply Tp.gives_run; (simp [go_sem, hC, hF, hu, h17,  K1]; exact rfl); (refine Tp.given_own ?_ (by decide) (hcall u (hR (by kernel_rfl))); exact rfl))
      · intro A u hC hG hF hu hR; clear hG
        first | refine Tp.facts_is rfl (fun h18 => ?_) | refine Tp.facts_ty rfl (fun v18 h18 k18 => ?_)
        refine Tp.facts_nil ?_
        refine Tp.wants_plain rfl ?_
        refine Tp.aim_l ?_
        (obtain ⟨e18, _⟩ := k18; subst e18; apply Tp.gives_run; (simp [go_sem, hC, hF, hu, h18,  K1]; exact rfl); (refine Tp.given_ty ?_ (Tp.cell1_new u 9 _) ((Below.refl _ _).alloc (Nat.le_refl _) _); exact rfl))
      · exact ⟨.inr (by first | exact Tp.ost_is _ | exact Tp.ost_cell1 _ _ | exact Tp.ost_any), .inr (by first | exact Tp.ost_is _ | exact Tp.ost_cell1 _ _ | exact Tp.ost_any), .inr (by first | exact Tp.ost_is _ | exact Tp.ost_cell1 _ _ | exact Tp.ost_any), .inl (by decide), .inr (by first | exact Tp.ost_is _ | exact Tp.ost_cell1 _ _ | exact Tp.ost_any), trivial⟩
      intro wq1 bq1
      first | refine Tp.fin_is rfl rfl rfl ?_ | refine Tp.fin_ty rfl rfl rfl (fun y15 q15 => ?_)
      first | refine Tp.fin_is rfl rfl rfl ?_ | refine Tp.fin_ty rfl rfl rfl (fun y16 q16 => ?_)
      first | refine Tp.fin_is rfl rfl rfl ?_ | refine Tp.fin_ty rfl rfl rfl (fun y17 q17 => ?_)
      first | refine Tp.fin_is rfl rfl rfl ?_ | refine Tp.fin_ty rfl rfl rfl (fun y18 q18 => ?_)
      first | refine Tp.fin_is rfl rfl rfl ?_ | refine Tp.fin_ty rfl rfl rfl (fun y19 q19 => ?_)
      refine Tp.fin_nil ?_
      simp only [Act.put, List.setIfInBounds_toArray, List.set_cons_succ, List.set_cons_zero, List.drop_succ_cons, List.drop_zero, List.drop_nil]
      obtain ⟨rfl, r4⟩ := q18
      obtain ⟨g19, rfl, s19⟩ := cell1_sl q19
      have hvb : v.ownBlock ≠ some B := fun e => by have := (HO.out.lt B e).1; omega
      have O4 := Lib.hid (HO.out.kept bq1 (.inr hvb))
      have C4 := Lib.hid (RK.out _ _ C _ (by omega) bq1 HC.out)
      have R4 := Lib.hid (RK.out _ _ w.heap.size _ (by omega) bq1 HRR.out)
      have D4 := Lib.hid (BG.out _ _ HD.out bq1)
      have S4 : w2.heap.size ≤ wq1.heap.size := Nat.le_trans hsz bq1.size
      have HLT : Hid (∀ b, v.ownBlock = some b → C < b) := Lib.hid fun b e => by have := (HO.out.lt b e).1; omega
      have H4 := Lib.hid r4
      have S19 := Lib.hid s19
      clear q19 r4 s19 hsz bq1 hvb K1 hcall
      go_wp2_with (at_builtin; refine wpList_append_sl rfl (.tmp 16) (.tmp 19) 27 rfl w2.heap.size 9 i9 _ 16 Tryd.underlying27 hi9 hz0 hz1 hz2 rfl v i _ rfl O4.out (some ⟨g19, 0, none⟩) 1 1 _ rfl S19.out (by intro u hu; simp at hu; subst hu; rfl) (by simp only [maxLen]; omega) (by omega) S4 ?_; intro v5 w5 own5 hg5 hat5; have c5 : Rt.Row w5 C 33 (Tryd.zeroCells33.setIfInBounds 4 v) := (hg5.block C C4.out.lt (fun e => by have := HLT.out C e.symm; omega)).trans C4.out; have k5 : w5.cell? ⟨C, 4, none⟩ = some v := c5.cell 4 (by kernel_rfl); have z5 := c5.free 4; have l5 := c5.lt; obtain ⟨a5, cc5, rfl, s5, _⟩ := Sl.of_own own5; have OW5 := Lib.hid own5; have CR5 := Lib.hid c5; have HG5 := Lib.hid hg5; clear own5 s5 hat5 c5 hg5)
      go_roundw
      case rel =>
        refine ⟨i + 1, .slice a5 (i + 1) cc5, by omega, by simp, ?_, ?_, ?_, ?_, ?_, ?_⟩
        · rw [HTX.out, List.map_append]
          exact ownsRow_setCell_below OW5.out (by simp; omega) _
        · rw [HTX.out]
          exact (H4.out.other HG5.out (fun b e => by have := HLT.out b e; omega)).other (grown_setCell _ _ _) (fun b e => by cases e; omega)
        · have := CR5.out.set 4 (.slice a5 (i + 1) cc5)
          rwa [Array.setIfInBounds_setIfInBounds] at this
        · exact Rt.Row.other (p := ⟨C, 4, none⟩) ((HG5.out.block w.heap.size R4.out.lt (fun e => by have := HLT.out _ e.symm; omega)).trans R4.out) (by simp; omega) _
        · exact (D4.out.grown HG5.out D4.out.size (fun b e => by have := HLT.out _ e; omega)).setCell (by simp; omega) _
        · have := HG5.out.size
          simp [World.setCell]
          omega
      case measure => simp [Go.RowKit.intOf]; omega
    · have : i = N := by omega
      subst this
      have K7 : Hid (Rt.RdK w w2 i v (Rt.texts Z3.2.1 Z3.2.2 i).1 wr) := Lib.hid ⟨HO.out, HRR.out, HD.out, hsz⟩
      have H7 := HR
      have C7 := HC
      obtain ⟨av, cv, hv, sv, _⟩ := Sl.of_own HO.out
      have HV := Lib.hid hv
      have HCV : Hid (i ≤ cv) := Lib.hid sv.cap
      have HSM := Lib.hid (Rt.texts_small _ Z3.2.2 H3.out.by_ i)
      clear hv sv
      clear HO HRR HD HR HC R2 R3 D2 D3 H2 H3 C2 C3 BG
      have hlen := Rt.texts_len Z3.2.1 Z3.2.2 i
      generalize Rt.texts Z3.2.1 Z3.2.2 i = T at *
      go_wp2_with fail
      have m8 := Rt.num1_in (bad := T.2.2) H7.out.by_ 4
      refine (H7.out.num 4 4 rfl (by omega)).mono ?_
      rintro e w8 ⟨rfl, h8, g8⟩
      have H8 := Lib.hid h8
      have K8 := Lib.hid (K7.out.grown g8 (fun b e => by cases e; omega))
      have C8 := Lib.hid (RK.out _ _ C _ (by omega) g8 C7.out)
      clear h8 g8
      generalize Rt.num T.2.1 T.2.2 4 = Z8 at *
      rw [Rt.p4] at m8
      obtain ⟨m80, m81⟩ := m8
      have w8x : IntKind.u32.wrap Z8.1 = Z8.1 := by rw [IntKind.wrap_u32]; omega
      have k8 : w8.cell? ⟨C, 5, none⟩ = some (.int .u32 0) := C8.out.cell 5 (by kernel_rfl)
      have z8 := C8.out.free 5
      have l8 := C8.out.lt
      go_wp2_with fail
      have hg9 : w8.grownBy (w8.setCell ⟨C, 5, none⟩ (.int .u32 Z8.1)) (some C) := grown_setCell w8 ⟨C, 5, none⟩ (.int .u32 Z8.1)
      have H9 := Lib.hid (H8.out.other hg9 (fun b e => by cases e; omega))
      have K9 := Lib.hid (K8.out.grown hg9 (fun b e => by cases e; omega))
      have c9 := C8.out.set 5 (.int .u32 Z8.1)
      have e9 : ((Tryd.zeroCells33.setIfInBounds 4 v).setIfInBounds 5 (.int .u32 Z8.1)) = ([] ++ [Value.bool false, Value.int .u64 0, Value.int .u64 0, Value.int .i64 0] ++ (v :: Value.int .u32 Z8.1 :: Tryd.zeroCells31.toList)).toArray := by kernel_rfl
      rw [e9] at c9
      have C9 := Lib.hid c9
      clear c9 e9 hg9 k8 z8 l8 H8 K8 C8
      generalize w8.setCell ⟨C, 5, none⟩ (.int .u32 Z8.1) = w9 at *
      have mp := Lib.hid (Rt.pfx_in H9.out.by_ Z8.2.2)
      refine (Rt.prefixR _ _ _ _ H9.out).mono ?_
      rintro e w10 ⟨rfl, h10, g10⟩
      have H10 := Lib.hid h10
      have K10 := Lib.hid (K9.out.grown g10 (fun b e => by cases e; omega))
      have C10 := Lib.hid (RK.out _ _ C _ (by omega) g10 C9.out)
      clear h10 g10
      generalize Rt.pfxR Z8.2.1 Z8.2.2 = P at *
      have C10' : Hid (Rt.Row w10 C 33 ([] ++ [Value.bool false, Value.int .u64 0, Value.int .u64 0, Value.int .i64 0] ++ (v :: Value.int .u32 Z8.1 :: Tryd.zeroCells31.toList)).toArray) := C10
      go_wp2_with (refine Rt.store_part 26 rfl C 0 rfl (cs := #[Value.bool P.v, Value.int .u64 P.hi, Value.int .u64 P.lo, Value.int .i64 P.len]) rfl (by kernel_rfl) C10'.out rfl rfl (by kernel_rfl) (by kernel_rfl) ?_; intro w11 t11 g11; obtain ⟨a11, n11, c11, f11, s11, e11⟩ := (H10.out.other g11 (fun b e => by cases e; omega)).cell0; subst e11)
      have K11 := Lib.hid (K10.out.grown g11 (fun b e => by cases e; omega))
      have H11 := Lib.hid (H10.out.other g11 (fun b e => by cases e; omega))
      have hcw := Rt.certRead a11 _ c11 P.rest w11 s11 H11.out.len H11.out.by_ (Utf8Tabs_below hT K11.out.bel)
      have hcin := Rt.certRd_in P.rest H11.out.by_
      have t12 : Rt.Row w11 C 33 ([Value.bool P.v, Value.int .u64 P.hi, Value.int .u64 P.lo, Value.int .i64 P.len, v, Value.int .u32 Z8.1] ++ Tryd.zeroCells31.toList ++ []).toArray := by rw [List.append_nil]; exact t11
      have T11 := Lib.hid t12
      clear t11 t12 s11 f11 g11 K10 H10 C10 C10' H9 K9 C9 H7 K7 C7
      generalize Rt.certRd P.rest = CT at *
      obtain ⟨OKC, hOKC⟩ : ∃ b, (CT.2 && Rt.certOk CT.1) = b := ⟨_, rfl⟩
      rw [hOKC] at hcw
      have HOKC := Lib.hid hOKC
      clear hOKC
      refine hcw.mono ?_
      clear hcw
      rintro e w12 ⟨b12, hE⟩
      obtain ⟨cc, ec, rfl, hcs, hco, hcc⟩ : ∃ (cc : Array Value) (ec : Int), e = .returned (.tuple #[.agg cc, .int .i64 ec]) ∧ cc.size = 73 ∧ cc.all (·.oneCell') = true ∧ (OKC = true ∧ cc = CT.1.cells ∧ ec = 0 ∨ OKC = false ∧ ec = 20) := by
        cases OKC
        · exact ⟨Tryd.zeroCells31, 20, hE, by kernel_rfl, by kernel_rfl, .inr ⟨rfl, rfl⟩⟩
        · exact ⟨CT.1.cells, 0, hE, CT.1.cells_size hcin.sg, CT.1.one, .inl ⟨rfl, rfl, rfl⟩⟩
      have HL : Hid (cc.size = Tryd.zeroCells31.size) := Lib.hid (by rw [hcs]; kernel_rfl)
      have HL2 : Hid (Tryd.zeroCells31.toList.length = cc.size) := Lib.hid (by rw [hcs]; kernel_rfl)
      have HI : Hid ((Tryd.prog.info? 31).map (·.size) = some cc.size) := Lib.hid (by rw [hcs]; exact Rt.size31)
      have HCO := Lib.hid hco
      have HCC := Lib.hid hcc
      have HCS := Lib.hid hcs
      have HCIN := Lib.hid hcin
      have K12 := Lib.hid (K11.out.grown (grown_below (row := none) b12) (fun b e => by cases e))
      have H12 := Lib.hid (H11.out.grown b12)
      have T12 : Hid (Rt.Row w12 C 33 ([Value.bool P.v, Value.int .u64 P.hi, Value.int .u64 P.lo, Value.int .i64 P.len, v, Value.int .u32 Z8.1] ++ Tryd.zeroCells31.toList ++ []).toArray) := Lib.hid (T11.out.keep b12)
      clear hE hco hcc hcs hcin b12 K11 H11 T11
      obtain ⟨BD, hBD⟩ : ∃ BD, P.bad = BD := ⟨_, rfl⟩
      rw [hBD] at H12 HX
      clear hBD
      have hCw : C < w12.heap.size := T12.out.lt
      have HXF : Hid (X.2 = (!BD && CT.2 && Rt.certOk CT.1)) := Lib.hid (by rw [← HX.out])
      cases BD
      · rcases HCC.out with ⟨hok, h0, h1⟩ | ⟨hok, h1⟩
        · subst h1
          subst h0
          obtain ⟨x, hx⟩ : ∃ x : Rt.RV, (⟨P.v, P.hi, P.lo, P.len, T.1, Z8.1, CT.1⟩ : Rt.RV) = x := ⟨_, rfl⟩
          have HX1 : Hid (X.1 = x) := Lib.hid (by rw [← HX.out, ← hx])
          have hcells : ([Value.bool P.v, Value.int .u64 P.hi, Value.int .u64 P.lo, Value.int .i64 P.len, v, Value.int .u32 Z8.1] ++ CT.1.cells.toList ++ []).toArray = x.cells av i cv := by
            rw [← hx, HV.out, List.append_nil]; rfl
          have hIn : x.In := by
            obtain ⟨p1, p2, p3, p4, p5, p6⟩ := mp.out
            rw [← hx]
            exact ⟨p1, p2, p3, p4, by show _ ≤ P.len; omega, by show P.len < _; omega, m80, m81, HCIN.out⟩
          have hsz := x.size hIn.cert.sg av i cv
          have hrc := fun u (hZ : Rt.Strs u av i x.path) hT => Rt.routeRight (x.cells av i cv) x.v x.hi x.lo x.len av i cv x.path x.co x.cert.cells x.cert.st x.cert.v x.cert.hi x.cert.lo x.cert.len x.cert.mx x.cert.fr x.cert.ti x.cert.se u (x.rou hIn.cert.sg av i cv) hZ (x.cert.crt hIn.cert.sg) hIn.cert.in_ hT hIn.h0 hIn.h1 hIn.h2 hIn.h3 hIn.l1 hIn.l0 HCV.out hIn.c0 hIn.c1
          obtain ⟨RR, hRR⟩ : ∃ RR, x.right = RR := ⟨_, rfl⟩
          have hrc : ∀ u, Rt.Strs u av i x.path → Utf8Tabs 0 1 u → Calls Tryd.prog 12 #[.agg (x.cells av i cv)] u fun e w' => e = .returned (.bool RR) ∧ Below u.heap.size u w' := by rw [← hRR]; exact hrc
          have hone : (x.cells av i cv).all (·.oneCell') = true := by
            rw [Array.all_eq_true_iff_forall_mem]
            intro y hy
            unfold Rt.RV.cells Rt.CV.list at hy
            simp only [List.mem_toArray, List.mem_cons, List.mem_map] at hy
            rcases hy with rfl | rfl | rfl | rfl | rfl | rfl | rfl | rfl | rfl | rfl | rfl | rfl | rfl | rfl | rfl | ⟨z, _, rfl⟩ <;> rfl
          have HOK : Hid ((X.2 && X.1.right) = RR) := Lib.hid (by rw [HXF.out, HX1.out, hRR]; have := HOKC.out; rw [hok] at this; simp only [Bool.not_false, Bool.true_and, this])
          have hpath : x.path = T.1 := by rw [← hx]
          have HST : Hid (∀ u, Rt.RdK w w2 i v T.1 u → Rt.Strs u av i x.path) := Lib.hid fun u hk => by
            rw [hpath]
            exact Rt.Strs.of_own (c := cv) (by rw [← HV.out]; exact hk.own) (by omega) HSM.out.2
          have HST2 : Hid (∀ u : World, u.ownsRow w2.heap.size 9 1 v i (T.1.map Value.string) → Rt.Strs u av i x.path) := Lib.hid fun u hk => by
            rw [hpath]
            exact Rt.Strs.of_own (c := cv) (by rw [← HV.out]; exact hk) (by omega) HSM.out.2
          obtain ⟨XC, hXC⟩ : ∃ XC, x.cells av i cv = XC := ⟨_, rfl⟩
          rw [hXC] at hcells hsz hrc hone
          have HXC := Lib.hid hXC
          have HCE := Lib.hid hcells
          have HSZ := Lib.hid hsz
          have HL3 : Hid (XC.size = Tryd.zeroCells33.size) := Lib.hid (by rw [hsz]; kernel_rfl)
          have HI3 : Hid ((Tryd.prog.info? 33).map (·.size) = some XC.size) := Lib.hid (by rw [hsz]; exact Rt.size33)
          have HO3 := Lib.hid hone
          have HRC := Lib.hid hrc
          clear hXC hcells hsz hrc hone hIn hRR hx hpath HCC hok
          cases RR
          · go_wp2_with (first | (refine Rt.store_at 31 rfl w12.heap.size rfl (cs := CT.1.cells) rfl (by kernel_rfl) (Rt.Row.new w12 31 Tryd.zeroCells31) HL.out HI.out HCO.out ?_; intro w13 e1 e2 e3 e4; have b13 : Below w12.heap.size w12 w13 := e4 _ _ (Nat.le_refl _) ((Below.refl _ _).alloc (Nat.le_refl _) _); have E13 := Lib.hid e1; have K13 := Lib.hid (K12.out.grown (grown_below (row := none) b13) (fun b e => by cases e)); have H13 := Lib.hid (H12.out.grown b13); have T13 : Hid (Rt.Row w13 C 33 ([Value.bool P.v, Value.int .u64 P.hi, Value.int .u64 P.lo, Value.int .i64 P.len, v, Value.int .u32 Z8.1] ++ Tryd.zeroCells31.toList ++ []).toArray) := Lib.hid (T12.out.keep b13); clear e1 e2 e3 e4 b13) | (have _t := E13; (with_reducible refine Rt.load_at 31 (x := .tmp 6) ?_ ⟨w12.heap.size, 0, none⟩ ?_ ?_ (E13.out.whole31 HCS.out) ?_); (with_reducible exact rfl); (exact rfl); (kernel_rfl); clear _t) | (have _t := E13; (with_reducible refine Rt.store_part 31 (x := .tmp 39) (v := .tmp 38) ?_ C 6 ?_ (cs := CT.1.cells) ?_ ?_ T13.out ?_ HL2.out HI.out HCO.out ?_); (with_reducible exact rfl); (exact rfl); (exact rfl); (kernel_rfl); (exact rfl); (clear _t; intro w14 t14 g14; rw [HCE.out] at t14; have T14 := Lib.hid t14; have H14 := Lib.hid (H13.out.other g14 (fun b e => by cases e; omega)); have K14 := Lib.hid (K13.out.grown g14 (fun b e => by cases e; omega)); have k14 := H14.out.cell1; have kb := k14.1; have kz := k14.2.1; clear t14 g14 k14)) | (have _t := T14; (with_reducible refine Rt.store_at 33 (x := .tmp 2) (v := .tmp 53) (cs := Tryd.zeroCells33) ?_ w.heap.size ?_ ?_ ?_ K14.out.res ?_ ?_ ?_ ?_); (with_reducible exact rfl); (exact rfl); (exact rfl); (kernel_rfl); (kernel_rfl); (kernel_rfl); (kernel_rfl); (clear _t; intro w15 r1 r2 r3 r4)) | (have _t := T14; (with_reducible refine Rt.load_at 33 (x := .tmp 5) ?_ ⟨C, 0, none⟩ ?_ ?_ (T14.out.whole33 HSZ.out) ?_); (with_reducible exact rfl); (exact rfl); (kernel_rfl); clear _t) | (go_at_call 12; go_fit (HRC.out _ (HST.out _ K14.out) (Utf8Tabs_below hT K14.out.bel)); rintro e w20 ⟨rfl, hb20⟩; replace T14 := Lib.hid (T14.out.keep hb20); replace K14 := Lib.hid (K14.out.grown (grown_below (row := none) hb20) (fun b e => by cases e)); clear hb20))
            exact bodyPost_ret (Rt.results_row_tmp rfl _ _ _ 33 _ (0, 0) _ rfl r1 Tryd.underlying33 rfl (by kernel_rfl)) rfl (by rw [← HQ.out, HOK.out]; exact Rt.ReadPost.bad (r4 _ _ (Nat.le_refl _) K14.out.bel))
          · go_wp2_with (first | (refine Rt.store_at 31 rfl w12.heap.size rfl (cs := CT.1.cells) rfl (by kernel_rfl) (Rt.Row.new w12 31 Tryd.zeroCells31) HL.out HI.out HCO.out ?_; intro w13 e1 e2 e3 e4; have b13 : Below w12.heap.size w12 w13 := e4 _ _ (Nat.le_refl _) ((Below.refl _ _).alloc (Nat.le_refl _) _); have E13 := Lib.hid e1; have K13 := Lib.hid (K12.out.grown (grown_below (row := none) b13) (fun b e => by cases e)); have H13 := Lib.hid (H12.out.grown b13); have T13 : Hid (Rt.Row w13 C 33 ([Value.bool P.v, Value.int .u64 P.hi, Value.int .u64 P.lo, Value.int .i64 P.len, v, Value.int .u32 Z8.1] ++ Tryd.zeroCells31.toList ++ []).toArray) := Lib.hid (T12.out.keep b13); clear e1 e2 e3 e4 b13) | (have _t := E13; (with_reducible refine Rt.load_at 31 (x := .tmp 6) ?_ ⟨w12.heap.size, 0, none⟩ ?_ ?_ (E13.out.whole31 HCS.out) ?_); (with_reducible exact rfl); (exact rfl); (kernel_rfl); clear _t) | (have _t := E13; (with_reducible refine Rt.store_part 31 (x := .tmp 39) (v := .tmp 38) ?_ C 6 ?_ (cs := CT.1.cells) ?_ ?_ T13.out ?_ HL2.out HI.out HCO.out ?_); (with_reducible exact rfl); (exact rfl); (exact rfl); (kernel_rfl); (exact rfl); (clear _t; intro w14 t14 g14; rw [HCE.out] at t14; have T14 := Lib.hid t14; have H14 := Lib.hid (H13.out.other g14 (fun b e => by cases e; omega)); have K14 := Lib.hid (K13.out.grown g14 (fun b e => by cases e; omega)); have k14 := H14.out.cell1; have kb := k14.1; have kz := k14.2.1; clear t14 g14 k14)) | (have _t := T14; (with_reducible refine Rt.load_at 33 (x := .tmp 5) ?_ ⟨C, 0, none⟩ ?_ ?_ (T14.out.whole33 HSZ.out) ?_); (with_reducible exact rfl); (exact rfl); (kernel_rfl); clear _t) | (go_at_call 12; go_fit (HRC.out _ (HST.out _ K14.out) (Utf8Tabs_below hT K14.out.bel)); rintro e w20 ⟨rfl, hb20⟩; replace T14 := Lib.hid (T14.out.keep hb20); replace K14 := Lib.hid (K14.out.grown (grown_below (row := none) hb20) (fun b e => by cases e)); clear hb20) | (have _t := T14; (with_reducible refine Rt.store_at 33 (x := .tmp 2) (v := .tmp 54) (cs := XC) ?_ w.heap.size ?_ ?_ ?_ K14.out.res ?_ ?_ ?_ ?_); (with_reducible exact rfl); (exact rfl); (exact rfl); (kernel_rfl); (exact HL3.out); (exact HI3.out); (exact HO3.out); (clear _t; intro w15 r1 r2 r3 r4)))
            exact bodyPost_ret (Rt.results_row_tmp rfl _ _ _ 33 _ (0, 0) _ rfl r1 Tryd.underlying33 rfl HI3.out) rfl (by
              rw [← HQ.out, HOK.out]
              have hz := r4 0 _ (Nat.zero_le _) (Below.refl 0 _)
              have ho := K14.out.own.kept (w' := w15) (row := some w.heap.size) ⟨hz.os, hz.tape, hz.output, Nat.le_of_eq r2.symm, fun k _ hk => r3 k (fun e => hk (by rw [e]))⟩ (.inr (fun e => by have := (K14.out.own.lt _ e).1; omega))
              have g := Rt.ReadPost.good (w := w) (x := X.1) (a := av) (n := i) (c := cv) (r4 _ _ (Nat.le_refl _) K14.out.bel) (by rw [HX1.out]; exact HST2.out _ ho) HCV.out
              rw [HX1.out, HXC.out] at g
              rw [HX1.out]
              exact g)
        · subst h1
          have HOK : Hid ((X.2 && X.1.right) = false) := Lib.hid (by rw [HXF.out]; have := HOKC.out; rw [hok] at this; simp only [Bool.not_false, Bool.true_and, this, Bool.false_and])
          clear HCC hok
          go_wp2_with (first | (refine Rt.store_at 31 rfl w12.heap.size rfl (cs := cc) rfl (by kernel_rfl) (Rt.Row.new w12 31 Tryd.zeroCells31) HL.out HI.out HCO.out ?_; intro w13 e1 e2 e3 e4; have b13 : Below w12.heap.size w12 w13 := e4 _ _ (Nat.le_refl _) ((Below.refl _ _).alloc (Nat.le_refl _) _); have E13 := Lib.hid e1; have K13 := Lib.hid (K12.out.grown (grown_below (row := none) b13) (fun b e => by cases e)); have H13 := Lib.hid (H12.out.grown b13); have T13 : Hid (Rt.Row w13 C 33 ([Value.bool P.v, Value.int .u64 P.hi, Value.int .u64 P.lo, Value.int .i64 P.len, v, Value.int .u32 Z8.1] ++ Tryd.zeroCells31.toList ++ []).toArray) := Lib.hid (T12.out.keep b13); clear e1 e2 e3 e4 b13) | (have _t := E13; (with_reducible refine Rt.load_at 31 (x := .tmp 6) ?_ ⟨w12.heap.size, 0, none⟩ ?_ ?_ (E13.out.whole31 HCS.out) ?_); (with_reducible exact rfl); (exact rfl); (kernel_rfl); clear _t) | (have _t := E13; (with_reducible refine Rt.store_part 31 (x := .tmp 39) (v := .tmp 38) ?_ C 6 ?_ (cs := cc) ?_ ?_ T13.out ?_ HL2.out HI.out HCO.out ?_); (with_reducible exact rfl); (exact rfl); (exact rfl); (kernel_rfl); (exact rfl); (clear _t; intro w14 t14 g14; have T14 := Lib.hid t14; have H14 := Lib.hid (H13.out.other g14 (fun b e => by cases e; omega)); have K14 := Lib.hid (K13.out.grown g14 (fun b e => by cases e; omega)); have k14 := H14.out.cell1; have kb := k14.1; have kz := k14.2.1; clear t14 g14 k14)) | (have _t := T14; (with_reducible refine Rt.store_at 33 (x := .tmp 2) (v := .tmp 53) (cs := Tryd.zeroCells33) ?_ w.heap.size ?_ ?_ ?_ K14.out.res ?_ ?_ ?_ ?_); (with_reducible exact rfl); (exact rfl); (exact rfl); (kernel_rfl); (kernel_rfl); (kernel_rfl); (kernel_rfl); (clear _t; intro w15 r1 r2 r3 r4)))
          exact bodyPost_ret (Rt.results_row_tmp rfl _ _ _ 33 _ (0, 0) _ rfl r1 Tryd.underlying33 rfl (by kernel_rfl)) rfl (by rw [← HQ.out, HOK.out]; exact Rt.ReadPost.bad (r4 _ _ (Nat.le_refl _) K14.out.bel))
      · have HOK : Hid ((X.2 && X.1.right) = false) := Lib.hid (by rw [HXF.out]; simp)
        go_wp2_with (first | (refine Rt.store_at 31 rfl w12.heap.size rfl (cs := cc) rfl (by kernel_rfl) (Rt.Row.new w12 31 Tryd.zeroCells31) HL.out HI.out HCO.out ?_; intro w13 e1 e2 e3 e4; have b13 : Below w12.heap.size w12 w13 := e4 _ _ (Nat.le_refl _) ((Below.refl _ _).alloc (Nat.le_refl _) _); have E13 := Lib.hid e1; have K13 := Lib.hid (K12.out.grown (grown_below (row := none) b13) (fun b e => by cases e)); have H13 := Lib.hid (H12.out.grown b13); have T13 : Hid (Rt.Row w13 C 33 ([Value.bool P.v, Value.int .u64 P.hi, Value.int .u64 P.lo, Value.int .i64 P.len, v, Value.int .u32 Z8.1] ++ Tryd.zeroCells31.toList ++ []).toArray) := Lib.hid (T12.out.keep b13); clear e1 e2 e3 e4 b13) | (have _t := E13; (with_reducible refine Rt.load_at 31 (x := .tmp 6) ?_ ⟨w12.heap.size, 0, none⟩ ?_ ?_ (E13.out.whole31 HCS.out) ?_); (with_reducible exact rfl); (exact rfl); (kernel_rfl); clear _t) | (have _t := E13; (with_reducible refine Rt.store_part 31 (x := .tmp 39) (v := .tmp 38) ?_ C 6 ?_ (cs := cc) ?_ ?_ T13.out ?_ HL2.out HI.out HCO.out ?_); (with_reducible exact rfl); (exact rfl); (exact rfl); (kernel_rfl); (exact rfl); (clear _t; intro w14 t14 g14; have T14 := Lib.hid t14; have H14 := Lib.hid (H13.out.other g14 (fun b e => by cases e; omega)); have K14 := Lib.hid (K13.out.grown g14 (fun b e => by cases e; omega)); have k14 := H14.out.cell1; have kb := k14.1; have kz := k14.2.1; clear t14 g14 k14)) | (have _t := T14; (with_reducible refine Rt.store_at 33 (x := .tmp 2) (v := .tmp 53) (cs := Tryd.zeroCells33) ?_ w.heap.size ?_ ?_ ?_ K14.out.res ?_ ?_ ?_ ?_); (with_reducible exact rfl); (exact rfl); (exact rfl); (kernel_rfl); (kernel_rfl); (kernel_rfl); (kernel_rfl); (clear _t; intro w15 r1 r2 r3 r4)))
        exact bodyPost_ret (Rt.results_row_tmp rfl _ _ _ 33 _ (0, 0) _ rfl r1 Tryd.underlying33 rfl (by kernel_rfl)) rfl (by rw [← HQ.out, HOK.out]; exact Rt.ReadPost.bad (r4 _ _ (Nat.le_refl _) K14.out.bel))
end Go.Proofs
