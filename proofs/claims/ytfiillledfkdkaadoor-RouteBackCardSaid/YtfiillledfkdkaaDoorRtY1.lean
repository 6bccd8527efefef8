/- What Through tells; slices of texts moved. Rows: one cell stored, a part loaded; the seat's routes as values. -/
import Derived.Test.YtfiillledfkdkaaDoorRtX9
import Derived.Test.YtfiillledfkdkaaDoorRtX5
import Derived.Test.YtfiillledfkdkaaDoorRtX3
set_option linter.unusedVariables false
set_option linter.unusedSimpArgs false
set_option linter.unusedSimpArgs false
namespace Go.Proofs
open Go.Shelf Go.RowKit Go.Lib Go.Rt Go.Nam Go.Tp
/-- What Through says: 0 or the number of its error. -/
def Rt.thr (x : Rt.RV) (s : ByteArray) (add : Int) : Int :=
  if x.right && validN s.data.toList && decide (1 ≤ add) && decide (add ≤ 65535) then
    if Lib.containsS x.path s then 34 else if decide (16 ≤ x.path.length) || decide (16777216 < x.co + add) then 23 else 0
  else 20
def Rt.RV.on (x : Rt.RV) (s : ByteArray) (add : Int) : Rt.RV := { x with path := s :: x.path, co := x.co + add }
def Rt.ThrPost (w : World) (x : Rt.RV) (er : Int) : Ending → World → Prop := fun e w' => Below w.heap.size w w' ∧
  if er = 0 then ∃ a n c, e = .returned (.tuple #[.agg (x.cells a n c), .int .i64 0]) ∧ Rt.Strs w' a n x.path ∧ n ≤ c else e = .returned (.tuple #[.agg Tryd.zeroCells33, .int .i64 er])
theorem Rt.ThrPost.bad {w w' : World} {x : Rt.RV} {er : Int} (h : Below w.heap.size w w') (he : er ≠ 0) : Rt.ThrPost w x er (.returned (.tuple #[.agg Tryd.zeroCells33, .int .i64 er])) w' := ⟨h, by rw [if_neg he]⟩
theorem Rt.ThrPost.good {w w' : World} {x : Rt.RV} {a : Option Addr} {n c : Nat} (h : Below w.heap.size w w') (hz : Rt.Strs w' a n x.path) (hn : n ≤ c) : Rt.ThrPost w x 0 (.returned (.tuple #[.agg (x.cells a n c), .int .i64 0])) w' := ⟨h, by rw [if_pos rfl]; exact ⟨a, n, c, rfl, hz, hn⟩⟩
theorem Rt.RV.on_cells (x : Rt.RV) (s : ByteArray) (add : Int) (a : Option Addr) (n c : Nat) (a' : Option Addr) (c' : Nat) :
    ((x.cells a n c).setIfInBounds 4 (.slice a' (1 + n) c')).setIfInBounds 5 (.int .u32 (x.co + add)) = (x.on s add).cells a' (1 + n) c' := rfl
theorem Rt.RV.inf (x : Rt.RV) (h : x.cert.sg.length = 64) (a : Option Addr) (n c : Nat) : (Tryd.prog.info? 33).map (·.size) = some (x.cells a n c).size := by
  rw [x.size h]; kernel_rfl
theorem Rt.RV.one (x : Rt.RV) (a : Option Addr) (n c : Nat) : (x.cells a n c).all (·.oneCell') = true := by
  have h := x.cert.one
  rw [Array.all_eq_true_iff_forall_mem] at *
  intro y hy
  unfold Rt.RV.cells at hy
  simp only [List.mem_toArray, List.mem_cons] at hy
  rcases hy with rfl | rfl | rfl | rfl | rfl | rfl | hy
  · rfl
  · rfl
  · rfl
  · rfl
  · rfl
  · rfl
  · exact h y (by unfold Rt.CV.cells; simpa using hy)
theorem Rt.Strs.sl {w : World} {a : Option Addr} {n : Nat} {zs : List ByteArray} (h : Rt.Strs w a n zs) : Sl w a n n (zs.map Value.string) :=
  ⟨by simp [h.len], Nat.le_refl _, by have := h.big; unfold maxLen; omega, fun hn => h.at_ 0 hn, fun b off e j v hj => by
    rw [List.getElem?_map] at hj
    cases hq : zs[j]? with
    | none => rw [hq] at hj; cases hj
    | some y =>
      have hjn : j < n := by rw [← h.len]; exact (List.getElem?_eq_some_iff.1 hq).1
      rw [h.cell b off e j hjn]
      rw [hq] at hj
      simpa [List.getD, hq] using hj⟩
theorem Rt.Strs.of_sl {w : World} {a : Option Addr} {n c : Nat} {zs : List ByteArray} (h : Sl w a n c (zs.map Value.string)) (hn : n ≤ 1099511627776) (hs : ∀ s ∈ zs, s.size ≤ 140737488351232) : Rt.Strs w a n zs := by
  have hl : zs.length = n := by have := h.len; simpa using this
  refine ⟨hl, fun j hj => h.at_ (by omega), fun b off e j hj => ?_, hn, fun j hj => ?_⟩
  · exact h.cell b off e j _ (by rw [List.getElem?_map, List.getElem?_eq_getElem (by omega)]; simp [List.getD, List.getElem?_eq_getElem (show j < zs.length by omega)])
  · have hj2 : j < zs.length := by omega
    exact hs (zs.getD j ByteArray.empty) (by simp [List.getD, List.getElem?_eq_getElem hj2])
theorem Rt.Strs.small_all {w : World} {a : Option Addr} {n : Nat} {zs : List ByteArray} (h : Rt.Strs w a n zs) : ∀ s ∈ zs, s.size ≤ 140737488351232 := by
  intro s hs
  obtain ⟨j, hj, rfl⟩ := List.mem_iff_getElem.1 hs
  have := h.small j (by rw [← h.len]; exact hj)
  simpa [List.getD, List.getElem?_eq_getElem hj] using this
theorem Rt.Strs.moved {w w' : World} {a : Option Addr} {n : Nat} {zs : List ByteArray} (h : Rt.Strs w a n zs) (hs : w.heap.size ≤ w'.heap.size) (hk : ∀ b off, a = some ⟨b, off, none⟩ → w'.heap[b]? = w.heap[b]?) : Rt.Strs w' a n zs :=
  ⟨h.len, fun j hj => let ⟨b, off, e, hb⟩ := h.at_ j hj; ⟨b, off, e, Nat.lt_of_lt_of_le hb hs⟩, fun b off e j hj => by
    have := h.cell b off e j hj
    unfold World.cell? at this ⊢
    simp only [hk b off e]
    exact this, h.big, h.small⟩
theorem Rt.str_one (zs : List ByteArray) : ∀ u ∈ zs.map Value.string, u.oneCell' = true := by
  intro u hu
  obtain ⟨s, _, rfl⟩ := List.mem_map.1 hu
  rfl
theorem Rt.grown_lit {w w' : World} {o : Obj} (h : (w.alloc o).grownBy w' (some w.heap.size)) : w.grownBy w' (some w.heap.size) :=
  ⟨h.os, h.tape, h.output, Nat.le_trans (by simp) h.size, fun b hb hne => (h.block b (by simp; omega) hne).trans (Below.heap_alloc w o b hb)⟩
theorem Rt.Row.by {w w' : World} {B : Nat} {t : TypeId} {cs : Array Value} {r : Option Nat} (h : Rt.Row w B t cs) (g : w.grownBy w' r) (hn : some B ≠ r) : Rt.Row w' B t cs := (g.block B h.lt hn).trans h
theorem Rt.ne_of_row {w : World} {B : Nat} {t : TypeId} {cs : Array Value} (h : Rt.Row w B t cs) : some B ≠ some w.heap.size := fun e => by cases e; exact absurd h.lt (Nat.lt_irrefl _)
end Go.Proofs
set_option linter.unusedSimpArgs false
namespace Go.Proofs
open Go.Shelf Go.RowKit Go.Lib Go.Rt Go.Nam Go.Tp
theorem Rt.run_storeVar_agg {P : Program} (w : World) (ty : TypeId) (p : Addr) (v : Value) (h1 : v.oneCell' = true) : (storeVar ty p v).run P w = (storeVar ty p (.agg #[v])).run P w := by
  have hc : v.cells = #[v] := by cases v <;> first | rfl | cases h1
  unfold storeVar
  rw [hc]
  rfl
theorem Rt.set_list (l : List Value) (k : Nat) (z : Value) : (l.take k ++ [z] ++ l.drop (k + 1)).toArray = if k < l.length then l.toArray.setIfInBounds k z else (l.take k ++ [z] ++ l.drop (k + 1)).toArray := by
  split
  · rename_i h
    rw [List.setIfInBounds_toArray, List.set_eq_take_append_cons_drop, if_pos h]
    simp
  · rfl
theorem Rt.store_one {P : Program} {ops : Array Oper} {rest : List Oper} {o : Oper} {a : Act} {w : World} {Q : Exit → Act → World → Prop} (ty : TypeId) {x v : Operand} (ho : o.op = .store ty x v)
    (B k : Nat) (hx : a.eval x = .pointer (some ⟨B, k, none⟩)) {z : Value} (hv : a.eval v = z) (hw : Region.wanted o (yielded ops a.tmps) = true) {t : TypeId} {cs : Array Value} (hB : Rt.Row w B t cs) (hk : k < cs.size) (hi : (P.info? ty).map (·.size) = some 1) (h1 : z.oneCell' = true)
    (h : ∀ w', Rt.Row w' B t (cs.setIfInBounds k z) → w.grownBy w' (some B) → wpList P ops Q rest (a.put o.dst undef) w') : wpList P ops Q (o :: rest) a w := by
  refine BigFrame.wpList_want hw fun K hK => ?_
  have hkl : k < cs.toList.length := by simpa using hk
  have hst : (storeVar ty ⟨B, k, none⟩ z).run P w = .ok () (w.setCells B k [z]) := by
    rw [Rt.run_storeVar_agg w ty _ z h1]
    exact run_storeVar_mid w B k ty #[z] (fun j hj => ⟨by
      have : j = 0 := by simpa using hj
      subst this
      rw [hB.cell (k + 0) (x := cs[k]) (Array.getElem?_eq_getElem hk)]; rfl, hB.free _⟩) (by simpa using hi) (by simpa using h1)
  have hr0 : Rt.Row (w.setCells B (cs.toList.take k).length [z]) B t (cs.toList.take k ++ [z] ++ cs.toList.drop (k + 1)).toArray := by
    refine Rt.setCells_part B t [z] (cs.toList.take k) [cs[k]] (cs.toList.drop (k + 1)) w rfl ?_
    have e : (cs.toList.take k ++ [cs[k]] ++ cs.toList.drop (k + 1)) = cs.toList := by
      rw [List.append_assoc, List.singleton_append]
      conv => rhs; rw [← List.take_append_drop k cs.toList, List.drop_eq_getElem_cons hkl]
      simp
    rw [e]
    exact hB
  rw [Rt.set_list, if_pos hkl, List.length_take, Nat.min_eq_left (by omega)] at hr0
  have hr := h _ hr0 ⟨(Rt.setCells_below B [z] _ w (Nat.zero_le _) (Below.refl 0 w)).os, (Rt.setCells_below B [z] _ w (Nat.zero_le _) (Below.refl 0 w)).tape, (Rt.setCells_below B [z] _ w (Nat.zero_le _) (Below.refl 0 w)).output, by rw [Rt.setCells_size]; exact Nat.le_refl _, fun j _ hj => Rt.setCells_heap B [z] _ w j (fun e => hj (by rw [e]))⟩
  unfold Oper.wp execOp
  simp only [ho, hx, hv, Instr.storeAt, Instr.sureAddr, Sem.run_bind, Sem.run_pure, Result.andThen_ok, hst]
  exact hK _ _ hr
theorem Rt.Row.mid {w : World} {B : Nat} {t : TypeId} {cs cc : Array Value} (h : Rt.Row w B t cs) (off k : Nat) (ty : TypeId) {d : TypeDesc} (hs : off + k ≤ cs.size) (hc : cs.extract off (off + k) = cc)
    (hu : Tryd.prog.underlying ty = some d) (hd : d.isRow = true) (hi : (Tryd.prog.info? ty).map (·.size) = some k) : (loadVar ty ⟨B, off, none⟩).run Tryd.prog w = .ok (.agg cc) w := by
  have hl : (cs.extract off (off + k)).toList.length = k := by simp; omega
  have e := run_loadVar_mid (P := Tryd.prog) w B off ty (cs.extract off (off + k)).toList _ (World.rangeAt_of_block h off k) hu hd (by rw [hl]; exact hi)
  rw [e, Array.toArray_toList, hc]
/-- A route as a value in a world. -/
def Rt.Val (w : World) (x : Rt.RV) (v : Value) : Prop := ∃ a n c, v = .agg (x.cells a n c) ∧ Rt.Strs w a n x.path ∧ n ≤ c
theorem Rt.Val.keep {w w' : World} {x : Rt.RV} {v : Value} (h : Rt.Val w x v) (k : Below w.heap.size w w') : Rt.Val w' x v := by
  obtain ⟨a, n, c, e, hz, hn⟩ := h
  exact ⟨a, n, c, e, hz.keep k, hn⟩
/-- The block of a slice of texts of the call's own. -/
def Rt.StrT (w : World) (a : Option Addr) : Prop := ∀ b off, a = some ⟨b, off, none⟩ → ∃ cs fr, w.heap[b]? = some (.cells cs 9 fr)
theorem Rt.StrT.moved {w w' : World} {a : Option Addr} (h : Rt.StrT w a) (hk : ∀ b off, a = some ⟨b, off, none⟩ → w'.heap[b]? = w.heap[b]?) : Rt.StrT w' a := fun b off e => by
  rw [hk b off e]; exact h b off e
theorem Rt.StrT.keep {w w' : World} {a : Option Addr} (h : Rt.StrT w a) (k : Below w.heap.size w w') : Rt.StrT w' a := h.moved fun b off e => by
  obtain ⟨cs, fr, hb⟩ := h b off e
  exact k.block b (Array.getElem?_eq_some_iff.1 hb).1
theorem Rt.StrT.of_own {u : World} {base : Nat} {a : Option Addr} {n c : Nat} {xs : List Value} (h : u.ownsRow base 9 1 (.slice a n c) n xs) : Rt.StrT u a := fun b off e => by
  rcases h.2 with ⟨h1, _⟩ | ⟨g, cap, cur, h1, _, hg, _⟩
  · rw [e] at h1; cases h1
  · rw [e] at h1
    cases h1
    exact ⟨cur, _, hg⟩
/-- A route of the call's own. -/
def Rt.ValN (w : World) (x : Rt.RV) (v : Value) : Prop := ∃ a n c, v = .agg (x.cells a n c) ∧ Rt.Strs w a n x.path ∧ n ≤ c ∧ Rt.StrT w a
theorem Rt.ValN.val {w : World} {x : Rt.RV} {v : Value} (h : Rt.ValN w x v) : Rt.Val w x v := by
  obtain ⟨a, n, c, e, hz, hn, _⟩ := h
  exact ⟨a, n, c, e, hz, hn⟩
theorem Rt.ValN.keep {w w' : World} {x : Rt.RV} {v : Value} (h : Rt.ValN w x v) (k : Below w.heap.size w w') : Rt.ValN w' x v := by
  obtain ⟨a, n, c, e, hz, hn, ht⟩ := h
  exact ⟨a, n, c, e, hz.keep k, hn, ht.keep k⟩
/-- A route's numbers as the seat tells it. -/
structure Rt.Ann where
  path : List Int
  p : Int
  n : Int
  cost : Int
  k : Int
structure Rt.Ann.In (A : Rt.Ann) : Prop where
  path : ∀ x ∈ A.path, 0 ≤ x ∧ x < 256
  p0 : 0 ≤ A.p
  p1 : A.p < 256
  n0 : 0 ≤ A.n
  n1 : A.n < 256
  k0 : 0 ≤ A.k
  k1 : A.k < 256
  c0 : 0 ≤ A.cost
  c1 : A.cost < 65536
def Rt.Ann.cells (A : Rt.Ann) (a : Option Addr) (m c : Nat) : Array Value := #[.slice a m c, .int .u8 A.p, .int .u8 A.n, .int .u16 A.cost, .int .u8 A.k]
def Rt.Ann.zs (A : Rt.Ann) (j : Nat) : List ByteArray := (A.path.take j).map Rt.nameOf
def Rt.lastOf (s : ByteArray) (zs : List ByteArray) : ByteArray := zs.getLastD s
def Rt.CV.zero : Rt.CV := ⟨⟨#[]⟩, false, 0, 0, 0, 0, 0, 0, 0, List.replicate 64 0⟩
structure Rt.Pf where
  v : Bool
  hi : Int
  lo : Int
  len : Int
def Rt.Pf.cells (p : Rt.Pf) : Array Value := #[.bool p.v, .int .u64 p.hi, .int .u64 p.lo, .int .i64 p.len]
def Rt.pfS (k n : Int) : Rt.Pf := ⟨Rt.pV k, Rt.pHi k n, Rt.pLo k n, Rt.pLen k n⟩
def Rt.Ann.pfx (A : Rt.Ann) : Rt.Pf := Rt.pfS A.p A.n
/-- The certificate's prefix, its site, and the route. -/
def Rt.Ann.cpf (A : Rt.Ann) : Rt.Pf :=
  if A.k % 8 = 1 then (if A.pfx.len > 8 then ⟨A.pfx.v, mHi A.pfx.hi (A.pfx.len - 8), mLo A.pfx.lo (A.pfx.len - 8), A.pfx.len - 8⟩ else A.pfx)
  else if A.k % 8 = 3 then Rt.pfS (A.k / 8) A.n else A.pfx
def Rt.Ann.site (A : Rt.Ann) (s : ByteArray) : ByteArray := if A.k % 8 = 2 then Rt.nameOf (A.k / 8) else Rt.lastOf s (A.zs 6)
def Rt.Ann.cert (A : Rt.Ann) (s : ByteArray) : Rt.CV :=
  let c := Rt.certV (A.site s) A.cpf.v A.cpf.hi A.cpf.lo A.cpf.len A.k
  if A.k % 8 = 1 then { c with mx := A.pfx.len } else c
def Rt.Ann.rv (A : Rt.Ann) (s : ByteArray) : Rt.RV := ⟨A.pfx.v, A.pfx.hi, A.pfx.lo, A.pfx.len, A.zs 6, A.cost, A.cert s⟩
theorem Rt.nameOf_small (k : Int) : (Rt.nameOf k).size ≤ 255 := by
  unfold Rt.nameOf Rt.names
  have h : (k % 8).toNat < 8 := by omega
  generalize (k % 8).toNat = i at h
  match i, h with
  | 0, _ | 1, _ | 2, _ | 3, _ | 4, _ | 5, _ | 6, _ | 7, _ => decide
theorem Rt.pfS_len (k n : Int) : 0 ≤ (Rt.pfS k n).len ∧ (Rt.pfS k n).len ≤ 128 ∧ (Rt.pfS k n).len ≤ Rt.wide (Rt.pfS k n).v := by
  unfold Rt.pfS Rt.pLen Rt.wide
  dsimp only
  have h : (n % 8).toNat < 8 := by omega
  generalize (n % 8).toNat = i at h
  have k4 : ∀ i : Nat, i < 8 → 0 ≤ Rt.lens4.getD i 0 ∧ Rt.lens4.getD i 0 ≤ 32 := by decide
  have k6 : ∀ i : Nat, i < 8 → 0 ≤ Rt.lens6.getD i 0 ∧ Rt.lens6.getD i 0 ≤ 128 := by decide
  cases Rt.pV k
  · have := k4 i h
    simp only [Bool.false_eq_true, if_false]
    exact ⟨this.1, by omega, this.2⟩
  · have := k6 i h
    simp only [if_true]
    exact ⟨this.1, this.2, this.2⟩
theorem Rt.pfS_in (k n : Int) (n0 : 0 ≤ n) : (0 ≤ (Rt.pfS k n).hi ∧ (Rt.pfS k n).hi < 18446744073709551616) ∧ (0 ≤ (Rt.pfS k n).lo ∧ (Rt.pfS k n).lo < 18446744073709551616) := by
  obtain ⟨a0, a1⟩ := Rt.aHi_in (Rt.pV k) (k / 5) (Rt.pB n)
  obtain ⟨b0, b1⟩ := Rt.aLo_in (Rt.pV k) (Rt.pB n) (by unfold Rt.pB; omega) (by unfold Rt.pB; omega)
  exact ⟨mHi_in a0 a1 _, mLo_in b0 b1 _⟩
end Go.Proofs
