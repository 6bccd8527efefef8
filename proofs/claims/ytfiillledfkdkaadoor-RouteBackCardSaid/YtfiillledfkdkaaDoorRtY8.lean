/- Arguments opened: cells of structs, slices of bytes, of texts. Generic over the program. Arguments that are routes, or the seat's numbers of one, opened. Which route is better: an order. Routes of the call's own in blocks; laws of what is better. -/
import Derived.Test.YtfiillledfkdkaaDoorRtX5
import Derived.OpenShut
import Derived.Carry
import Derived.ChangeSame
import Derived.Deep.Slices
import Derived.Deep.Fields
import Derived.SizedLaws
import Derived.Test.YtfiillledfkdkaaDoorRtY1
import Derived.Test.YtfiillledfkdkaaDoorRtX3
import Derived.Test.YtfiillledfkdkaaDoorRtY7
set_option linter.unusedVariables false
set_option linter.unusedSimpArgs false
set_option linter.unusedSimpArgs false
namespace Go.Opn
open Go Go.RowKit Go.Tp Go.ChangeShapes Go.WideShapes Go.Deep
variable {H : Type} {enc : TypeId × Value → H} {P : Program} {w : World} {r : Reach} {b0 base : Nat} {spare : Nat → Bool} {held : Bool}
/-- One cell of a struct that came in. -/
theorem agg_cell {t : TypeId} {fs : Array Field} {v : Value} {ts : List TypeId} (hu : P.underlying t = some (.struct fs)) (hts : P.cellTypes P.depth t = some ts) (hC : P.cellsOf t = ts.length) (h : Value.okWide P w r b0 t v) :
    ∃ cs : Array Value, v = .agg cs ∧ cs.size = ts.length ∧ ∀ (i : Nat) (u : TypeId), ts[i]? = some u → ∃ x, cs[i]? = some x ∧ Cell.okWide P w r b0 u x := by
  unfold Value.okWide at h
  rw [hu] at h
  obtain ⟨cs, rfl, hs, ts', hts', _, hc⟩ := h
  rw [hts] at hts'
  cases hts'
  rw [hC] at hs
  refine ⟨cs, rfl, hs, fun i u hi => ?_⟩
  have hil : i < ts.length := (List.getElem?_eq_some_iff.1 hi).1
  obtain ⟨u', hu', ho⟩ := hc i cs[i] (Array.getElem?_eq_getElem (by omega))
  rw [Nat.mod_eq_of_lt hil, hi] at hu'
  cases hu'
  exact ⟨_, Array.getElem?_eq_getElem (by omega), ho⟩
theorem cell_int {t : TypeId} {k : IntKind} {v : Value} (hu : P.underlying t = some (.int k)) (h : Cell.okWide P w r b0 t v) : ∃ n, v = .int k n ∧ k.min ≤ n ∧ n ≤ k.max := by
  unfold Cell.okWide Cell.ok at h
  rw [hu] at h
  cases v <;> simp at h
  obtain ⟨rfl, h1, h2⟩ := h
  exact ⟨_, rfl, h1, h2⟩
theorem cell_bool {t : TypeId} {v : Value} (hu : P.underlying t = some .bool) (h : Cell.okWide P w r b0 t v) : ∃ b, v = .bool b := by
  unfold Cell.okWide Cell.ok at h
  rw [hu] at h
  cases v <;> simp at h
  exact ⟨_, rfl⟩
theorem cell_string {t : TypeId} {v : Value} (hu : P.underlying t = some .string) (h : Cell.okWide P w r b0 t v) : ∃ s : ByteArray, v = .string s := by
  unfold Cell.okWide Cell.ok at h
  rw [hu] at h
  cases v <;> simp at h
  exact ⟨_, rfl⟩
theorem cell_slice {t e : TypeId} {v : Value} (hu : P.underlying t = some (.slice e)) (h : Cell.okWide P w r b0 t v) :
    (v = .slice none 0 0) ∨ ∃ b off n c, v = .slice (some ⟨b, off, none⟩) n c ∧ n ≤ c ∧ c ≤ 9223372036854775807 := by
  unfold Cell.okWide Cell.ok at h
  rw [hu] at h
  cases v <;> simp only at h
  rename_i a n c
  cases a with
  | none =>
    left
    match n, c, h with
    | 0, 0, _ => rfl
  | some a =>
    right
    obtain ⟨ab, ao, asp⟩ := a
    simp only at h
    obtain ⟨h1, h2, _, h3, _⟩ := h
    subst h3
    have : (c : Int) ≤ 9223372036854775807 := h2
    exact ⟨ab, ao, n, c, rfl, h1, by omega⟩
theorem cells_one {a : Addr} {cs : List Value} (h : w.cells? base a 1 = some cs) : ∃ v, cs = [v] ∧ w.cell? (a.add 0) = some v := by
  unfold World.cells? at h
  split at h
  · cases hv : w.cell? (a.add 0) with
    | none => simp [hv] at h
    | some v => simp [hv] at h; exact ⟨v, h.symm, rfl⟩
  · cases h
theorem weights_mem_all {e : TypeId} {d : DataW H} {q : Nat} (hq : q ∈ d.weights P e) : ∀ {l : List (DataW H)}, d ∈ l → q ∈ DataW.weightsAll P e l
  | x :: l, h => by
    simp only [DataW.weightsAll, List.mem_append]
    rcases List.mem_cons.1 h with rfl | h
    · exact .inl hq
    · exact .inr (weights_mem_all hq h)
/-- A slice of elements of one cell: what it reads as. -/
theorem slice_reads {t e : TypeId} {fuel : Nat} {v : Value} {x : DataW H × List MemPlace} (ht : P.underlying t = some (.slice e)) (hce : P.cellsOf e = 1) (hv : Cell.okWide P w r b0 t v) (h : DataW.trod enc P w base spare held fuel t [v] = some x) :
    ∃ a n c xs, v = .slice a n c ∧ n ≤ c ∧ c ≤ maxLen ∧ Sl w a n c xs ∧ ∀ u ∈ xs, ∃ k y, DataW.trod enc P w base spare held k e [u] = some y ∧ ∀ q ∈ y.1.weights P e, q ∈ x.1.weights P t := by
  rcases open_slice ht h with ⟨h0, _⟩ | ⟨a, len, cap, m, n, D, Pl, hcs, hb, hl, hm, hmm, hxx, hi⟩
  · simp only [List.cons.injEq, and_true] at h0
    subst h0
    exact ⟨none, 0, 0, [], rfl, Nat.le_refl _, Nat.zero_le _, Sl.nil w, fun u hu => by simp at hu⟩
  · simp only [List.cons.injEq, and_true] at hcs
    subst hcs
    rcases cell_slice ht hv with h1 | ⟨b, off, n', c', h1, _, _⟩
    · cases h1
    · cases h1
      have hat : ∀ i, i < len → ∃ u, w.cell? ⟨b, off + i, none⟩ = some u ∧ ∃ k y, DataW.trod enc P w base spare held k e [u] = some y ∧ ∀ q ∈ y.1.weights P e, q ∈ x.1.weights P t := fun i hi' => by
        obtain ⟨cs', hc, ht'⟩ := hi i (by rw [hmm]; split <;> omega)
        rw [hce, Nat.mul_one] at hc
        obtain ⟨u, rfl, hu⟩ := cells_one hc
        refine ⟨u, ?_, n, _, ht', fun q hq => ?_⟩
        · rw [← hu, addN, addN]; rfl
        · rw [hxx]
          simp only [DataW.weights, ht, List.mem_cons, List.mem_append]
          exact .inr (.inl (weights_mem_all hq (List.mem_map.2 ⟨i, List.mem_range.2 hi', rfl⟩)))
      let f : Nat → Value := fun i => (w.cell? ⟨b, off + i, none⟩).getD undef
      have hf : ∀ i, i < len → w.cell? ⟨b, off + i, none⟩ = some (f i) := fun i hi' => by
        obtain ⟨u, hu, _⟩ := hat i hi'
        simp only [f, hu, Option.getD_some]
      refine ⟨_, len, cap, (List.range len).map f, rfl, hl, hm, ⟨by simp, hl, hm, fun h0 => ⟨b, off, rfl, World.block_lt_of_cell? w _ (hf 0 h0)⟩, fun b' off' e' j u hj => ?_⟩, fun u hu => ?_⟩
      · cases e'
        rw [List.getElem?_map, Option.map_eq_some_iff] at hj
        obtain ⟨j', hj', rfl⟩ := hj
        obtain ⟨hjl, rfl⟩ := List.getElem?_eq_some_iff.1 hj'
        simp only [List.length_range] at hjl
        simp only [List.getElem_range]
        exact hf j hjl
      · obtain ⟨j, hj, rfl⟩ := List.mem_map.1 hu
        rw [List.mem_range] at hj
        obtain ⟨u, hu, k, y, hy⟩ := hat j hj
        simp only [f, hu, Option.getD_some]
        exact ⟨k, y, hy⟩
theorem trod_int {t : TypeId} {k : IntKind} {n : Nat} {u : Value} {y : DataW H × List MemPlace} (ht : P.underlying t = some (.int k)) (h : DataW.trod enc P w base spare held n t [u] = some y) : ∃ z, u = .int k z ∧ (Lit.int k z).wf = true := by
  cases n with
  | zero => simp [DataW.trod] at h
  | succ n =>
    unfold DataW.trod at h
    rw [ht] at h
    cases u <;> simp at h
    obtain ⟨⟨rfl, hw⟩, _⟩ := h
    exact ⟨_, rfl, hw⟩
theorem trod_str {t : TypeId} {n : Nat} {u : Value} {y : DataW H × List MemPlace} (ht : P.underlying t = some .string) (h : DataW.trod enc P w base spare held n t [u] = some y) : ∃ z, u = .string z := by
  cases n with
  | zero => simp [DataW.trod] at h
  | succ n =>
    unfold DataW.trod at h
    rw [ht] at h
    cases u <;> simp at h
    exact ⟨_, rfl⟩
theorem all_map {α : Type} {f : α → Value} : ∀ (xs : List Value), (∀ u ∈ xs, ∃ z, u = f z) → ∃ l : List α, xs = l.map f
  | [], _ => ⟨[], rfl⟩
  | x :: xs, h => by
    obtain ⟨z, rfl⟩ := h x (by simp)
    obtain ⟨l, rfl⟩ := all_map xs (fun u hu => h u (by simp [hu]))
    exact ⟨z :: l, rfl⟩
theorem wf_u8 {z : Int} (h : (Lit.int .u8 z).wf = true) : 0 ≤ z ∧ z < 256 := by
  simp only [Lit.wf, Bool.and_eq_true, decide_eq_true_eq] at h
  have h1 : (0 : Int) ≤ z := h.1
  have h2 : z ≤ 255 := h.2
  omega
/-- A slice of bytes. -/
theorem slice_bytes {t e : TypeId} {fuel : Nat} {v : Value} {x : DataW H × List MemPlace} (ht : P.underlying t = some (.slice e)) (he : P.underlying e = some (.int .u8)) (hce : P.cellsOf e = 1) (hv : Cell.okWide P w r b0 t v) (h : DataW.trod enc P w base spare held fuel t [v] = some x) :
    ∃ a n c, ∃ l : List Int, v = .slice a n c ∧ n ≤ c ∧ c ≤ maxLen ∧ Sl w a n c (l.map (Value.int .u8)) ∧ ∀ z ∈ l, (0 : Int) ≤ z ∧ z < 256 := by
  obtain ⟨a, n, c, xs, h1, h2, h3, h4, h5⟩ := slice_reads ht hce hv h
  obtain ⟨l, rfl⟩ := all_map xs (fun u hu => by
    obtain ⟨k, y, hy, _⟩ := h5 u hu
    obtain ⟨z, rfl, _⟩ := trod_int he hy
    exact ⟨z, rfl⟩)
  refine ⟨a, n, c, l, h1, h2, h3, h4, fun z hz => ?_⟩
  obtain ⟨k, y, hy, _⟩ := h5 _ (List.mem_map.2 ⟨z, hz, rfl⟩)
  obtain ⟨z', e', hw⟩ := trod_int he hy
  cases e'
  exact wf_u8 hw
/-- A slice of texts. -/
theorem slice_strs {t e : TypeId} {fuel : Nat} {v : Value} {x : DataW H × List MemPlace} (ht : P.underlying t = some (.slice e)) (he : P.underlying e = some .string) (hce : P.cellsOf e = 1) (hv : Cell.okWide P w r b0 t v) (h : DataW.trod enc P w base spare held fuel t [v] = some x) :
    ∃ a n c, ∃ l : List ByteArray, v = .slice a n c ∧ n ≤ c ∧ c ≤ maxLen ∧ Sl w a n c (l.map Value.string) := by
  obtain ⟨a, n, c, xs, h1, h2, h3, h4, h5⟩ := slice_reads ht hce hv h
  obtain ⟨l, rfl⟩ := all_map xs (fun u hu => by
    obtain ⟨k, y, hy, _⟩ := h5 u hu
    exact trod_str he hy)
  exact ⟨a, n, c, l, h1, h2, h3, h4⟩
theorem trod_str_w {t : TypeId} {n : Nat} {z : ByteArray} {y : DataW H × List MemPlace} (ht : P.underlying t = some .string) (h : DataW.trod enc P w base spare held n t [.string z] = some y) : z.size ∈ y.1.weights P t := by
  cases n with
  | zero => simp [DataW.trod] at h
  | succ n =>
    unfold DataW.trod at h
    rw [ht] at h
    simp at h
    obtain ⟨_, rfl⟩ := h
    simp [DataW.weights]
/-- A slice of texts, of known weight. -/
theorem slice_strs_w {t e : TypeId} {fuel B : Nat} {v : Value} {x : DataW H × List MemPlace} (ht : P.underlying t = some (.slice e)) (he : P.underlying e = some .string) (hce : P.cellsOf e = 1) (hv : Cell.okWide P w r b0 t v) (h : DataW.trod enc P w base spare held fuel t [v] = some x)
    (hw : ∀ q ∈ x.1.weights P t, q ≤ B) : ∃ a n c, ∃ l : List ByteArray, v = .slice a n c ∧ n ≤ c ∧ c ≤ maxLen ∧ Sl w a n c (l.map Value.string) ∧ ∀ z ∈ l, z.size ≤ B := by
  obtain ⟨a, n, c, xs, h1, h2, h3, h4, h5⟩ := slice_reads ht hce hv h
  obtain ⟨l, rfl⟩ := all_map xs (fun u hu => by
    obtain ⟨k, y, hy, _⟩ := h5 u hu
    exact trod_str he hy)
  refine ⟨a, n, c, l, h1, h2, h3, h4, fun z hz => ?_⟩
  obtain ⟨k, y, hy, hq⟩ := h5 _ (List.mem_map.2 ⟨z, hz, rfl⟩)
  exact hw _ (hq _ (trod_str_w he hy))
end Go.Opn
set_option linter.unusedSimpArgs false
namespace Go.Proofs
open Go.Shelf Go.RowKit Go.Lib Go.Rt Go.Nam Go.Tp Go.Opn Go.ChangeShapes Go.WideShapes Go.Deep
variable {H : Type} {enc : TypeId × Value → H} {w : World} {r : Reach} {b0 base : Nat} {spare : Nat → Bool} {held : Bool}
theorem Rt.arr_one {cs : Array Value} {i : Nat} {x : Value} (h : cs[i]? = some x) : (cs.toList.drop i).take 1 = [x] := by
  obtain ⟨hi, rfl⟩ := Array.getElem?_eq_some_iff.1 h
  rw [List.drop_eq_getElem_cons (by simpa using hi)]
  simp
set_option maxRecDepth 100000 in
theorem Rt.open_ann {v : Value} {d : DataW H} {ps : List MemPlace} (hv : Value.okWide Tryd.prog w r b0 37 v) (h : DataW.Trod enc Tryd.prog w base spare held 37 v d ps) :
    ∃ (A : Rt.Ann) (a : Option Addr) (m c : Nat), v = .agg (A.cells a m c) ∧ A.In ∧ Sl w a m c (A.path.map (Value.int .u8)) := by
  obtain ⟨cs, rfl, hs, hc⟩ := agg_cell Tryd.underlying37 (ts := [34, 5, 5, 35, 5]) (by kernel_rfl) (by kernel_rfl) hv
  obtain ⟨x0, e0, k0⟩ := hc 0 34 rfl
  obtain ⟨x1, e1, k1⟩ := hc 1 5 rfl
  obtain ⟨x2, e2, k2⟩ := hc 2 5 rfl
  obtain ⟨x3, e3, k3⟩ := hc 3 35 rfl
  obtain ⟨x4, e4, k4⟩ := hc 4 5 rfl
  obtain ⟨p, rfl, p0, p1⟩ := cell_int Tryd.underlying5 k1
  obtain ⟨n, rfl, n0, n1⟩ := cell_int Tryd.underlying5 k2
  obtain ⟨co, rfl, c0, c1⟩ := cell_int Tryd.underlying35 k3
  obtain ⟨k, rfl, q0, q1⟩ := cell_int Tryd.underlying5 k4
  obtain ⟨fuel, hf⟩ := h
  obtain ⟨xs, n', _, hx, _, hxl, hg⟩ := DataW.trod_struct Tryd.underlying37 hf
  have hl0 : DataW.trod enc Tryd.prog w base spare held n' 34 ((cs.toList.drop 0).take (Tryd.prog.cellsOf 34)) = xs[0]? := hg 0 _ rfl
  rw [show Tryd.prog.cellsOf 34 = 1 by kernel_rfl, Rt.arr_one e0] at hl0
  obtain ⟨y0, hy0⟩ : ∃ y, xs[0]? = some y := ⟨_, List.getElem?_eq_getElem (by rw [hxl]; decide)⟩
  rw [hy0] at hl0
  obtain ⟨a, m, c, l, rfl, _, _, hsl, hb⟩ := slice_bytes Tryd.underlying34 Tryd.underlying5 (by kernel_rfl) k0 hl0
  refine ⟨⟨l, p, n, co, k⟩, a, m, c, ?_, ⟨hb, p0, ?_, n0, ?_, q0, ?_, c0, ?_⟩, hsl⟩
  · congr 1
    refine Array.ext (by rw [hs]; rfl) fun i hi _ => ?_
    have : i = 0 ∨ i = 1 ∨ i = 2 ∨ i = 3 ∨ i = 4 := by simp at hs; omega
    rcases this with rfl | rfl | rfl | rfl | rfl
    · exact (Array.getElem?_eq_some_iff.1 e0).2
    · exact (Array.getElem?_eq_some_iff.1 e1).2
    · exact (Array.getElem?_eq_some_iff.1 e2).2
    · exact (Array.getElem?_eq_some_iff.1 e3).2
    · exact (Array.getElem?_eq_some_iff.1 e4).2
  · have : p ≤ 255 := p1
    show p < 256
    omega
  · have : n ≤ 255 := n1
    show n < 256
    omega
  · have : k ≤ 255 := q1
    show k < 256
    omega
  · have : co ≤ 65535 := c1
    show co < 65536
    omega
theorem Rt.u8_of {z : Int} (h0 : 0 ≤ z) (h1 : z ≤ 255) : ∃ b : UInt8, Value.int .u8 z = Extern.Stop.cell b := by
  refine ⟨UInt8.ofNat z.toNat, ?_⟩
  unfold Extern.Stop.cell
  congr 1
  have : z.toNat < 256 := by omega
  simp [UInt8.toNat_ofNat', Nat.mod_eq_of_lt this]
  omega
theorem Rt.all_cells : ∀ (l : List Value), (∀ u ∈ l, ∃ b : UInt8, u = Extern.Stop.cell b) → ∃ sg : List UInt8, l = sg.map Extern.Stop.cell
  | [], _ => ⟨[], rfl⟩
  | x :: xs, h => by
    obtain ⟨b, rfl⟩ := h x (by simp)
    obtain ⟨sg, rfl⟩ := Rt.all_cells xs (fun u hu => h u (by simp [hu]))
    exact ⟨b :: sg, rfl⟩
theorem Rt.split_cells {cs : Array Value} (k : Nat) (pre : List Value) (hs : k ≤ cs.size) (hp : ∀ i, i < k → cs[i]? = pre[i]?) (hk : pre.length = k) : cs = (pre ++ cs.toList.drop k).toArray := by
  apply Array.ext'
  show cs.toList = pre ++ cs.toList.drop k
  refine List.ext_getElem? fun i => ?_
  by_cases hi : i < k
  · rw [List.getElem?_append_left (by omega), ← hp i hi]
    simp
  · rw [List.getElem?_append_right (by omega), List.getElem?_drop, hk]
    congr 1
    omega
set_option maxRecDepth 100000 in
theorem Rt.open_route {v : Value} {d : DataW H} {ps : List MemPlace} (hv : Value.okWide Tryd.prog w r b0 33 v) (h : DataW.Trod enc Tryd.prog w base spare held 33 v d ps) (hw : ∀ q ∈ d.weights Tryd.prog 33, q ≤ 140737488351232) :
    ∃ (x : Rt.RV) (a : Option Addr) (n c : Nat), v = .agg (x.cells a n c) ∧ x.In ∧ n ≤ c ∧ Sl w a n c (x.path.map Value.string) ∧ ∀ z ∈ x.path, z.size ≤ 140737488351232 := by
  obtain ⟨cs, rfl, hs, hc⟩ := agg_cell Tryd.underlying33 (ts := [4, 22, 22, 3, 27, 28, 9, 4, 22, 22, 3, 3, 22, 22, 28] ++ List.replicate 64 5) (by kernel_rfl) (by kernel_rfl) hv
  obtain ⟨y0, e0, k0⟩ := hc 0 4 rfl
  obtain ⟨y1, e1, k1⟩ := hc 1 22 rfl
  obtain ⟨y2, e2, k2⟩ := hc 2 22 rfl
  obtain ⟨y3, e3, k3⟩ := hc 3 3 rfl
  obtain ⟨y4, e4, k4⟩ := hc 4 27 rfl
  obtain ⟨y5, e5, k5⟩ := hc 5 28 rfl
  obtain ⟨y6, e6, k6⟩ := hc 6 9 rfl
  obtain ⟨y7, e7, k7⟩ := hc 7 4 rfl
  obtain ⟨y8, e8, k8⟩ := hc 8 22 rfl
  obtain ⟨y9, e9, k9⟩ := hc 9 22 rfl
  obtain ⟨y10, e10, k10⟩ := hc 10 3 rfl
  obtain ⟨y11, e11, k11⟩ := hc 11 3 rfl
  obtain ⟨y12, e12, k12⟩ := hc 12 22 rfl
  obtain ⟨y13, e13, k13⟩ := hc 13 22 rfl
  obtain ⟨y14, e14, k14⟩ := hc 14 28 rfl
  obtain ⟨pv, rfl⟩ := cell_bool Tryd.underlying4 k0
  obtain ⟨hi, rfl, a1, b1⟩ := cell_int Tryd.underlying22 k1
  obtain ⟨lo, rfl, a2, b2⟩ := cell_int Tryd.underlying22 k2
  obtain ⟨len, rfl, a3, b3⟩ := cell_int Tryd.underlying3 k3
  obtain ⟨co, rfl, a5, b5⟩ := cell_int Tryd.underlying28 k5
  obtain ⟨st, rfl⟩ := cell_string Tryd.underlying9 k6
  obtain ⟨cv, rfl⟩ := cell_bool Tryd.underlying4 k7
  obtain ⟨chi, rfl, a8, b8⟩ := cell_int Tryd.underlying22 k8
  obtain ⟨clo, rfl, a9, b9⟩ := cell_int Tryd.underlying22 k9
  obtain ⟨clen, rfl, a10, b10⟩ := cell_int Tryd.underlying3 k10
  obtain ⟨mx, rfl, a11, b11⟩ := cell_int Tryd.underlying3 k11
  obtain ⟨fr, rfl, a12, b12⟩ := cell_int Tryd.underlying22 k12
  obtain ⟨ti, rfl, a13, b13⟩ := cell_int Tryd.underlying22 k13
  obtain ⟨se, rfl, a14, b14⟩ := cell_int Tryd.underlying28 k14
  have hsz : cs.size = 79 := by rw [hs]; rfl
  obtain ⟨sg, hsg⟩ := Rt.all_cells (cs.toList.drop 15) (fun u hu => by
    obtain ⟨j, hj, rfl⟩ := List.mem_iff_getElem.1 hu
    simp at hj
    obtain ⟨x, ex, kx⟩ := hc (15 + j) 5 (by rw [List.getElem?_append_right (by simp)]; show (List.replicate 64 5)[15 + j - 15]? = some 5; rw [Nat.add_sub_cancel_left, List.getElem?_replicate, if_pos (by omega)])
    obtain ⟨z, rfl, z0, z1⟩ := cell_int Tryd.underlying5 kx
    obtain ⟨b, hb⟩ := Rt.u8_of z0 z1
    refine ⟨b, ?_⟩
    rw [← hb]
    simp only [List.getElem_drop, Array.getElem_toList]
    exact (Array.getElem?_eq_some_iff.1 ex).2)
  have hsl : sg.length = 64 := by
    have := congrArg List.length hsg
    simp at this
    omega
  obtain ⟨fuel, hf⟩ := h
  obtain ⟨xs, n', _, hx, _, hxl, hg⟩ := DataW.trod_struct Tryd.underlying33 hf
  have hl1 : DataW.trod enc Tryd.prog w base spare held n' 27 ((cs.toList.drop 4).take (Tryd.prog.cellsOf 27)) = xs[1]? := hg 1 _ rfl
  have hl3 : DataW.trod enc Tryd.prog w base spare held n' 31 ((cs.toList.drop 6).take (Tryd.prog.cellsOf 31)) = xs[3]? := hg 3 _ rfl
  rw [show Tryd.prog.cellsOf 27 = 1 by kernel_rfl, Rt.arr_one e4] at hl1
  obtain ⟨q1, hq1⟩ : ∃ y, xs[1]? = some y := ⟨_, List.getElem?_eq_getElem (by rw [hxl]; decide)⟩
  obtain ⟨q3, hq3⟩ : ∃ y, xs[3]? = some y := ⟨_, List.getElem?_eq_getElem (by rw [hxl]; decide)⟩
  rw [hq1] at hl1
  rw [hq3] at hl3
  have hd : d = .agg (xs.map (·.1)) := by
    have := congrArg Prod.fst hx
    exact this
  have hw1 : ∀ q ∈ q1.1.weights Tryd.prog 27, q ≤ 140737488351232 := fun q hq => hw q (by
    rw [hd]
    simp only [DataW.weights, Tryd.underlying33]
    exact DataW.weights_mem_each (j := 1) rfl (by rw [List.getElem?_map, hq1]; rfl) q hq)
  have hw3 : ∀ q ∈ q3.1.weights Tryd.prog 31, q ≤ 140737488351232 := fun q hq => hw q (by
    rw [hd]
    simp only [DataW.weights, Tryd.underlying33]
    exact DataW.weights_mem_each (j := 3) rfl (by rw [List.getElem?_map, hq3]; rfl) q hq)
  obtain ⟨a, n, c, l, rfl, hnc, _, hsl4, hsm⟩ := slice_strs_w Tryd.underlying27 Tryd.underlying9 (by kernel_rfl) k4 hl1 hw1
  obtain ⟨zs, n2, _, hz, _, hzl, hgz⟩ := DataW.trod_struct Tryd.underlying31 hl3
  have hl30 : DataW.trod enc Tryd.prog w base spare held n2 9 ((((cs.toList.drop 6).take (Tryd.prog.cellsOf 31)).drop 0).take (Tryd.prog.cellsOf 9)) = zs[0]? := hgz 0 _ rfl
  obtain ⟨q30, hq30⟩ : ∃ y, zs[0]? = some y := ⟨_, List.getElem?_eq_getElem (by rw [hzl]; decide)⟩
  rw [hq30, show Tryd.prog.cellsOf 9 = 1 by kernel_rfl] at hl30
  have e6' : (((cs.toList.drop 6).take (Tryd.prog.cellsOf 31)).drop 0).take 1 = [.string st] := by
    rw [show Tryd.prog.cellsOf 31 = 73 by kernel_rfl, List.drop_zero, List.take_take, Nat.min_eq_left (by decide)]
    exact Rt.arr_one e6
  have hst : st.size ≤ 140737488351232 := by
    have h0 := hl30
    rw [e6'] at h0
    have hm := trod_str_w Tryd.underlying9 h0
    refine hw3 _ ?_
    rw [hz]
    simp only [DataW.weights, Tryd.underlying31]
    exact DataW.weights_mem_each (j := 0) rfl (by rw [List.getElem?_map, hq30]; rfl) _ hm
  have r8 : ∀ {z : Int}, z ≤ IntKind.u64.max → z < 18446744073709551616 := fun {z} h => by have : z ≤ 18446744073709551615 := h; omega
  have r3 : ∀ {z : Int}, z ≤ IntKind.i64.max → z < 9223372036854775808 := fun {z} h => by have : z ≤ 9223372036854775807 := h; omega
  have r4 : ∀ {z : Int}, z ≤ IntKind.u32.max → z < 4294967296 := fun {z} h => by have : z ≤ 4294967295 := h; omega
  refine ⟨⟨pv, hi, lo, len, l, co, ⟨st, cv, chi, clo, clen, mx, fr, ti, se, sg⟩⟩, a, n, c, ?_, ⟨a1, r8 b1, a2, r8 b2, a3, r3 b3, a5, r4 b5, ⟨⟨hst, a8, r8 b8, a9, r8 b9, a10, r3 b10, a11, r3 b11, a12, r8 b12, a13, r8 b13, a14, r4 b14⟩, hsl⟩⟩, hnc, hsl4, hsm⟩
  congr 1
  have e := Rt.split_cells 15 [.bool pv, .int .u64 hi, .int .u64 lo, .int .i64 len, .slice a n c, .int .u32 co, .string st, .bool cv, .int .u64 chi, .int .u64 clo, .int .i64 clen, .int .i64 mx, .int .u64 fr, .int .u64 ti,   .int .u32 se] (by rw [hsz]; decide) (fun i hi => by
    have : i = 0 ∨ i = 1 ∨ i = 2 ∨ i = 3 ∨ i = 4 ∨ i = 5 ∨ i = 6 ∨ i = 7 ∨ i = 8 ∨ i = 9 ∨ i = 10 ∨ i = 11 ∨ i = 12 ∨ i = 13 ∨ i = 14 := by omega
    rcases this with rfl | rfl | rfl | rfl | rfl | rfl | rfl | rfl | rfl | rfl | rfl | rfl | rfl | rfl | rfl <;> first | exact e0 | exact e1 | exact e2 | exact e3 | exact e4 | exact e5 | exact e6 | exact e7 | exact e8 | exact e9 | exact e10 | exact e11 | exact e12 | exact e13 | exact e14) rfl
  rw [e, hsg]
  rfl
end Go.Proofs
set_option linter.unusedSimpArgs false
namespace Go.Proofs
open Go.Shelf Go.RowKit Go.Lib Go.Rt Go.Nam
theorem Rt.less_asym (x y : ByteArray) (h : less x.data.toList y.data.toList = true) : less y.data.toList x.data.toList = false := by
  cases h2 : less y.data.toList x.data.toList
  · rfl
  · have := less_trans _ _ _ h h2
    rw [less_self] at this
    cases this
theorem Rt.betL_self : ∀ zs : List ByteArray, Rt.betL zs zs = false
  | [] => rfl
  | z :: zs => by simp [Rt.betL, Rt.betL_self zs]
theorem Rt.betL_asym : ∀ zs ys : List ByteArray, Rt.betL zs ys = true → Rt.betL ys zs = false
  | [], _, h => by simp [Rt.betL] at h
  | _ :: _, [], h => by simp [Rt.betL] at h
  | z :: zs, y :: ys, h => by
    simp only [Rt.betL] at h ⊢
    by_cases e : z = y
    · rw [if_pos e] at h
      rw [if_pos e.symm]
      exact Rt.betL_asym zs ys h
    · rw [if_neg e] at h
      rw [if_neg (Ne.symm e)]
      exact Rt.less_asym _ _ h
theorem Rt.betL_total : ∀ zs ys : List ByteArray, zs.length = ys.length → zs ≠ ys → Rt.betL zs ys = true ∨ Rt.betL ys zs = true
  | [], [], _, h => absurd rfl h
  | [], _ :: _, h, _ => by simp at h
  | _ :: _, [], h, _ => by simp at h
  | z :: zs, y :: ys, hl, h => by
    simp only [Rt.betL]
    by_cases e : z = y
    · subst e
      rw [if_pos rfl, if_pos rfl]
      exact Rt.betL_total zs ys (by simpa using hl) (fun e => h (by rw [e]))
    · rw [if_neg e, if_neg (Ne.symm e)]
      have := Rt.less_tot z y e
      simpa using this
theorem Rt.betL_trans : ∀ zs ys xs : List ByteArray, Rt.betL zs ys = true → Rt.betL ys xs = true → Rt.betL zs xs = true
  | [], _, _, h, _ => by simp [Rt.betL] at h
  | _ :: _, [], _, h, _ => by simp [Rt.betL] at h
  | _ :: _, _ :: _, [], _, h => by simp [Rt.betL] at h
  | z :: zs, y :: ys, x :: xs, h1, h2 => by
    simp only [Rt.betL] at h1 h2 ⊢
    by_cases e1 : z = y
    · subst e1
      rw [if_pos rfl] at h1
      by_cases e2 : z = x
      · subst e2
        rw [if_pos rfl] at h2 ⊢
        exact Rt.betL_trans zs ys xs h1 h2
      · rw [if_neg e2] at h2 ⊢
        exact h2
    · rw [if_neg e1] at h1
      by_cases e2 : y = x
      · subst e2
        rw [if_neg e1]
        exact h1
      · rw [if_neg e2] at h2
        by_cases e3 : z = x
        · subst e3
          rw [Rt.less_asym _ _ h1] at h2
          cases h2
        · rw [if_neg e3]
          exact less_trans _ _ _ h1 h2
theorem Rt.betV_self (co : Int) (zs : List ByteArray) : Rt.betV co co zs zs = false := by simp [Rt.betV, Rt.betL_self]
theorem Rt.betV_asym (co co' : Int) (zs ys : List ByteArray) (h : Rt.betV co co' zs ys = true) : Rt.betV co' co ys zs = false := by
  unfold Rt.betV at *
  by_cases h1 : co = co'
  · subst h1
    simp only [ne_eq, not_true_eq_false, if_false] at *
    by_cases h2 : zs.length = ys.length
    · simp only [h2, not_true_eq_false, if_false] at *
      exact Rt.betL_asym _ _ h
    · simp only [h2, not_false_eq_true, if_true, decide_eq_true_eq] at h
      simp only [Ne.symm h2, not_false_eq_true, if_true, decide_eq_false_iff_not]
      omega
  · simp only [ne_eq, h1, not_false_eq_true, if_true, decide_eq_true_eq] at h
    simp only [ne_eq, Ne.symm h1, not_false_eq_true, if_true, decide_eq_false_iff_not]
    omega
theorem Rt.betV_total (co co' : Int) (zs ys : List ByteArray) : (Rt.betV co co' zs ys || Rt.betV co' co ys zs) = !(decide (co = co') && decide (zs = ys)) := by
  by_cases h1 : co = co'
  · subst h1
    by_cases h2 : zs = ys
    · subst h2
      simp [Rt.betV_self]
    · simp only [decide_true, Bool.true_and, h2, decide_false, Bool.not_false, Bool.or_eq_true]
      unfold Rt.betV
      simp only [ne_eq, not_true_eq_false, if_false]
      by_cases h3 : zs.length = ys.length
      · simp only [h3, not_true_eq_false, if_false]
        exact Rt.betL_total _ _ h3 h2
      · simp only [h3, Ne.symm h3, not_false_eq_true, if_true, decide_eq_true_eq]
        omega
  · simp only [h1, decide_false, Bool.false_and, Bool.not_false, Bool.or_eq_true]
    unfold Rt.betV
    simp only [ne_eq, h1, Ne.symm h1, not_false_eq_true, if_true, decide_eq_true_eq]
    omega
theorem Rt.betV_trans (co co' co2 : Int) (zs ys xs : List ByteArray) (h : Rt.betV co co' zs ys = true) (h2 : Rt.betV co' co2 ys xs = true) : Rt.betV co co2 zs xs = true := by
  unfold Rt.betV at *
  by_cases a : co = co'
  · subst a
    simp only [ne_eq, not_true_eq_false, if_false] at h
    by_cases b : co = co2
    · subst b
      simp only [ne_eq, not_true_eq_false, if_false] at h2 ⊢
      by_cases c : zs.length = ys.length
      · simp only [c, not_true_eq_false, if_false] at h
        by_cases d : ys.length = xs.length
        · simp only [d, not_true_eq_false, if_false] at h2
          simp only [c, d, not_true_eq_false, if_false]
          exact Rt.betL_trans _ _ _ h h2
        · simp only [d, not_false_eq_true, if_true] at h2
          simp only [c, d, not_false_eq_true, if_true]
          exact h2
      · simp only [c, not_false_eq_true, if_true, decide_eq_true_eq] at h
        by_cases d : ys.length = xs.length
        · rw [if_pos (by omega)]
          simp only [decide_eq_true_eq]
          omega
        · simp only [d, not_false_eq_true, if_true, decide_eq_true_eq] at h2
          rw [if_pos (by omega)]
          simp only [decide_eq_true_eq]
          omega
    · simp only [ne_eq, b, not_false_eq_true, if_true] at h2 ⊢
      exact h2
  · simp only [ne_eq, a, not_false_eq_true, if_true, decide_eq_true_eq] at h
    by_cases b : co' = co2
    · subst b
      rw [if_pos a]
      simpa using h
    · simp only [ne_eq, b, not_false_eq_true, if_true, decide_eq_true_eq] at h2
      rw [if_pos (by omega)]
      simp only [decide_eq_true_eq]
      omega
theorem Rt.betV_le (co co' : Int) (zs ys : List ByteArray) (h : Rt.betV co co' zs ys = true) : co ≤ co' := by
  unfold Rt.betV at h
  split at h
  · have := of_decide_eq_true h
    omega
  · omega
/-- Neither better: the same way. -/
theorem Rt.betV_same (co co' : Int) (zs ys : List ByteArray) (h : Rt.betV co co' zs ys = false) (h2 : Rt.betV co' co ys zs = false) : co = co' ∧ zs = ys := by
  have := Rt.betV_total co co' zs ys
  rw [h, h2] at this
  simpa using this
end Go.Proofs
set_option linter.unusedSimpArgs false
namespace Go.Proofs
open Go.Shelf Go.RowKit Go.Lib Go.Rt Go.Nam Go.Tp
def Rt.ValT (x : Rt.RV) : Ty := ⟨fun v u => Rt.ValN u x v, fun _ _ _ h k => h.keep k⟩
theorem Rt.size37 : (Tryd.prog.info? 37).map (·.size) = some 5 := by kernel_rfl
theorem Rt.Row.whole37 {w : World} {B : Nat} {A : Rt.Ann} {a : Option Addr} {m c : Nat} (h : Rt.Row w B 37 (A.cells a m c)) : (loadVar 37 ⟨B, 0, none⟩).run Tryd.prog w = .ok (.agg (A.cells a m c)) w :=
  run_loadVar_row w B 37 37 _ (0, 0) _ h Tryd.underlying37 rfl Rt.size37
theorem Rt.ValN.fit {w : World} {x : Rt.RV} {v : Value} (h : Rt.ValN w x v) (hI : x.In) : ∃ cs, v = .agg cs ∧ Rt.Fit cs ∧ Rt.ValN w x (.agg cs) := by
  obtain ⟨cs, rfl, hf, _⟩ := h.val.fit hI
  exact ⟨cs, rfl, hf, h⟩
theorem Rt.ValN.by {w w' : World} {x : Rt.RV} {v : Value} {B : Nat} (h : Rt.ValN w x v) {cs : Array Value} (hB : Rt.Row w B 33 cs) (g : w.grownBy w' (some B)) : Rt.ValN w' x v := by
  obtain ⟨a, n, c, e, hz, hn, ht⟩ := h
  have hk : ∀ b off, a = some ⟨b, off, none⟩ → w'.heap[b]? = w.heap[b]? := fun b off e => by
    obtain ⟨ds, fr, hb⟩ := ht b off e
    refine g.block b (Array.getElem?_eq_some_iff.1 hb).1 (fun e' => ?_)
    cases e'
    unfold Rt.Row at hB
    rw [hB] at hb
    cases hb
  exact ⟨a, n, c, e, hz.moved g.size hk, hn, ht.moved hk⟩
/-- A block that holds a route of the call's own. -/
structure Rt.AtN (u : World) (B : Nat) (x : Rt.RV) (cs : Array Value) : Prop where
  row : Rt.Row u B 33 cs
  val : Rt.ValN u x (.agg cs)
  size : cs.size = 79
theorem Rt.AtN.keep {u u' : World} {B : Nat} {x : Rt.RV} {cs : Array Value} (h : Rt.AtN u B x cs) (k : Below u.heap.size u u') : Rt.AtN u' B x cs := ⟨h.row.keep k, h.val.keep k, h.size⟩
theorem Rt.AtN.by {u u' : World} {B C : Nat} {x : Rt.RV} {cs ds : Array Value} (h : Rt.AtN u B x cs) (hC : Rt.Row u C 33 ds) (g : u.grownBy u' (some C)) (hn : B ≠ C) : Rt.AtN u' B x cs := ⟨h.row.by g (by simpa using hn), h.val.by hC g, h.size⟩
theorem Rt.AtN.co {u : World} {B : Nat} {x : Rt.RV} {cs : Array Value} (h : Rt.AtN u B x cs) : u.cell? ⟨B, 5, none⟩ = some (.int .u32 x.co) := (⟨h.row, h.val.val, h.size⟩ : Rt.At u B x cs).co
theorem Rt.RV.co_cells (x : Rt.RV) (a : Option Addr) (n c : Nat) (co : Int) : (x.cells a n c).setIfInBounds 5 (.int .u32 co) = Rt.RV.cells { x with co := co } a n c := rfl
/-- The cost stored. -/
theorem Rt.AtN.setCo {u u' : World} {B : Nat} {x : Rt.RV} {cs : Array Value} {co : Int} (h : Rt.AtN u B x cs) (hr : Rt.Row u' B 33 (cs.setIfInBounds 5 (.int .u32 co))) (g : u.grownBy u' (some B)) : Rt.AtN u' B { x with co := co } (cs.setIfInBounds 5 (.int .u32 co)) := by
  refine ⟨hr, ?_, by rw [Array.size_setIfInBounds]; exact h.size⟩
  have h2 := h.val.by h.row g
  obtain ⟨a, n, c, e, hz, hn, ht⟩ := h2
  cases e
  exact ⟨a, n, c, by rw [Rt.RV.co_cells], hz, hn, ht⟩
theorem Rt.box3 (w : World) (cs ds es : Array Value) (t u v : TypeId) : ∃ w1, ((w.alloc (.cells cs t)).alloc (.cells ds u)).alloc (.cells es v) = w1 ∧ Rt.Row w1 w.heap.size t cs ∧ Rt.Row w1 (w.heap.size + 1) u ds ∧ Rt.Row w1 (w.heap.size + 1 + 1) v es ∧ Below w.heap.size w w1 := by
  obtain ⟨w1, e, h1, h2, h3⟩ := Rt.box2 w cs ds t u
  refine ⟨_, rfl, ?_, ?_, ?_, ?_⟩
  · rw [e]; exact h1.alloc _
  · rw [e]; exact h2.alloc _
  · have h := Rt.Row.new ((w.alloc (.cells cs t)).alloc (.cells ds u)) v es
    have e : ((w.alloc (.cells cs t)).alloc (.cells ds u)).heap.size = w.heap.size + 1 + 1 := by simp
    rwa [e] at h
  · rw [e]; exact h3.alloc h3.size _
theorem Rt.RV.co_in {x y : Rt.RV} (hx : x.In) (hy : y.In) : Rt.RV.In { x with co := y.co } := ⟨hx.h0, hx.h1, hx.h2, hx.h3, hx.l0, hx.l1, hy.c0, hy.c1, hx.cert⟩
theorem Rt.bet_facts (x y z : Rt.RV) : (x.better y = true → y.better z = true → x.better z = true) ∧ (x.better y = false → y.better x = false → x.better z = y.better z) ∧ (x.better y = true → x.co ≤ y.co) := by
  refine ⟨fun h1 h2 => Rt.betV_trans _ _ _ _ _ _ h1 h2, fun h1 h2 => ?_, fun h => Rt.betV_le _ _ _ _ h⟩
  obtain ⟨e1, e2⟩ := Rt.betV_same _ _ _ _ h1 h2
  unfold Rt.RV.better
  rw [e1, e2]
theorem Rt.says_ret {f : FuncId} {args : Array Value} {u : World} {b : Bool} (h : Calls Tryd.prog f args u (Rt.Says u b)) : Calls Tryd.prog f args u (Ret (Ty.is (.bool b)) u) := h.mono fun _ _ h => Tp.ret_is h
theorem Rt.better_at (x y : Rt.RV) (hx : x.In) (hy : y.In) (b : Bool) (h : x.better y = b) (u : World) (v v' : Value) (hv : Rt.Val u x v) (hv' : Rt.Val u y v') (hT : Utf8Tabs 0 1 u) : Calls Tryd.prog 20 #[v, v'] u (Rt.Says u b) := by
  rw [← h]; exact Rt.V.better hv hv' hx hy hT
end Go.Proofs
