/- The world's side: what a state stands for; one operation of the model is one step of the state. How memory turns: a write into a name's own, a new name, what stays from now on. What looks at memory, in the model's world: loads of elements. What looks at memory, in the model's world: slicings, conversions, literals, iterators. What looks at memory, in the model's world: conversions, literals, iterators. Conversions, literals, iterators: one step of the world each; all that looks at memory but calls. -/
import Derived.Test.YtllfkflclhnmgaaSimX3
import Derived.Laws.CopyRow
import Derived.Laws.World
import Derived.Lib.ConvBytes
import Derived.Laws.BytesString
import Derived.Laws.MakeOwn
import Derived.Great.BuildSlice
import Derived.Great.FillDense
namespace Go.Sim

/-- a slice's header -/
def sliceV (L : Loc) (len : Nat) : Value := .slice (if L.nl then none else some ⟨L.b, L.o, none⟩) len L.cap
/-- a row in memory that stays -/
structure RowRo (fz : Nat → Nat → Option Value) (L : Loc) (es len : Nat) (c : Nat → List Value) : Prop where
  cap : len ≤ L.cap
  nil : L.nl = true → len = 0 ∧ L.cap = 0
  at_ : L.nl = false → ∀ i, i < len → ∀ j, j < es → fz L.b (L.o + i * es + j) = (c i)[j]?
/-- a row in memory that may be written -/
structure RowRw (w : World) (L : Loc) (es len : Nat) (c : Nat → List Value) : Prop where
  cap : len ≤ L.cap
  nil : L.nl = true → len = 0 ∧ L.cap = 0
  at_ : L.nl = false → ∃ cs e lo hi, w.heap[L.b]? = some (.cells cs e (lo, hi)) ∧ L.o + L.cap * es ≤ cs.size ∧ (∀ q, L.o ≤ q → q < L.o + L.cap * es → ¬ (lo ≤ q ∧ q < hi)) ∧
    ∀ i, i < len → ∀ j, j < es → cs[L.o + i * es + j]? = (c i)[j]?
mutual
/-- an element's cells; the slices within lie in memory that stays -/
def RepE (fz : Nat → Nat → Option Value) : Ep → List Hv → Nat → List Value → Prop
  | .int k, h, j, cs => cs = [.int k (hi h j)]
  | .bool, h, j, cs => cs = [.bool (hb h j)]
  | .str, h, j, cs => cs = [.string ⟨(hst h j).toArray⟩]
  | .arr k n, h, j, cs => cs = arrCells k n (hl h j)
  | .agg es, h, j, cs => RepEL fz es h j cs
  | .sl (.int k), h, j, cs => ∃ L : Loc, cs = [sliceV L (hl h j).length] ∧ RowRo fz L 1 (hl h j).length (fun i => [.int k ((hl h j).getD i 0)])
  | .sl e, h, j, cs => ∃ L : Loc, cs = [sliceV L (hr h j).length] ∧ ∃ c : Nat → List Value, (∀ i, i < (hr h j).length → RepE fz e ((hr h j).getD i []) 0 (c i)) ∧ RowRo fz L e.size (hr h j).length c
def RepEL (fz : Nat → Nat → Option Value) : List Ep → List Hv → Nat → List Value → Prop
  | [], _, _, cs => cs = []
  | e :: es, h, j, cs => ∃ a b, cs = a ++ b ∧ RepE fz e h j a ∧ RepEL fz es h (j + e.n) b
end
theorem RowRo.mono {fz fz' : Nat → Nat → Option Value} (hf : ∀ b o x, fz b o = some x → fz' b o = some x) {L : Loc} {es len : Nat} {c : Nat → List Value} (h : RowRo fz L es len c) (hc : ∀ i, i < len → (c i).length = es) : RowRo fz' L es len c where
  cap := h.cap
  nil := h.nil
  at_ hn i hi j hj := by
    have := h.at_ hn i hi j hj
    rw [List.getElem?_eq_getElem (by rw [hc i hi]; exact hj)] at this ⊢
    exact hf _ _ _ this
mutual
theorem RepE.len {fz : Nat → Nat → Option Value} : ∀ {e : Ep} {h : List Hv} {j : Nat} {cs : List Value}, RepE fz e h j cs → cs.length = e.size
  | .int k, h, j, cs, r => by simp only [RepE] at r; subst r; rfl
  | .bool, h, j, cs, r => by simp only [RepE] at r; subst r; rfl
  | .str, h, j, cs, r => by simp only [RepE] at r; subst r; rfl
  | .arr k n, h, j, cs, r => by simp only [RepE] at r; subst r; simp [Ep.size, arrCells_length]
  | .agg es, h, j, cs, r => by simp only [RepE] at r; simp only [Ep.size]; exact RepEL.len r
  | .sl (.int k), h, j, cs, r => by simp only [RepE] at r; obtain ⟨L, rfl, _⟩ := r; rfl
  | .sl .bool, h, j, cs, r | .sl .str, h, j, cs, r | .sl (.arr _ _), h, j, cs, r | .sl (.agg _), h, j, cs, r | .sl (.sl _), h, j, cs, r => by unfold RepE at r; obtain ⟨L, rfl, _⟩ := r; rfl
theorem RepEL.len {fz : Nat → Nat → Option Value} : ∀ {es : List Ep} {h : List Hv} {j : Nat} {cs : List Value}, RepEL fz es h j cs → cs.length = Ep.sizeL es
  | [], h, j, cs, r => by simp only [RepEL] at r; subst r; rfl
  | e :: es, h, j, cs, r => by
    simp only [RepEL] at r
    obtain ⟨a, b, rfl, ra, rb⟩ := r
    simp [Ep.sizeL, RepE.len ra, RepEL.len rb]
end
mutual
theorem RepE.mono {fz fz' : Nat → Nat → Option Value} (hf : ∀ b o x, fz b o = some x → fz' b o = some x) : ∀ {e : Ep} {h : List Hv} {j : Nat} {cs : List Value}, RepE fz e h j cs → RepE fz' e h j cs
  | .int k, h, j, cs, r => by simp only [RepE] at r ⊢; exact r
  | .bool, h, j, cs, r => by simp only [RepE] at r ⊢; exact r
  | .str, h, j, cs, r => by simp only [RepE] at r ⊢; exact r
  | .arr k n, h, j, cs, r => by simp only [RepE] at r ⊢; exact r
  | .agg es, h, j, cs, r => by simp only [RepE] at r ⊢; exact RepEL.mono hf r
  | .sl (.int k), h, j, cs, r => by simp only [RepE] at r ⊢; obtain ⟨L, e, hr⟩ := r; exact ⟨L, e, hr.mono hf (fun _ _ => rfl)⟩
  | .sl .bool, h, j, cs, r => by unfold RepE at r ⊢; obtain ⟨L, e, c, hc, hr⟩ := r; exact ⟨L, e, c, fun i hi => RepE.mono hf (hc i hi), hr.mono hf (fun i hi => (hc i hi).len)⟩
  | .sl .str, h, j, cs, r => by unfold RepE at r ⊢; obtain ⟨L, e, c, hc, hr⟩ := r; exact ⟨L, e, c, fun i hi => RepE.mono hf (hc i hi), hr.mono hf (fun i hi => (hc i hi).len)⟩
  | .sl (.arr _ _), h, j, cs, r => by unfold RepE at r ⊢; obtain ⟨L, e, c, hc, hr⟩ := r; exact ⟨L, e, c, fun i hi => RepE.mono hf (hc i hi), hr.mono hf (fun i hi => (hc i hi).len)⟩
  | .sl (.agg _), h, j, cs, r => by unfold RepE at r ⊢; obtain ⟨L, e, c, hc, hr⟩ := r; exact ⟨L, e, c, fun i hi => RepE.mono hf (hc i hi), hr.mono hf (fun i hi => (hc i hi).len)⟩
  | .sl (.sl _), h, j, cs, r => by unfold RepE at r ⊢; obtain ⟨L, e, c, hc, hr⟩ := r; exact ⟨L, e, c, fun i hi => RepE.mono hf (hc i hi), hr.mono hf (fun i hi => (hc i hi).len)⟩
theorem RepEL.mono {fz fz' : Nat → Nat → Option Value} (hf : ∀ b o x, fz b o = some x → fz' b o = some x) : ∀ {es : List Ep} {h : List Hv} {j : Nat} {cs : List Value}, RepEL fz es h j cs → RepEL fz' es h j cs
  | [], h, j, cs, r => by simp only [RepEL] at r ⊢; exact r
  | e :: es, h, j, cs, r => by
    simp only [RepEL] at r ⊢
    obtain ⟨a, b, e1, ra, rb⟩ := r
    exact ⟨a, b, e1, RepE.mono hf ra, RepEL.mono hf rb⟩
end

/-- what a name's memory is -/
def BlkRep (ρ : Ren) (w : World) (n : Nat) : AV → Prop
  | .x (.obj (.dead k)) => 0 < k → (ρ n).nl = false
  | .x (.obj (.iter s pos)) => w.heap[(ρ n).1]? = some (.stringIter ⟨s.toArray⟩ pos) ∧ (ρ n).2 = 0
  | .x (.obj (.ints k l true)) => RowRw w (ρ n) 1 l.length (fun i => [.int k (l.getD i 0)])
  | .x (.obj (.ints k l false)) => RowRo ρ.fz (ρ n) 1 l.length (fun i => [.int k (l.getD i 0)])
  | .x (.obj (.row e l true)) => ∃ c : Nat → List Value, (∀ i, i < l.length → RepE ρ.fz e (l.getD i []) 0 (c i)) ∧ RowRw w (ρ n) e.size l.length c
  | .x (.obj (.row e l false)) => ∃ c : Nat → List Value, (∀ i, i < l.length → RepE ρ.fz e (l.getD i []) 0 (c i)) ∧ RowRo ρ.fz (ρ n) e.size l.length c
  | .fz v => ∀ j, j < v.size → ρ.fz (ρ n).1 ((ρ n).2 + j) = (v.cells ρ)[j]?
  | v => ∃ c e, w.heap[(ρ n).1]? = some (.cells c e (0, 0)) ∧ (ρ n).2 + v.size ≤ c.size ∧ ∀ j, j < v.size → c[(ρ n).2 + j]? = (v.cells ρ)[j]?
/-- what of memory is a name's own -/
def rgn (L : Loc) : AV → Nat → Nat → Prop
  | .x (.obj (.dead _)), _, _ => False
  | .x (.obj (.iter ..)), b, _ => b = L.b
  | .x (.obj (.ints _ _ rw)), b, o => rw = true ∧ L.nl = false ∧ b = L.b ∧ L.o ≤ o ∧ o < L.o + L.cap * 1
  | .x (.obj (.row e _ rw)), b, o => rw = true ∧ L.nl = false ∧ b = L.b ∧ L.o ≤ o ∧ o < L.o + L.cap * e.size
  | .fz _, _, _ => False
  | v, b, o => b = L.b ∧ L.o ≤ o ∧ o < L.o + v.size
def AV.isTree (v : AV) : Bool := !v.isObj && !v.isFz
theorem blkRep_tree {ρ : Ren} {w : World} {n : Nat} {v : AV} (h : v.isTree = true) :
    BlkRep ρ w n v = ∃ c e, w.heap[(ρ n).1]? = some (.cells c e (0, 0)) ∧ (ρ n).2 + v.size ≤ c.size ∧ ∀ j, j < v.size → c[(ρ n).2 + j]? = (v.cells ρ)[j]? := by
  unfold AV.isTree AV.isObj AV.isFz at h
  cases v <;> first | rfl | (simp at h; done) | skip
  rename_i u
  cases u <;> first | rfl | simp [XV.isObj] at h
theorem rgn_tree {L : Loc} {v : AV} (h : v.isTree = true) (b o : Nat) : rgn L v b o = (b = L.b ∧ L.o ≤ o ∧ o < L.o + v.size) := by
  unfold AV.isTree AV.isObj AV.isFz at h
  cases v <;> first | rfl | (simp at h; done) | skip
  rename_i u
  cases u <;> first | rfl | simp [XV.isObj] at h
structure RepW (ρ : Ren) (hp : Hp) (w : World) : Prop where
  blk : ∀ n v, hp.getD n none = some v → BlkRep ρ w n v
  sep : ∀ m n vm vn, hp.getD m none = some vm → hp.getD n none = some vn → m ≠ n → ∀ b o, rgn (ρ m) vm b o → rgn (ρ n) vn b o → False
  fz : ∀ b o x, ρ.fz b o = some x → w.cell? ⟨b, o, none⟩ = some x
  fzs : ∀ n v b o, hp.getD n none = some v → rgn (ρ n) v b o → ρ.fz b o = none

/-- of what was there, cells that 'own' names alone may have turned -/
structure Kept (own : Nat → Nat → Prop) (w0 w : World) : Prop where
  os : w.os = w0.os
  tape : w.tape = w0.tape
  output : w.output = w0.output
  size : w0.heap.size ≤ w.heap.size
  old : ∀ b, b < w0.heap.size → (∀ o, ¬ own b o) → w.heap[b]? = w0.heap[b]?
  cells : ∀ b c e fz, w0.heap[b]? = some (.cells c e fz) → ∃ c', w.heap[b]? = some (.cells c' e fz) ∧ c'.size = c.size ∧ ∀ o, ¬ own b o → c'[o]? = c[o]?
  frz : ∀ a : Addr, a.block < w0.heap.size → w.frozen? a = w0.frozen? a

theorem Kept.refl (own : Nat → Nat → Prop) (w : World) : Kept own w w := ⟨rfl, rfl, rfl, Nat.le_refl _, fun _ _ _ => rfl, fun _ c _ _ h => ⟨c, h, rfl, fun _ _ => rfl⟩, fun _ _ => rfl⟩

theorem Kept.trans {own own' : Nat → Nat → Prop} {w0 w1 w2 : World} (h : Kept own w0 w1) (k : Kept own' w1 w2) (hs : ∀ b o, own' b o → own b o ∨ w0.heap.size ≤ b) : Kept own w0 w2 where
  os := k.os.trans h.os
  tape := k.tape.trans h.tape
  output := k.output.trans h.output
  size := Nat.le_trans h.size k.size
  old b hb hn := (k.old b (Nat.lt_of_lt_of_le hb h.size) (fun o ho => (hs b o ho).elim (hn o) (by omega))).trans (h.old b hb hn)
  frz a ha := (k.frz a (Nat.lt_of_lt_of_le ha h.size)).trans (h.frz a ha)
  cells b c e fz hb := by
    obtain ⟨c1, h1, h2, h3⟩ := h.cells b c e fz hb
    obtain ⟨c2, k1, k2, k3⟩ := k.cells b c1 e fz h1
    have hlt : b < w0.heap.size := (Array.getElem?_eq_some_iff.1 hb).1
    exact ⟨c2, k1, by rw [k2, h2], fun o ho => (k3 o (fun ho' => (hs b o ho').elim ho (by omega))).trans (h3 o ho)⟩

theorem Kept.drew {own : Nat → Nat → Prop} {w0 w : World} (h : Kept own w0 w) : Kept own w0 { w with drawn := w.drawn + 1 } :=
  ⟨h.os, h.tape, h.output, h.size, h.old, h.cells, h.frz⟩

theorem cell_at {w : World} {b o : Nat} {c : Array Value} {e : TypeId} {f : Nat × Nat} (h : w.heap[b]? = some (.cells c e f)) : w.cell? ⟨b, o, none⟩ = c[o]? := by simp [World.cell?, h]
theorem cell_same {w w' : World} (h : ∀ (b : Nat) x, w.heap[b]? = some x → w'.heap[b]? = some x) {b o : Nat} {x : Value} (hc : w.cell? ⟨b, o, none⟩ = some x) : w'.cell? ⟨b, o, none⟩ = some x := by
  unfold World.cell? at hc ⊢
  simp only at hc ⊢
  split at hc
  · rename_i c e f hb
    rw [h b _ hb]
    exact hc
  · cases hc
theorem RowRw.same {w w' : World} (h : ∀ (b : Nat) x, w.heap[b]? = some x → w'.heap[b]? = some x) {L : Loc} {es len : Nat} {c : Nat → List Value} (r : RowRw w L es len c) : RowRw w' L es len c where
  cap := r.cap
  nil := r.nil
  at_ hn := by
    obtain ⟨cs, e, lo, hi, h1, h2⟩ := r.at_ hn
    exact ⟨cs, e, lo, hi, h _ _ h1, h2⟩
/-- names that stand for what they stood for, what stays stays, memory that was there is there -/
theorem BlkRep.ext {ρ ρ' : Ren} {w w' : World} {n : Nat} {v : AV} (h : BlkRep ρ w n v) (hn : ρ' n = ρ n) (hv : ∀ m, v.has (.nm m) → ρ m = ρ' m) (hf : ∀ b o x, ρ.fz b o = some x → ρ'.fz b o = some x)
    (hw : ∀ (b : Nat) x, w.heap[b]? = some x → w'.heap[b]? = some x) : BlkRep ρ' w' n v := by
  have tree : v.isTree = true → BlkRep ρ' w' n v := by
    intro ht
    rw [blkRep_tree ht] at h ⊢
    obtain ⟨c, e, h1, h2, h3⟩ := h
    rw [hn, ← cells_congr v hv]
    exact ⟨c, e, hw _ _ h1, h2, h3⟩
  cases v with
  | fz v =>
    simp only [BlkRep] at h ⊢
    intro j hj
    have := h j hj
    rw [hn, ← cells_congr v (fun m hm => hv m (by simpa only [AV.has] using hm))]
    rw [List.getElem?_eq_getElem (by rw [cells_length]; exact hj)] at this ⊢
    exact hf _ _ _ this
  | x u =>
    cases u with
    | obj o =>
      cases o with
      | dead k => simp only [BlkRep] at h ⊢; rw [hn]; exact h
      | iter s pos => simp only [BlkRep] at h ⊢; rw [hn]; exact ⟨hw _ _ h.1, h.2⟩
      | ints k l rw =>
        cases rw with
        | true => simp only [BlkRep] at h ⊢; rw [hn]; exact h.same hw
        | false => simp only [BlkRep] at h ⊢; rw [hn]; exact h.mono hf (fun _ _ => rfl)
      | row e l rw =>
        cases rw with
        | true => simp only [BlkRep] at h ⊢; rw [hn]; obtain ⟨c, h1, h2⟩ := h; exact ⟨c, fun i hi => (h1 i hi).mono hf, h2.same hw⟩
        | false => simp only [BlkRep] at h ⊢; rw [hn]; obtain ⟨c, h1, h2⟩ := h; exact ⟨c, fun i hi => (h1 i hi).mono hf, h2.mono hf (fun i hi => (h1 i hi).len)⟩
    | _ => exact tree rfl
  | _ => exact tree rfl
theorem RepW.drew {ρ : Ren} {hp : Hp} {w : World} (h : RepW ρ hp w) : RepW ρ hp { w with drawn := w.drawn + 1 } :=
  ⟨fun n v hv => (h.blk n v hv).ext rfl (fun _ _ => rfl) (fun _ _ _ h => h) (fun _ _ h => h), h.sep, h.fz, h.fzs⟩

/-- a world in which nothing that was there has turned -/
abbrev Same (w w' : World) : Prop := Kept (fun _ _ => False) w w'

theorem Same.heap {w w' : World} (h : Same w w') {b : Nat} {x : Obj} (hb : w.heap[b]? = some x) : w'.heap[b]? = some x := by
  rw [h.old b (Array.getElem?_eq_some_iff.1 hb).1 (fun _ => id)]; exact hb

theorem RepW.same {ρ : Ren} {hp : Hp} {w w' : World} (h : RepW ρ hp w) (k : Same w w') : RepW ρ hp w' :=
  ⟨fun n v hv => (h.blk n v hv).ext rfl (fun _ _ => rfl) (fun _ _ _ h => h) (fun _ _ h => k.heap h), h.sep, fun b o x hx => cell_same (fun _ _ h => k.heap h) (h.fz b o x hx), h.fzs⟩

structure TmOk (ρ : Ren) (tm : Tm) (a : Act) : Prop where
  len : tm.length = a.tmps.size
  val : ∀ (i : Nat) v, tm.getD i none = some v → a.tmps.getD i undef = v.enc ρ

/-- what of the caller's memory may turn; the names below 'fb' stand for what they stood for -/
structure Own where
  own : Nat → Nat → Prop
  fb : Nat
  ρ0 : Ren

def Mine (own : Nat → Nat → Prop) (w0 : World) (ρ : Ren) (hp : Hp) : Prop :=
  ∀ n v, hp.getD n none = some v → ∀ b o, rgn (ρ n) v b o → w0.heap.size ≤ b ∨ own b o

structure Inv (own : Own) (w0 : World) (ρ : Ren) (st : St) (a : Act) (w : World) : Prop where
  rep : RepW ρ st.hp w
  tm : TmOk ρ st.tm a
  closed : Closed st
  wf : WfSt st
  kept : Kept own.own w0 w
  mine : Mine own.own w0 ρ st.hp
  defers : a.defers = []
  low : ∀ n, n < own.fb → ρ n = own.ρ0 n
  base : own.fb ≤ st.base
  fzK : ∀ b o x, own.ρ0.fz b o = some x → ρ.fz b o = some x
  fzN : ∀ b o, ρ.fz b o ≠ none → own.ρ0.fz b o ≠ none ∨ w0.heap.size ≤ b ∨ own.own b o

theorem TmOk.eval {ρ : Ren} {tm : Tm} {a : Act} (h : TmOk ρ tm a) : ∀ x u, opv tm x = some u → a.eval x = u.enc ρ := by
  intro x u hx
  cases x with
  | tmp t => exact h.val t u hx
  | const c => exact (constA_enc hx).1.symm
  | global g => cases hx
  | func f => cases hx; rfl

theorem TmOk.put {ρ : Ren} {tm : Tm} {a : Act} (h : TmOk ρ tm a) (d : Option Tmp) (v : Option AV) (u : Value) (hv : ∀ x, v = some x → u = x.enc ρ) : TmOk ρ (setT tm d v) (a.put d u) := by
  cases d with
  | none => exact h
  | some d =>
    refine ⟨by simp [setT, Act.put, h.len], fun i x hx => ?_⟩
    simp only [setT, List.getD_eq_getElem?_getD, List.getElem?_set] at hx
    simp only [Act.put, Array.getD_eq_getD_getElem?, Array.getElem?_setIfInBounds]
    split at hx
    · rename_i e
      subst e
      split at hx
      · rename_i hlt
        cases v with
        | none => simp at hx
        | some y =>
          simp at hx; subst hx
          simp [← h.len, hlt, hv y rfl]
      · simp at hx
    · rename_i e
      simp only [e, if_false]
      have := h.val i x (by simpa using hx)
      simpa using this

theorem TmOk.congr {ρ ρ' : Ren} {tm : Tm} {a : Act} (h : TmOk ρ tm a) (hρ : ∀ (i : Nat) v, tm.getD i none = some v → ∀ m, v.has (.nm m) → ρ m = ρ' m) : TmOk ρ' tm a :=
  ⟨h.len, fun i v hv => by rw [h.val i v hv]; exact enc_congr v (hρ i v hv)⟩

/-! the load -/
theorem seg_at {α : Type} {l a u b : List α} (h : l = a ++ u ++ b) {j : Nat} (hj : j < u.length) : l[a.length + j]? = u[j]? := by
  subst h
  rw [List.append_assoc, List.getElem?_append_right (by omega), Nat.add_sub_cancel_left, List.getElem?_append_left hj]

theorem size_one : ∀ {v : AV}, v.isAgg = false → v.size = 1
  | .fz v, h => by simp only [AV.isAgg, AV.size] at h ⊢; exact size_one h
  | .int .., _ | .bool _, _ | .str _, _ | .nil, _ | .ptr .., _ | .tup _, _ | .fn _, _ | .lit _, _ | .x _, _ => by simp [AV.size]
theorem run_load_fits {P : Program} {t : TypeId} {v : AV} {ρ : Ren} {w : World} {b o : Nat} (hf : fits P t v = true)
    (hc : ∀ j, j < v.size → w.cell? ⟨b, o + j, none⟩ = (v.cells ρ)[j]?) : (Instr.loadAt t (.pointer (some ⟨b, o, none⟩))).run P w = .ok (v.enc ρ) w := by
  obtain ⟨i, d, hi, hd, hs, hr⟩ := fits_spec hf
  cases hv : v.isAgg with
  | true =>
    rw [enc_of_agg hv]
    refine run_loadAt_mid w b o t (v.cells ρ) d (fun j x hx => ?_) hd (by rw [hr, hv]) (by simp [hi, cells_length, hs])
    rw [hc j (by have := (List.getElem?_eq_some_iff.1 hx).1; rwa [cells_length] at this)]; exact hx
  | false =>
    have h0 := hc 0 (by rw [size_one hv]; exact Nat.zero_lt_one)
    rw [cells_of_not hv] at h0
    simp only [Nat.add_zero, List.getElem?_cons_zero] at h0
    simp only [Instr.loadAt, Instr.sureAddr, Sem.run_bind, Sem.run_pure, Result.andThen_ok, loadVar, run_isAgg hd w, hr, hv, Bool.false_eq_true, if_false, run_load, h0]

/-! the store -/
def writeAt (c : Array Value) (o : Nat) (l : List Value) : Array Value := (c.toList.take o ++ l ++ c.toList.drop (o + l.length)).toArray

theorem writeAt_size {c : Array Value} {o : Nat} {l : List Value} (h : o + l.length ≤ c.size) : (writeAt c o l).size = c.size := by
  simp [writeAt]; omega

theorem writeAt_get {c : Array Value} {o : Nat} {l : List Value} (h : o + l.length ≤ c.size) (k : Nat) :
    (writeAt c o l)[k]? = if o ≤ k ∧ k < o + l.length then l[k - o]? else c[k]? := by
  simp only [writeAt, List.getElem?_toArray]
  by_cases h1 : k < o
  · rw [if_neg (by omega), List.append_assoc, List.getElem?_append_left (by simp; omega), List.getElem?_take, if_pos h1]; simp
  · by_cases h2 : k < o + l.length
    · rw [if_pos (by omega), List.append_assoc, List.getElem?_append_right (by simp; omega)]
      simp only [List.length_take, Array.length_toList]
      rw [Nat.min_eq_left (by omega), List.getElem?_append_left (by omega)]
    · rw [if_neg (by omega), List.getElem?_append_right (by simp; omega)]
      simp only [List.length_append, List.length_take, Array.length_toList, List.getElem?_drop]
      rw [Nat.min_eq_left (by omega), show o + l.length + (k - (o + l.length)) = k by omega]
      simp

mutual
theorem oneA_cells (ρ : Ren) : ∀ v : AV, v.oneA = true → ∀ x ∈ v.cells ρ, x.oneCell' = true
  | .arr k n l, _, x, hx => by simp only [AV.cells, arrCells, List.mem_map] at hx; obtain ⟨j, _, rfl⟩ := hx; rfl
  | .agg ts, h, x, hx => oneAL_cells ρ ts (by simpa [AV.oneA] using h) x (by simpa [AV.cells] using hx)
  | .tup ts, h, _, _ => by simp [AV.oneA] at h
  | .int .., _, x, hx => by simp [AV.cells] at hx; subst hx; rfl
  | .bool .., _, x, hx => by simp [AV.cells] at hx; subst hx; rfl
  | .str .., _, x, hx => by simp [AV.cells] at hx; subst hx; rfl
  | .nil, _, x, hx => by simp [AV.cells] at hx; subst hx; rfl
  | .ptr .., _, x, hx => by simp [AV.cells] at hx; subst hx; rfl
  | .fn .., _, x, hx => by simp [AV.cells] at hx; subst hx; rfl
  | .lit c, _, x, hx => by simp [AV.cells] at hx; subst hx; cases c <;> rfl
  | .x v, h, x, hx => by simp [AV.cells] at hx; subst hx; cases v <;> first | rfl | simp [AV.oneA, XV.isObj] at h
  | .fz _, h, _, _ => by simp [AV.oneA] at h
theorem oneAL_cells (ρ : Ren) : ∀ ts : List AV, AV.oneAL ts = true → ∀ x ∈ AV.cellsL ρ ts, x.oneCell' = true
  | [], _, x, hx => by simp [AV.cellsL] at hx
  | t :: ts, h, x, hx => by
    simp only [AV.oneAL, Bool.and_eq_true] at h
    simp only [AV.cellsL, List.mem_append] at hx
    rcases hx with hx | hx
    · exact oneA_cells ρ t h.1 x hx
    · exact oneAL_cells ρ ts h.2 x hx
end

theorem run_store_fits {P : Program} {t : TypeId} {v : AV} {ρ : Ren} {w : World} {b o : Nat} {c : Array Value} {e : TypeId} (hf : fits P t v = true) (h1 : v.oneA = true)
    (hb : w.heap[b]? = some (.cells c e (0, 0))) (ho : o + v.size ≤ c.size) :
    (Instr.storeAt t (.pointer (some ⟨b, o, none⟩)) (v.enc ρ)).run P w = .ok () (w.setRow b (writeAt c o (v.cells ρ))) := by
  obtain ⟨i, d, hi, hd, hs, hr⟩ := fits_spec hf
  have hsz : (v.enc ρ).cells.size = v.size := by rw [← Array.length_toList, enc_cells, cells_length]
  have hst := run_storeCells_at P b o e (v.cells ρ) 0 c w hb (by simp [cells_length]; omega) (oneA_cells ρ v h1)
  simp only [Nat.add_zero] at hst
  simp only [Instr.storeAt, Instr.sureAddr, Sem.run_bind, Sem.run_pure, Result.andThen_ok, storeVar, run_sizeOf' hi, hsz, hs, ne_eq, not_true_eq_false, if_false, enc_cells, hst]
  rfl

theorem setRow_other {w : World} {g b : Nat} {cs : Array Value} (h : b ≠ g) : (w.setRow g cs).heap[b]? = w.heap[b]? := by
  simp only [World.setRow, Array.getElem?_modify]
  rw [if_neg (by omega)]

theorem setRow_size (w : World) (g : Nat) (cs : Array Value) : (w.setRow g cs).heap.size = w.heap.size := by simp [World.setRow]

end Go.Sim
namespace Go.Sim

def Ren.upd (ρ : Ren) (n : Nat) (L : Loc) : Ren := ⟨fun m => if m = n then L else ρ m, ρ.fz⟩

/-- cells of a block, in R alone, have turned -/
structure Wr (b : Nat) (R : Nat → Prop) (w w' : World) : Prop where
  os : w'.os = w.os
  tape : w'.tape = w.tape
  output : w'.output = w.output
  size : w'.heap.size = w.heap.size
  off : ∀ b', b' ≠ b → w'.heap[b']? = w.heap[b']?
  at_ : ∃ c e f c', w.heap[b]? = some (.cells c e f) ∧ w'.heap[b]? = some (.cells c' e f) ∧ c'.size = c.size ∧ ∀ o, ¬ R o → c'[o]? = c[o]?

theorem Wr.cell {b : Nat} {R : Nat → Prop} {w w' : World} (h : Wr b R w w') {b' o : Nat} (hn : b' = b → ¬ R o) : w'.cell? ⟨b', o, none⟩ = w.cell? ⟨b', o, none⟩ := by
  by_cases e : b' = b
  · subst e
    obtain ⟨c, e, f, c', h1, h2, _, h4⟩ := h.at_
    rw [cell_at h1, cell_at h2]
    exact h4 o (hn rfl)
  · unfold World.cell?
    simp only [h.off b' e]
theorem Wr.frz {b : Nat} {R : Nat → Prop} {w w' : World} (h : Wr b R w w') (a : Addr) : w'.frozen? a = w.frozen? a := by
  unfold World.frozen?
  by_cases e : a.block = b
  · obtain ⟨c, el, f, c', h1, h2, _, _⟩ := h.at_
    rw [e, h1, h2]
  · rw [h.off _ e]
theorem Wr.kept {b : Nat} {R : Nat → Prop} {own : Nat → Nat → Prop} {w0 w w' : World} (h : Wr b R w w') (hk : Kept own w0 w) (hR : ∀ o, R o → w0.heap.size ≤ b ∨ own b o) : Kept own w0 w' := by
  refine hk.trans (own' := fun b' o => b' = b ∧ (R o ∨ (w0.heap.size ≤ b))) ⟨h.os, h.tape, h.output, by rw [h.size]; exact Nat.le_refl _, fun b' _ hno => ?_, fun b' c e fz hb => ?_, fun a _ => h.frz a⟩ ?_
  · by_cases e : b' = b
    · subst e
      obtain ⟨c, el, f, c', h1, h2, h3, h4⟩ := h.at_
      have : c' = c := by
        apply Array.ext_getElem?
        intro o
        exact h4 o (fun hr => hno o ⟨rfl, .inl hr⟩)
      rw [h1, h2, this]
    · exact h.off b' e
  · by_cases e1 : b' = b
    · subst e1
      obtain ⟨c1, el, f, c', h1, h2, h3, h4⟩ := h.at_
      rw [h1] at hb
      cases hb
      exact ⟨c', h2, h3, fun o ho => h4 o (fun hr => ho ⟨rfl, .inl hr⟩)⟩
    · exact ⟨c, by rw [h.off b' e1]; exact hb, rfl, fun _ _ => rfl⟩
  · rintro b' o ⟨rfl, hr | hr⟩
    · rcases hR o hr with h | h
      · exact .inr h
      · exact .inl h
    · exact .inr hr
theorem wr_setRow {w : World} {b : Nat} {c c' : Array Value} {e : TypeId} {f : Nat × Nat} {R : Nat → Prop} (hc : w.heap[b]? = some (.cells c e f)) (hs : c'.size = c.size) (hR : ∀ o, ¬ R o → c'[o]? = c[o]?) : Wr b R w (w.setRow b c') :=
  ⟨rfl, rfl, rfl, setRow_size w b c', fun _ h => setRow_other h, ⟨c, e, f, c', hc, setRow_heap w b c c' e f hc, hs, hR⟩⟩

/-- a row, its memory turned elsewhere -/
theorem RowRw.wr {b : Nat} {R : Nat → Prop} {w w' : World} (h : Wr b R w w') {L : Loc} {es len : Nat} {c : Nat → List Value} (r : RowRw w L es len c)
    (hn : L.nl = false → ∀ o, L.o ≤ o → o < L.o + L.cap * es → L.b = b → ¬ R o) : RowRw w' L es len c where
  cap := r.cap
  nil := r.nil
  at_ hl := by
    obtain ⟨cs, e, lo, hi, h1, h2, h3, h4⟩ := r.at_ hl
    by_cases eb : L.b = b
    · obtain ⟨c1, el, f, c', g1, g2, g3, g4⟩ := h.at_
      rw [eb] at h1
      rw [h1] at g1
      cases g1
      refine ⟨c', e, lo, hi, by rw [eb]; exact g2, by rw [g3]; exact h2, h3, fun i hi j hj => ?_⟩
      rw [← h4 i hi j hj]
      have hle : i * es + es ≤ L.cap * es := by
        have := Nat.mul_le_mul_right es (show i + 1 ≤ L.cap by have := r.cap; omega)
        rw [Nat.add_mul, Nat.one_mul] at this; exact this
      exact g4 _ (hn hl _ (by omega) (by omega) eb)
    · exact ⟨cs, e, lo, hi, by rw [h.off _ eb]; exact h1, h2, h3, h4⟩
theorem BlkRep.wr {ρ : Ren} {b : Nat} {R : Nat → Prop} {w w' : World} (h : Wr b R w w') {m : Nat} {v : AV} (r : BlkRep ρ w m v) (hn : ∀ o, rgn (ρ m) v b o → ¬ R o) : BlkRep ρ w' m v := by
  have tree : v.isTree = true → BlkRep ρ w' m v := by
    intro ht
    rw [blkRep_tree ht] at r ⊢
    obtain ⟨c, e, h1, h2, h3⟩ := r
    by_cases eb : (ρ m).1 = b
    · obtain ⟨c1, el, f, c', g1, g2, g3, g4⟩ := h.at_
      rw [eb] at h1
      rw [h1] at g1
      cases g1
      refine ⟨c', e, by rw [eb]; exact g2, by rw [g3]; exact h2, fun j hj => ?_⟩
      rw [← h3 j hj]
      exact g4 _ (hn _ (by rw [rgn_tree ht]; exact ⟨eb.symm, by omega, by omega⟩))
    · exact ⟨c, e, by rw [h.off _ eb]; exact h1, h2, h3⟩
  cases v with
  | fz v => exact r
  | x u =>
    cases u with
    | obj o =>
      cases o with
      | dead k => exact r
      | iter s pos =>
        simp only [BlkRep] at r ⊢
        refine ⟨?_, r.2⟩
        by_cases eb : (ρ m).1 = b
        · obtain ⟨c1, el, f, c', g1, _⟩ := h.at_
          rw [eb, g1] at r
          cases r.1
        · rw [h.off _ eb]; exact r.1
      | ints k l rw =>
        cases rw with
        | true => simp only [BlkRep] at r ⊢; exact r.wr h (fun hl o h1 h2 e => hn o ⟨rfl, hl, e.symm, h1, h2⟩)
        | false => exact r
      | row e l rw =>
        cases rw with
        | true => simp only [BlkRep] at r ⊢; obtain ⟨c, h1, h2⟩ := r; exact ⟨c, h1, h2.wr h (fun hl o h1 h2 e => hn o ⟨rfl, hl, e.symm, h1, h2⟩)⟩
        | false => exact r
    | _ => exact tree rfl
  | _ => exact tree rfl

/-- a write into a name's own -/
theorem RepW.write {ρ : Ren} {hp : Hp} {w w' : World} {n : Nat} {t t' : AV} {R : Nat → Prop} (h : RepW ρ hp w) (hn : hp.getD n none = some t) (hw : Wr (ρ n).1 R w w') (hR : ∀ o, R o → rgn (ρ n) t (ρ n).1 o)
    (hnew : BlkRep ρ w' n t') (hr : ∀ b o, rgn (ρ n) t' b o → rgn (ρ n) t b o) : RepW ρ (setP none hp n (some t')) w' where
  blk m v hv := by
    rw [getD_setP] at hv
    by_cases e : n = m
    · rw [if_pos e] at hv; cases hv; subst e; exact hnew
    · rw [if_neg e] at hv
      exact (h.blk m v hv).wr hw (fun o ho hr => h.sep m n v t hv hn (Ne.symm e) _ _ ho (hR o hr))
  sep m k vm vk hm hk hmk b o h1 h2 := by
    rw [getD_setP] at hm hk
    by_cases e : n = m
    · subst e
      rw [if_pos rfl] at hm; cases hm
      rw [if_neg hmk] at hk
      exact h.sep n k t vk hn hk hmk b o (hr b o h1) h2
    · rw [if_neg e] at hm
      by_cases e2 : n = k
      · subst e2
        rw [if_pos rfl] at hk; cases hk
        exact h.sep m n vm t hm hn hmk b o h1 (hr b o h2)
      · rw [if_neg e2] at hk
        exact h.sep m k vm vk hm hk hmk b o h1 h2
  fz b o x hx := by
    rw [hw.cell (fun e hr => by
      subst e
      have := h.fzs n t _ _ hn (hR o hr)
      rw [hx] at this; cases this)]
    exact h.fz b o x hx
  fzs m v b o hm hrg := by
    rw [getD_setP] at hm
    by_cases e : n = m
    · subst e; rw [if_pos rfl] at hm; cases hm; exact h.fzs n t b o hn (hr b o hrg)
    · rw [if_neg e] at hm; exact h.fzs m v b o hm hrg
theorem Mine.put {own : Nat → Nat → Prop} {w0 : World} {ρ : Ren} {hp : Hp} {n : Nat} {t t' : AV} (h : Mine own w0 ρ hp) (hn : hp.getD n none = some t) (hr : ∀ b o, rgn (ρ n) t' b o → rgn (ρ n) t b o) : Mine own w0 ρ (setP none hp n (some t')) := fun m v hm b o hrg => by
  rw [getD_setP] at hm
  by_cases e : n = m
  · subst e; rw [if_pos rfl] at hm; cases hm; exact h n t hn b o (hr b o hrg)
  · rw [if_neg e] at hm; exact h m v hm b o hrg

/-- a new name -/
theorem RepW.add {ρ : Ren} {hp : Hp} {w w' : World} {n : Nat} {v : AV} {L : Loc} {fz' : Nat → Nat → Option Value} (h : RepW ρ hp w) (hfree : hp.getD n none = none) (hc : ClosedH hp)
    (hw : ∀ (b : Nat) x, w.heap[b]? = some x → w'.heap[b]? = some x) (hf : ∀ b o x, ρ.fz b o = some x → fz' b o = some x) (hfw : ∀ b o x, fz' b o = some x → w'.cell? ⟨b, o, none⟩ = some x)
    (hfs : ∀ m vm b o, hp.getD m none = some vm → rgn (ρ m) vm b o → fz' b o = none)
    (hnew : BlkRep ⟨(ρ.upd n L).loc, fz'⟩ w' n v) (hd : ∀ m vm, hp.getD m none = some vm → ∀ b o, rgn (ρ m) vm b o → ¬ rgn L v b o) (hfz : ∀ b o, rgn L v b o → fz' b o = none) :
    RepW ⟨(ρ.upd n L).loc, fz'⟩ (setP none hp n (some v)) w' := by
  have hne : ∀ m, Pres hp (.nm m) → m ≠ n := fun m ⟨x, hx⟩ e => by subst e; rw [hfree] at hx; cases hx
  have hρ : ∀ m, Pres hp (.nm m) → (ρ.upd n L).loc m = ρ m := fun m hm => by simp [Ren.upd, hne m hm]
  have hn : (ρ.upd n L).loc n = L := by simp [Ren.upd]
  refine ⟨fun m x hx => ?_, fun m k vm vk hm hk hmk b o h1 h2 => ?_, hfw, fun m x b o hx hrg => ?_⟩
  · rw [getD_setP] at hx
    by_cases e : n = m
    · rw [if_pos e] at hx; cases hx; subst e; exact hnew
    · rw [if_neg e] at hx
      exact (h.blk m x hx).ext (hρ m ⟨x, hx⟩) (fun k hk => (hρ k (hc m x hx _ hk)).symm) hf hw
  · rw [getD_setP] at hm hk
    by_cases e : n = m
    · subst e
      rw [if_pos rfl] at hm; cases hm
      rw [if_neg hmk] at hk
      change rgn ((ρ.upd n L).loc n) v b o at h1
      change rgn ((ρ.upd n L).loc k) vk b o at h2
      rw [hn] at h1
      rw [hρ k ⟨vk, hk⟩] at h2
      exact hd k vk hk b o h2 h1
    · rw [if_neg e] at hm
      change rgn ((ρ.upd n L).loc m) vm b o at h1
      rw [hρ m ⟨vm, hm⟩] at h1
      by_cases e2 : n = k
      · subst e2
        rw [if_pos rfl] at hk; cases hk
        change rgn ((ρ.upd n L).loc n) v b o at h2
        rw [hn] at h2
        exact hd m vm hm b o h1 h2
      · rw [if_neg e2] at hk
        change rgn ((ρ.upd n L).loc k) vk b o at h2
        rw [hρ k ⟨vk, hk⟩] at h2
        exact h.sep m k vm vk hm hk hmk b o h1 h2
  · rw [getD_setP] at hx
    by_cases e : n = m
    · subst e
      rw [if_pos rfl] at hx; cases hx
      change rgn ((ρ.upd n L).loc n) v b o at hrg
      rw [hn] at hrg
      exact hfz b o hrg
    · rw [if_neg e] at hx
      change rgn ((ρ.upd n L).loc m) x b o at hrg
      rw [hρ m ⟨x, hx⟩] at hrg
      exact hfs m x b o hx hrg
theorem Mine.add {own : Nat → Nat → Prop} {w0 : World} {ρ : Ren} {hp : Hp} {n : Nat} {v : AV} {L : Loc} {fz' : Nat → Nat → Option Value} (h : Mine own w0 ρ hp)
    (hr : ∀ b o, rgn L v b o → w0.heap.size ≤ b ∨ own b o) : Mine own w0 ⟨(ρ.upd n L).loc, fz'⟩ (setP none hp n (some v)) := fun m x hx b o hrg => by
  rw [getD_setP] at hx
  by_cases e : n = m
  · subst e
    rw [if_pos rfl] at hx; cases hx
    change rgn ((ρ.upd n L).loc n) v b o at hrg
    rw [show (ρ.upd n L).loc n = L by simp [Ren.upd]] at hrg
    exact hr b o hrg
  · rw [if_neg e] at hx
    change rgn ((ρ.upd n L).loc m) x b o at hrg
    rw [show (ρ.upd n L).loc m = ρ m by simp [Ren.upd, Ne.symm e]] at hrg
    exact h m x hx b o hrg
/-- memory that was there, beside a new block -/
theorem push_old {w w' : World} {o : Obj} (h : w'.heap = w.heap.push o) (b : Nat) (x : Obj) (hb : w.heap[b]? = some x) : w'.heap[b]? = some x := by
  have hlt := (Array.getElem?_eq_some_iff.1 hb).1
  rw [h, Array.getElem?_push, if_neg (by omega)]
  exact hb
theorem rgn_lt {ρ : Ren} {hp : Hp} {w : World} (h : RepW ρ hp w) {m : Nat} {v : AV} (hm : hp.getD m none = some v) {b o : Nat} (hr : rgn (ρ m) v b o) : b < w.heap.size := by
  have hb := h.blk m v hm
  have lt : ∀ {b : Nat} {x : Obj}, w.heap[b]? = some x → b < w.heap.size := fun h => (Array.getElem?_eq_some_iff.1 h).1
  have tree : v.isTree = true → b < w.heap.size := by
    intro ht
    rw [blkRep_tree ht] at hb
    rw [rgn_tree ht] at hr
    obtain ⟨c, e, h1, _⟩ := hb
    rw [hr.1]; exact lt h1
  cases v with
  | fz v => exact hr.elim
  | x u =>
    cases u with
    | obj o =>
      cases o with
      | dead k => exact hr.elim
      | iter s pos => simp only [BlkRep] at hb; simp only [rgn] at hr; rw [hr]; exact lt hb.1
      | ints k l rw =>
        simp only [rgn] at hr
        obtain ⟨rfl, hl, rfl, _⟩ := hr
        simp only [BlkRep] at hb
        obtain ⟨_, _, _, _, h1, _⟩ := hb.at_ hl
        exact lt h1
      | row e l rw =>
        simp only [rgn] at hr
        obtain ⟨rfl, hl, rfl, _⟩ := hr
        simp only [BlkRep] at hb
        obtain ⟨_, _, hb⟩ := hb
        obtain ⟨_, _, _, _, h1, _⟩ := hb.at_ hl
        exact lt h1
    | _ => exact tree rfl
  | _ => exact tree rfl
theorem fz_lt {ρ : Ren} {hp : Hp} {w : World} (h : RepW ρ hp w) {b o : Nat} {x : Value} (hx : ρ.fz b o = some x) : b < w.heap.size := by
  have := h.fz b o x hx
  unfold World.cell? at this
  simp only at this
  split at this
  · rename_i hb; exact (Array.getElem?_eq_some_iff.1 hb).1
  · cases this
/-! steps -/
def OwnR (ρ : Ren) (hp : Hp) (b o : Nat) : Prop := ∃ n v, hp.getD n none = some v ∧ rgn (ρ n) v b o
/-- a step of the memory: its new names are some from nm on -/
structure Adv (nm k : Nat) (ρ : Ren) (hp : Hp) (w : World) (ρ' : Ren) (hp' : Hp) (w' : World) : Prop where
  kept : Kept (OwnR ρ hp) w w'
  rep : RepW ρ' hp' w'
  loc : ∀ m, m < nm ∨ nm + k ≤ m → ρ' m = ρ m
  fzK : ∀ b o x, ρ.fz b o = some x → ρ'.fz b o = some x
  fzN : ∀ b o, ρ'.fz b o ≠ none → ρ.fz b o ≠ none ∨ w.heap.size ≤ b ∨ OwnR ρ hp b o
  mine : ∀ b o, OwnR ρ' hp' b o → OwnR ρ hp b o ∨ w.heap.size ≤ b
theorem Adv.refl {nm k : Nat} {ρ : Ren} {hp : Hp} {w : World} (h : RepW ρ hp w) : Adv nm k ρ hp w ρ hp w :=
  ⟨Kept.refl _ _, h, fun _ _ => rfl, fun _ _ _ h => h, fun _ _ h => .inl h, fun _ _ h => .inl h⟩
theorem Adv.trans {nm k : Nat} {ρ ρ1 ρ2 : Ren} {hp hp1 hp2 : Hp} {w w1 w2 : World} (h : Adv nm k ρ hp w ρ1 hp1 w1) (g : Adv nm k ρ1 hp1 w1 ρ2 hp2 w2) : Adv nm k ρ hp w ρ2 hp2 w2 where
  kept := h.kept.trans g.kept h.mine
  rep := g.rep
  loc m hm := (g.loc m hm).trans (h.loc m hm)
  fzK b o x hx := g.fzK b o x (h.fzK b o x hx)
  fzN b o hx := by
    rcases g.fzN b o hx with h1 | h1 | h1
    · exact h.fzN b o h1
    · exact .inr (.inl (Nat.le_trans h.kept.size h1))
    · rcases h.mine b o h1 with h2 | h2
      · exact .inr (.inr h2)
      · exact .inr (.inl h2)
  mine b o hx := by
    rcases g.mine b o hx with h1 | h1
    · exact h.mine b o h1
    · exact .inr (Nat.le_trans h.kept.size h1)
theorem Same.to {own : Nat → Nat → Prop} {w w' : World} (h : Same w w') : Kept own w w' :=
  ⟨h.os, h.tape, h.output, h.size, fun b hb _ => h.old b hb (fun _ => id), fun b c e fz hb => by
    obtain ⟨c', h1, h2, h3⟩ := h.cells b c e fz hb
    exact ⟨c', h1, h2, fun o _ => h3 o id⟩, h.frz⟩
/-- the world alone, nothing that was there turned -/
theorem Adv.same {nm k : Nat} {ρ : Ren} {hp : Hp} {w w' : World} (h : RepW ρ hp w) (hs : Same w w') : Adv nm k ρ hp w ρ hp w' :=
  ⟨hs.to, h.same hs, fun _ _ => rfl, fun _ _ _ h => h, fun _ _ h => .inl h, fun _ _ h => .inl h⟩
theorem ownR_add {ρ : Ren} {hp : Hp} {n : Nat} {v : AV} {L : Loc} {fz' : Nat → Nat → Option Value} {b o : Nat} (h : OwnR ⟨(ρ.upd n L).loc, fz'⟩ (setP none hp n (some v)) b o) : OwnR ρ hp b o ∨ rgn L v b o := by
  obtain ⟨m, x, hx, hr⟩ := h
  rw [getD_setP] at hx
  by_cases e : n = m
  · subst e
    rw [if_pos rfl] at hx; cases hx
    change rgn ((ρ.upd n L).loc n) v b o at hr
    rw [show (ρ.upd n L).loc n = L by simp [Ren.upd]] at hr
    exact .inr hr
  · rw [if_neg e] at hx
    change rgn ((ρ.upd n L).loc m) x b o at hr
    rw [show (ρ.upd n L).loc m = ρ m by simp [Ren.upd, Ne.symm e]] at hr
    exact .inl ⟨m, x, hx, hr⟩
theorem upd_loc {ρ : Ren} {n : Nat} {L : Loc} {m : Nat} (h : m ≠ n) : (ρ.upd n L).loc m = ρ m := by simp [Ren.upd, h]
theorem upd_self {ρ : Ren} {n : Nat} {L : Loc} : (ρ.upd n L).loc n = L := by simp [Ren.upd]
/-- a new name that owns nothing: memory stays -/
theorem Adv.add_ro {nm k n : Nat} {ρ : Ren} {hp : Hp} {w : World} {v : AV} {L : Loc} (h : RepW ρ hp w) (hfree : hp.getD n none = none) (hc : ClosedH hp) (hn : nm ≤ n ∧ n < nm + k)
    (hnew : BlkRep (ρ.upd n L) w n v) (hr : ∀ b o, ¬ rgn L v b o) : Adv nm k ρ hp w (ρ.upd n L) (setP none hp n (some v)) w where
  kept := Kept.refl _ _
  rep := h.add hfree hc (fun _ _ h => h) (fun _ _ _ h => h) h.fz (fun m vm b o hm hr => h.fzs m vm b o hm hr) hnew (fun _ _ _ b o _ => hr b o) (fun b o h => absurd h (hr b o))
  loc m hm := upd_loc (by omega)
  fzK _ _ _ h := h
  fzN _ _ h := .inl h
  mine b o ho := by
    rcases ownR_add ho with h | h
    · exact .inl h
    · exact absurd h (hr b o)
/-- a new name for new memory -/
theorem Adv.add_new {nm k n : Nat} {ρ : Ren} {hp : Hp} {w w' : World} {v : AV} {L : Loc} (h : RepW ρ hp w) (hfree : hp.getD n none = none) (hc : ClosedH hp) (hn : nm ≤ n ∧ n < nm + k) (hs : Same w w')
    (hnew : BlkRep (ρ.upd n L) w' n v) (hr : ∀ b o, rgn L v b o → w.heap.size ≤ b) : Adv nm k ρ hp w (ρ.upd n L) (setP none hp n (some v)) w' where
  kept := hs.to
  rep := h.add hfree hc (fun _ _ h => hs.heap h) (fun _ _ _ h => h) (fun b o x hx => cell_same (fun _ _ h => hs.heap h) (h.fz b o x hx)) (fun m vm b o hm hr => h.fzs m vm b o hm hr) hnew
    (fun m vm hm b o h1 h2 => by have := rgn_lt h hm h1; have := hr b o h2; omega)
    (fun b o h2 => by
      cases hx : ρ.fz b o with
      | none => rfl
      | some x => have := fz_lt h hx; have := hr b o h2; omega)
  loc m hm := upd_loc (by omega)
  fzK _ _ _ h := h
  fzN _ _ h := .inl h
  mine b o ho := by
    rcases ownR_add ho with h | h
    · exact .inl h
    · exact .inr (hr b o h)
/-- what a name has turned -/
theorem Adv.write {nm k n : Nat} {ρ : Ren} {hp : Hp} {w w' : World} {t t' : AV} {R : Nat → Prop} (h : RepW ρ hp w) (hn : hp.getD n none = some t) (hw : Wr (ρ n).1 R w w') (hR : ∀ o, R o → rgn (ρ n) t (ρ n).1 o)
    (hnew : BlkRep ρ w' n t') (hr : ∀ b o, rgn (ρ n) t' b o → rgn (ρ n) t b o) : Adv nm k ρ hp w ρ (setP none hp n (some t')) w' where
  kept := hw.kept (Kept.refl _ _) (fun o ho => .inr ⟨n, t, hn, hR o ho⟩)
  rep := h.write hn hw hR hnew hr
  loc _ _ := rfl
  fzK _ _ _ h := h
  fzN _ _ h := .inl h
  mine b o ho := by
    obtain ⟨m, x, hx, hrg⟩ := ho
    rw [getD_setP] at hx
    by_cases e : n = m
    · subst e; rw [if_pos rfl] at hx; cases hx; exact .inl ⟨n, t, hn, hr b o hrg⟩
    · rw [if_neg e] at hx; exact .inl ⟨m, x, hx, hrg⟩
/-- a name's entry alone -/
theorem Adv.entry {nm k n : Nat} {ρ : Ren} {hp : Hp} {w : World} {t t' : AV} (h : RepW ρ hp w) (hn : hp.getD n none = some t) (hnew : BlkRep ρ w n t') (hr : ∀ b o, rgn (ρ n) t' b o → rgn (ρ n) t b o) :
    Adv nm k ρ hp w ρ (setP none hp n (some t')) w where
  kept := Kept.refl _ _
  rep :=
    ⟨fun m v hv => by
      rw [getD_setP] at hv
      by_cases e : n = m
      · rw [if_pos e] at hv; cases hv; subst e; exact hnew
      · rw [if_neg e] at hv; exact h.blk m v hv,
    fun m k vm vk hm hk hmk b o h1 h2 => by
      rw [getD_setP] at hm hk
      by_cases e : n = m
      · subst e
        rw [if_pos rfl] at hm; cases hm
        rw [if_neg hmk] at hk
        exact h.sep n k t vk hn hk hmk b o (hr b o h1) h2
      · rw [if_neg e] at hm
        by_cases e2 : n = k
        · subst e2
          rw [if_pos rfl] at hk; cases hk
          exact h.sep m n vm t hm hn hmk b o h1 (hr b o h2)
        · rw [if_neg e2] at hk
          exact h.sep m k vm vk hm hk hmk b o h1 h2,
    h.fz,
    fun m v b o hm hrg => by
      rw [getD_setP] at hm
      by_cases e : n = m
      · subst e; rw [if_pos rfl] at hm; cases hm; exact h.fzs n t b o hn (hr b o hrg)
      · rw [if_neg e] at hm; exact h.fzs m v b o hm hrg⟩
  loc _ _ := rfl
  fzK _ _ _ h := h
  fzN _ _ h := .inl h
  mine b o ho := by
    obtain ⟨m, x, hx, hrg⟩ := ho
    rw [getD_setP] at hx
    by_cases e : n = m
    · subst e; rw [if_pos rfl] at hx; cases hx; exact .inl ⟨n, t, hn, hr b o hrg⟩
    · rw [if_neg e] at hx; exact .inl ⟨m, x, hx, hrg⟩
/-- what a name holds stays from now on -/
theorem Adv.freeze {nm k n : Nat} {ρ : Ren} {hp : Hp} {w : World} {t t' : AV} {fz' : Nat → Nat → Option Value} (h : RepW ρ hp w) (hn : hp.getD n none = some t)
    (hf : ∀ b o x, ρ.fz b o = some x → fz' b o = some x) (hfn : ∀ b o x, fz' b o = some x → ρ.fz b o = some x ∨ (rgn (ρ n) t b o ∧ w.cell? ⟨b, o, none⟩ = some x))
    (hnew : BlkRep ⟨ρ.loc, fz'⟩ w n t') (hr : ∀ b o, ¬ rgn (ρ n) t' b o) : Adv nm k ρ hp w ⟨ρ.loc, fz'⟩ (setP none hp n (some t')) w where
  kept := Kept.refl _ _
  rep :=
    ⟨fun m v hv => by
      rw [getD_setP] at hv
      by_cases e : n = m
      · rw [if_pos e] at hv; cases hv; subst e; exact hnew
      · rw [if_neg e] at hv; exact (h.blk m v hv).ext rfl (fun _ _ => rfl) hf (fun _ _ h => h),
    fun m k vm vk hm hk hmk b o h1 h2 => by
      rw [getD_setP] at hm hk
      by_cases e : n = m
      · subst e; rw [if_pos rfl] at hm; cases hm; exact hr b o h1
      · rw [if_neg e] at hm
        by_cases e2 : n = k
        · subst e2; rw [if_pos rfl] at hk; cases hk; exact hr b o h2
        · rw [if_neg e2] at hk; exact h.sep m k vm vk hm hk hmk b o h1 h2,
    fun b o x hx => (hfn b o x hx).elim (h.fz b o x) (fun h => h.2),
    fun m v b o hm hrg => by
      rw [getD_setP] at hm
      by_cases e : n = m
      · subst e; rw [if_pos rfl] at hm; cases hm; exact absurd hrg (hr b o)
      · rw [if_neg e] at hm
        show fz' b o = none
        cases hx : fz' b o with
        | none => rfl
        | some x =>
          rcases hfn b o x hx with h1 | ⟨h1, _⟩
          · have := h.fzs m v b o hm hrg
            rw [h1] at this; cases this
          · exact (h.sep n m t v hn hm e b o h1 hrg).elim⟩
  loc _ _ := rfl
  fzK := hf
  fzN b o hx := by
    cases hy : fz' b o with
    | none => exact absurd hy hx
    | some x =>
      rcases hfn b o x hy with h1 | ⟨h1, _⟩
      · exact .inl (by rw [h1]; simp)
      · exact .inr (.inr ⟨n, t, hn, h1⟩)
  mine b o ho := by
    obtain ⟨m, x, hx, hrg⟩ := ho
    rw [getD_setP] at hx
    by_cases e : n = m
    · subst e; rw [if_pos rfl] at hx; cases hx; exact absurd hrg (hr b o)
    · rw [if_neg e] at hx; exact .inl ⟨m, x, hx, hrg⟩

/-- a step of the memory is one of the state -/
theorem Inv.adv {own : Own} {w0 w w' : World} {ρ ρ' : Ren} {st : St} {a : Act} {nm k : Nat} {hp' : Hp} (h : Inv own w0 ρ st a w) (g : Adv nm k ρ st.hp w ρ' hp' w') (hnm : own.fb ≤ nm)
    (hpres : ∀ m, Pres st.hp (.nm m) → ρ m = ρ' m) (d : Option Tmp) (v : Option AV) (u : Value) (hv : ∀ x, v = some x → u = x.enc ρ')
    (hcl : Closed ⟨setT st.tm d v, hp', st.base⟩) (hwf : WfSt ⟨setT st.tm d v, hp', st.base⟩) : Inv own w0 ρ' ⟨setT st.tm d v, hp', st.base⟩ (a.put d u) w' where
  rep := g.rep
  tm := (h.tm.congr (fun i v hv m hm => hpres m (h.closed.tm i v hv _ hm))).put d v u hv
  closed := hcl
  wf := hwf
  kept := h.kept.trans g.kept (fun b o ⟨n, v, hn, hr⟩ => (h.mine n v hn b o hr).symm)
  mine n v hn b o hr := by
    rcases g.mine b o ⟨n, v, hn, hr⟩ with ⟨m, x, hx, hrg⟩ | h1
    · exact h.mine m x hx b o hrg
    · exact .inl (Nat.le_trans h.kept.size h1)
  defers := by cases d <;> exact h.defers
  low n hn := (g.loc n (.inl (by omega))).trans (h.low n hn)
  base := h.base
  fzK b o x hx := g.fzK b o x (h.fzK b o x hx)
  fzN b o hx := by
    rcases g.fzN b o hx with h1 | h1 | ⟨m, x, hx, hrg⟩
    · exact h.fzN b o h1
    · exact .inr (.inl (Nat.le_trans h.kept.size h1))
    · rcases h.mine m x hx b o hrg with h2 | h2
      · exact .inr (.inl h2)
      · exact .inr (.inr h2)
end Go.Sim
namespace Go.Sim

/-- a list of new names that own nothing -/
theorem Adv.addL_ro {nm k : Nat} {ρ ρ' : Ren} {hp : Hp} {w : World} {news : List AV} (h : RepW ρ hp w) (hfree : ∀ i, i < news.length → hp.getD (nm + i) none = none) (hc : ClosedH hp) (hk : news.length ≤ k)
    (hfz : ρ'.fz = ρ.fz) (hloc : ∀ m, m < nm ∨ nm + news.length ≤ m → ρ' m = ρ m) (hnew : ∀ i t, news[i]? = some t → BlkRep ρ' w (nm + i) t) (hr : ∀ t ∈ news, ∀ L b o, ¬ rgn L t b o) :
    Adv nm k ρ hp w ρ' (addL hp nm news) w := by
  have old : ∀ m, Pres hp (.nm m) → ρ' m = ρ m := fun m ⟨x, hx⟩ => by
    by_cases hm : nm ≤ m ∧ m < nm + news.length
    · have := hfree (m - nm) (by omega)
      rw [show nm + (m - nm) = m by omega, hx] at this; cases this
    · exact hloc m (by omega)
  have ent : ∀ m x, (addL hp nm news).getD m none = some x → (∃ i, m = nm + i ∧ news[i]? = some x) ∨ hp.getD m none = some x := by
    intro m x hx
    rw [addL_get] at hx
    by_cases hm : nm ≤ m ∧ m < nm + news.length
    · rw [if_pos hm] at hx; exact .inl ⟨m - nm, by omega, hx⟩
    · rw [if_neg hm] at hx; exact .inr hx
  refine ⟨Kept.refl _ _, ⟨fun m x hx => ?_, fun m k vm vk hm hk hmk b o h1 h2 => ?_, fun b o x hx => h.fz b o x (by rw [← hfz]; exact hx), fun m x b o hx hrg => ?_⟩, fun m hm => hloc m (by omega), fun b o x hx => by rw [hfz]; exact hx,
    fun b o hx => .inl (by rw [hfz] at hx; exact hx), fun b o ⟨m, x, hx, hrg⟩ => ?_⟩
  · rcases ent m x hx with ⟨i, rfl, hi⟩ | hx
    · exact hnew i x hi
    · exact (h.blk m x hx).ext (old m ⟨x, hx⟩) (fun q hq => (old q (hc m x hx _ hq)).symm) (fun b o x hx => by rw [hfz]; exact hx) (fun _ _ h => h)
  · rcases ent m vm hm with ⟨i, rfl, hi⟩ | hm
    · exact hr _ (List.mem_of_getElem? hi) _ b o h1
    · rcases ent k vk hk with ⟨i, rfl, hi⟩ | hk
      · exact hr _ (List.mem_of_getElem? hi) _ b o h2
      · rw [old m ⟨vm, hm⟩] at h1
        rw [old k ⟨vk, hk⟩] at h2
        exact h.sep m k vm vk hm hk hmk b o h1 h2
  · rw [hfz]
    rcases ent m x hx with ⟨i, rfl, hi⟩ | hx
    · exact absurd hrg (hr _ (List.mem_of_getElem? hi) _ b o)
    · rw [old m ⟨x, hx⟩] at hrg; exact h.fzs m x b o hx hrg
  · rcases ent m x hx with ⟨i, rfl, hi⟩ | hx
    · exact absurd hrg (hr _ (List.mem_of_getElem? hi) _ b o)
    · rw [old m ⟨x, hx⟩] at hrg; exact .inl ⟨m, x, hx, hrg⟩

mutual
/-- an element's cells are its value's; its slices are rows that stay -/
theorem repE_mk {fz : Nat → Nat → Option Value} {w : World} : ∀ (e : Ep) (h : List Hv) (j : Nat) (cs : List Value), RepE fz e h j cs → ∃ locs : Nat → Loc, ∀ (ρ' : Ren) (nm : Nat), ρ'.fz = fz → (∀ i, i < e.ns → ρ' (nm + i) = locs i) →
    (e.mk h j nm).cells ρ' = cs ∧ ∀ i t, (e.objs false h j)[i]? = some t → BlkRep ρ' w (nm + i) t
  | .int k, h, j, cs, r => by simp only [RepE] at r; subst r; exact ⟨fun _ => ⟨0, 0, 0, false⟩, fun ρ' nm _ _ => ⟨by simp [Ep.mk, AV.cells], by simp [Ep.objs]⟩⟩
  | .bool, h, j, cs, r => by simp only [RepE] at r; subst r; exact ⟨fun _ => ⟨0, 0, 0, false⟩, fun ρ' nm _ _ => ⟨by simp [Ep.mk, AV.cells], by simp [Ep.objs]⟩⟩
  | .str, h, j, cs, r => by simp only [RepE] at r; subst r; exact ⟨fun _ => ⟨0, 0, 0, false⟩, fun ρ' nm _ _ => ⟨by simp [Ep.mk, AV.cells], by simp [Ep.objs]⟩⟩
  | .arr k n, h, j, cs, r => by simp only [RepE] at r; subst r; exact ⟨fun _ => ⟨0, 0, 0, false⟩, fun ρ' nm _ _ => ⟨by simp [Ep.mk, AV.cells], by simp [Ep.objs]⟩⟩
  | .agg es, h, j, cs, r => by
    simp only [RepE] at r
    obtain ⟨locs, hl⟩ := repE_mkL es h j cs r
    exact ⟨locs, fun ρ' nm hf hi => by simp only [Ep.mk, AV.cells, Ep.objs]; exact hl ρ' nm hf hi⟩
  | .sl (.int k), h, j, cs, r => by
    simp only [RepE] at r
    obtain ⟨L, rfl, hr⟩ := r
    refine ⟨fun _ => L, fun ρ' nm hf hi => ?_⟩
    have h0 := hi 0 (by simp [Ep.ns])
    rw [Nat.add_zero] at h0
    refine ⟨by simp only [Ep.mk, AV.cells, XV.enc, h0]; rfl, fun i t ht => ?_⟩
    cases i with
    | zero =>
      simp only [Ep.objs, List.getElem?_cons_zero, Option.some.injEq] at ht
      subst ht
      simp only [BlkRep, Nat.add_zero, h0, hf]
      exact hr
    | succ i => simp [Ep.objs] at ht
  | .sl .bool, h, j, cs, r | .sl .str, h, j, cs, r | .sl (.arr _ _), h, j, cs, r | .sl (.agg _), h, j, cs, r | .sl (.sl _), h, j, cs, r => by
    unfold RepE at r
    obtain ⟨L, rfl, c, hc, hr'⟩ := r
    refine ⟨fun _ => L, fun ρ' nm hf hi => ?_⟩
    have h0 := hi 0 (by simp [Ep.ns])
    rw [Nat.add_zero] at h0
    refine ⟨by simp only [Ep.mk, AV.cells, XV.enc, h0]; rfl, fun i t ht => ?_⟩
    cases i with
    | zero =>
      simp only [Ep.objs, List.getElem?_cons_zero, Option.some.injEq] at ht
      subst ht
      simp only [BlkRep, Nat.add_zero, h0, hf]
      exact ⟨c, hc, hr'⟩
    | succ i => simp [Ep.objs] at ht
theorem repE_mkL {fz : Nat → Nat → Option Value} {w : World} : ∀ (es : List Ep) (h : List Hv) (j : Nat) (cs : List Value), RepEL fz es h j cs → ∃ locs : Nat → Loc, ∀ (ρ' : Ren) (nm : Nat), ρ'.fz = fz → (∀ i, i < Ep.nsL es → ρ' (nm + i) = locs i) →
    AV.cellsL ρ' (Ep.mkL es h j nm) = cs ∧ ∀ i t, (Ep.objsL false es h j)[i]? = some t → BlkRep ρ' w (nm + i) t
  | [], h, j, cs, r => by simp only [RepEL] at r; subst r; exact ⟨fun _ => ⟨0, 0, 0, false⟩, fun ρ' nm _ _ => ⟨by simp [Ep.mkL, AV.cellsL], by simp [Ep.objsL]⟩⟩
  | e :: es, h, j, cs, r => by
    simp only [RepEL] at r
    obtain ⟨a, b, rfl, ra, rb⟩ := r
    obtain ⟨l1, h1⟩ := repE_mk (w := w) e h j a ra
    obtain ⟨l2, h2⟩ := repE_mkL (w := w) es h (j + e.n) b rb
    refine ⟨fun i => if i < e.ns then l1 i else l2 (i - e.ns), fun ρ' nm hf hi => ?_⟩
    obtain ⟨c1, o1⟩ := h1 ρ' nm hf (fun i hi' => (hi i (by simp [Ep.nsL]; omega)).trans (if_pos hi'))
    obtain ⟨c2, o2⟩ := h2 ρ' (nm + e.ns) hf (fun i hi' => by
      have := hi (e.ns + i) (by simp [Ep.nsL]; omega)
      rw [Nat.add_assoc, this]
      exact (if_neg (by omega)).trans (by rw [show e.ns + i - e.ns = i by omega]))
    refine ⟨by simp [Ep.mkL, AV.cellsL, c1, c2], fun i t ht => ?_⟩
    simp only [Ep.objsL] at ht
    have hlen := objs_len e false h j
    by_cases hlt : i < e.ns
    · rw [List.getElem?_append_left (by omega)] at ht
      exact o1 i t ht
    · rw [List.getElem?_append_right (by omega)] at ht
      have := o2 (i - (e.objs false h j).length) t ht
      rwa [hlen, Nat.add_assoc, show e.ns + (i - e.ns) = i by omega] at this
end
mutual
theorem objs_ro : ∀ (e : Ep) (h : List Hv) (j : Nat), ∀ t ∈ e.objs false h j, ∀ L b o, ¬ rgn L t b o
  | .int k, _, _, u, hu | .bool, _, _, u, hu | .str, _, _, u, hu | .arr _ _, _, _, u, hu => by simp [Ep.objs] at hu
  | .agg es, h, j, u, hu => by simp only [Ep.objs] at hu; exact objsL_ro es h j u hu
  | .sl (.int k), _, _, u, hu | .sl .bool, _, _, u, hu | .sl .str, _, _, u, hu | .sl (.arr _ _), _, _, u, hu | .sl (.agg _), _, _, u, hu | .sl (.sl _), _, _, u, hu => by
    simp only [Ep.objs, List.mem_singleton] at hu; subst hu; intro L b o hr; simp [rgn] at hr
theorem objsL_ro : ∀ (es : List Ep) (h : List Hv) (j : Nat), ∀ t ∈ Ep.objsL false es h j, ∀ L b o, ¬ rgn L t b o
  | [], _, _, u, hu => by simp [Ep.objsL] at hu
  | e :: es, h, j, u, hu => by
    simp only [Ep.objsL, List.mem_append] at hu
    rcases hu with hu | hu
    · exact objs_ro e h j u hu
    · exact objsL_ro es h (j + e.n) u hu
end

/-! cells -/
theorem tree_cell {ρ : Ren} {hp : Hp} {w : World} (h : RepW ρ hp w) {n : Nat} {t tr : AV} (hn : hp.getD n none = some t) (ht : unfz t = some tr) {j : Nat} (hj : j < tr.size) : w.cell? ⟨(ρ n).1, (ρ n).2 + j, none⟩ = (tr.cells ρ)[j]? := by
  have hb := h.blk n t hn
  unfold unfz at ht
  split at ht
  · cases ht
    simp only [BlkRep] at hb
    have := hb j hj
    have hx : (tr.cells ρ)[j]? = some ((tr.cells ρ)[j]'(by rw [cells_length]; exact hj)) := List.getElem?_eq_getElem _
    rw [hx] at this ⊢
    exact h.fz _ _ _ this
  · cases ht
  · rename_i h1 h2
    have e : t = tr := by simpa using ht
    subst e
    have htr : t.isTree = true := by
      unfold AV.isTree
      cases t <;> first | rfl | exact absurd rfl (h1 _) | skip
      rename_i u
      cases u <;> first | rfl | exact absurd rfl (h2 _)
    rw [blkRep_tree htr] at hb
    obtain ⟨c, e, h1, _, h3⟩ := hb
    rw [cell_at h1]
    exact h3 j hj
theorem rowRw_cell {w : World} {L : Loc} {es len : Nat} {c : Nat → List Value} (h : RowRw w L es len c) {i j : Nat} (hi : i < len) (hj : j < es) : w.cell? ⟨L.b, L.o + i * es + j, none⟩ = (c i)[j]? := by
  have hl : L.nl = false := by
    cases hq : L.nl with
    | false => rfl
    | true => have := h.nil hq; omega
  obtain ⟨cs, e, lo, hi', h1, _, _, h4⟩ := h.at_ hl
  rw [cell_at h1]
  exact h4 i hi j hj
theorem rowRo_cell {fz : Nat → Nat → Option Value} {w : World} (hw : ∀ b o x, fz b o = some x → w.cell? ⟨b, o, none⟩ = some x) {L : Loc} {es len : Nat} {c : Nat → List Value} (h : RowRo fz L es len c) {i j : Nat} (hi : i < len) (hj : j < es) (hc : (c i).length = es) :
    w.cell? ⟨L.b, L.o + i * es + j, none⟩ = (c i)[j]? := by
  have hl : L.nl = false := by
    cases hq : L.nl with
    | false => rfl
    | true => have := h.nil hq; omega
  have := h.at_ hl i hi j hj
  rw [List.getElem?_eq_getElem (by rw [hc]; exact hj)] at this ⊢
  exact hw _ _ _ this
/-- the cells of a row of integers -/
theorem ints_cell {ρ : Ren} {hp : Hp} {w : World} (h : RepW ρ hp w) {n : Nat} {k : IntKind} {l : List Int} {rw : Bool} (hn : hp.getD n none = some (.x (.obj (.ints k l rw)))) {i : Nat} (hi : i < l.length) :
    w.cell? ⟨(ρ n).1, (ρ n).2 + i, none⟩ = some (.int k (l.getD i 0)) := by
  have hb := h.blk n _ hn
  cases rw with
  | true =>
    simp only [BlkRep] at hb
    have := rowRw_cell hb hi (j := 0) (by omega)
    simpa using this
  | false =>
    simp only [BlkRep] at hb
    have := rowRo_cell h.fz hb hi (j := 0) (by omega) rfl
    simpa using this
theorem ints_nl {ρ : Ren} {hp : Hp} {w : World} (h : RepW ρ hp w) {n : Nat} {k : IntKind} {l : List Int} {rw : Bool} (hn : hp.getD n none = some (.x (.obj (.ints k l rw)))) : l.length ≤ (ρ n).cap ∧ ((ρ n).nl = true → l.length = 0 ∧ (ρ n).cap = 0) := by
  have hb := h.blk n _ hn
  cases rw with
  | true => simp only [BlkRep] at hb; exact ⟨hb.cap, hb.nil⟩
  | false => simp only [BlkRep] at hb; exact ⟨hb.cap, hb.nil⟩
theorem row_rep {ρ : Ren} {hp : Hp} {w : World} (h : RepW ρ hp w) {n : Nat} {e : Ep} {l : List (List Hv)} {rw : Bool} (hn : hp.getD n none = some (.x (.obj (.row e l rw)))) :
    ∃ c : Nat → List Value, (∀ i, i < l.length → RepE ρ.fz e (l.getD i []) 0 (c i)) ∧ (∀ i j, i < l.length → j < e.size → w.cell? ⟨(ρ n).1, (ρ n).2 + i * e.size + j, none⟩ = (c i)[j]?) ∧
      l.length ≤ (ρ n).cap ∧ ((ρ n).nl = true → l.length = 0 ∧ (ρ n).cap = 0) := by
  have hb := h.blk n _ hn
  cases rw with
  | true =>
    simp only [BlkRep] at hb
    obtain ⟨c, h1, h2⟩ := hb
    exact ⟨c, h1, fun i j hi hj => rowRw_cell h2 hi hj, h2.cap, h2.nil⟩
  | false =>
    simp only [BlkRep] at hb
    obtain ⟨c, h1, h2⟩ := hb
    exact ⟨c, h1, fun i j hi hj => rowRo_cell h.fz h2 hi hj (h1 i hi).len, h2.cap, h2.nil⟩

/-! loads -/
theorem sub_at {ρ : Ren} {p : List Sel} {v u : AV} (h : sub p v = some u) {j : Nat} (hj : j < u.size) : (v.cells ρ)[pOff p + j]? = (u.cells ρ)[j]? ∧ pOff p + j < v.size := by
  obtain ⟨a, b, h1, h2⟩ := sub_cells ρ p v u h
  have hl : v.size = a.length + u.size + b.length := by rw [← cells_length ρ v, h1]; simp [cells_length]; omega
  refine ⟨?_, by omega⟩
  have := seg_at h1 (j := j) (by rw [cells_length]; exact hj)
  rwa [h2] at this
theorem arrCells_sub (k : IntKind) (m off N : Nat) (l : List Int) (h : off + N ≤ m) {j : Nat} (hj : j < N) : (arrCells k m l)[off + j]? = (arrCells k N (subList off N m l))[j]? := by
  unfold arrCells subList
  cases hc : (Nat.beq off 0 && Nat.beq N m) with
  | true =>
    simp only [Bool.and_eq_true] at hc
    have e1 := Nat.eq_of_beq_eq_true hc.1
    have e2 := Nat.eq_of_beq_eq_true hc.2
    subst e1; subst e2
    simp [hj]
  | false =>
    simp only [cond_false]
    rw [List.getElem?_map, List.getElem?_map, List.getElem?_range (by omega), List.getElem?_range hj]
    simp only [Option.map_some, Option.some.injEq, Value.int.injEq, true_and]
    rw [List.getD_eq_getElem?_getD, List.getD_eq_getElem?_getD, List.getElem?_take, if_pos hj, List.getElem?_drop]
theorem ldArr_run {P : Program} {t : TypeId} {k : IntKind} {m off : Nat} {l : List Int} {v : AV} {news : List AV} {ρ : Ren} {w : World} {b o : Nat} (h : ldArr P t k m off l (fun v n => some (v, n)) = some (v, news))
    (hc : ∀ j, off + j < m → w.cell? ⟨b, o + j, none⟩ = (arrCells k m l)[off + j]?) : news = [] ∧ (Instr.loadAt t (.pointer (some ⟨b, o, none⟩))).run P w = .ok (v.enc ρ) w := by
  unfold ldArr at h
  split at h
  · rename_i N _ _
    cases h1 : fits P t (.arr k N []) with
    | false => rw [h1] at h; cases h
    | true =>
      cases h2 : Nat.ble (off + N) m with
      | false => rw [h1, h2] at h; cases h
      | true =>
        rw [h1, h2] at h
        cases h
        have hle := Nat.le_of_ble_eq_true h2
        refine ⟨rfl, ?_⟩
        have hf : fits P t (.arr k N (subList off N m l)) = true := by
          unfold fits at h1 ⊢
          simp only [AV.size, AV.isAgg] at h1 ⊢
          exact h1
        refine run_load_fits hf (fun j hj => ?_)
        simp only [AV.size] at hj
        rw [hc j (by omega)]
        simp only [AV.cells]
        exact arrCells_sub k m off N l hle hj
  · cases h

theorem ldV_adv {P : Program} {t : TypeId} {hp : Hp} {nm k : Nat} {x v : AV} {news : List AV} {ρ : Ren} {w : World} (h : ldV P t hp nm x (fun v n => some (v, n)) = some (v, news)) (hr : RepW ρ hp w) (hh : ClosedH hp) (hx : ClosedV hp x)
    (hf : ∀ i, i < news.length → hp.getD (nm + i) none = none) (hk : news.length ≤ k) : ∃ ρ', (Instr.loadAt t (x.enc ρ)).run P w = .ok (v.enc ρ') w ∧ Adv nm k ρ hp w ρ' (addL hp nm news) w ∧ ∀ m, Pres hp (.nm m) → ρ m = ρ' m := by
  unfold ldV at h
  split at h
  · rename_i n p
    split at h
    · rename_i tree ht
      split at h
      · rename_i tr htr
        rw [subK_eq] at h
        cases hs : sub p tr with
        | none => rw [hs] at h; cases h
        | some u =>
          rw [hs, Option.bind_some] at h
          cases hft : fits P t u with
          | false => rw [hft] at h; cases h
          | true =>
            rw [hft] at h
            cases h
            refine ⟨ρ, ?_, Adv.refl hr, fun _ _ => rfl⟩
            simp only [AV.enc]
            refine run_load_fits hft (fun j hj => ?_)
            obtain ⟨g1, g2⟩ := sub_at (ρ := ρ) hs hj
            rw [← g1, Nat.add_assoc]
            exact tree_cell hr ht htr g2
      · cases h
    · cases h
  · rename_i n es i p
    obtain ⟨q, hq, hgt⟩ := hx (.gt n i) (by simp [AV.has, XV.has])
    split at h
    · rename_i kk l rw hn
      rw [hn] at hq; cases hq
      simp only [AV.gtOk] at hgt
      split at h
      · cases h1 : Nat.beq es 1 with
        | false => rw [h1] at h; cases h
        | true =>
          have e1 := Nat.eq_of_beq_eq_true h1
          subst e1
          rw [h1, cond_true] at h
          cases hft : fits P t (.int kk 0) with
          | true =>
            rw [hft] at h
            cases h
            refine ⟨ρ, ?_, Adv.refl hr, fun _ _ => rfl⟩
            simp only [AV.enc, XV.enc, pOff, Nat.mul_one, Nat.add_zero]
            have hft' : fits P t (.int kk (l.getD i 0)) = true := by
              unfold fits at hft ⊢
              simp only [AV.size, AV.isAgg] at hft ⊢
              exact hft
            have := run_load_fits (ρ := ρ) (w := w) (b := (ρ n).1) (o := (ρ n).2 + i) hft' (fun j hj => by
              simp only [AV.size] at hj
              have : j = 0 := by omega
              subst this
              simp only [AV.cells, Nat.add_zero, List.getElem?_cons_zero]
              exact ints_cell hr hn hgt)
            simpa only [AV.enc] using this
          | false =>
            rw [hft, cond_false] at h
            obtain ⟨rfl, hrun⟩ := ldArr_run (ρ := ρ) (w := w) (b := (ρ n).1) (o := (ρ n).2 + i) h (fun j hj => by
              rw [Nat.add_assoc, ints_cell hr hn hj]
              simp [arrCells, hj])
            refine ⟨ρ, ?_, Adv.refl hr, fun _ _ => rfl⟩
            simp only [AV.enc, XV.enc, pOff, Nat.mul_one, Nat.add_zero]
            exact hrun
      · cases h
    · rename_i e l rw hn
      rw [hn] at hq; cases hq
      simp only [AV.gtOk] at hgt
      cases h1 : Nat.beq es e.size with
      | false => rw [h1] at h; cases h
      | true =>
        have e1 := Nat.eq_of_beq_eq_true h1
        subst e1
        rw [h1, cond_true, subK_eq] at h
        cases hs : sub p (e.mk (l.getD i []) 0 nm) with
        | none => rw [hs] at h; cases h
        | some u =>
          rw [hs, Option.bind_some] at h
          cases hft : fits P t u with
          | false => rw [hft] at h; cases h
          | true =>
            rw [hft] at h
            cases h
            obtain ⟨c, hc1, hc2, _, _⟩ := row_rep hr hn
            obtain ⟨locs, hl⟩ := repE_mk (w := w) e (l.getD i []) 0 (c i) (hc1 i hgt)
            have hlen := objs_len e false (l.getD i []) 0
            let ρ' : Ren := ⟨fun m => if nm ≤ m ∧ m < nm + e.ns then locs (m - nm) else ρ m, ρ.fz⟩
            have hρ' : ∀ q, q < e.ns → ρ' (nm + q) = locs q := fun q hq => by
              show (if nm ≤ nm + q ∧ nm + q < nm + e.ns then locs (nm + q - nm) else ρ (nm + q)) = _
              rw [if_pos (by omega), show nm + q - nm = q by omega]
            have hoff : ∀ m, m < nm ∨ nm + e.ns ≤ m → ρ' m = ρ m := fun m hm => by
              show (if nm ≤ m ∧ m < nm + e.ns then locs (m - nm) else ρ m) = _
              rw [if_neg (by omega)]
            obtain ⟨g1, g2⟩ := hl ρ' nm rfl hρ'
            have hpr : ∀ m, Pres hp (.nm m) → ρ m = ρ' m := fun m ⟨y, hy⟩ => by
              refine (hoff m ?_).symm
              by_cases hm : nm ≤ m ∧ m < nm + e.ns
              · have := hf (m - nm) (by omega)
                rw [show nm + (m - nm) = m by omega, hy] at this; cases this
              · omega
            refine ⟨ρ', ?_, Adv.addL_ro hr hf hh hk rfl (fun m hm => hoff m (by omega)) g2 (objs_ro e _ _), hpr⟩
            simp only [AV.enc, XV.enc]
            have hnn := hpr n ⟨_, hn⟩
            refine run_load_fits hft (fun j hj => ?_)
            obtain ⟨f1, f2⟩ := sub_at (ρ := ρ') hs hj
            rw [← f1, g1]
            have hsz : (e.mk (l.getD i []) 0 nm).size = e.size := by rw [← cells_length ρ', g1]; exact (hc1 i hgt).len
            rw [← hc2 i (pOff p + j) hgt (by omega)]
            simp only [Nat.add_assoc]
    · cases h
  · rename_i n p es off
    split at h
    · rename_i tree ht
      split at h
      · rename_i tr htr
        split at h
        · rename_i kk m l hs
          cases h1 : Nat.beq es 1 with
          | false => rw [h1] at h; cases h
          | true =>
            have e1 := Nat.eq_of_beq_eq_true h1
            subst e1
            rw [h1, cond_true] at h
            obtain ⟨rfl, hrun⟩ := ldArr_run (ρ := ρ) (w := w) (b := (ρ n).1) (o := (ρ n).2 + pOff p + off) h (fun j hj => by
              obtain ⟨g1, g2⟩ := sub_at (ρ := ρ) hs (j := off + j) (by simpa only [AV.size] using hj)
              have := tree_cell hr ht htr g2
              rw [g1] at this
              simpa only [AV.cells, Nat.add_assoc] using this)
            refine ⟨ρ, ?_, Adv.refl hr, fun _ _ => rfl⟩
            simp only [AV.enc, XV.enc, Nat.mul_one]
            exact hrun
        · cases h
      · cases h
    · cases h
  · cases h
end Go.Sim
namespace Go.Sim

theorem same_alloc (w : World) (o : Obj) : Same w (w.alloc o) :=
  ⟨rfl, rfl, rfl, by simp [World.alloc, -World.alloc_eq], fun b hb _ => by simp only [World.alloc]; rw [Array.getElem?_push, if_neg (by omega)], fun b c _ _ hb => ⟨c, push_old (o := o) rfl b _ hb, rfl, fun _ _ => rfl⟩, fun a ha => by
    unfold World.frozen?
    simp only [World.alloc]
    rw [Array.getElem?_push, if_neg (by omega)]⟩
theorem same_drew (w : World) : Same w w.drew := ⟨rfl, rfl, rfl, Nat.le_refl _, fun _ _ _ => rfl, fun _ c _ _ hb => ⟨c, hb, rfl, fun _ _ => rfl⟩, fun _ _ => rfl⟩
theorem Same.tr {w w1 w2 : World} (h : Same w w1) (k : Same w1 w2) : Same w w2 := h.trans k (fun _ _ h => h.elim)
theorem same_bytes (w : World) (e : TypeId) (s : ByteArray) : Same w (Lib.bytesWorld w e s) := by
  refine ⟨rfl, rfl, rfl, by rw [Lib.bytesWorld_size]; omega, fun b hb _ => Lib.bytesWorld_at_old w e s b hb, fun b c _ _ hb => ⟨c, ?_, rfl, fun _ _ => rfl⟩, fun a ha => ?_⟩
  · rw [Lib.bytesWorld_at_old w e s b (Array.getElem?_eq_some_iff.1 hb).1]; exact hb
  · unfold World.frozen?
    rw [Lib.bytesWorld_at_old w e s _ ha]
theorem alloc_at (w : World) (o : Obj) : (w.alloc o).heap[w.heap.size]? = some o := by simp [World.alloc, -World.alloc_eq]

/-- a list that is one of a list's -/
theorem slL_getD {α : Type} {d : α} {lo hi : Bool} {s : List α} {a h i : Nat} (h1 : lo = false → a = 0) (h2 : hi = false → h = s.length) (hi' : i < h - a) : (slL lo hi s a h).getD i d = s.getD (a + i) d := by
  rw [slL_eq h1 h2]
  simp only [List.getD_eq_getElem?_getD, List.getElem?_drop, List.getElem?_take]
  rw [if_pos (by omega)]
theorem rowRo_part {fz : Nat → Nat → Option Value} {L : Loc} {es len a h : Nat} {c : Nat → List Value} (r : RowRo fz L es len c) (ha : a ≤ h) (hh : h ≤ len) :
    RowRo fz ⟨L.b, if L.cap = a then L.o else L.o + a * es, L.cap - a, L.nl⟩ es (h - a) (fun i => c (a + i)) where
  cap := by have := r.cap; simp only; omega
  nil hn := by have := r.nil hn; simp only; omega
  at_ hn i hi j hj := by
    have := r.cap
    simp only
    rw [if_neg (by omega)]
    have := r.at_ hn (a + i) (by omega) j hj
    rwa [Nat.add_mul, show L.o + (a * es + i * es) + j = L.o + a * es + i * es + j by omega] at this

theorem sliceAt_slice {P : Program} {t el : TypeId} {ie : TypeInfo} {w : World} {L : Loc} {len : Nat} {lov hiv : Option Value} {h a : Nat} (hu : P.underlying t = some (.slice el)) (hie : P.info? el = some ie) (hlc : len ≤ L.cap) (hnl : L.nl = true → L.cap = 0)
    (h1 : hiv = none → h = len) (h2 : ∀ x, hiv = some x → ∃ k i, x = .int k i ∧ inB i (len + 1) = true ∧ h = i.toNat) (h3 : lov = none → a = 0) (h4 : ∀ x, lov = some x → ∃ k i, x = .int k i ∧ inB i (h + 1) = true ∧ a = i.toNat) (hh : h ≤ len) (ha : a ≤ h) :
    (Instr.sliceAt t (sliceV L len) lov hiv none).run P w = .ok (sliceV ⟨L.b, if L.cap = a then L.o else L.o + a * ie.size, L.cap - a, L.nl⟩ (h - a)) w := by
  have hb : (Instr.sliceBounds true len L.cap lov hiv none).run P w = .ok (a, h, L.cap) w := by
    unfold Instr.sliceBounds
    cases hiv with
    | none =>
      have := h1 rfl
      subst this
      cases lov with
      | none => have := h3 rfl; subst this; simp
      | some x =>
        obtain ⟨k, i, rfl, hi, rfl⟩ := h4 x rfl
        simp [sliceBound_run w hi]
    | some x =>
      obtain ⟨k, i, rfl, hi, rfl⟩ := h2 x rfl
      have hi' : inB i (L.cap + 1) = true := by
        have := inB_iff.1 hi
        exact inB_iff.2 (by omega)
      cases lov with
      | none => have := h3 rfl; subst this; simp [sliceBound_run w hi']
      | some y =>
        obtain ⟨k2, i2, rfl, hi2, rfl⟩ := h4 y rfl
        simp [sliceBound_run w hi', sliceBound_run w hi2]
  unfold Instr.sliceAt
  simp only [Sem.run_bind, run_underlying hu, Result.andThen_ok]
  unfold Instr.slice sliceV
  simp only [Sem.run_bind, run_underlying hu, Result.andThen_ok, hb, run_sizeOf' hie, Sem.run_pure]
  cases hn : L.nl with
  | true =>
    have := hnl hn
    have : a = 0 := by omega
    simp [*]
  | false =>
    by_cases e : L.cap = a
    · simp [e]
    · simp [e, addr_add]

theorem opvs_opt {tm : Tm} {lo hi : Option Operand} {r : List AV} (h : opvs tm (lo.toList ++ hi.toList) = some r) :
    (∀ x, lo = some x → ∃ v, r[0]? = some v ∧ opv tm x = some v) ∧ ∀ x, hi = some x → ∃ v, r[bif lo.isSome then 1 else 0]? = some v ∧ opv tm x = some v := by
  cases lo with
  | none =>
    cases hi with
    | none => exact ⟨(fun x hx => by cases hx), (fun x hx => by cases hx)⟩
    | some y =>
      simp only [Option.toList, List.nil_append, opvs] at h
      cases hy : opv tm y with
      | none => rw [hy] at h; cases h
      | some v => rw [hy] at h; cases h; exact ⟨(fun x hx => by cases hx), (fun x hx => by cases hx; exact ⟨v, rfl, hy⟩)⟩
  | some x =>
    cases hi with
    | none =>
      simp only [Option.toList, List.append_nil, opvs] at h
      cases hx : opv tm x with
      | none => rw [hx] at h; cases h
      | some v => rw [hx] at h; cases h; exact ⟨(fun y hy => by cases hy; exact ⟨v, rfl, hx⟩), (fun y hy => by cases hy)⟩
    | some y =>
      simp only [Option.toList, List.cons_append, List.nil_append, opvs] at h
      cases hx : opv tm x with
      | none => rw [hx] at h; cases h
      | some v =>
        rw [hx] at h
        simp only at h
        cases hy : opv tm y with
        | none => rw [hy] at h; cases h
        | some u => rw [hy] at h; cases h; exact ⟨(fun z hz => by cases hz; exact ⟨v, rfl, hx⟩), (fun z hz => by cases hz; exact ⟨u, rfl, hy⟩)⟩

/-- a row's header -/
theorem sln_enc {ρ : Ren} {n len : Nat} : (AV.x (.sln n len)).enc ρ = sliceV (ρ n) len := rfl

theorem RowRo.congr {fz : Nat → Nat → Option Value} {L : Loc} {es len : Nat} {c c' : Nat → List Value} (h : RowRo fz L es len c) (hc : ∀ i, i < len → c i = c' i) : RowRo fz L es len c' :=
  ⟨h.cap, h.nil, fun hn i hi j hj => by rw [← hc i hi]; exact h.at_ hn i hi j hj⟩

/-- the bounds, as the model's own slicing meets them -/
theorem slice_run {P : Program} {t el : TypeId} {ie : TypeInfo} {tm : Tm} {ρ : Ren} {e : Operand → Value} {w : World} {lo hi : Option Operand} {r : List AV} {L : Loc} {len h a : Nat} (hu : P.underlying t = some (.slice el)) (hie : P.info? el = some ie)
    (he : ∀ x u, opv tm x = some u → e x = u.enc ρ) (hr : opvs tm (lo.toList ++ hi.toList) = some r) (hlc : len ≤ L.cap) (hnl : L.nl = true → L.cap = 0) (hh : h ≤ len) (ha : a ≤ h) (h3 : lo.isSome = false → a = 0) (h1 : hi.isSome = false → h = len)
    (h2 : hi.isSome = true → ∃ k i, r[bif lo.isSome then 1 else 0]? = some (.int k i) ∧ inB i (len + 1) = true ∧ h = i.toNat) (h4 : lo.isSome = true → ∃ k i, r[0]? = some (.int k i) ∧ inB i (h + 1) = true ∧ a = i.toNat) :
    (Instr.sliceAt t (sliceV L len) (lo.map e) (hi.map e) none).run P w = .ok (sliceV ⟨L.b, if L.cap = a then L.o else L.o + a * ie.size, L.cap - a, L.nl⟩ (h - a)) w := by
  obtain ⟨g1, g2⟩ := opvs_opt hr
  refine sliceAt_slice hu hie hlc hnl (fun q => ?_) (fun x q => ?_) (fun q => ?_) (fun x q => ?_) hh ha
  · cases hi with
    | none => exact h1 rfl
    | some y => cases q
  · cases hi with
    | none => cases q
    | some y =>
      obtain ⟨k, i, e1, e2, e3⟩ := h2 rfl
      obtain ⟨v, f1, f2⟩ := g2 y rfl
      rw [e1] at f1
      cases f1
      simp only [Option.map_some, Option.some.injEq] at q
      rw [he _ _ f2, enc_int] at q
      exact ⟨k, i, q.symm, e2, e3⟩
  · cases lo with
    | none => exact h3 rfl
    | some y => cases q
  · cases lo with
    | none => cases q
    | some y =>
      obtain ⟨k, i, e1, e2, e3⟩ := h4 rfl
      obtain ⟨v, f1, f2⟩ := g1 y rfl
      rw [e1] at f1
      cases f1
      simp only [Option.map_some, Option.some.injEq] at q
      rw [he _ _ f2, enc_int] at q
      exact ⟨k, i, q.symm, e2, e3⟩

/-- what a step that looks at memory brings -/
def LookOk (P : Program) (nm k : Nat) (ρ : Ren) (hp : Hp) (w : World) (s : Sem Value) (v : AV) (news : List AV) : Prop :=
  ∃ ρ' w', s.run P w = .ok (v.enc ρ') w' ∧ Adv nm k ρ hp w ρ' (addL hp nm news) w' ∧ ∀ m, Pres hp (.nm m) → ρ m = ρ' m

/-- a new row that stays -/
theorem look_ro {P : Program} {nm k n len : Nat} {ρ : Ren} {hp : Hp} {w : World} {s : Sem Value} {t : AV} {L : Loc} (hr : RepW ρ hp w) (hh : ClosedH hp) (hf : hp.getD nm none = none) (hk : 1 ≤ k) (hrun : s.run P w = .ok (sliceV L len) w)
    (hb : BlkRep (ρ.upd nm L) w nm t) (hro : ∀ b o, ¬ rgn L t b o) (hlen : n = len) : LookOk P nm k ρ hp w s (.x (.sln nm n)) [t] := by
  subst hlen
  refine ⟨ρ.upd nm L, w, ?_, Adv.add_ro hr hf hh ⟨Nat.le_refl _, by omega⟩ hb hro, fun m ⟨x, hx⟩ => ?_⟩
  · rw [hrun, sln_enc]
    simp only [upd_self]
  · exact (upd_loc (fun e => by subst e; rw [hf] at hx; cases hx)).symm
/-- a new row in new memory -/
theorem look_new {P : Program} {nm k n len : Nat} {ρ : Ren} {hp : Hp} {w w' : World} {s : Sem Value} {t : AV} {L : Loc} (hr : RepW ρ hp w) (hh : ClosedH hp) (hf : hp.getD nm none = none) (hk : 1 ≤ k) (hrun : s.run P w = .ok (sliceV L len) w') (hs : Same w w')
    (hb : BlkRep (ρ.upd nm L) w' nm t) (hro : ∀ b o, rgn L t b o → w.heap.size ≤ b) (hlen : n = len) : LookOk P nm k ρ hp w s (.x (.sln nm n)) [t] := by
  subst hlen
  refine ⟨ρ.upd nm L, w', ?_, Adv.add_new hr hf hh ⟨Nat.le_refl _, by omega⟩ hs hb hro, fun m ⟨x, hx⟩ => ?_⟩
  · rw [hrun, sln_enc]
    simp only [upd_self]
  · exact (upd_loc (fun e => by subst e; rw [hf] at hx; cases hx)).symm
theorem look_same {P : Program} {nm k : Nat} {ρ : Ren} {hp : Hp} {w : World} {s : Sem Value} {v : AV} (hr : RepW ρ hp w) (hrun : s.run P w = .ok (v.enc ρ) w) : LookOk P nm k ρ hp w s v [] :=
  ⟨ρ, w, hrun, Adv.refl hr, fun _ _ => rfl⟩

theorem slV_adv {P : Program} {t : TypeId} {x : Operand} {lo hi mx : Option Operand} {tm : Tm} {hp : Hp} {nm k : Nat} {vs : List AV} {v : AV} {news : List AV} {ρ : Ren} {w : World} {e : Operand → Value}
    (hvs : opvs tm (x :: (lo.toList ++ hi.toList ++ mx.toList)) = some vs) (he : ∀ x u, opv tm x = some u → e x = u.enc ρ)
    (h : slV P t lo.isSome hi.isSome mx.isSome hp nm vs (fun v n => some (v, n)) = some (v, news)) (hr : RepW ρ hp w) (hh : ClosedH hp) (hc : ∀ u ∈ vs, ClosedV hp u)
    (hf : ∀ i, i < news.length → hp.getD (nm + i) none = none) (hk : news.length ≤ k) :
    LookOk P nm k ρ hp w (Instr.sliceAt t (e x) (lo.map e) (hi.map e) (mx.map e)) v news := by
  unfold slV at h
  split at h
  · rename_i el hu
    cases hb : (mx.isSome || slBad P el hp vs) with
    | true => rw [hb] at h; cases h
    | false =>
      rw [hb, cond_false] at h
      rw [Bool.or_eq_false_iff] at hb
      obtain ⟨hmx, hbad⟩ := hb
      have hmx : mx = none := by cases mx with
        | none => rfl
        | some _ => cases hmx
      subst hmx
      rw [show (x :: (lo.toList ++ hi.toList ++ (none : Option Operand).toList)) = x :: (lo.toList ++ hi.toList) by simp] at hvs
      simp only [opvs] at hvs
      cases hx : opv tm x with
      | none => rw [hx] at hvs; cases hvs
      | some u =>
        rw [hx] at hvs
        simp only at hvs
        cases hrr : opvs tm (lo.toList ++ hi.toList) with
        | none => rw [hrr] at hvs; cases hvs
        | some r =>
          rw [hrr] at hvs
          simp only [Option.some.injEq] at hvs
          subst hvs
          rw [he x u hx]
          split at h
          · rename_i n len r' heq
            cases heq
            obtain ⟨tt, ht, hl⟩ := hc _ (List.mem_cons_self ..) (.ln n len) (by simp [AV.has, XV.has])
            rw [sln_enc]
            split at h
            · rename_i kk l rw hn
              rw [hn] at ht
              cases ht
              simp only [AV.lenOk] at hl
              subst hl
              cases rw with
              | true => cases h
              | false =>
                rw [cond_false] at h
                obtain ⟨h', a, h, b1, b2, b3, b4, b5, b6⟩ := bnds h
                cases h
                have hie : ∃ ie, P.info? el = some ie ∧ ie.size = 1 := by
                  unfold slBad at hbad
                  simp only [hn] at hbad
                  cases hi : P.info? el with
                  | none => rw [hi] at hbad; cases hbad
                  | some ie =>
                    rw [hi] at hbad
                    simp only [Bool.not_eq_false'] at hbad
                    exact ⟨ie, rfl, Nat.eq_of_beq_eq_true hbad⟩
                obtain ⟨ie, hie, hsz⟩ := hie
                obtain ⟨c1, c2⟩ := ints_nl hr hn
                have hrow := hr.blk n _ hn
                simp only [BlkRep] at hrow
                have hlen := slL_length b3 b4 b2 b1
                refine look_ro hr hh (hf 0 (by simp)) hk (slice_run hu hie he hrr c1 (fun q => (c2 q).2) b1 b2 b3 b4 b5 b6) ?_ (fun b o q => by simp [rgn] at q) rfl
                simp only [BlkRep, upd_self, hsz, hlen]
                exact (rowRo_part hrow b2 b1).congr (fun i hi => by rw [slL_getD b3 b4 hi])
            · rename_i ep l rw hn
              rw [hn] at ht
              cases ht
              simp only [AV.lenOk] at hl
              subst hl
              cases rw with
              | true => cases h
              | false =>
                rw [cond_false] at h
                obtain ⟨h', a, h, b1, b2, b3, b4, b5, b6⟩ := bnds h
                cases h
                have hie : ∃ ie, P.info? el = some ie ∧ ie.size = ep.size := by
                  unfold slBad at hbad
                  simp only [hn] at hbad
                  cases hi : P.info? el with
                  | none => rw [hi] at hbad; cases hbad
                  | some ie =>
                    rw [hi] at hbad
                    simp only [Bool.not_eq_false'] at hbad
                    exact ⟨ie, rfl, Nat.eq_of_beq_eq_true hbad⟩
                obtain ⟨ie, hie, hsz⟩ := hie
                obtain ⟨_, _, _, c1, c2⟩ := row_rep hr hn
                have hrow := hr.blk n _ hn
                simp only [BlkRep] at hrow
                obtain ⟨c, hc1, hrow⟩ := hrow
                have hlen := slL_length b3 b4 b2 b1
                refine look_ro hr hh (hf 0 (by simp)) hk (slice_run hu hie he hrr c1 (fun q => (c2 q).2) b1 b2 b3 b4 b5 b6) ?_ (fun b o q => by simp [rgn] at q) rfl
                simp only [BlkRep, upd_self, hsz, hlen]
                refine ⟨fun i => c (a + i), fun i hi => ?_, rowRo_part hrow b2 b1⟩
                rw [slL_getD b3 b4 hi]
                exact hc1 (a + i) (by omega)
            · cases h
          · rename_i r' heq
            cases heq
            obtain ⟨h', a, h, b1, b2, b3, b4, b5, b6⟩ := bnds h
            cases h
            have hie : ∃ ie, P.info? el = some ie := by
              unfold slBad at hbad
              simp only at hbad
              cases hi : P.info? el with
              | none => rw [hi] at hbad; cases hbad
              | some ie => exact ⟨ie, rfl⟩
            obtain ⟨ie, hie⟩ := hie
            have := slice_run (w := w) (L := ⟨0, 0, 0, true⟩) hu hie he hrr (Nat.le_refl _) (fun _ => rfl) b1 b2 b3 b4 b5 b6
            have e0 : h' - a = 0 := by omega
            refine look_same hr ?_
            simpa [sliceV, AV.enc, Cn.val, e0] using this
          · cases h
  · cases h
end Go.Sim
namespace Go.Sim

/-! what a slice reads as, in cells -/
theorem tree_fz {ρ : Ren} {hp : Hp} {w : World} {fz' : Nat → Nat → Option Value} (h : RepW ρ hp w) (hm : ∀ b o x, ρ.fz b o = some x → fz' b o = some x) {n : Nat} {t tr : AV} (hn : hp.getD n none = some t) (ht : unfz t = some tr)
    (hro : t.isFz = true ∨ ∀ b o, OwnR ρ hp b o → fz' b o = w.cell? ⟨b, o, none⟩) {j : Nat} (hj : j < tr.size) : fz' (ρ n).1 ((ρ n).2 + j) = (tr.cells ρ)[j]? := by
  have hb := h.blk n t hn
  have hx : (tr.cells ρ)[j]? = some ((tr.cells ρ)[j]'(by rw [cells_length]; exact hj)) := List.getElem?_eq_getElem _
  cases hf : t.isFz with
  | true =>
    cases t with
    | fz v =>
      simp only [unfz, Option.some.injEq] at ht
      subst ht
      simp only [BlkRep] at hb
      have := hb j hj
      rw [hx] at this ⊢
      exact hm _ _ _ this
    | _ => cases hf
  | false =>
    have htr : t.isTree = true ∧ tr = t := by
      unfold AV.isTree
      unfold unfz at ht
      split at ht
      · cases hf
      · cases ht
      · rename_i h1 h2
        cases ht
        refine ⟨?_, rfl⟩
        rw [hf]
        cases t <;> first | rfl | skip
        rename_i u
        cases u <;> first | rfl | exact absurd rfl (h2 _)
    obtain ⟨htr, rfl⟩ := htr
    rcases hro with h1 | h1
    · rw [hf] at h1; cases h1
    · rw [h1 _ _ ⟨n, tr, hn, by rw [rgn_tree htr]; exact ⟨rfl, by omega, by omega⟩⟩]
      exact tree_cell h hn ht hj
theorem rw_ro {ρ : Ren} {hp : Hp} {w : World} {fz' : Nat → Nat → Option Value} {n es len : Nat} {c : Nat → List Value} {t : AV} (hn : hp.getD n none = some t) (h : RowRw w (ρ n) es len c) (hH : ∀ b o, OwnR ρ hp b o → fz' b o = w.cell? ⟨b, o, none⟩)
    (hrg : (ρ n).nl = false → ∀ o, (ρ n).2 ≤ o → o < (ρ n).2 + (ρ n).cap * es → rgn (ρ n) t (ρ n).1 o) : RowRo fz' (ρ n) es len c where
  cap := h.cap
  nil := h.nil
  at_ hl i hi j hj := by
    have hle : i * es + es ≤ (ρ n).cap * es := by
      have := Nat.mul_le_mul_right es (show i + 1 ≤ (ρ n).cap by have := h.cap; omega)
      rw [Nat.add_mul, Nat.one_mul] at this; exact this
    rw [hH _ _ ⟨n, t, hn, hrg hl _ (by omega) (by omega)⟩]
    exact rowRw_cell h hi hj
theorem subList_len' {off len m : Nat} {l : List Int} (hl : l.length = m) (h : off + len ≤ m) : (subList off len m l).length = len := by
  subst hl; exact subList_len h
theorem subList_getD {off len m : Nat} {l : List Int} {i : Nat} (hi : i < len) : (subList off len m l).getD i 0 = l.getD (off + i) 0 := by
  unfold subList
  cases hc : (Nat.beq off 0 && Nat.beq len m) with
  | true =>
    simp only [Bool.and_eq_true] at hc
    rw [Nat.eq_of_beq_eq_true hc.1, cond_true, Nat.zero_add]
  | false =>
    rw [cond_false]
    simp only [List.getD_eq_getElem?_getD, List.getElem?_take, List.getElem?_drop]
    rw [if_pos hi]
theorem slRes_ints_rep {ρ : Ren} {hp : Hp} {w : World} {fz' : Nat → Nat → Option Value} {k : IntKind} {v : AV} {a : List Hv} {ro : Bool} (h : slRes hp (.int k) v = some (a, ro)) (hr : RepW ρ hp w) (hw : WfH hp) (hc : ClosedV hp v) (hv : v.wf)
    (hm : ∀ b o x, ρ.fz b o = some x → fz' b o = some x) (hro : ro = true ∨ ∀ b o, OwnR ρ hp b o → fz' b o = w.cell? ⟨b, o, none⟩) :
    ∃ l, a = [.l l] ∧ ∃ L : Loc, v.enc ρ = sliceV L l.length ∧ v.cells ρ = [v.enc ρ] ∧ RowRo fz' L 1 l.length (fun i => [.int k (l.getD i 0)]) := by
  unfold slRes at h
  split at h
  · simp only [Option.some.injEq, Prod.mk.injEq] at h
    exact ⟨[], h.1.symm, ⟨0, 0, 0, true⟩, rfl, by simp [AV.cells, AV.enc], ⟨Nat.le_refl _, fun _ => ⟨rfl, rfl⟩, fun q => by cases q⟩⟩
  · rename_i n len
    obtain ⟨tt, ht, hl⟩ := hc (.ln n len) (by simp [AV.has, XV.has])
    split at h
    · rename_i k' l rw hn
      rw [hn] at ht; cases ht
      simp only [AV.lenOk] at hl
      subst hl
      simp only at h
      cases hk : decide (k' = k) with
      | false => rw [hk] at h; cases h
      | true =>
        have := of_decide_eq_true hk
        subst this
        rw [hk] at h; cases h
        refine ⟨l, rfl, ρ n, rfl, by simp [AV.cells, AV.enc], ?_⟩
        have hb := hr.blk n _ hn
        cases rw with
        | false => simp only [BlkRep] at hb; exact hb.mono hm (fun _ _ => rfl)
        | true =>
          simp only [BlkRep] at hb
          rcases hro with q | q
          · cases q
          · exact rw_ro hn hb q (fun hl o h1 h2 => ⟨rfl, hl, rfl, h1, h2⟩)
    · simp at h
    · cases h
  · rename_i n p es off len cap
    simp only at h
    split at h
    · rename_i tree ht
      split at h
      · rename_i tr htr
        split at h
        · rename_i k' m l hs
          have hu := sub_wf _ _ _ hs (unfz_wf htr (hw _ _ ht))
          simp only [AV.wf] at hu
          cases hk : decide (k' = k) with
          | false => rw [hk] at h; cases h
          | true =>
            have := of_decide_eq_true hk
            subst this
            cases hb : Nat.beq es 1 with
            | false => rw [hk, hb] at h; cases h
            | true =>
              have := Nat.eq_of_beq_eq_true hb
              subst this
              cases hle : Nat.ble (off + len) m with
              | false => rw [hk, hb, hle] at h; cases h
              | true =>
                rw [hk, hb, hle] at h
                have hle := Nat.le_of_ble_eq_true hle
                cases h
                simp only [AV.wf, XV.wf] at hv
                have hlen := subList_len' (off := off) (len := len) hu.1 hle
                refine ⟨_, rfl, ⟨(ρ n).1, (ρ n).2 + pOff p + off * 1, cap, false⟩, ?_, by simp [AV.cells, AV.enc], by rw [hlen]; exact hv.2, (fun q => by cases q), fun _ i hi j hj => ?_⟩
                · rw [hlen]; rfl
                · have : j = 0 := by omega
                  subst this
                  rw [hlen] at hi
                  obtain ⟨g1, g2⟩ := sub_at (ρ := ρ) hs (j := off + i) (by simp only [AV.size]; omega)
                  have := tree_fz hr hm ht htr (hro.imp_left fun q => by simpa using q) g2
                  simp only [Nat.mul_one, Nat.add_zero]
                  rw [show (ρ n).2 + pOff p + off + i = (ρ n).2 + (pOff p + (off + i)) by omega, this, g1]
                  simp only [AV.cells, arrCells, List.getElem?_map, List.getElem?_cons_zero]
                  rw [List.getElem?_range (by omega), subList_getD hi]
                  rfl
        · cases h
      · cases h
    · cases h
  · cases h
theorem slRes_rows_rep {ρ : Ren} {hp : Hp} {w : World} {fz' : Nat → Nat → Option Value} {e : Ep} (hne : ∀ k, e ≠ .int k) {v : AV} {a : List Hv} {ro : Bool} (h : slRes hp e v = some (a, ro)) (hr : RepW ρ hp w) (hc : ClosedV hp v)
    (hm : ∀ b o x, ρ.fz b o = some x → fz' b o = some x) (hro : ro = true ∨ ∀ b o, OwnR ρ hp b o → fz' b o = w.cell? ⟨b, o, none⟩) :
    ∃ l, a = [.r l] ∧ ∃ L : Loc, v.enc ρ = sliceV L l.length ∧ v.cells ρ = [v.enc ρ] ∧ ∃ c : Nat → List Value, (∀ i, i < l.length → RepE ρ.fz e (l.getD i []) 0 (c i)) ∧ RowRo fz' L e.size l.length c := by
  unfold slRes at h
  split at h
  · split at h
    · exact absurd rfl (hne _)
    · simp only [Option.some.injEq, Prod.mk.injEq] at h
      exact ⟨[], h.1.symm, ⟨0, 0, 0, true⟩, rfl, by simp [AV.cells, AV.enc], fun _ => [], (fun i hi => by simp at hi), ⟨Nat.le_refl _, fun _ => ⟨rfl, rfl⟩, fun q => by cases q⟩⟩
  · rename_i n len
    obtain ⟨tt, ht, hl⟩ := hc (.ln n len) (by simp [AV.has, XV.has])
    split at h
    · split at h
      · exact absurd rfl (hne _)
      · cases h
    · rename_i e' l rw hn
      rw [hn] at ht; cases ht
      simp only [AV.lenOk] at hl
      subst hl
      split at h
      · cases h
      · cases hk : Ep.beq e' e with
        | false => rw [hk] at h; cases h
        | true =>
          have := Ep.beq_eq _ _ hk
          subst this
          rw [hk] at h; cases h
          have hb := hr.blk n _ hn
          refine ⟨l, rfl, ρ n, rfl, by simp [AV.cells, AV.enc], ?_⟩
          cases rw with
          | false =>
            simp only [BlkRep] at hb
            obtain ⟨c, h1, h2⟩ := hb
            exact ⟨c, h1, h2.mono hm (fun i hi => (h1 i hi).len)⟩
          | true =>
            simp only [BlkRep] at hb
            obtain ⟨c, h1, h2⟩ := hb
            rcases hro with q | q
            · cases q
            · exact ⟨c, h1, rw_ro hn h2 q (fun hl o h1 h2 => ⟨rfl, hl, rfl, h1, h2⟩)⟩
    · cases h
  · split at h
    · exact absurd rfl (hne _)
    · cases h
  · cases h
mutual
theorem res_rep {ρ : Ren} {hp : Hp} {w : World} {fz' : Nat → Nat → Option Value} (hr : RepW ρ hp w) (hw : WfH hp) (hm : ∀ b o x, ρ.fz b o = some x → fz' b o = some x) :
    ∀ (e : Ep) (v : AV) (a : List Hv) (ro : Bool), e.res hp v = some (a, ro) → v.wf → ClosedV hp v → (ro = true ∨ ∀ b o, OwnR ρ hp b o → fz' b o = w.cell? ⟨b, o, none⟩) →
      ∀ pre suf, RepE fz' e (pre ++ a ++ suf) pre.length (v.cells ρ)
  | .int k, v, a, ro, h, hv, hc, hro, pre, suf => by
    simp only [Ep.res] at h
    split at h
    · rename_i k' n
      cases hk : decide (k' = k) with
      | false => rw [hk] at h; cases h
      | true =>
        have := of_decide_eq_true hk
        subst this
        rw [hk] at h; cases h
        simp only [RepE, AV.cells, hi, hole pre _ suf _ rfl]
    · cases h
  | .bool, v, a, ro, h, hv, hc, hro, pre, suf => by
    simp only [Ep.res] at h
    split at h
    · cases h; simp only [RepE, AV.cells, hb, hole pre _ suf _ rfl]
    · cases h
  | .str, v, a, ro, h, hv, hc, hro, pre, suf => by
    simp only [Ep.res] at h
    split at h
    · cases h; simp only [RepE, AV.cells, hst, hole pre _ suf _ rfl]
    · cases h
  | .arr k n, v, a, ro, h, hv, hc, hro, pre, suf => by
    simp only [Ep.res] at h
    split at h
    · rename_i k' n' l
      cases hk : decide (k' = k) with
      | false => rw [hk] at h; cases h
      | true =>
        have := of_decide_eq_true hk
        subst this
        cases hn : Nat.beq n' n with
        | false => rw [hk, hn] at h; cases h
        | true =>
          have := Nat.eq_of_beq_eq_true hn
          subst this
          rw [hk, hn] at h; cases h
          simp only [RepE, AV.cells, hl, hole pre _ suf _ rfl]
    · cases h
  | .agg es, v, a, ro, h, hv, hc, hro, pre, suf => by
    simp only [Ep.res] at h
    split at h
    · rename_i vs
      simp only [AV.wf] at hv
      simp only [RepE, AV.cells]
      exact resL_rep hr hw hm es vs a ro h hv (fun m hm => hc m (by simpa only [AV.has] using hm)) hro pre suf
    · cases h
  | .sl e, v, a, ro, h, hv, hc, hro, pre, suf => by
    simp only [Ep.res] at h
    by_cases he : ∃ k, e = .int k
    · obtain ⟨k, rfl⟩ := he
      obtain ⟨l, rfl, L, h1, h2, h3⟩ := slRes_ints_rep h hr hw hc hv hm hro
      simp only [RepE, hl, hole pre _ suf _ rfl]
      exact ⟨L, by rw [h2, h1], h3⟩
    · have hne : ∀ k, e ≠ .int k := fun k q => he ⟨k, q⟩
      obtain ⟨l, rfl, L, h1, h2, c, h3, h4⟩ := slRes_rows_rep hne h hr hc hm hro
      cases e with
      | int k => exact absurd rfl (hne k)
      | _ =>
        simp only [RepE, Go.Sim.hr, hole pre _ suf _ rfl]
        exact ⟨L, by rw [h2, h1], c, fun i hi => (h3 i hi).mono hm, h4⟩
theorem resL_rep {ρ : Ren} {hp : Hp} {w : World} {fz' : Nat → Nat → Option Value} (hr : RepW ρ hp w) (hw : WfH hp) (hm : ∀ b o x, ρ.fz b o = some x → fz' b o = some x) :
    ∀ (es : List Ep) (vs : List AV) (a : List Hv) (ro : Bool), Ep.resL hp es vs = some (a, ro) → AV.wfL vs → (∀ m, AV.hasL m vs → Pres hp m) → (ro = true ∨ ∀ b o, OwnR ρ hp b o → fz' b o = w.cell? ⟨b, o, none⟩) →
      ∀ pre suf, RepEL fz' es (pre ++ a ++ suf) pre.length (AV.cellsL ρ vs)
  | [], [], a, ro, h, _, _, _, pre, suf => by simp only [RepEL, AV.cellsL]
  | [], _ :: _, a, ro, h, _, _, _, _, _ => by simp [Ep.resL] at h
  | _ :: _, [], a, ro, h, _, _, _, _, _ => by simp [Ep.resL] at h
  | e :: es, v :: vs, a, ro, h, hv, hc, hro, pre, suf => by
    simp only [Ep.resL] at h
    simp only [AV.wfL] at hv
    simp only [AV.hasL] at hc
    cases h1 : e.res hp v with
    | none => rw [h1] at h; cases h
    | some x =>
      obtain ⟨a1, r1⟩ := x
      rw [h1] at h
      simp only at h
      cases h2 : Ep.resL hp es vs with
      | none => rw [h2] at h; cases h
      | some y =>
        obtain ⟨a2, r2⟩ := y
        rw [h2] at h
        cases h
        have f1 := res_rep hr hw hm e v a1 r1 h1 hv.1 (fun m q => hc m (.inl q)) (hro.imp_left fun q => by simp at q; exact q.1) pre (a2 ++ suf)
        have f2 := resL_rep hr hw hm es vs a2 r2 h2 hv.2 (fun m q => hc m (.inr q)) (hro.imp_left fun q => by simp at q; exact q.2) (pre ++ a1) suf
        have l1 := (res_wf hw e v a1 r1 h1 hv.1).1
        simp only [RepEL, AV.cellsL]
        refine ⟨_, _, rfl, ?_, ?_⟩
        · rwa [show pre ++ a1 ++ (a2 ++ suf) = pre ++ (a1 ++ a2) ++ suf by simp] at f1
        · rw [show pre ++ a1 ++ a2 ++ suf = pre ++ (a1 ++ a2) ++ suf by simp, List.length_append, l1] at f2
          exact f2
end
end Go.Sim
namespace Go.Sim

theorem foldl_bytes : ∀ (l : List Int) (s : ByteArray), l.foldl (fun r n => r.push (UInt8.ofNat n.toNat)) s = ⟨(s.data.toList ++ byteL l).toArray⟩
  | [], s => by simp [byteL]
  | n :: l, s => by
    rw [List.foldl_cons, foldl_bytes l]
    simp [byteL, ByteArray.push]
theorem nl_false {ρ : Ren} {hp : Hp} {w : World} (h : RepW ρ hp w) {n len : Nat} (hc : Pres hp (.ln n len)) (hl : 0 < len) : (ρ n).nl = false := by
  obtain ⟨t, ht, hlen⟩ := hc
  have hb := h.blk n t ht
  cases hq : (ρ n).nl with
  | false => rfl
  | true =>
    unfold AV.lenOk at hlen
    split at hlen
    · rename_i k l rw
      have := (ints_nl h ht).2 hq; omega
    · rename_i e l rw
      obtain ⟨_, _, _, _, h4⟩ := row_rep h ht
      have := h4 hq; omega
    · rename_i k
      simp only [BlkRep] at hb
      rw [hb (by omega)] at hq; cases hq
    · exact hlen.elim

theorem isRange_parts {e : Operand → Value} : ∀ (ps : List (Nat × Operand)) (i : Nat), isRange i ps = true → ps.map (fun x => (x.1, e x.2)) = ((ps.map fun p => e p.2).zipIdx i).map fun x => (x.2, x.1)
  | [], _, _ => rfl
  | p :: ps, i, h => by
    simp only [isRange, Bool.and_eq_true] at h
    have := Nat.eq_of_beq_eq_true h.1
    simp only [List.map_cons, List.zipIdx_cons]
    rw [isRange_parts ps (i + 1) h.2, this]
theorem opvs_map {tm : Tm} {ρ : Ren} {e : Operand → Value} (he : ∀ x u, opv tm x = some u → e x = u.enc ρ) : ∀ {xs : List Operand} {vs : List AV}, opvs tm xs = some vs → xs.map e = vs.map (AV.enc ρ)
  | [], vs, h => by cases h; rfl
  | x :: xs, vs, h => by
    simp only [opvs] at h
    cases hx : opv tm x with
    | none => rw [hx] at h; cases h
    | some v =>
      rw [hx] at h
      simp only at h
      cases hr : opvs tm xs with
      | none => rw [hr] at h; cases h
      | some r =>
        rw [hr] at h
        cases h
        rw [List.map_cons, List.map_cons, he x v hx, opvs_map he hr]
theorem resRows_get {hp : Hp} {e : Ep} : ∀ {vs : List AV} {l : List (List Hv)}, resRows hp e vs = some l → l.length = vs.length ∧ ∀ i v, vs[i]? = some v → e.res hp v = some (l.getD i [], true)
  | [], l, h => by cases h; exact ⟨rfl, fun i v hv => by simp at hv⟩
  | u :: vs, l, h => by
    simp only [resRows] at h
    split at h
    · rename_i a ha
      split at h
      · rename_i r hr
        cases h
        obtain ⟨g1, g2⟩ := resRows_get hr
        refine ⟨by simp [g1], fun i v hv => ?_⟩
        cases i with
        | zero => simp only [List.getElem?_cons_zero, Option.some.injEq] at hv; subst hv; exact ha
        | succ i => exact g2 i v hv
      · cases h
    · cases h
theorem intsOf_get {k : IntKind} : ∀ {vs : List AV} {l : List Int}, intsOf k vs = some l → l.length = vs.length ∧ ∀ i v, vs[i]? = some v → v = AV.int k (l.getD i 0)
  | [], l, h => by cases h; exact ⟨rfl, fun i v hv => by simp at hv⟩
  | u :: vs, l, h => by
    unfold intsOf at h
    split at h
    · rename_i heq; cases heq
    · rename_i k' n vs' heq
      cases heq
      cases hk : decide (k' = k) with
      | false => rw [hk] at h; cases h
      | true =>
        have := of_decide_eq_true hk
        subst this
        rw [hk, cond_true] at h
        split at h
        · rename_i r hr
          cases h
          obtain ⟨g1, g2⟩ := intsOf_get hr
          refine ⟨by simp [g1], fun i v hv => ?_⟩
          cases i with
          | zero => simp only [List.getElem?_cons_zero, Option.some.injEq] at hv; subst hv; rfl
          | succ i => exact g2 i v hv
        · cases h
    · cases h

/-- the literal, in the model -/
theorem build_run {P : Program} {t el : TypeId} {ie : TypeInfo} {len : Nat} {ps : Array (Nat × Operand)} {tm : Tm} {vs : List AV} {ρ : Ren} {w : World} {e : Operand → Value} (hu : P.underlying t = some (.slice el)) (hie : P.info? el = some ie)
    (hvs : opvs tm (ps.toList.map (·.2)) = some vs) (he : ∀ x u, opv tm x = some u → e x = u.enc ρ) (hok : bsOk ps.toList len ie vs = true) (hsz : ∀ v ∈ vs, v.size = ie.size) :
    ∃ cs, (Instr.buildSlice t len (ps.map fun (i, x) => (i, e x))).run P w = .ok (sliceV ⟨w.heap.size, 0, len, false⟩ len) (w.alloc (.cells cs el)) ∧
      cs.size = len * ie.size ∧ ∀ i j, i < len → j < ie.size → cs[i * ie.size + j]? = ((vs.getD i undefA).cells ρ)[j]? := by
  unfold bsOk at hok
  simp only [Bool.and_eq_true] at hok
  obtain ⟨⟨⟨⟨⟨⟨q1, q2⟩, q3⟩, q4⟩, q5⟩, q6⟩, q7⟩ := hok
  have q1 := Nat.le_of_ble_eq_true q1
  have q3 := Nat.eq_of_beq_eq_true q3
  have q4 := Nat.le_of_ble_eq_true q4
  have q6 := Nat.eq_of_beq_eq_true q6
  have hz : ∃ z, ie.zero = some z := by
    cases hq : ie.zero with
    | none => rw [hq] at q5; cases q5
    | some z => exact ⟨z, rfl⟩
  obtain ⟨z, hz⟩ := hz
  have hp : (ps.map fun (i, x) => (i, e x)).toList = ((vs.map (AV.enc ρ)).zipIdx 0).map fun x => (x.2, x.1) := by
    rw [Array.toList_map, ← opvs_map he hvs, List.map_map]
    exact isRange_parts ps.toList 0 q2
  have hlen : (vs.map (AV.enc ρ)).length = len := by rw [List.length_map, q6]
  have hcs : ∀ v ∈ vs.map (AV.enc ρ), v.cells.size = ie.size := by
    intro v hv
    obtain ⟨u, hu, rfl⟩ := List.mem_map.1 hv
    rw [← Array.length_toList, enc_cells, cells_length, hsz u hu]
  by_cases h0 : len = 0
  · subst h0
    have hv0 : vs = [] := List.length_eq_zero_iff.1 q6
    subst hv0
    refine ⟨#[], ?_, by simp, fun i j hi => by omega⟩
    simp only [List.map_nil, List.zipIdx_nil] at hp
    have hps : (ps.map fun (i, x) => (i, e x)) = #[] := by
      apply Array.ext'
      exact hp
    rw [hps]
    simp [Instr.buildSlice, run_underlying hu, sizeOf, typeInfo, hie, newRow, Instr.fill, sliceV]
    exact congrArg (fun c => w.alloc (Obj.cells c el)) (by apply Array.ext'; simp)
  · obtain ⟨r, hr, hrs, hk⟩ := Great.fill_dense (s := ie.size) (by omega) (vs.map (AV.enc ρ)) 0 ((Array.range (len * ie.size)).map (z.cells[· % z.cells.size]!)) hcs (by rw [hlen]; simp)
    refine ⟨r, ?_, by rw [hrs]; simp, fun i j hi hj => ?_⟩
    · have := Go.run_buildSlice w t el len (ps.map fun (i, x) => (i, e x)) r ie z hu hie hz (by omega) (by
        intro hq
        rcases Nat.mul_eq_zero.1 hq with hq | hq <;> omega) (by rw [hp]; exact hr)
      rw [this]
      rfl
    · have hle : i * ie.size + ie.size ≤ len * ie.size := by
        have := Nat.mul_le_mul_right ie.size (show i + 1 ≤ len by omega)
        rw [Nat.add_mul, Nat.one_mul] at this; exact this
      rw [hk, hlen, if_pos (by simp only [Nat.zero_mul, Nat.zero_add]; omega)]
      have d1 : (i * ie.size + j) / ie.size = i := by
        rw [Nat.mul_comm, Nat.mul_add_div (by omega), Nat.div_eq_of_lt hj, Nat.add_zero]
      have d2 : (i * ie.size + j) % ie.size = j := by
        rw [Nat.mul_comm, Nat.mul_add_mod, Nat.mod_eq_of_lt hj]
      rw [d1, d2, Nat.sub_zero, List.getElem?_map, List.getD_eq_getElem?_getD, List.getElem?_eq_getElem (by omega)]
      simp only [Option.map_some, Option.bind_some, Option.getD_some]
      rw [← Array.getElem?_toList, enc_cells]

theorem alloc_rw {w : World} {el : TypeId} {cs : Array Value} {es len cap : Nat} {c : Nat → List Value} (h1 : len ≤ cap) (h2 : cs.size = cap * es) (h3 : ∀ i j, i < len → j < es → cs[i * es + j]? = (c i)[j]?) :
    RowRw (w.alloc (.cells cs el)) ⟨w.heap.size, 0, cap, false⟩ es len c where
  cap := h1
  nil q := by cases q
  at_ _ := ⟨cs, el, 0, 0, alloc_at w _, by simp [h2], fun q _ _ => by omega, fun i hi j hj => by simpa using h3 i j hi hj⟩

theorem bsV_adv {P : Program} {t : TypeId} {len : Nat} {ps : Array (Nat × Operand)} {tm : Tm} {hp : Hp} {nm k : Nat} {vs : List AV} {v : AV} {news : List AV} {ρ : Ren} {w : World} {e : Operand → Value}
    (hvs : opvs tm (ps.toList.map (·.2)) = some vs) (he : ∀ x u, opv tm x = some u → e x = u.enc ρ)
    (h : bsV P t len ps.toList hp nm vs (fun v n => some (v, n)) = some (v, news)) (hr : RepW ρ hp w) (hh : ClosedH hp) (hw : WfH hp) (hc : ∀ u ∈ vs, ClosedV hp u) (hv : ∀ u ∈ vs, u.wf)
    (hf : ∀ i, i < news.length → hp.getD (nm + i) none = none) (hk : news.length ≤ k) :
    LookOk P nm k ρ hp w (Instr.buildSlice t len (ps.map fun (i, x) => (i, e x))) v news := by
  unfold bsV at h
  split at h
  · rename_i el hu
    split at h
    · rename_i ie hie
      cases hok : bsOk ps.toList len ie vs with
      | false => rw [hok] at h; cases h
      | true =>
        rw [hok, cond_true] at h
        have hvl : vs.length = len := by
          unfold bsOk at hok
          simp only [Bool.and_eq_true] at hok
          exact Nat.eq_of_beq_eq_true hok.1.2
        split at h
        · rename_i kk hkk
          split at h
          · rename_i l hl
            obtain ⟨g1, g2⟩ := intsOf_get hl
            cases hs1 : Nat.beq ie.size 1 with
            | false => rw [hs1] at h; cases h
            | true =>
              rw [hs1] at h
              cases h
              have hs1 := Nat.eq_of_beq_eq_true hs1
              obtain ⟨cs, h1, h2, h3⟩ := build_run hu hie hvs he hok (w := w) (fun u hu' => by
                obtain ⟨i, hi⟩ := List.getElem?_of_mem hu'
                rw [g2 i u hi]; simp [AV.size, hs1])
              refine look_new hr hh (hf 0 (by simp)) hk h1 (same_alloc w _) ?_ (fun b o q => ?_) (by rw [g1, hvl])
              · simp only [BlkRep, upd_self]
                rw [hs1] at h2 h3
                refine alloc_rw (by omega) h2 (fun i j hi hj => ?_)
                rw [h3 i j (by omega) hj]
                have hi' : i < vs.length := by omega
                have := g2 i vs[i] (List.getElem?_eq_getElem hi')
                rw [List.getD_eq_getElem?_getD, List.getElem?_eq_getElem hi', Option.getD_some, this]
                simp [AV.cells]
              · simp only [rgn] at q
                omega
          · cases h
        · split at h
          · rename_i ep hep
            split at h
            · rename_i l hl
              obtain ⟨g1, g2⟩ := resRows_get hl
              cases hs1 : Nat.beq ep.size ie.size with
              | false => rw [hs1] at h; cases h
              | true =>
                rw [hs1] at h
                cases h
                have hs1 := Nat.eq_of_beq_eq_true hs1
                have hrep : ∀ i u, vs[i]? = some u → RepE ρ.fz ep (l.getD i []) 0 (u.cells ρ) := fun i u hi => by
                  have hm := List.mem_of_getElem? hi
                  have := res_rep hr hw (fun _ _ _ h => h) ep u _ _ (g2 i u hi) (hv u hm) (hc u hm) (.inl rfl) [] []
                  simpa using this
                obtain ⟨cs, h1, h2, h3⟩ := build_run hu hie hvs he hok (w := w) (fun u hu' => by
                  obtain ⟨i, hi⟩ := List.getElem?_of_mem hu'
                  rw [← cells_length ρ, (hrep i u hi).len, hs1])
                refine look_new hr hh (hf 0 (by simp)) hk h1 (same_alloc w _) ?_ (fun b o q => ?_) (by rw [g1, hvl])
                · simp only [BlkRep, upd_self]
                  refine ⟨fun i => (vs.getD i undefA).cells ρ, fun i hi => ?_, ?_⟩
                  · have hi' : i < vs.length := by omega
                    simp only [List.getD_eq_getElem?_getD, List.getElem?_eq_getElem hi', Option.getD_some]
                    have := hrep i vs[i] (List.getElem?_eq_getElem hi')
                    simp only [List.getD_eq_getElem?_getD] at this
                    exact this
                  · rw [hs1]
                    exact alloc_rw (by omega) h2 (fun i j hi hj => h3 i j (by omega) hj)
                · simp only [rgn] at q
                  omega
            · cases h
          · cases h
    · cases h
  · cases h

theorem cvV_adv {P : Program} {s d : TypeId} {hp : Hp} {nm k : Nat} {x v : AV} {news : List AV} {ρ : Ren} {w : World}
    (h : cvV P s d hp nm x (fun v n => some (v, n)) = some (v, news)) (hr : RepW ρ hp w) (hh : ClosedH hp) (hw : WfH hp) (hc : ClosedV hp x) (hv : x.wf)
    (hf : ∀ i, i < news.length → hp.getD (nm + i) none = none) (hk : news.length ≤ k) : LookOk P nm k ρ hp w (convert s d (x.enc ρ)) v news := by
  unfold cvV at h
  have isk : ∀ e, isK P e .u8 = true → P.underlying e = some (.int .u8) := fun e h => by
    unfold isK at h
    split at h
    · rename_i k hk; rw [hk, of_decide_eq_true h]
    · cases h
  split at h
  · rename_i e hs hd
    cases h1 : isK P e .u8 with
    | false => rw [h1] at h; cases h
    | true =>
      rw [h1, cond_true] at h
      split at h
      · rename_i l _ hl
        cases h
        obtain ⟨l', e1, L, g1, _, g3⟩ := slRes_ints_rep (fz' := fun b o => w.cell? ⟨b, o, none⟩) hl hr hw hc hv hr.fz (.inr fun _ _ _ => rfl)
        cases e1
        refine look_same hr ?_
        rw [g1]
        unfold sliceV
        cases hn : L.nl with
        | true =>
          have : l = [] := List.length_eq_zero_iff.1 (g3.nil hn).1
          subst this
          simp [run_convert_bytes_string w s d e none _ _ hs (isk e h1) hd, Conv.bytesToString, AV.enc, byteL]
          rfl
        | false =>
          simp only [Bool.false_eq_true, if_false]
          rw [run_convert_bytes_string w s d e _ _ _ hs (isk e h1) hd, run_bytesToString w _ _ _ l, foldl_bytes]
          · simp [AV.enc]
          · have := run_loadCells_list (P := P) w ⟨L.b, L.o, none⟩ (l.map (Value.int .u8)) (fun j u hu => by
              simp only [List.getElem?_map] at hu
              obtain ⟨n, hn', rfl⟩ := Option.map_eq_some_iff.1 hu
              have hlt := (List.getElem?_eq_some_iff.1 hn').1
              have := g3.at_ hn j hlt 0 (by omega)
              simp only [Nat.mul_one, Nat.add_zero, List.getElem?_cons_zero, List.getD_eq_getElem?_getD, hn', Option.getD_some] at this
              simpa [addr_add] using this)
            simpa using this
      · cases h
  · rename_i e hs hd
    cases h1 : isK P e .u8 with
    | false => rw [h1] at h; cases h
    | true =>
      rw [h1, cond_true] at h
      split at h
      · rename_i a
        cases h
        have hrun := Lib.run_convert_string_bytes (P := P) w s d e ⟨a.toArray⟩ hs hd (isk e h1)
        have hge := grownCap_ge w a.length 0 e
        have hsz : (Lib.bytesCells w e ⟨a.toArray⟩).size = grownCap w a.length 0 e := by
          simp only [Lib.bytesCells, ByteArray.size, Array.size_append, Array.size_map, Array.size_replicate, List.size_toArray]; omega
        refine look_new (L := ⟨w.heap.size, 0, grownCap w a.length 0 e, false⟩) (w' := Lib.bytesWorld w e ⟨a.toArray⟩) (len := a.length) hr hh (hf 0 (by simp)) hk (by simpa [AV.enc, sliceV, ByteArray.size] using hrun) (same_bytes w e _) ?_ (fun b o q => ?_) rfl
        · simp only [BlkRep, upd_self]
          refine ⟨by simpa [intL] using hge, fun q => (by cases q), fun _ => ⟨_, e, _, _, Lib.bytesWorld_at_new w e _, by simp [hsz], fun q _ hq => by simp only at hq; omega, fun i hi j hj => ?_⟩⟩
          simp only [intL, List.length_map] at hi
          have : j = 0 := by omega
          subst this
          simp [Lib.bytesCells, Array.getElem?_append, hi, ByteArray.size, intL]
        · simp only [rgn] at q
          omega
      · cases h
  · cases h

theorem mkV_adv {P : Program} {t : TypeId} {hp : Hp} {nm k : Nat} {x y v : AV} {news : List AV} {ρ : Ren} {w : World}
    (h : mkV P t nm [x, y] (fun v n => some (v, n)) = some (v, news)) (hr : RepW ρ hp w) (hh : ClosedH hp)
    (hf : ∀ i, i < news.length → hp.getD (nm + i) none = none) (hk : news.length ≤ k) : LookOk P nm k ρ hp w (Instr.makeSlice t (x.enc ρ) (y.enc ρ)) v news := by
  unfold mkV at h
  split at h
  · rename_i e hu
    split at h
    · rename_i ie kk k' z hie hke hza
      split at h
      · rename_i kl l kc c heq
        cases heq
        cases h1 : mkOk k' kk ie with
        | false => rw [h1] at h; cases h
        | true =>
          rw [h1, cond_true] at h
          cases h2 : inB c 68719476736 with
          | false => rw [h2] at h; cases h
          | true =>
            rw [h2, cond_true] at h
            cases h3 : inB l (c.toNat + 1) with
            | false => rw [h3] at h; cases h
            | true =>
              rw [h3, cond_true] at h
              cases h
              have h2 := inB_iff.1 h2
              have h3 := inB_iff.1 h3
              unfold mkOk at h1
              simp only [Bool.and_eq_true] at h1
              obtain ⟨⟨m1, m2⟩, m3⟩ := h1
              have m1 := of_decide_eq_true m1
              have m2 := Nat.eq_of_beq_eq_true m2
              have m3 := Nat.le_of_ble_eq_true m3
              subst m1
              obtain ⟨ie', z0, hie', hz0, hzc, _, _⟩ := zeroA_spec hza
              rw [hie] at hie'
              cases hie'
              have hrun := run_make (P := P) w t e ie z0 hu hie hz0 kl kc l c (by omega) (by omega) (by
                have h1 : (ie.bytes : Int) * c ≤ 512 * c := Int.mul_le_mul_of_nonneg_right (by omega) (by omega)
                omega) (by omega)
              have hz1 : z0.cells = #[.int k' z] := by
                apply Array.ext'
                rw [hzc ρ]; simp [AV.cells]
              refine look_new (L := ⟨w.heap.size, 0, c.toNat, false⟩) (len := l.toNat) hr hh (hf 0 (by simp)) hk (by simp only [AV.enc]; exact hrun) (same_alloc w _) ?_ (fun b o q => ?_) (by simp)
              · simp only [BlkRep, upd_self]
                refine alloc_rw (by simp; omega) (by rw [size_madeCells, m2]) (fun i j hi hj => ?_)
                have : j = 0 := by omega
                subst this
                simp only [List.length_replicate] at hi
                have hic : i < c.toNat := by omega
                simp only [madeCells, hz1, m2, Nat.mul_one, Nat.add_zero, List.getElem?_cons_zero]
                simp [hic, hi, Nat.mod_one, List.getD_eq_getElem?_getD]
              · simp only [rgn] at q
                omega
      · cases h
    · cases h
  · cases h

theorem rgV_adv {P : Program} {t : TypeId} {hp : Hp} {nm k : Nat} {x v : AV} {news : List AV} {ρ : Ren} {w : World}
    (h : rgV P t nm x (fun v n => some (v, n)) = some (v, news)) (hr : RepW ρ hp w) (hh : ClosedH hp)
    (hf : ∀ i, i < news.length → hp.getD (nm + i) none = none) (hk : news.length ≤ k) : LookOk P nm k ρ hp w (Instr.range t (x.enc ρ)) v news := by
  unfold rgV at h
  split at h
  · rename_i s hu
    cases h
    have hfr := hf 0 (by simp)
    refine ⟨ρ.upd nm ⟨w.heap.size, 0, 0, false⟩, w.alloc (.stringIter ⟨s.toArray⟩ 0), ?_, Adv.add_new hr hfr hh ⟨Nat.le_refl _, by simp at hk; omega⟩ (same_alloc w _) ?_ (fun b o q => ?_), fun m ⟨y, hy⟩ => ?_⟩
    · simp only [AV.enc, upd_self, pOff]
      simp [Instr.range, run_underlying hu, newObj]
      rfl
    · simp only [BlkRep, upd_self]
      exact ⟨alloc_at w _, trivial⟩
    · simp only [rgn] at q; omega
    · exact (upd_loc (fun e => by subst e; simp only [Nat.add_zero] at hfr; rw [hfr] at hy; cases hy)).symm
  · cases h

theorem apV_adv {P : Program} {t : TypeId} {hp : Hp} {nm k : Nat} {x v : AV} {news : List AV} {ρ : Ren} {w : World}
    (h : apV P t x (fun v n => some (v, n)) = some (v, news)) (hr : RepW ρ hp w) (hc : ClosedV hp x) : LookOk P nm k ρ hp w (Instr.arrayAt t (x.enc ρ)) v news := by
  unfold apV at h
  split at h
  · rename_i N el hu
    split at h
    · rename_i n len
      cases h1 : Nat.blt 0 N with
      | false => rw [h1] at h; cases h
      | true =>
        cases h2 : Nat.ble N len with
        | false => rw [h1, h2] at h; cases h
        | true =>
          rw [h1, h2] at h
          cases h
          have h1 := Nat.le_of_ble_eq_true h1
          have h2 := Nat.le_of_ble_eq_true h2
          have hnl := nl_false hr (hc (.ln n len) (by simp [AV.has, XV.has])) (by omega)
          refine look_same hr ?_
          simp only [AV.enc, XV.enc, hnl, Bool.false_eq_true, if_false, pOff]
          simp [Instr.arrayAt, run_underlying hu, show ¬ len < N by omega]
    · rename_i n p es off len cap
      cases h2 : Nat.ble N len with
      | false => rw [h2] at h; cases h
      | true =>
        rw [h2] at h
        cases h
        have h2 := Nat.le_of_ble_eq_true h2
        refine look_same hr ?_
        simp only [AV.enc, XV.enc]
        simp [Instr.arrayAt, run_underlying hu, show ¬ len < N by omega]
    · cases h
  · cases h
end Go.Sim
