/- The world's side: what a state stands for; one operation of the model is one step of the state. -/
import Derived.Test.YtllfkflclhnmgaaSimK
import Derived.Laws.CopyRow
import Derived.Laws.World
namespace Go.Sim

structure RepW (ρ : Ren) (hp : Hp) (w : World) : Prop where
  blk : ∀ n v, hp.getD n none = some v → ∃ c e, w.heap[(ρ n).1]? = some (.cells c e (0, 0)) ∧ (ρ n).2 + v.size ≤ c.size ∧ ∀ j, j < v.size → c[(ρ n).2 + j]? = (v.cells ρ)[j]?
  sep : ∀ m n vm vn, hp.getD m none = some vm → hp.getD n none = some vn → m ≠ n → (ρ m).1 ≠ (ρ n).1 ∨ (ρ m).2 + vm.size ≤ (ρ n).2 ∨ (ρ n).2 + vn.size ≤ (ρ m).2

/-- of what was there, cells that 'own' names alone may have turned -/
structure Kept (own : Nat → Nat → Prop) (w0 w : World) : Prop where
  os : w.os = w0.os
  tape : w.tape = w0.tape
  output : w.output = w0.output
  size : w0.heap.size ≤ w.heap.size
  old : ∀ b, b < w0.heap.size → (∀ o, ¬ own b o) → w.heap[b]? = w0.heap[b]?
  cells : ∀ b c e fz, w0.heap[b]? = some (.cells c e fz) → ∃ c', w.heap[b]? = some (.cells c' e fz) ∧ c'.size = c.size ∧ ∀ o, ¬ own b o → c'[o]? = c[o]?
  frz : ∀ a, w.frozen? a = w0.frozen? a

theorem Kept.refl (own : Nat → Nat → Prop) (w : World) : Kept own w w := ⟨rfl, rfl, rfl, Nat.le_refl _, fun _ _ _ => rfl, fun _ c _ _ h => ⟨c, h, rfl, fun _ _ => rfl⟩, fun _ => rfl⟩

theorem Kept.trans {own own' : Nat → Nat → Prop} {w0 w1 w2 : World} (h : Kept own w0 w1) (k : Kept own' w1 w2) (hs : ∀ b o, own' b o → own b o ∨ w0.heap.size ≤ b) : Kept own w0 w2 where
  os := k.os.trans h.os
  tape := k.tape.trans h.tape
  output := k.output.trans h.output
  size := Nat.le_trans h.size k.size
  old b hb hn := (k.old b (Nat.lt_of_lt_of_le hb h.size) (fun o ho => (hs b o ho).elim (hn o) (by omega))).trans (h.old b hb hn)
  frz a := (k.frz a).trans (h.frz a)
  cells b c e fz hb := by
    obtain ⟨c1, h1, h2, h3⟩ := h.cells b c e fz hb
    obtain ⟨c2, k1, k2, k3⟩ := k.cells b c1 e fz h1
    have hlt : b < w0.heap.size := (Array.getElem?_eq_some_iff.1 hb).1
    exact ⟨c2, k1, by rw [k2, h2], fun o ho => (k3 o (fun ho' => (hs b o ho').elim ho (by omega))).trans (h3 o ho)⟩

theorem Kept.drew {own : Nat → Nat → Prop} {w0 w : World} (h : Kept own w0 w) : Kept own w0 { w with drawn := w.drawn + 1 } :=
  ⟨h.os, h.tape, h.output, h.size, h.old, h.cells, h.frz⟩

theorem RepW.drew {ρ : Ren} {hp : Hp} {w : World} (h : RepW ρ hp w) : RepW ρ hp { w with drawn := w.drawn + 1 } := ⟨h.blk, h.sep⟩

/-- a world in which nothing that was there has turned -/
abbrev Same (w w' : World) : Prop := Kept (fun _ _ => False) w w'

theorem Same.heap {w w' : World} (h : Same w w') {b : Nat} {x : Obj} (hb : w.heap[b]? = some x) : w'.heap[b]? = some x := by
  rw [h.old b (Array.getElem?_eq_some_iff.1 hb).1 (fun _ => id)]; exact hb

theorem RepW.same {ρ : Ren} {hp : Hp} {w w' : World} (h : RepW ρ hp w) (k : Same w w') : RepW ρ hp w' where
  blk n v hv := by
    obtain ⟨c, e, h1, h2⟩ := h.blk n v hv
    exact ⟨c, e, k.heap h1, h2⟩
  sep := h.sep

structure TmOk (ρ : Ren) (tm : Tm) (a : Act) : Prop where
  len : tm.length = a.tmps.size
  val : ∀ (i : Nat) v, tm.getD i none = some v → a.tmps.getD i undef = v.enc ρ

/-- what of the caller's memory may turn; the names below 'fb' stand for what they stood for -/
structure Own where
  own : Nat → Nat → Prop
  fb : Nat
  ρ0 : Ren

def Mine (own : Nat → Nat → Prop) (w0 : World) (ρ : Ren) (hp : Hp) : Prop :=
  ∀ n v, hp.getD n none = some v → w0.heap.size ≤ (ρ n).1 ∨ ∀ j, j < v.size → own (ρ n).1 ((ρ n).2 + j)

structure Inv (own : Own) (w0 : World) (ρ : Ren) (st : St) (a : Act) (w : World) : Prop where
  rep : RepW ρ st.hp w
  tm : TmOk ρ st.tm a
  closed : Closed st
  wf : WfSt st
  kept : Kept own.own w0 w
  mine : Mine own.own w0 ρ st.hp
  defers : a.defers = []
  low : ∀ n, n < own.fb → ρ n = own.ρ0 n
  base : own.fb ≤ st.base

theorem TmOk.eval {ρ : Ren} {tm : Tm} {a : Act} (h : TmOk ρ tm a) : ∀ x u, opv tm x = some u → a.eval x = u.enc ρ := by
  intro x u hx
  cases x with
  | tmp t => exact h.val t u hx
  | const c => exact (constA_enc hx).1.symm
  | global g => cases hx
  | func f => cases hx; rfl

theorem TmOk.put {ρ : Ren} {tm : Tm} {a : Act} (h : TmOk ρ tm a) (d : Option Tmp) (v : Option AV) (u : Value) (hv : ∀ x, v = some x → u = x.enc ρ) : TmOk ρ (setT tm d v) (a.put d u) := by
  cases d with
  | none => exact h
  | some d =>
    refine ⟨by simp [setT, Act.put, h.len], fun i x hx => ?_⟩
    simp only [setT, List.getD_eq_getElem?_getD, List.getElem?_set] at hx
    simp only [Act.put, Array.getD_eq_getD_getElem?, Array.getElem?_setIfInBounds]
    split at hx
    · rename_i e
      subst e
      split at hx
      · rename_i hlt
        cases v with
        | none => simp at hx
        | some y =>
          simp at hx; subst hx
          simp [← h.len, hlt, hv y rfl]
      · simp at hx
    · rename_i e
      simp only [e, if_false]
      have := h.val i x (by simpa using hx)
      simpa using this

theorem TmOk.congr {ρ ρ' : Ren} {tm : Tm} {a : Act} (h : TmOk ρ tm a) (hρ : ∀ (i : Nat) v, tm.getD i none = some v → ∀ m, v.has m → ρ m = ρ' m) : TmOk ρ' tm a :=
  ⟨h.len, fun i v hv => by rw [h.val i v hv]; exact enc_congr v (hρ i v hv)⟩

/-! the load -/
theorem seg_at {α : Type} {l a u b : List α} (h : l = a ++ u ++ b) {j : Nat} (hj : j < u.length) : l[a.length + j]? = u[j]? := by
  subst h
  rw [List.append_assoc, List.getElem?_append_right (by omega), Nat.add_sub_cancel_left, List.getElem?_append_left hj]

theorem run_load_fits {P : Program} {t : TypeId} {v : AV} {ρ : Ren} {w : World} {b o : Nat} (hf : fits P t v = true)
    (hc : ∀ j, j < v.size → w.cell? ⟨b, o + j, none⟩ = (v.cells ρ)[j]?) : (Instr.loadAt t (.pointer (some ⟨b, o, none⟩))).run P w = .ok (v.enc ρ) w := by
  obtain ⟨i, d, hi, hd, hs, hr⟩ := fits_spec hf
  cases hv : v.isAgg with
  | true =>
    rw [enc_of_agg hv]
    refine run_loadAt_mid w b o t (v.cells ρ) d (fun j x hx => ?_) hd (by rw [hr, hv]) (by simp [hi, cells_length, hs])
    rw [hc j (by have := (List.getElem?_eq_some_iff.1 hx).1; rwa [cells_length] at this)]; exact hx
  | false =>
    have h0 := hc 0 (by cases v <;> simp_all [AV.size, AV.isAgg])
    rw [cells_of_not hv] at h0
    simp only [Nat.add_zero, List.getElem?_cons_zero] at h0
    simp only [Instr.loadAt, Instr.sureAddr, Sem.run_bind, Sem.run_pure, Result.andThen_ok, loadVar, run_isAgg hd w, hr, hv, Bool.false_eq_true, if_false, run_load, h0]

/-! the store -/
def writeAt (c : Array Value) (o : Nat) (l : List Value) : Array Value := (c.toList.take o ++ l ++ c.toList.drop (o + l.length)).toArray

theorem writeAt_size {c : Array Value} {o : Nat} {l : List Value} (h : o + l.length ≤ c.size) : (writeAt c o l).size = c.size := by
  simp [writeAt]; omega

theorem writeAt_get {c : Array Value} {o : Nat} {l : List Value} (h : o + l.length ≤ c.size) (k : Nat) :
    (writeAt c o l)[k]? = if o ≤ k ∧ k < o + l.length then l[k - o]? else c[k]? := by
  simp only [writeAt, List.getElem?_toArray]
  by_cases h1 : k < o
  · rw [if_neg (by omega), List.append_assoc, List.getElem?_append_left (by simp; omega), List.getElem?_take, if_pos h1]; simp
  · by_cases h2 : k < o + l.length
    · rw [if_pos (by omega), List.append_assoc, List.getElem?_append_right (by simp; omega)]
      simp only [List.length_take, Array.length_toList]
      rw [Nat.min_eq_left (by omega), List.getElem?_append_left (by omega)]
    · rw [if_neg (by omega), List.getElem?_append_right (by simp; omega)]
      simp only [List.length_append, List.length_take, Array.length_toList, List.getElem?_drop]
      rw [Nat.min_eq_left (by omega), show o + l.length + (k - (o + l.length)) = k by omega]
      simp

mutual
theorem oneA_cells (ρ : Ren) : ∀ v : AV, v.oneA = true → ∀ x ∈ v.cells ρ, x.oneCell' = true
  | .arr k n l, _, x, hx => by simp only [AV.cells, arrCells, List.mem_map] at hx; obtain ⟨j, _, rfl⟩ := hx; rfl
  | .agg ts, h, x, hx => oneAL_cells ρ ts (by simpa [AV.oneA] using h) x (by simpa [AV.cells] using hx)
  | .tup ts, h, _, _ => by simp [AV.oneA] at h
  | .int .., _, x, hx => by simp [AV.cells] at hx; subst hx; rfl
  | .bool .., _, x, hx => by simp [AV.cells] at hx; subst hx; rfl
  | .str .., _, x, hx => by simp [AV.cells] at hx; subst hx; rfl
  | .nil, _, x, hx => by simp [AV.cells] at hx; subst hx; rfl
  | .ptr .., _, x, hx => by simp [AV.cells] at hx; subst hx; rfl
  | .fn .., _, x, hx => by simp [AV.cells] at hx; subst hx; rfl
  | .lit c, _, x, hx => by simp [AV.cells] at hx; subst hx; cases c <;> rfl
theorem oneAL_cells (ρ : Ren) : ∀ ts : List AV, AV.oneAL ts = true → ∀ x ∈ AV.cellsL ρ ts, x.oneCell' = true
  | [], _, x, hx => by simp [AV.cellsL] at hx
  | t :: ts, h, x, hx => by
    simp only [AV.oneAL, Bool.and_eq_true] at h
    simp only [AV.cellsL, List.mem_append] at hx
    rcases hx with hx | hx
    · exact oneA_cells ρ t h.1 x hx
    · exact oneAL_cells ρ ts h.2 x hx
end

theorem run_store_fits {P : Program} {t : TypeId} {v : AV} {ρ : Ren} {w : World} {b o : Nat} {c : Array Value} {e : TypeId} (hf : fits P t v = true) (h1 : v.oneA = true)
    (hb : w.heap[b]? = some (.cells c e (0, 0))) (ho : o + v.size ≤ c.size) :
    (Instr.storeAt t (.pointer (some ⟨b, o, none⟩)) (v.enc ρ)).run P w = .ok () (w.setRow b (writeAt c o (v.cells ρ))) := by
  obtain ⟨i, d, hi, hd, hs, hr⟩ := fits_spec hf
  have hsz : (v.enc ρ).cells.size = v.size := by rw [← Array.length_toList, enc_cells, cells_length]
  have hst := run_storeCells_at P b o e (v.cells ρ) 0 c w hb (by simp [cells_length]; omega) (oneA_cells ρ v h1)
  simp only [Nat.add_zero] at hst
  simp only [Instr.storeAt, Instr.sureAddr, Sem.run_bind, Sem.run_pure, Result.andThen_ok, storeVar, run_sizeOf' hi, hsz, hs, ne_eq, not_true_eq_false, if_false, enc_cells, hst]
  rfl

theorem setRow_other {w : World} {g b : Nat} {cs : Array Value} (h : b ≠ g) : (w.setRow g cs).heap[b]? = w.heap[b]? := by
  simp only [World.setRow, Array.getElem?_modify]
  rw [if_neg (by omega)]

theorem setRow_size (w : World) (g : Nat) (cs : Array Value) : (w.setRow g cs).heap.size = w.heap.size := by simp [World.setRow]

/-- a store, in all its parts -/
theorem inv_store {own : Nat → Nat → Prop} {w0 w : World} {ρ : Ren} {hp : Hp} {n : Nat} {p : List Sel} {tree v tree' : AV}
    (hr : RepW ρ hp w) (hk : Kept own w0 w) (hm : Mine own w0 ρ hp) (hn : hp.getD n none = some tree) (hput : put p tree v = some tree') :
    ∃ c e, w.heap[(ρ n).1]? = some (.cells c e (0, 0)) ∧ (ρ n).2 + pOff p + v.size ≤ c.size ∧
      RepW ρ (setP none hp n (some tree')) (w.setRow (ρ n).1 (writeAt c ((ρ n).2 + pOff p) (v.cells ρ))) ∧
      Kept own w0 (w.setRow (ρ n).1 (writeAt c ((ρ n).2 + pOff p) (v.cells ρ))) ∧ Mine own w0 ρ (setP none hp n (some tree')) := by
  obtain ⟨c, e, hc, hcs, hcells⟩ := hr.blk n tree hn
  obtain ⟨a, u, b, h1, h2, h3, h4⟩ := put_cells ρ p tree v tree' hput
  have hsz := put_size hput
  have hlen : tree.size = a.length + v.size + b.length := by
    rw [← cells_length ρ tree, h1]; simp [h4]; omega
  have hin : (ρ n).2 + pOff p + v.size ≤ c.size := by omega
  have hvl : (v.cells ρ).length = v.size := cells_length ρ v
  have hwsz := writeAt_size (c := c) (o := (ρ n).2 + pOff p) (l := v.cells ρ) (by rw [hvl]; exact hin)
  have hget := fun k => writeAt_get (c := c) (o := (ρ n).2 + pOff p) (l := v.cells ρ) (by rw [hvl]; exact hin) k
  have hheap := setRow_heap w (ρ n).1 c (writeAt c ((ρ n).2 + pOff p) (v.cells ρ)) e (0, 0) hc
  refine ⟨c, e, hc, hin, ⟨?_, ?_⟩, ?_, ?_⟩
  · intro m x hx
    rw [getD_setP] at hx
    split at hx
    · rename_i hnm
      subst hnm
      cases hx
      refine ⟨_, e, hheap, by rw [hwsz, hsz]; exact hcs, fun j hj => ?_⟩
      rw [hget, h2]
      rw [hsz] at hj
      have hcj := hcells j hj
      rw [h1] at hcj
      by_cases hA : j < a.length
      · rw [if_neg (by omega), hcj, List.append_assoc, List.append_assoc, List.getElem?_append_left hA, List.getElem?_append_left hA]
      · by_cases hB : j < a.length + v.size
        · rw [if_pos (by omega), List.append_assoc, List.getElem?_append_right (by omega), List.getElem?_append_left (by omega)]
          congr 1
          omega
        · rw [if_neg (by omega), hcj, List.getElem?_append_right (by simp; omega), List.getElem?_append_right (by simp; omega)]
          simp [h4, hvl]
    · rename_i hnm
      obtain ⟨c2, e2, k1, k2, k3⟩ := hr.blk m x hx
      by_cases hb : (ρ m).1 = (ρ n).1
      · rw [hb, hc] at k1
        cases k1
        refine ⟨_, e, by rw [hb]; exact hheap, by rw [hwsz]; exact k2, fun j hj => ?_⟩
        rw [hget, ← k3 j hj, if_neg]
        have := hr.sep m n x tree hx hn (Ne.symm hnm)
        omega
      · exact ⟨c2, e2, by rw [setRow_other hb]; exact k1, k2, k3⟩
  · intro m k vm vk hvm hvk hmk
    rw [getD_setP] at hvm hvk
    by_cases em : n = m
    · subst em
      rw [if_pos rfl] at hvm
      cases hvm
      rw [if_neg hmk] at hvk
      rw [hsz]
      exact hr.sep n k tree vk hn hvk hmk
    · rw [if_neg em] at hvm
      by_cases ek : n = k
      · subst ek
        rw [if_pos rfl] at hvk
        cases hvk
        rw [hsz]
        exact hr.sep m n vm tree hvm hn hmk
      · rw [if_neg ek] at hvk
        exact hr.sep m k vm vk hvm hvk hmk
  · have hown := hm n tree hn
    have hlt : (ρ n).1 < w.heap.size := (Array.getElem?_eq_some_iff.1 hc).1
    refine hk.trans (own' := fun b o => b = (ρ n).1 ∧ (ρ n).2 + pOff p ≤ o ∧ o < (ρ n).2 + pOff p + v.size) ⟨rfl, rfl, rfl, by rw [setRow_size]; exact Nat.le_refl _, fun b hb hno => ?_, fun b c2 e2 fz hb => ?_, fun ad => ?_⟩ ?_
    · by_cases hbn : b = (ρ n).1
      · by_cases hv0 : v.size = 0
        · subst hbn
          have hnil : v.cells ρ = [] := List.eq_nil_of_length_eq_zero (by rw [hvl, hv0])
          have : writeAt c ((ρ n).2 + pOff p) (v.cells ρ) = c := by
            rw [hnil]; simp [writeAt]
          rw [this, setRow_self w (ρ n).1 c e (0, 0) hc]
        · exact absurd ⟨hbn, Nat.le_refl _, by omega⟩ (hno ((ρ n).2 + pOff p))
      · rw [setRow_other hbn]
    · by_cases hbn : b = (ρ n).1
      · subst hbn
        rw [hc] at hb
        cases hb
        refine ⟨_, hheap, hwsz, fun o ho => ?_⟩
        rw [hget, if_neg (fun hh => ho ⟨rfl, hh.1, by rw [hvl] at hh; exact hh.2⟩)]
      · exact ⟨c2, by rw [setRow_other hbn]; exact hb, rfl, fun _ _ => rfl⟩
    · unfold World.frozen?
      by_cases hbn : ad.block = (ρ n).1
      · rw [hbn, hheap, hc]
      · rw [setRow_other hbn]
    · rintro b o ⟨rfl, ho1, ho2⟩
      rcases hown with h | h
      · exact .inr h
      · refine .inl ?_
        have := h (o - (ρ n).2) (by omega)
        rwa [show (ρ n).2 + (o - (ρ n).2) = o by omega] at this
  · intro m x hx
    rw [getD_setP] at hx
    split at hx
    · rename_i e; subst e; cases hx; rw [hsz]; exact hm n tree hn
    · exact hm m x hx

/-- a new block, under a name that was free -/
theorem inv_alloc {own : Nat → Nat → Prop} {w0 w : World} {ρ : Ren} {hp : Hp} {n : Nat} {v : AV} (t : TypeId)
    (hr : RepW ρ hp w) (hk : Kept own w0 w) (hm : Mine own w0 ρ hp) (hfree : hp.getD n none = none) (hc : ClosedH hp) (hv : ClosedV hp v) :
    let ρ' : Ren := fun m => if m = n then (w.heap.size, 0) else ρ m
    RepW ρ' (setP none hp n (some v)) (w.alloc (.cells (v.cells ρ).toArray t)) ∧ Kept own w0 (w.alloc (.cells (v.cells ρ).toArray t)) ∧ Mine own w0 ρ' (setP none hp n (some v)) ∧
      (∀ m, Pres hp m → ρ m = ρ' m) := by
  intro ρ'
  have hne : ∀ m, Pres hp m → m ≠ n := fun m ⟨x, hx⟩ e => by subst e; rw [hfree] at hx; cases hx
  have hρ : ∀ m, Pres hp m → ρ m = ρ' m := fun m h => by simp [ρ', hne m h]
  have hcong : ∀ x, ClosedV hp x → x.cells ρ = x.cells ρ' := fun x hx => cells_congr x (fun m hm => hρ m (hx m hm))
  refine ⟨⟨fun m x hx => ?_, fun m k vm vk hvm hvk hmk => ?_⟩, ?_, fun m x hx => ?_, hρ⟩
  · rw [getD_setP] at hx
    split at hx
    · rename_i e
      subst e
      cases hx
      refine ⟨(v.cells ρ).toArray, t, by show (w.heap.push _)[(ρ' n).1]? = _; simp [ρ'], by simp [ρ', cells_length], fun j hj => ?_⟩
      simp only [ρ', if_true, Nat.zero_add, List.getElem?_toArray]
      rw [hcong v hv]
    · rename_i e
      obtain ⟨c, e2, h1, h2, h3⟩ := hr.blk m x hx
      have hpm : Pres hp m := ⟨x, hx⟩
      rw [← hρ m hpm, ← hcong x (hc m x hx)]
      refine ⟨c, e2, ?_, h2, h3⟩
      have hlt := (Array.getElem?_eq_some_iff.1 h1).1
      simp only [World.alloc]
      rw [Array.getElem?_push, if_neg (by omega)]
      exact h1
  · rw [getD_setP] at hvm hvk
    have hbig : ∀ k x, hp.getD k none = some x → (ρ k).1 < w.heap.size := fun k x hx => by
      obtain ⟨c, e2, h1, _⟩ := hr.blk k x hx
      exact (Array.getElem?_eq_some_iff.1 h1).1
    by_cases em : n = m
    · subst em
      rw [if_neg hmk] at hvk
      have := hbig k vk hvk
      rw [← hρ k ⟨vk, hvk⟩]
      left
      simp only [ρ', if_true]
      omega
    · rw [if_neg em] at hvm
      by_cases ek : n = k
      · subst ek
        have := hbig m vm hvm
        rw [← hρ m ⟨vm, hvm⟩]
        left
        simp only [ρ', if_true]
        omega
      · rw [if_neg ek] at hvk
        rw [← hρ k ⟨vk, hvk⟩, ← hρ m ⟨vm, hvm⟩]
        exact hr.sep m k vm vk hvm hvk hmk
  · refine hk.trans (own' := fun _ _ => False) ⟨rfl, rfl, rfl, by show w.heap.size ≤ (w.heap.push _).size; simp, fun b hb _ => ?_, fun b c e fz hb => ⟨c, ?_, rfl, fun _ _ => rfl⟩, fun ad => ?_⟩ (fun b o h => h.elim)
    · simp only [World.alloc]; rw [Array.getElem?_push, if_neg (by omega)]
    · have hlt := (Array.getElem?_eq_some_iff.1 hb).1
      simp only [World.alloc]; rw [Array.getElem?_push, if_neg (by omega)]; exact hb
    · unfold World.frozen?
      simp only [World.alloc]
      rw [Array.getElem?_push]
      by_cases e1 : ad.block = w.heap.size
      · simp [e1]
      · rw [if_neg e1]
  · rw [getD_setP] at hx
    split at hx
    · rename_i e; subst e; left; simp only [ρ', if_true]; exact hk.size
    · rename_i e
      rw [← hρ m ⟨x, hx⟩]
      exact hm m x hx
end Go.Sim
