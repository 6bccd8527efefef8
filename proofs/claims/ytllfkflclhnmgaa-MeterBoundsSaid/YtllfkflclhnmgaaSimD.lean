/- The operations that look at no memory. -/
import Derived.Test.YtllfkflclhnmgaaSimC
namespace Go.Sim
variable {β : Type}

def inB (i : Int) (n : Nat) : Bool :=
  match i with
  | .ofNat m => Nat.blt m n
  | .negSucc _ => false

theorem inB_iff {i : Int} {n : Nat} : inB i n = true ↔ 0 ≤ i ∧ i < n := by
  cases i with
  | ofNat m => simp [inB, Nat.blt]; try omega
  | negSucc m => simp [inB]; try omega

/- zero values, by their types -/
def takeInts (k : IntKind) : Nat → List Value → Option (List Int × List Value)
  | 0, cs => some ([], cs)
  | n + 1, .int k' m :: cs => bif decide (k' = k) && inKB k m then
      match takeInts k n cs with
      | some (l, r) => some (m :: l, r)
      | none => none
    else none
  | _ + 1, _ => none

theorem takeInts_spec {k : IntKind} : ∀ {n : Nat} {cs : List Value} {l : List Int} {r : List Value}, takeInts k n cs = some (l, r) →
    l.length = n ∧ cs = l.map (Value.int k) ++ r ∧ ∀ x ∈ l, inK k x
  | 0, cs, l, r, h => by simp [takeInts] at h; obtain ⟨rfl, rfl⟩ := h; simp
  | n + 1, [], l, r, h => by simp [takeInts] at h
  | n + 1, c :: cs, l, r, h => by
    cases c <;> simp only [takeInts] at h <;> try (cases h; done)
    rename_i k' m
    cases hk : (decide (k' = k) && inKB k m) with
    | false => simp [hk] at h
    | true =>
      rw [hk, cond_true] at h
      simp only [Bool.and_eq_true] at hk
      have hm := inKB_spec hk.2
      have := of_decide_eq_true hk.1
      subst this
      cases ht : takeInts k' n cs with
      | none => simp [ht] at h
      | some x =>
        obtain ⟨l', r'⟩ := x
        simp only [ht, Option.some.injEq, Prod.mk.injEq] at h
        obtain ⟨rfl, rfl⟩ := h
        obtain ⟨h1, h2, h3⟩ := takeInts_spec ht
        exact ⟨by simp [h1], by simp [h2], fun x hx => by
          rcases List.mem_cons.1 hx with rfl | hx
          · exact hm
          · exact h3 x hx⟩

def takeN (g : List Value → Option (AV × List Value)) : Nat → List Value → Option (List AV × List Value)
  | 0, cs => some ([], cs)
  | n + 1, cs =>
    match g cs with
    | some (v, r) => match takeN g n r with
      | some (vs, r') => some (v :: vs, r')
      | none => none
    | none => none

def takeFs (g : TypeId → List Value → Option (AV × List Value)) : List Field → List Value → Option (List AV × List Value)
  | [], cs => some ([], cs)
  | f :: fs, cs =>
    match g f.type cs with
    | some (v, r) => match takeFs g fs r with
      | some (vs, r') => some (v :: vs, r')
      | none => none
    | none => none

def treeT (P : Program) : Nat → TypeId → List Value → Option (AV × List Value)
  | 0, _, _ => none
  | d + 1, t, cs =>
    match P.underlying t with
    | some (.array n e) =>
      match P.underlying e with
      | some (.int k) => match takeInts k n cs with
        | some (l, r) => some (.arr k n l, r)
        | none => none
      | _ => match takeN (treeT P d e) n cs with
        | some (ts, r) => some (.agg ts, r)
        | none => none
    | some (.struct fs) => match takeFs (treeT P d) fs.toList cs with
      | some (ts, r) => some (.agg ts, r)
      | none => none
    | some _ => match cs with
      | c :: r => match constA c with
        | some v => some (v, r)
        | none => none
      | [] => none
    | none => none

def Good (g : List Value → Option (AV × List Value)) : Prop :=
  ∀ cs v r, g cs = some (v, r) → (∀ ρ : Ren, cs = v.cells ρ ++ r) ∧ (∀ m, ¬ v.has m) ∧ v.wf

theorem takeN_spec {g : List Value → Option (AV × List Value)} (hg : Good g) : ∀ (n : Nat) (cs : List Value) (vs : List AV) (r : List Value), takeN g n cs = some (vs, r) →
    (∀ ρ : Ren, cs = AV.cellsL ρ vs ++ r) ∧ (∀ m, ¬ AV.hasL m vs) ∧ AV.wfL vs
  | 0, cs, vs, r, h => by simp [takeN] at h; obtain ⟨rfl, rfl⟩ := h; simp [AV.cellsL, AV.hasL, AV.wfL]
  | n + 1, cs, vs, r, h => by
    simp only [takeN] at h
    cases h1 : g cs with
    | none => simp [h1] at h
    | some x =>
      obtain ⟨v, r1⟩ := x
      cases h2 : takeN g n r1 with
      | none => simp [h1, h2] at h
      | some y =>
        obtain ⟨vs', r'⟩ := y
        simp only [h1, h2, Option.some.injEq, Prod.mk.injEq] at h
        obtain ⟨rfl, rfl⟩ := h
        obtain ⟨a1, a2, a3⟩ := hg _ _ _ h1
        obtain ⟨b1, b2, b3⟩ := takeN_spec hg n _ _ _ h2
        refine ⟨fun ρ => by rw [a1 ρ, b1 ρ]; simp [AV.cellsL], fun m => ?_, by simp only [AV.wfL]; exact ⟨a3, b3⟩⟩
        simp [AV.hasL, a2 m, b2 m]

theorem takeFs_spec {g : TypeId → List Value → Option (AV × List Value)} (hg : ∀ t, Good (g t)) : ∀ (fs : List Field) (cs : List Value) (vs : List AV) (r : List Value), takeFs g fs cs = some (vs, r) →
    (∀ ρ : Ren, cs = AV.cellsL ρ vs ++ r) ∧ (∀ m, ¬ AV.hasL m vs) ∧ AV.wfL vs
  | [], cs, vs, r, h => by simp [takeFs] at h; obtain ⟨rfl, rfl⟩ := h; simp [AV.cellsL, AV.hasL, AV.wfL]
  | f :: fs, cs, vs, r, h => by
    simp only [takeFs] at h
    cases h1 : g f.type cs with
    | none => simp [h1] at h
    | some x =>
      obtain ⟨v, r1⟩ := x
      cases h2 : takeFs g fs r1 with
      | none => simp [h1, h2] at h
      | some y =>
        obtain ⟨vs', r'⟩ := y
        simp only [h1, h2, Option.some.injEq, Prod.mk.injEq] at h
        obtain ⟨rfl, rfl⟩ := h
        obtain ⟨a1, a2, a3⟩ := hg _ _ _ _ h1
        obtain ⟨b1, b2, b3⟩ := takeFs_spec hg fs _ _ _ h2
        refine ⟨fun ρ => by rw [a1 ρ, b1 ρ]; simp [AV.cellsL], fun m => ?_, by simp only [AV.wfL]; exact ⟨a3, b3⟩⟩
        simp [AV.hasL, a2 m, b2 m]

theorem map_range_getD (k : IntKind) (l : List Int) : arrCells k l.length l = l.map (Value.int k) := by
  apply List.ext_getElem?
  intro j
  simp only [arrCells, List.getElem?_map]
  by_cases hj : j < l.length
  · simp [hj]
  · simp [hj]

theorem treeT_good (P : Program) : ∀ (d : Nat) (t : TypeId), Good (treeT P d t)
  | 0, t => by intro cs v r h; simp [treeT] at h
  | d + 1, t => by
    intro cs v r h
    unfold treeT at h
    split at h
    · split at h
      · rename_i n e _ _ k _
        cases ht : takeInts k n cs with
        | none => simp [ht] at h
        | some x =>
          obtain ⟨l, r'⟩ := x
          simp only [ht, Option.some.injEq, Prod.mk.injEq] at h
          obtain ⟨rfl, rfl⟩ := h
          obtain ⟨h1, h2, h3⟩ := takeInts_spec ht
          subst h1
          refine ⟨fun ρ => by simp only [AV.cells]; rw [map_range_getD]; exact h2, by simp [AV.has], ?_⟩
          simp only [AV.wf]
          intro j hj
          have : l.getD j 0 = l[j] := by simp [hj]
          rw [this]
          exact h3 _ (List.getElem_mem hj)
      · rename_i n e _ _ _
        cases ht : takeN (treeT P d e) n cs with
        | none => simp [ht] at h
        | some x =>
          obtain ⟨ts, r'⟩ := x
          simp only [ht, Option.some.injEq, Prod.mk.injEq] at h
          obtain ⟨rfl, rfl⟩ := h
          obtain ⟨h1, h2, h3⟩ := takeN_spec (treeT_good P d e) _ _ _ _ ht
          exact ⟨fun ρ => by simp only [AV.cells]; exact h1 ρ, fun m => by simp only [AV.has]; exact h2 m, by simp only [AV.wf]; exact h3⟩
    · rename_i fs _
      cases ht : takeFs (treeT P d) fs.toList cs with
      | none => simp [ht] at h
      | some x =>
        obtain ⟨ts, r'⟩ := x
        simp only [ht, Option.some.injEq, Prod.mk.injEq] at h
        obtain ⟨rfl, rfl⟩ := h
        obtain ⟨h1, h2, h3⟩ := takeFs_spec (fun t => treeT_good P d t) _ _ _ _ ht
        exact ⟨fun ρ => by simp only [AV.cells]; exact h1 ρ, fun m => by simp only [AV.has]; exact h2 m, by simp only [AV.wf]; exact h3⟩
    · split at h
      · rename_i c r'
        cases hc : constA c with
        | none => simp [hc] at h
        | some u =>
          simp only [hc, Option.some.injEq, Prod.mk.injEq] at h
          obtain ⟨rfl, rfl⟩ := h
          refine ⟨fun ρ => ?_, (constA_enc (ρ := fun n => (n, 0)) hc).2, constA_wf hc⟩
          have := (constA_enc (ρ := ρ) hc).1
          have hna : u.isAgg = false := by
            unfold constA at hc
            split at hc <;> first
              | (cases hc; rfl)
              | (cases hk : inKB _ _ with
                 | false => rw [hk] at hc; cases hc
                 | true => rw [hk] at hc; cases hc; rfl)
              | (rename_i s; cases hk : decide (s.data.toList.length < 9223372036854775808) with
                 | false => rw [hk] at hc; cases hc
                 | true => rw [hk] at hc; cases hc; rfl)
              | cases hc
          rw [cells_of_not hna, this]; rfl
      · cases h
    · cases h

def zeroA (P : Program) (t : TypeId) : Option AV :=
  match P.info? t with
  | some i => match i.zero with
    | some z => match treeT P 8 t z.cells.toList with
      | some (v, []) => some v
      | _ => none
    | none => none
  | none => none

theorem zeroA_spec {P : Program} {t : TypeId} {v : AV} (h : zeroA P t = some v) : ∃ i z, P.info? t = some i ∧ i.zero = some z ∧ (∀ ρ : Ren, z.cells.toList = v.cells ρ) ∧ (∀ m, ¬ v.has m) ∧ v.wf := by
  unfold zeroA at h
  split at h
  · rename_i i hi
    split at h
    · rename_i z hz
      split at h
      · rename_i v' ht
        simp only [Option.some.injEq] at h
        subst h
        obtain ⟨h1, h2, h3⟩ := treeT_good P 8 t _ _ _ ht
        exact ⟨i, z, hi, hz, fun ρ => by simpa using h1 ρ, h2, h3⟩
      · cases h
    · cases h
  · cases h

/- a literal's parts -/
def setChild (z : AV) (i : Nat) (o s : Nat) (v : AV) : Option AV :=
  match z with
  | .agg ts =>
    match ts[i]? with
    | some u => bif Nat.beq (AV.sizeL (ts.take i)) o && Nat.beq s v.size && Nat.beq u.size v.size then some (.agg (ts.set i v)) else none
    | none => none
  | .arr k n l =>
    match v with
    | .int k' m => bif decide (k' = k) && Nat.blt i n && Nat.beq o i && Nat.beq s 1 then some (.arr k n (setP 0 l i m)) else none
    | _ => none
  | _ => none

def fillA (place : Nat → Option (Nat × Nat)) : AV → List (Nat × AV) → Option AV
  | z, [] => some z
  | z, (i, v) :: ps =>
    match place i with
    | some (o, s) => match setChild z i o s v with
      | some z' => fillA place z' ps
      | none => none
    | none => none

theorem setChild_cells {z v z' : AV} {i o s : Nat} (ρ : Ren) (h : setChild z i o s v = some z') :
    ∃ a u b, z.cells ρ = a ++ u ++ b ∧ z'.cells ρ = a ++ v.cells ρ ++ b ∧ a.length = o ∧ u.length = v.size ∧ s = v.size := by
  unfold setChild at h
  split at h
  · rename_i ts
    split at h
    · rename_i u hu
      cases hc : (Nat.beq (AV.sizeL (ts.take i)) o && Nat.beq s v.size && Nat.beq u.size v.size) with
      | false => simp [hc] at h
      | true =>
        simp only [hc, cond_true, Option.some.injEq] at h
        subst h
        simp only [Bool.and_eq_true] at hc
        have h1 := Nat.eq_of_beq_eq_true hc.1.1
        have h2 := Nat.eq_of_beq_eq_true hc.1.2
        have h3 := Nat.eq_of_beq_eq_true hc.2
        have hlt : i < ts.length := (List.getElem?_eq_some_iff.1 hu).1
        refine ⟨AV.cellsL ρ (ts.take i), u.cells ρ, AV.cellsL ρ (ts.drop (i + 1)), ?_, ?_, by rw [cellsL_length, h1], by rw [cells_length, h3], h2⟩
        · simp only [AV.cells]
          conv => lhs; rw [split_at hu]
          rw [cellsL_append]
          simp [AV.cellsL]
        · simp only [AV.cells]
          rw [set_at _ hlt, cellsL_append]
          simp [AV.cellsL]
    · cases h
  · rename_i k n l
    split at h
    · rename_i k' m
      cases hc : (decide (k' = k) && Nat.blt i n && Nat.beq o i && Nat.beq s 1) with
      | false => simp [hc] at h
      | true =>
        simp only [hc, cond_true, Option.some.injEq] at h
        subst h
        simp only [Bool.and_eq_true] at hc
        have h1 := of_decide_eq_true hc.1.1.1
        subst h1
        have hi : i < n := by have := hc.1.1.2; simp [Nat.blt] at this; omega
        have h3 := Nat.eq_of_beq_eq_true hc.1.2
        have h4 := Nat.eq_of_beq_eq_true hc.2
        have hx : (arrCells k' n l)[i]? = some (.int k' (l.getD i 0)) := by simp [arrCells, hi]
        refine ⟨(arrCells k' n l).take i, [.int k' (l.getD i 0)], (arrCells k' n l).drop (i + 1), ?_, ?_, by simp [arrCells_length]; omega, by simp [AV.size], by simp [AV.size, h4]⟩
        · simp only [AV.cells]
          conv => lhs; rw [split_at hx]
          simp
        · simp only [AV.cells]
          rw [arrCells_setP _ _ _ _ _ hi]
          simp
    · cases h
  · cases h

theorem foldl_set_seg (a b : List Value) : ∀ (x u : List Value) (j : Nat) (a' : List Value), u.length = x.length → a'.length = a.length + j →
    (x.zipIdx j).foldl (fun (cs : Array Value) (c : Value × Nat) => cs.setIfInBounds (a.length + c.2) c.1) (a' ++ u ++ b).toArray = (a' ++ x ++ b).toArray
  | [], u, j, a', hu, _ => by
    have : u = [] := by simpa using hu
    subst this
    simp
  | c :: x, [], j, a', hu, _ => by simp at hu
  | c :: x, y :: u, j, a', hu, ha => by
    simp only [List.zipIdx_cons, List.foldl_cons]
    have e : ((a' ++ (y :: u) ++ b).toArray).setIfInBounds (a.length + j) c = ((a' ++ [c]) ++ u ++ b).toArray := by
      apply Array.ext'
      simp [← ha]
    rw [e, foldl_set_seg a b x u (j + 1) (a' ++ [c]) (by simpa using hu) (by simp [ha]; omega)]
    simp

theorem fillA_run (ρ : Ren) (place : Nat → Option (Nat × Nat)) : ∀ (ps : List (Nat × AV)) (z v : AV), fillA place z ps = some v →
    Instr.fill place (z.cells ρ).toArray (ps.map fun p => (p.1, p.2.enc ρ)) = some (v.cells ρ).toArray
  | [], z, v, h => by simp [fillA] at h; subst h; simp [Instr.fill]
  | (i, x) :: ps, z, v, h => by
    simp only [fillA] at h
    cases hp : place i with
    | none => simp [hp] at h
    | some os =>
      obtain ⟨o, s⟩ := os
      simp only [hp] at h
      cases hs : setChild z i o s x with
      | none => simp [hs] at h
      | some z' =>
        simp only [hs] at h
        obtain ⟨a, u, b, h1, h2, h3, h4, h5⟩ := setChild_cells ρ hs
        have hsz : ((x.enc ρ).cells).size = x.size := by rw [← Array.length_toList, enc_cells, cells_length]
        simp only [List.map_cons, Instr.fill, hp, hsz, h5]
        have hb : ¬ ((x.size ≠ x.size || decide (o + x.size > (z.cells ρ).toArray.size)) = true) := by
          simp [h1]; omega
        simp only [hb, Bool.false_eq_true, if_false]
        have hz : (Array.foldl (fun (cs : Array Value) (c : Value × Nat) => cs.setIfInBounds (o + c.2) c.1) (z.cells ρ).toArray (x.enc ρ).cells.zipIdx) = (z'.cells ρ).toArray := by
          rw [← Array.foldl_toList, Array.toList_zipIdx, enc_cells, h1, h2, ← h3]
          exact foldl_set_seg a b (x.cells ρ) u 0 a (by rw [h4, cells_length]) (by simp)
        have ih := fillA_run ρ place ps z' v h
        rw [← hz] at ih
        exact ih

theorem setChild_has {z v z' : AV} {i o s : Nat} (h : setChild z i o s v = some z') : ∀ m, z'.has m → z.has m ∨ v.has m := by
  unfold setChild at h
  split at h
  · rename_i ts
    split at h
    · rename_i u hu
      cases hc : (Nat.beq (AV.sizeL (ts.take i)) o && Nat.beq s v.size && Nat.beq u.size v.size) with
      | false => simp [hc] at h
      | true =>
        simp only [hc, cond_true, Option.some.injEq] at h
        subst h
        intro m hm
        simp only [AV.has] at hm ⊢
        exact hasL_set hm
    · cases h
  · split at h
    · rename_i k n l _ k' m'
      cases hc : (decide (k' = k) && Nat.blt i n && Nat.beq o i && Nat.beq s 1) with
      | false => simp [hc] at h
      | true =>
        simp only [hc, cond_true, Option.some.injEq] at h
        subst h
        intro m hm
        simp [AV.has] at hm
    · cases h
  · cases h

theorem fillA_has (place : Nat → Option (Nat × Nat)) : ∀ (ps : List (Nat × AV)) (z v : AV), fillA place z ps = some v → ∀ m, v.has m → z.has m ∨ ∃ p ∈ ps, p.2.has m
  | [], z, v, h, m, hm => by simp [fillA] at h; subst h; exact .inl hm
  | (i, x) :: ps, z, v, h, m, hm => by
    simp only [fillA] at h
    cases hp : place i with
    | none => simp [hp] at h
    | some os =>
      obtain ⟨o, s⟩ := os
      simp only [hp] at h
      cases hs : setChild z i o s x with
      | none => simp [hs] at h
      | some z' =>
        simp only [hs] at h
        rcases fillA_has place ps z' v h m hm with h' | ⟨p, hp', hm'⟩
        · rcases setChild_has hs m h' with h' | h'
          · exact .inl h'
          · exact .inr ⟨(i, x), by simp, h'⟩
        · exact .inr ⟨p, by simp [hp'], hm'⟩

theorem setChild_wf {z v z' : AV} {i o s : Nat} (h : setChild z i o s v = some z') (hz : z.wf) (hv : v.wf) : z'.wf := by
  unfold setChild at h
  split at h
  · rename_i ts
    split at h
    · rename_i u hu
      cases hc : (Nat.beq (AV.sizeL (ts.take i)) o && Nat.beq s v.size && Nat.beq u.size v.size) with
      | false => simp [hc] at h
      | true =>
        simp only [hc, cond_true, Option.some.injEq] at h
        subst h
        simp only [AV.wf] at hz ⊢
        exact wfL_set hz hv
    · cases h
  · rename_i k n l
    split at h
    · rename_i k' m'
      cases hc : (decide (k' = k) && Nat.blt i n && Nat.beq o i && Nat.beq s 1) with
      | false => simp [hc] at h
      | true =>
        simp only [hc, cond_true, Option.some.injEq] at h
        simp only [Bool.and_eq_true] at hc
        have := of_decide_eq_true hc.1.1.1
        subst this
        subst h
        simp only [AV.wf] at hz hv ⊢
        intro j hj
        rw [getD_setP]
        split
        · exact hv
        · exact hz j hj
    · cases h
  · cases h

theorem fillA_wf (place : Nat → Option (Nat × Nat)) : ∀ (ps : List (Nat × AV)) (z v : AV), fillA place z ps = some v → z.wf → (∀ p ∈ ps, p.2.wf) → v.wf
  | [], z, v, h, hz, _ => by simp [fillA] at h; subst h; exact hz
  | (i, x) :: ps, z, v, h, hz, hp => by
    simp only [fillA] at h
    cases hpl : place i with
    | none => simp [hpl] at h
    | some os =>
      obtain ⟨o, s⟩ := os
      simp only [hpl] at h
      cases hs : setChild z i o s x with
      | none => simp [hs] at h
      | some z' =>
        simp only [hs] at h
        exact fillA_wf place ps z' v h (setChild_wf hs hz (hp (i, x) (by simp))) (fun p hm => hp p (by simp [hm]))

def partsV (tm : Tm) : List (Nat × Operand) → Option (List (Nat × AV))
  | [] => some []
  | (i, x) :: ps =>
    match opv tm x with
    | some v => match partsV tm ps with
      | some vs => some ((i, v) :: vs)
      | none => none
    | none => none

def fieldPlaces (P : Program) : List Field → Option (List (Nat × Nat))
  | [] => some []
  | f :: fs =>
    match P.info? f.type with
    | some i => match fieldPlaces P fs with
      | some ps => some ((f.offset, i.size) :: ps)
      | none => none
    | none => none

theorem fieldPlaces_eq (P : Program) : ∀ fs : List Field, fieldPlaces P fs = fs.mapM (fun f => (P.info? f.type).map fun i => (f.offset, i.size))
  | [] => by simp [fieldPlaces]
  | f :: fs => by
    simp only [fieldPlaces, List.mapM_cons, fieldPlaces_eq P fs]
    cases P.info? f.type with
    | none => rfl
    | some i =>
      simp only [Option.map_some, Option.bind_eq_bind, Option.bind_some]
      cases fs.mapM (fun f => (P.info? f.type).map fun i => (f.offset, i.size)) <;> rfl

def buildA (P : Program) (t : TypeId) (ps : List (Nat × AV)) : Option AV :=
  match zeroA P t with
  | some z =>
    match P.underlying t with
    | some (.struct fs) => match fieldPlaces P fs.toList with
      | some pl => fillA (fun i => pl[i]?) z ps
      | none => none
    | some (.array _ e) => match P.info? e with
      | some ie => fillA (fun i => some (i * ie.size, ie.size)) z ps
      | none => none
    | _ => none
  | none => none

theorem buildA_run {P : Program} {t : TypeId} {ps : List (Nat × AV)} {v : AV} (ρ : Ren) (w : World) (h : buildA P t ps = some v) :
    (Instr.build t (ps.map fun p => (p.1, p.2.enc ρ)).toArray).run P w = .ok (.agg (v.cells ρ).toArray) w ∧ ∀ m, v.has m → ∃ p ∈ ps, p.2.has m := by
  unfold buildA at h
  split at h
  · rename_i z hz
    obtain ⟨i, z0, hi, hz0, hzc, hzh, hzw⟩ := zeroA_spec hz
    have hcz : z0.cells = (z.cells ρ).toArray := by apply Array.ext'; simp [hzc ρ]
    split at h
    · rename_i fs hu
      cases hpl : fieldPlaces P fs.toList with
      | none => simp [hpl] at h
      | some pl =>
        simp only [hpl] at h
        refine ⟨run_build w t _ _ ?_, fun m hm => (fillA_has _ _ _ _ h m hm).resolve_left (hzh m)⟩
        have hf := fillA_run ρ _ ps z v h
        have hpl' := hpl
        rw [fieldPlaces_eq] at hpl'
        unfold Program.built
        simp only [hi, hu, hz0, hpl', hcz]
        simpa using hf
    · rename_i n e hu
      cases hie : P.info? e with
      | none => simp [hie] at h
      | some ie =>
        simp only [hie] at h
        refine ⟨run_build w t _ _ ?_, fun m hm => (fillA_has _ _ _ _ h m hm).resolve_left (hzh m)⟩
        have hf := fillA_run ρ _ ps z v h
        unfold Program.built
        simp only [hi, hu, hz0, hie, hcz]
        simpa using hf
    · cases h
  · cases h

theorem buildA_wf {P : Program} {t : TypeId} {ps : List (Nat × AV)} {v : AV} (h : buildA P t ps = some v) (hp : ∀ p ∈ ps, p.2.wf) : v.wf := by
  unfold buildA at h
  split at h
  · rename_i z hz
    obtain ⟨_, _, _, _, _, _, hzw⟩ := zeroA_spec hz
    split at h
    · split at h
      · exact fillA_wf _ _ _ _ h hzw hp
      · cases h
    · split at h
      · exact fillA_wf _ _ _ _ h hzw hp
      · cases h
    · cases h
  · cases h

end Go.Sim
