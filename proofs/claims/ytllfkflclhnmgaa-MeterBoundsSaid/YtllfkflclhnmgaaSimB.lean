/- Paths into trees: reading and writing what lies there. -/
import Derived.Test.YtllfkflclhnmgaaSimA
namespace Go.Sim
variable {β : Type}

def subK : List Sel → AV → (AV → Option β) → Option β
  | [], v, K => K v
  | .fld o i :: p, .agg ts, K =>
    match ts[i]? with
    | some t => bif Nat.beq (AV.sizeL (ts.take i)) o then subK p t K else none
    | none => none
  | [.elt i], .arr k n l, K => bif Nat.blt i n then K (.int k (l.getD i 0)) else none
  | _, _, _ => none

def sub (p : List Sel) (v : AV) : Option AV := subK p v some

theorem subK_eq : ∀ (p : List Sel) (v : AV) (K : AV → Option β), subK p v K = (sub p v).bind K
  | [], v, K => by simp [subK, sub]
  | .fld o i :: p, .agg ts, K => by
    simp only [subK, sub]
    cases ts[i]? with
    | none => rfl
    | some t =>
      simp only
      cases Nat.beq (AV.sizeL (ts.take i)) o with
      | true => simp only [cond_true]; rw [subK_eq p t K]; rfl
      | false => rfl
  | [.elt i], .arr k n l, K => by
    simp only [subK, sub]
    cases Nat.blt i n <;> rfl
  | .elt i :: s :: p, .arr k n l, K => by simp [subK, sub]
  | .fld o i :: p, .arr .., K => by simp [subK, sub]
  | .fld o i :: p, .int .., K => by simp [subK, sub]
  | .fld o i :: p, .bool .., K => by simp [subK, sub]
  | .fld o i :: p, .str .., K => by simp [subK, sub]
  | .fld o i :: p, .nil, K => by simp [subK, sub]
  | .fld o i :: p, .ptr .., K => by simp [subK, sub]
  | .fld o i :: p, .tup .., K => by simp [subK, sub]
  | .fld o i :: p, .fn .., K => by simp [subK, sub]
  | .fld o i :: p, .lit .., K => by simp [subK, sub]
  | .elt i :: p, .int .., K => by cases p <;> simp [subK, sub]
  | .elt i :: p, .bool .., K => by cases p <;> simp [subK, sub]
  | .elt i :: p, .str .., K => by cases p <;> simp [subK, sub]
  | .elt i :: p, .nil, K => by cases p <;> simp [subK, sub]
  | .elt i :: p, .ptr .., K => by cases p <;> simp [subK, sub]
  | .elt i :: p, .tup .., K => by cases p <;> simp [subK, sub]
  | .elt i :: p, .fn .., K => by cases p <;> simp [subK, sub]
  | .elt i :: p, .lit .., K => by cases p <;> simp [subK, sub]
  | .elt i :: p, .agg .., K => by cases p <;> simp [subK, sub]

theorem cellsL_append (ρ : Ren) : ∀ a b : List AV, AV.cellsL ρ (a ++ b) = AV.cellsL ρ a ++ AV.cellsL ρ b
  | [], b => by simp [AV.cellsL]
  | t :: a, b => by simp [AV.cellsL, cellsL_append ρ a b]

theorem split_at {α : Type} {l : List α} {i : Nat} {x : α} (h : l[i]? = some x) : l = l.take i ++ x :: l.drop (i + 1) := by
  obtain ⟨hi, rfl⟩ := List.getElem?_eq_some_iff.1 h
  simp

theorem set_at {α : Type} {l : List α} {i : Nat} (x : α) (h : i < l.length) : l.set i x = l.take i ++ x :: l.drop (i + 1) := by
  rw [List.set_eq_take_append_cons_drop, if_pos h]

/-- what lies at a path is a segment of the cells -/
theorem sub_cells (ρ : Ren) : ∀ (p : List Sel) (v u : AV), sub p v = some u →
    ∃ a b, v.cells ρ = a ++ u.cells ρ ++ b ∧ a.length = pOff p
  | [], v, u, h => by simp [sub, subK] at h; subst h; exact ⟨[], [], by simp, rfl⟩
  | .fld o i :: p, .agg ts, u, h => by
    simp only [sub, subK] at h
    cases ht : ts[i]? with
    | none => simp [ht] at h
    | some t =>
      simp only [ht] at h
      cases hb : Nat.beq (AV.sizeL (ts.take i)) o with
      | false => simp [hb] at h
      | true =>
        simp only [hb, cond_true] at h
        obtain ⟨a, b, h1, h2⟩ := sub_cells ρ p t u h
        have he := Nat.eq_of_beq_eq_true hb
        refine ⟨AV.cellsL ρ (ts.take i) ++ a, b ++ AV.cellsL ρ (ts.drop (i + 1)), ?_, ?_⟩
        · have hs := split_at ht
          simp only [AV.cells]
          conv => lhs; rw [hs]
          rw [cellsL_append]
          simp [AV.cellsL, h1]
        · simp [cellsL_length, pOff, Sel.off, h2, he]
  | [.elt i], .arr k n l, u, h => by
    simp only [sub, subK] at h
    cases hb : Nat.blt i n with
    | false => simp [hb] at h
    | true =>
      simp only [hb, cond_true, Option.some.injEq] at h
      subst h
      have hi : i < n := by simp [Nat.blt] at hb; omega
      have hx : (arrCells k n l)[i]? = some (.int k (l.getD i 0)) := by simp [arrCells, hi]
      refine ⟨(arrCells k n l).take i, (arrCells k n l).drop (i + 1), ?_, ?_⟩
      · simp only [AV.cells]
        conv => lhs; rw [split_at hx]
        simp
      · simp [arrCells_length, pOff, Sel.off]; omega
  | .elt i :: s :: p, .arr k n l, u, h => by simp [subK, sub] at h
  | .fld o i :: p, .arr .., u, h => by simp [subK, sub] at h
  | .fld o i :: p, .int .., u, h => by simp [subK, sub] at h
  | .fld o i :: p, .bool .., u, h => by simp [subK, sub] at h
  | .fld o i :: p, .str .., u, h => by simp [subK, sub] at h
  | .fld o i :: p, .nil, u, h => by simp [subK, sub] at h
  | .fld o i :: p, .ptr .., u, h => by simp [subK, sub] at h
  | .fld o i :: p, .tup .., u, h => by simp [subK, sub] at h
  | .fld o i :: p, .fn .., u, h => by simp [subK, sub] at h
  | .fld o i :: p, .lit .., u, h => by simp [subK, sub] at h
  | .elt i :: p, .int .., u, h => by cases p <;> simp [subK, sub] at h
  | .elt i :: p, .bool .., u, h => by cases p <;> simp [subK, sub] at h
  | .elt i :: p, .str .., u, h => by cases p <;> simp [subK, sub] at h
  | .elt i :: p, .nil, u, h => by cases p <;> simp [subK, sub] at h
  | .elt i :: p, .ptr .., u, h => by cases p <;> simp [subK, sub] at h
  | .elt i :: p, .tup .., u, h => by cases p <;> simp [subK, sub] at h
  | .elt i :: p, .fn .., u, h => by cases p <;> simp [subK, sub] at h
  | .elt i :: p, .lit .., u, h => by cases p <;> simp [subK, sub] at h
  | .elt i :: p, .agg .., u, h => by cases p <;> simp [subK, sub] at h

theorem sub_has : ∀ (p : List Sel) (v u : AV), sub p v = some u → ∀ m, u.has m → v.has m
  | [], v, u, h, m, hm => by simp [sub, subK] at h; subst h; exact hm
  | .fld o i :: p, .agg ts, u, h, m, hm => by
    simp only [sub, subK] at h
    cases ht : ts[i]? with
    | none => simp [ht] at h
    | some t =>
      simp only [ht] at h
      cases hb : Nat.beq (AV.sizeL (ts.take i)) o with
      | false => simp [hb] at h
      | true =>
        simp only [hb, cond_true] at h
        simp only [AV.has]
        exact hasL_mem (List.mem_of_getElem? ht) (sub_has p t u h m hm)
  | [.elt i], .arr k n l, u, h, m, hm => by
    simp only [sub, subK] at h
    cases hb : Nat.blt i n with
    | false => simp [hb] at h
    | true =>
      simp only [hb, cond_true, Option.some.injEq] at h
      subst h
      simp [AV.has] at hm
  | .elt i :: s :: p, .arr k n l, u, h, _, _ => by simp [subK, sub] at h
  | .fld o i :: p, .arr .., u, h, _, _ => by simp [subK, sub] at h
  | .fld o i :: p, .int .., u, h, _, _ => by simp [subK, sub] at h
  | .fld o i :: p, .bool .., u, h, _, _ => by simp [subK, sub] at h
  | .fld o i :: p, .str .., u, h, _, _ => by simp [subK, sub] at h
  | .fld o i :: p, .nil, u, h, _, _ => by simp [subK, sub] at h
  | .fld o i :: p, .ptr .., u, h, _, _ => by simp [subK, sub] at h
  | .fld o i :: p, .tup .., u, h, _, _ => by simp [subK, sub] at h
  | .fld o i :: p, .fn .., u, h, _, _ => by simp [subK, sub] at h
  | .fld o i :: p, .lit .., u, h, _, _ => by simp [subK, sub] at h
  | .elt i :: p, .int .., u, h, _, _ => by cases p <;> simp [subK, sub] at h
  | .elt i :: p, .bool .., u, h, _, _ => by cases p <;> simp [subK, sub] at h
  | .elt i :: p, .str .., u, h, _, _ => by cases p <;> simp [subK, sub] at h
  | .elt i :: p, .nil, u, h, _, _ => by cases p <;> simp [subK, sub] at h
  | .elt i :: p, .ptr .., u, h, _, _ => by cases p <;> simp [subK, sub] at h
  | .elt i :: p, .tup .., u, h, _, _ => by cases p <;> simp [subK, sub] at h
  | .elt i :: p, .fn .., u, h, _, _ => by cases p <;> simp [subK, sub] at h
  | .elt i :: p, .lit .., u, h, _, _ => by cases p <;> simp [subK, sub] at h
  | .elt i :: p, .agg .., u, h, _, _ => by cases p <;> simp [subK, sub] at h

/-- writing x where the path leads; what lay there was as large -/
def putK : List Sel → AV → AV → (AV → Option β) → Option β
  | [], v, x, K => bif Nat.beq v.size x.size then K x else none
  | .fld o i :: p, .agg ts, x, K =>
    match ts[i]? with
    | some t => bif Nat.beq (AV.sizeL (ts.take i)) o then putK p t x (fun t' => K (.agg (ts.set i t'))) else none
    | none => none
  | [.elt i], .arr k n l, .int k' m, K => bif decide (k' = k) then bif Nat.blt i n then K (.arr k n (setP 0 l i m)) else none else none
  | _, _, _, _ => none

def put (p : List Sel) (v x : AV) : Option AV := putK p v x some

theorem putK_eq : ∀ (p : List Sel) (v x : AV) (β : Type) (K : AV → Option β), putK p v x K = (put p v x).bind K
  | [], v, x, _, K => by simp only [putK, put]; cases Nat.beq v.size x.size <;> rfl
  | .fld o i :: p, .agg ts, x, _, K => by
    simp only [putK, put]
    cases ts[i]? with
    | none => rfl
    | some t =>
      simp only
      cases Nat.beq (AV.sizeL (ts.take i)) o with
      | true =>
        simp only [cond_true]
        rw [putK_eq p t x _ (fun t' => K (AV.agg (ts.set i t'))), putK_eq p t x _ (fun t' => some (AV.agg (ts.set i t')))]
        cases put p t x <;> rfl
      | false => rfl
  | [.elt i], .arr k n l, .int k' m, _, K => by
    simp only [putK, put]
    cases decide (k' = k) <;> cases Nat.blt i n <;> rfl
  | [.elt i], .arr .., .bool _, _, K => by simp [putK, put]
  | [.elt i], .arr .., .str _, _, K => by simp [putK, put]
  | [.elt i], .arr .., .nil, _, K => by simp [putK, put]
  | [.elt i], .arr .., .ptr .., _, K => by simp [putK, put]
  | [.elt i], .arr .., .arr .., _, K => by simp [putK, put]
  | [.elt i], .arr .., .agg _, _, K => by simp [putK, put]
  | [.elt i], .arr .., .tup _, _, K => by simp [putK, put]
  | [.elt i], .arr .., .fn _, _, K => by simp [putK, put]
  | [.elt i], .arr .., .lit _, _, K => by simp [putK, put]
  | .elt i :: s :: p, .arr k n l, x, _, K => by simp [putK, put]
  | .fld o i :: p, .arr .., x, _, K => by simp [putK, put]
  | .fld o i :: p, .int .., x, _, K => by simp [putK, put]
  | .fld o i :: p, .bool .., x, _, K => by simp [putK, put]
  | .fld o i :: p, .str .., x, _, K => by simp [putK, put]
  | .fld o i :: p, .nil, x, _, K => by simp [putK, put]
  | .fld o i :: p, .ptr .., x, _, K => by simp [putK, put]
  | .fld o i :: p, .tup .., x, _, K => by simp [putK, put]
  | .fld o i :: p, .fn .., x, _, K => by simp [putK, put]
  | .fld o i :: p, .lit .., x, _, K => by simp [putK, put]
  | .elt i :: p, .int .., x, _, K => by cases p <;> simp [putK, put]
  | .elt i :: p, .bool .., x, _, K => by cases p <;> simp [putK, put]
  | .elt i :: p, .str .., x, _, K => by cases p <;> simp [putK, put]
  | .elt i :: p, .nil, x, _, K => by cases p <;> simp [putK, put]
  | .elt i :: p, .ptr .., x, _, K => by cases p <;> simp [putK, put]
  | .elt i :: p, .tup .., x, _, K => by cases p <;> simp [putK, put]
  | .elt i :: p, .fn .., x, _, K => by cases p <;> simp [putK, put]
  | .elt i :: p, .lit .., x, _, K => by cases p <;> simp [putK, put]
  | .elt i :: p, .agg .., x, _, K => by cases p <;> simp [putK, put]

theorem putK_eq' (p : List Sel) (v x : AV) (K : AV → Option β) : putK p v x K = (put p v x).bind K := putK_eq p v x β K

theorem arrCells_setP (k : IntKind) (n : Nat) (l : List Int) (i : Nat) (m : Int) (h : i < n) :
    arrCells k n (setP 0 l i m) = (arrCells k n l).take i ++ .int k m :: (arrCells k n l).drop (i + 1) := by
  rw [← set_at _ (by simp [arrCells_length, h])]
  apply List.ext_getElem?
  intro j
  have g := getD_setP 0 l i m j
  simp only [List.getElem?_set, arrCells, List.getElem?_map]
  by_cases hj : j < n
  · by_cases hij : i = j
    · subst hij; simp only [if_true] at g; simp [hj, -List.getD_eq_getElem?_getD, g]
    · simp only [hij, if_false] at g; simp [hj, hij, -List.getD_eq_getElem?_getD, g]
  · simp [hj]; omega

/-- what a put makes of the cells -/
theorem put_cells (ρ : Ren) : ∀ (p : List Sel) (v x v' : AV), put p v x = some v' →
    ∃ a u b, v.cells ρ = a ++ u ++ b ∧ v'.cells ρ = a ++ x.cells ρ ++ b ∧ a.length = pOff p ∧ u.length = x.size
  | [], v, x, v', h => by
    simp only [put, putK] at h
    cases hb : Nat.beq v.size x.size with
    | false => simp [hb] at h
    | true =>
      simp only [hb, cond_true, Option.some.injEq] at h
      subst h
      exact ⟨[], v.cells ρ, [], by simp, by simp, rfl, by rw [cells_length]; exact Nat.eq_of_beq_eq_true hb⟩
  | .fld o i :: p, .agg ts, x, v', h => by
    simp only [put, putK] at h
    cases ht : ts[i]? with
    | none => simp [ht] at h
    | some t =>
      simp only [ht] at h
      cases hb : Nat.beq (AV.sizeL (ts.take i)) o with
      | false => simp [hb] at h
      | true =>
        simp only [hb, cond_true] at h
        rw [putK_eq] at h
        cases hp : put p t x with
        | none => simp [hp] at h
        | some t' =>
          simp only [hp, Option.bind_some, Option.some.injEq] at h
          subst h
          obtain ⟨a, u, b, h1, h2, h3, h4⟩ := put_cells ρ p t x t' hp
          have he := Nat.eq_of_beq_eq_true hb
          have hlt : i < ts.length := (List.getElem?_eq_some_iff.1 ht).1
          refine ⟨AV.cellsL ρ (ts.take i) ++ a, u, b ++ AV.cellsL ρ (ts.drop (i + 1)), ?_, ?_, ?_, h4⟩
          · simp only [AV.cells]
            conv => lhs; rw [split_at ht]
            rw [cellsL_append]
            simp [AV.cellsL, h1]
          · simp only [AV.cells]
            rw [set_at _ hlt, cellsL_append]
            simp [AV.cellsL, h2]
          · simp [cellsL_length, pOff, Sel.off, h3, he]
  | [.elt i], .arr k n l, .int k' m, v', h => by
    simp only [put, putK] at h
    cases hk : decide (k' = k) with
    | false => simp [hk] at h
    | true =>
      cases hb : Nat.blt i n with
      | false => simp [hk, hb] at h
      | true =>
        simp only [hk, hb, cond_true, Option.some.injEq] at h
        subst h
        have hkk := of_decide_eq_true hk
        subst hkk
        have hi : i < n := by simp [Nat.blt] at hb; omega
        have hx : (arrCells k' n l)[i]? = some (.int k' (l.getD i 0)) := by simp [arrCells, hi]
        refine ⟨(arrCells k' n l).take i, [.int k' (l.getD i 0)], (arrCells k' n l).drop (i + 1), ?_, ?_, ?_, by simp [AV.size]⟩
        · simp only [AV.cells]
          conv => lhs; rw [split_at hx]
          simp
        · simp only [AV.cells]
          rw [arrCells_setP _ _ _ _ _ hi]
          simp
        · simp [arrCells_length, pOff, Sel.off]; omega
  | [.elt i], .arr .., .bool _, v', h => by simp [putK, put] at h
  | [.elt i], .arr .., .str _, v', h => by simp [putK, put] at h
  | [.elt i], .arr .., .nil, v', h => by simp [putK, put] at h
  | [.elt i], .arr .., .ptr .., v', h => by simp [putK, put] at h
  | [.elt i], .arr .., .arr .., v', h => by simp [putK, put] at h
  | [.elt i], .arr .., .agg _, v', h => by simp [putK, put] at h
  | [.elt i], .arr .., .tup _, v', h => by simp [putK, put] at h
  | [.elt i], .arr .., .fn _, v', h => by simp [putK, put] at h
  | [.elt i], .arr .., .lit _, v', h => by simp [putK, put] at h
  | .elt i :: s :: p, .arr k n l, x, v', h => by simp [putK, put] at h
  | .fld o i :: p, .arr .., x, v', h => by simp [putK, put] at h
  | .fld o i :: p, .int .., x, v', h => by simp [putK, put] at h
  | .fld o i :: p, .bool .., x, v', h => by simp [putK, put] at h
  | .fld o i :: p, .str .., x, v', h => by simp [putK, put] at h
  | .fld o i :: p, .nil, x, v', h => by simp [putK, put] at h
  | .fld o i :: p, .ptr .., x, v', h => by simp [putK, put] at h
  | .fld o i :: p, .tup .., x, v', h => by simp [putK, put] at h
  | .fld o i :: p, .fn .., x, v', h => by simp [putK, put] at h
  | .fld o i :: p, .lit .., x, v', h => by simp [putK, put] at h
  | .elt i :: p, .int .., x, v', h => by cases p <;> simp [putK, put] at h
  | .elt i :: p, .bool .., x, v', h => by cases p <;> simp [putK, put] at h
  | .elt i :: p, .str .., x, v', h => by cases p <;> simp [putK, put] at h
  | .elt i :: p, .nil, x, v', h => by cases p <;> simp [putK, put] at h
  | .elt i :: p, .ptr .., x, v', h => by cases p <;> simp [putK, put] at h
  | .elt i :: p, .tup .., x, v', h => by cases p <;> simp [putK, put] at h
  | .elt i :: p, .fn .., x, v', h => by cases p <;> simp [putK, put] at h
  | .elt i :: p, .lit .., x, v', h => by cases p <;> simp [putK, put] at h
  | .elt i :: p, .agg .., x, v', h => by cases p <;> simp [putK, put] at h

theorem put_size {p : List Sel} {v x v' : AV} (h : put p v x = some v') : v'.size = v.size := by
  obtain ⟨a, u, b, h1, h2, _, h4⟩ := put_cells (fun n => (n, 0)) p v x v' h
  have e1 := congrArg List.length h1
  have e2 := congrArg List.length h2
  simp [cells_length] at e1 e2
  omega

theorem hasL_set {m : Nat} : ∀ {ts : List AV} {i : Nat} {t : AV}, AV.hasL m (ts.set i t) → AV.hasL m ts ∨ t.has m
  | [], _, _, h => .inl h
  | y :: ts, 0, t, h => by
    simp only [List.set_cons_zero, AV.hasL] at h ⊢
    rcases h with h | h
    · exact .inr h
    · exact .inl (.inr h)
  | y :: ts, i + 1, t, h => by
    simp only [List.set_cons_succ, AV.hasL] at h ⊢
    rcases h with h | h
    · exact .inl (.inl h)
    · rcases hasL_set h with h | h
      · exact .inl (.inr h)
      · exact .inr h

theorem put_has : ∀ (p : List Sel) (v x v' : AV), put p v x = some v' → ∀ m, v'.has m → v.has m ∨ x.has m
  | [], v, x, v', h, m, hm => by
    simp only [put, putK] at h
    cases hb : Nat.beq v.size x.size with
    | false => simp [hb] at h
    | true => simp only [hb, cond_true, Option.some.injEq] at h; subst h; exact .inr hm
  | .fld o i :: p, .agg ts, x, v', h, m, hm => by
    simp only [put, putK] at h
    cases ht : ts[i]? with
    | none => simp [ht] at h
    | some t =>
      simp only [ht] at h
      cases hb : Nat.beq (AV.sizeL (ts.take i)) o with
      | false => simp [hb] at h
      | true =>
        simp only [hb, cond_true] at h
        rw [putK_eq] at h
        cases hp : put p t x with
        | none => simp [hp] at h
        | some t' =>
          simp only [hp, Option.bind_some, Option.some.injEq] at h
          subst h
          simp only [AV.has] at hm ⊢
          rcases hasL_set hm with h | h
          · exact .inl h
          · rcases put_has p t x t' hp m h with h | h
            · exact .inl (hasL_mem (List.mem_of_getElem? ht) h)
            · exact .inr h
  | [.elt i], .arr k n l, .int k' m', v', h, m, hm => by
    simp only [put, putK] at h
    cases hk : decide (k' = k) with
    | false => simp [hk] at h
    | true =>
      cases hb : Nat.blt i n with
      | false => simp [hk, hb] at h
      | true =>
        simp only [hk, hb, cond_true, Option.some.injEq] at h
        subst h
        simp [AV.has] at hm
  | [.elt i], .arr .., .bool _, v', h, _, _ => by simp [putK, put] at h
  | [.elt i], .arr .., .str _, v', h, _, _ => by simp [putK, put] at h
  | [.elt i], .arr .., .nil, v', h, _, _ => by simp [putK, put] at h
  | [.elt i], .arr .., .ptr .., v', h, _, _ => by simp [putK, put] at h
  | [.elt i], .arr .., .arr .., v', h, _, _ => by simp [putK, put] at h
  | [.elt i], .arr .., .agg _, v', h, _, _ => by simp [putK, put] at h
  | [.elt i], .arr .., .tup _, v', h, _, _ => by simp [putK, put] at h
  | [.elt i], .arr .., .fn _, v', h, _, _ => by simp [putK, put] at h
  | [.elt i], .arr .., .lit _, v', h, _, _ => by simp [putK, put] at h
  | .elt i :: s :: p, .arr k n l, x, v', h, _, _ => by simp [putK, put] at h
  | .fld o i :: p, .arr .., x, v', h, _, _ => by simp [putK, put] at h
  | .fld o i :: p, .int .., x, v', h, _, _ => by simp [putK, put] at h
  | .fld o i :: p, .bool .., x, v', h, _, _ => by simp [putK, put] at h
  | .fld o i :: p, .str .., x, v', h, _, _ => by simp [putK, put] at h
  | .fld o i :: p, .nil, x, v', h, _, _ => by simp [putK, put] at h
  | .fld o i :: p, .ptr .., x, v', h, _, _ => by simp [putK, put] at h
  | .fld o i :: p, .tup .., x, v', h, _, _ => by simp [putK, put] at h
  | .fld o i :: p, .fn .., x, v', h, _, _ => by simp [putK, put] at h
  | .fld o i :: p, .lit .., x, v', h, _, _ => by simp [putK, put] at h
  | .elt i :: p, .int .., x, v', h, _, _ => by cases p <;> simp [putK, put] at h
  | .elt i :: p, .bool .., x, v', h, _, _ => by cases p <;> simp [putK, put] at h
  | .elt i :: p, .str .., x, v', h, _, _ => by cases p <;> simp [putK, put] at h
  | .elt i :: p, .nil, x, v', h, _, _ => by cases p <;> simp [putK, put] at h
  | .elt i :: p, .ptr .., x, v', h, _, _ => by cases p <;> simp [putK, put] at h
  | .elt i :: p, .tup .., x, v', h, _, _ => by cases p <;> simp [putK, put] at h
  | .elt i :: p, .fn .., x, v', h, _, _ => by cases p <;> simp [putK, put] at h
  | .elt i :: p, .lit .., x, v', h, _, _ => by cases p <;> simp [putK, put] at h
  | .elt i :: p, .agg .., x, v', h, _, _ => by cases p <;> simp [putK, put] at h


theorem sub_wf : ∀ (p : List Sel) (v u : AV), sub p v = some u → v.wf → u.wf
  | [], v, u, h, hv => by simp [sub, subK] at h; subst h; exact hv
  | .fld o i :: p, .agg ts, u, h, hv => by
    simp only [sub, subK] at h
    cases ht : ts[i]? with
    | none => simp [ht] at h
    | some t =>
      simp only [ht] at h
      cases hb : Nat.beq (AV.sizeL (ts.take i)) o with
      | false => simp [hb] at h
      | true =>
        simp only [hb, cond_true] at h
        simp only [AV.wf] at hv
        exact sub_wf p t u h (wfL_mem hv (List.mem_of_getElem? ht))
  | [.elt i], .arr k n l, u, h, hv => by
    simp only [sub, subK] at h
    cases hb : Nat.blt i n with
    | false => simp [hb] at h
    | true =>
      simp only [hb, cond_true, Option.some.injEq] at h
      subst h
      simp only [AV.wf] at hv ⊢
      exact hv i (by simp [Nat.blt] at hb; omega)
  | .elt i :: s :: p, .arr k n l, u, h, _ => by simp [subK, sub] at h
  | .fld o i :: p, .arr .., u, h, _ => by simp [subK, sub] at h
  | .fld o i :: p, .int .., u, h, _ => by simp [subK, sub] at h
  | .fld o i :: p, .bool .., u, h, _ => by simp [subK, sub] at h
  | .fld o i :: p, .str .., u, h, _ => by simp [subK, sub] at h
  | .fld o i :: p, .nil, u, h, _ => by simp [subK, sub] at h
  | .fld o i :: p, .ptr .., u, h, _ => by simp [subK, sub] at h
  | .fld o i :: p, .tup .., u, h, _ => by simp [subK, sub] at h
  | .fld o i :: p, .fn .., u, h, _ => by simp [subK, sub] at h
  | .fld o i :: p, .lit .., u, h, _ => by simp [subK, sub] at h
  | .elt i :: p, .int .., u, h, _ => by cases p <;> simp [subK, sub] at h
  | .elt i :: p, .bool .., u, h, _ => by cases p <;> simp [subK, sub] at h
  | .elt i :: p, .str .., u, h, _ => by cases p <;> simp [subK, sub] at h
  | .elt i :: p, .nil, u, h, _ => by cases p <;> simp [subK, sub] at h
  | .elt i :: p, .ptr .., u, h, _ => by cases p <;> simp [subK, sub] at h
  | .elt i :: p, .tup .., u, h, _ => by cases p <;> simp [subK, sub] at h
  | .elt i :: p, .fn .., u, h, _ => by cases p <;> simp [subK, sub] at h
  | .elt i :: p, .lit .., u, h, _ => by cases p <;> simp [subK, sub] at h
  | .elt i :: p, .agg .., u, h, _ => by cases p <;> simp [subK, sub] at h

theorem put_wf : ∀ (p : List Sel) (v x v' : AV), put p v x = some v' → v.wf → x.wf → v'.wf
  | [], v, x, v', h, _, hx => by
    simp only [put, putK] at h
    cases hb : Nat.beq v.size x.size with
    | false => simp [hb] at h
    | true => simp only [hb, cond_true, Option.some.injEq] at h; subst h; exact hx
  | .fld o i :: p, .agg ts, x, v', h, hv, hx => by
    simp only [put, putK] at h
    cases ht : ts[i]? with
    | none => simp [ht] at h
    | some t =>
      simp only [ht] at h
      cases hb : Nat.beq (AV.sizeL (ts.take i)) o with
      | false => simp [hb] at h
      | true =>
        simp only [hb, cond_true] at h
        rw [putK_eq] at h
        cases hp : put p t x with
        | none => simp [hp] at h
        | some t' =>
          simp only [hp, Option.bind_some, Option.some.injEq] at h
          subst h
          simp only [AV.wf] at hv ⊢
          exact wfL_set hv (put_wf p t x t' hp (wfL_mem hv (List.mem_of_getElem? ht)) hx)
  | [.elt i], .arr k n l, .int k' m', v', h, hv, hx => by
    simp only [put, putK] at h
    cases hk : decide (k' = k) with
    | false => simp [hk] at h
    | true =>
      cases hb : Nat.blt i n with
      | false => simp [hk, hb] at h
      | true =>
        simp only [hk, hb, cond_true, Option.some.injEq] at h
        have := of_decide_eq_true hk
        subst this
        subst h
        simp only [AV.wf] at hv hx ⊢
        intro j hj
        rw [getD_setP]
        split
        · exact hx
        · exact hv j hj
  | [.elt i], .arr .., .bool _, v', h, _, _ => by simp [putK, put] at h
  | [.elt i], .arr .., .str _, v', h, _, _ => by simp [putK, put] at h
  | [.elt i], .arr .., .nil, v', h, _, _ => by simp [putK, put] at h
  | [.elt i], .arr .., .ptr .., v', h, _, _ => by simp [putK, put] at h
  | [.elt i], .arr .., .arr .., v', h, _, _ => by simp [putK, put] at h
  | [.elt i], .arr .., .agg _, v', h, _, _ => by simp [putK, put] at h
  | [.elt i], .arr .., .tup _, v', h, _, _ => by simp [putK, put] at h
  | [.elt i], .arr .., .fn _, v', h, _, _ => by simp [putK, put] at h
  | [.elt i], .arr .., .lit _, v', h, _, _ => by simp [putK, put] at h
  | .elt i :: s :: p, .arr k n l, x, v', h, _, _ => by simp [putK, put] at h
  | .fld o i :: p, .arr .., x, v', h, _, _ => by simp [putK, put] at h
  | .fld o i :: p, .int .., x, v', h, _, _ => by simp [putK, put] at h
  | .fld o i :: p, .bool .., x, v', h, _, _ => by simp [putK, put] at h
  | .fld o i :: p, .str .., x, v', h, _, _ => by simp [putK, put] at h
  | .fld o i :: p, .nil, x, v', h, _, _ => by simp [putK, put] at h
  | .fld o i :: p, .ptr .., x, v', h, _, _ => by simp [putK, put] at h
  | .fld o i :: p, .tup .., x, v', h, _, _ => by simp [putK, put] at h
  | .fld o i :: p, .fn .., x, v', h, _, _ => by simp [putK, put] at h
  | .fld o i :: p, .lit .., x, v', h, _, _ => by simp [putK, put] at h
  | .elt i :: p, .int .., x, v', h, _, _ => by cases p <;> simp [putK, put] at h
  | .elt i :: p, .bool .., x, v', h, _, _ => by cases p <;> simp [putK, put] at h
  | .elt i :: p, .str .., x, v', h, _, _ => by cases p <;> simp [putK, put] at h
  | .elt i :: p, .nil, x, v', h, _, _ => by cases p <;> simp [putK, put] at h
  | .elt i :: p, .ptr .., x, v', h, _, _ => by cases p <;> simp [putK, put] at h
  | .elt i :: p, .tup .., x, v', h, _, _ => by cases p <;> simp [putK, put] at h
  | .elt i :: p, .fn .., x, v', h, _, _ => by cases p <;> simp [putK, put] at h
  | .elt i :: p, .lit .., x, v', h, _, _ => by cases p <;> simp [putK, put] at h
  | .elt i :: p, .agg .., x, v', h, _, _ => by cases p <;> simp [putK, put] at h


theorem sub_put_size : ∀ {p : List Sel} {v x v' t : AV}, sub p v = some t → put p v x = some v' → t.size = x.size
  | [], v, x, v', t, hs, hp => by
    simp [sub, subK] at hs; subst hs
    simp only [put, putK] at hp
    cases hb : Nat.beq v.size x.size with
    | false => simp [hb] at hp
    | true => exact Nat.eq_of_beq_eq_true hb
  | .fld o i :: p, .agg ts, x, v', t, hs, hp => by
    simp only [sub, subK] at hs
    simp only [put, putK] at hp
    cases ht : ts[i]? with
    | none => simp [ht] at hs
    | some u =>
      simp only [ht] at hs hp
      cases hb : Nat.beq (AV.sizeL (ts.take i)) o with
      | false => simp [hb] at hs
      | true =>
        simp only [hb, cond_true] at hs hp
        rw [putK_eq] at hp
        cases hq : put p u x with
        | none => simp [hq] at hp
        | some u' => exact sub_put_size (p := p) hs hq
  | [.elt i], .arr k n l, x, v', t, hs, hp => by
    simp only [sub, subK] at hs
    cases hb : Nat.blt i n with
    | false => simp [hb] at hs
    | true =>
      simp only [hb, cond_true, Option.some.injEq] at hs
      subst hs
      cases x <;> simp [put, putK] at hp
      simp [AV.size]
  | .elt i :: s :: p, .arr k n l, x, v', t, hs, _ => by simp [sub, subK] at hs
  | .fld o i :: p, .arr .., x, v', t, hs, _ => by simp [sub, subK] at hs
  | .fld o i :: p, .int .., x, v', t, hs, _ => by simp [sub, subK] at hs
  | .fld o i :: p, .bool .., x, v', t, hs, _ => by simp [sub, subK] at hs
  | .fld o i :: p, .str .., x, v', t, hs, _ => by simp [sub, subK] at hs
  | .fld o i :: p, .nil, x, v', t, hs, _ => by simp [sub, subK] at hs
  | .fld o i :: p, .ptr .., x, v', t, hs, _ => by simp [sub, subK] at hs
  | .fld o i :: p, .tup .., x, v', t, hs, _ => by simp [sub, subK] at hs
  | .fld o i :: p, .fn .., x, v', t, hs, _ => by simp [sub, subK] at hs
  | .fld o i :: p, .lit .., x, v', t, hs, _ => by simp [sub, subK] at hs
  | .elt i :: p, .int .., x, v', t, hs, _ => by cases p <;> simp [sub, subK] at hs
  | .elt i :: p, .bool .., x, v', t, hs, _ => by cases p <;> simp [sub, subK] at hs
  | .elt i :: p, .str .., x, v', t, hs, _ => by cases p <;> simp [sub, subK] at hs
  | .elt i :: p, .nil, x, v', t, hs, _ => by cases p <;> simp [sub, subK] at hs
  | .elt i :: p, .ptr .., x, v', t, hs, _ => by cases p <;> simp [sub, subK] at hs
  | .elt i :: p, .tup .., x, v', t, hs, _ => by cases p <;> simp [sub, subK] at hs
  | .elt i :: p, .fn .., x, v', t, hs, _ => by cases p <;> simp [sub, subK] at hs
  | .elt i :: p, .lit .., x, v', t, hs, _ => by cases p <;> simp [sub, subK] at hs
  | .elt i :: p, .agg .., x, v', t, hs, _ => by cases p <;> simp [sub, subK] at hs

end Go.Sim
