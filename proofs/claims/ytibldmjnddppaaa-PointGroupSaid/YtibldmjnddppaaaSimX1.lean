/- The abstract values of the deterministic evaluator, how they stand for the model's values and cells, and the plain laws of both. Paths into trees: reading and writing what lies there. The value of an operation that looks at no memory, and that the model's operation yields just that value. The operations that look at no memory. The value of an operation that looks at no memory: 'valK', its law, and that the model's operation yields it. That the model's operation yields the value that 'val' tells. 'val' is what the model's operation yields, whatever the world. The state, one operation, a region in the order of the text. Operations that do not wait for one another may change places: whatever order is drawn, the state at the end is that of the text's order. Two operations that do not wait for one another, in either order; a region in any order. -/
import Derived.Calls
import Derived.Orders
import Derived.Laws.Tables
import Derived.Laws.StructEq
import Derived.DeepKeys
import Derived.Deep.MidRow
namespace Go.Sim

/-- a step of a path into a tree: to child i of an aggregate, at cell o; or to element i of a row of integers -/
inductive Sel where
  | fld (o i : Nat)
  | elt (i : Nat)
  deriving DecidableEq

def Sel.off : Sel → Nat
  | .fld o _ => o
  | .elt i => i

def pOff : List Sel → Nat
  | [] => 0
  | s :: p => s.off + pOff p

/-- closed values of one cell -/
inductive Cn where
  | nilSlice | nilMap | nilFunc | nilIface

def Cn.val : Cn → Value
  | .nilSlice => .slice none 0 0
  | .nilMap => .map none
  | .nilFunc => .nilFunc
  | .nilIface => .nilIface

inductive AV where
  | int (k : IntKind) (n : Int)
  | bool (b : Bool)
  | str (s : List UInt8)
  | nil
  | ptr (n : Nat) (p : List Sel)
  | arr (k : IntKind) (n : Nat) (l : List Int)
  | agg (l : List AV)
  | tup (l : List AV)
  | fn (f : FuncId)
  | lit (c : Cn)

def undefA : AV := .tup []

mutual
def AV.size : AV → Nat
  | .arr _ n _ => n
  | .agg ts => AV.sizeL ts
  | _ => 1
def AV.sizeL : List AV → Nat
  | [] => 0
  | t :: ts => t.size + AV.sizeL ts
end

abbrev Ren := Nat → Nat × Nat

def arrCells (k : IntKind) (n : Nat) (l : List Int) : List Value := (List.range n).map fun j => .int k (l.getD j 0)

mutual
def AV.enc (ρ : Ren) : AV → Value
  | .int k n => .int k n
  | .bool b => .bool b
  | .str s => .string ⟨s.toArray⟩
  | .nil => .pointer none
  | .ptr n p => .pointer (some ⟨(ρ n).1, (ρ n).2 + pOff p, none⟩)
  | .arr k n l => .agg (arrCells k n l).toArray
  | .agg ts => .agg (AV.cellsL ρ ts).toArray
  | .tup ts => .tuple (AV.encL ρ ts).toArray
  | .fn f => .func (.func f) #[] #[]
  | .lit c => c.val
def AV.encL (ρ : Ren) : List AV → List Value
  | [] => []
  | t :: ts => t.enc ρ :: AV.encL ρ ts
def AV.cells (ρ : Ren) : AV → List Value
  | .arr k n l => arrCells k n l
  | .agg ts => AV.cellsL ρ ts
  | .int k n => [.int k n]
  | .bool b => [.bool b]
  | .str s => [.string ⟨s.toArray⟩]
  | .nil => [.pointer none]
  | .ptr n p => [.pointer (some ⟨(ρ n).1, (ρ n).2 + pOff p, none⟩)]
  | .tup ts => [.tuple (AV.encL ρ ts).toArray]
  | .fn f => [.func (.func f) #[] #[]]
  | .lit c => [c.val]
def AV.cellsL (ρ : Ren) : List AV → List Value
  | [] => []
  | t :: ts => t.cells ρ ++ AV.cellsL ρ ts
end

def AV.isAgg : AV → Bool
  | .arr .. | .agg _ => true
  | _ => false

theorem encL_eq (ρ : Ren) : ∀ ts : List AV, AV.encL ρ ts = ts.map (AV.enc ρ)
  | [] => by simp [AV.encL]
  | t :: ts => by simp [AV.encL, encL_eq ρ ts]

theorem cells_of_not {ρ : Ren} {v : AV} (h : v.isAgg = false) : v.cells ρ = [v.enc ρ] := by
  cases v <;> simp_all [AV.isAgg, AV.cells, AV.enc]

theorem enc_of_agg {ρ : Ren} {v : AV} (h : v.isAgg = true) : v.enc ρ = .agg (v.cells ρ).toArray := by
  cases v <;> simp_all [AV.isAgg, AV.cells, AV.enc]

theorem enc_cells (ρ : Ren) (v : AV) : (v.enc ρ).cells.toList = v.cells ρ := by
  cases v <;> simp [AV.enc, AV.cells, Value.cells]
  case lit c => cases c <;> simp [Cn.val]

theorem arrCells_length (k : IntKind) (n : Nat) (l : List Int) : (arrCells k n l).length = n := by simp [arrCells]

mutual
theorem cells_length (ρ : Ren) : ∀ v : AV, (v.cells ρ).length = v.size
  | .arr k n l => by simp [AV.cells, AV.size, arrCells_length]
  | .agg ts => by simp [AV.cells, AV.size, cellsL_length ρ ts]
  | .int .. | .bool _ | .str _ | .nil | .ptr .. | .tup _ | .fn _ | .lit _ => by simp [AV.cells, AV.size]
theorem cellsL_length (ρ : Ren) : ∀ ts : List AV, (AV.cellsL ρ ts).length = AV.sizeL ts
  | [] => by simp [AV.cellsL, AV.sizeL]
  | t :: ts => by simp [AV.cellsL, AV.sizeL, cells_length ρ t, cellsL_length ρ ts]
end

/- the names that a value bears -/
mutual
def AV.has (m : Nat) : AV → Prop
  | .ptr n _ => n = m
  | .agg ts => AV.hasL m ts
  | .tup ts => AV.hasL m ts
  | _ => False
def AV.hasL (m : Nat) : List AV → Prop
  | [] => False
  | t :: ts => t.has m ∨ AV.hasL m ts
end

/- a test that a value's names are all among those that a test lets -/
mutual
def AV.names (q : Nat → Bool) : AV → Bool
  | .ptr n _ => q n
  | .agg ts => AV.namesL q ts
  | .tup ts => AV.namesL q ts
  | _ => true
def AV.namesL (q : Nat → Bool) : List AV → Bool
  | [] => true
  | t :: ts => t.names q && AV.namesL q ts
end

mutual
theorem names_has {q : Nat → Bool} {m : Nat} : ∀ v : AV, v.names q = true → v.has m → q m = true
  | .ptr n p => by intro h e; simp only [AV.has] at e; subst e; simpa [AV.names] using h
  | .agg ts => by intro h e; exact namesL_has ts (by simpa [AV.names] using h) (by simpa [AV.has] using e)
  | .tup ts => by intro h e; exact namesL_has ts (by simpa [AV.names] using h) (by simpa [AV.has] using e)
  | .int .. | .bool _ | .str _ | .nil | .arr .. | .fn _ | .lit _ => by intro _ e; simp [AV.has] at e
theorem namesL_has {q : Nat → Bool} {m : Nat} : ∀ ts : List AV, AV.namesL q ts = true → AV.hasL m ts → q m = true
  | [] => by intro _ e; simp [AV.hasL] at e
  | t :: ts => by
    intro h e
    simp only [AV.namesL, Bool.and_eq_true] at h
    simp only [AV.hasL] at e
    rcases e with e | e
    · exact names_has t h.1 e
    · exact namesL_has ts h.2 e
end

mutual
theorem enc_congr {ρ ρ' : Ren} : ∀ v : AV, (∀ m, v.has m → ρ m = ρ' m) → v.enc ρ = v.enc ρ'
  | .ptr n p => by intro h; have := h n (by simp [AV.has]); simp [AV.enc, this]
  | .agg ts => by intro h; have := cellsL_congr ts (fun m hm => h m (by simpa [AV.has] using hm)); simp [AV.enc, this]
  | .tup ts => by intro h; have := encL_congr ts (fun m hm => h m (by simpa [AV.has] using hm)); simp [AV.enc, this]
  | .int .. | .bool _ | .str _ | .nil | .arr .. | .fn _ | .lit _ => by intro _; simp [AV.enc]
theorem encL_congr {ρ ρ' : Ren} : ∀ ts : List AV, (∀ m, AV.hasL m ts → ρ m = ρ' m) → AV.encL ρ ts = AV.encL ρ' ts
  | [] => by intro _; simp [AV.encL]
  | t :: ts => by
    intro h
    simp only [AV.encL]
    rw [enc_congr t (fun m hm => h m (by simp [AV.hasL, hm])), encL_congr ts (fun m hm => h m (by simp [AV.hasL, hm]))]
theorem cells_congr {ρ ρ' : Ren} : ∀ v : AV, (∀ m, v.has m → ρ m = ρ' m) → v.cells ρ = v.cells ρ'
  | .ptr n p => by intro h; have := h n (by simp [AV.has]); simp [AV.cells, this]
  | .agg ts => by intro h; have := cellsL_congr ts (fun m hm => h m (by simpa [AV.has] using hm)); simp [AV.cells, this]
  | .tup ts => by intro h; have := encL_congr ts (fun m hm => h m (by simpa [AV.has] using hm)); simp [AV.cells, this]
  | .int .. | .bool _ | .str _ | .nil | .arr .. | .fn _ | .lit _ => by intro _; simp [AV.cells]
theorem cellsL_congr {ρ ρ' : Ren} : ∀ ts : List AV, (∀ m, AV.hasL m ts → ρ m = ρ' m) → AV.cellsL ρ ts = AV.cellsL ρ' ts
  | [] => by intro _; simp [AV.cellsL]
  | t :: ts => by
    intro h
    simp only [AV.cellsL]
    rw [cells_congr t (fun m hm => h m (by simp [AV.hasL, hm])), cellsL_congr ts (fun m hm => h m (by simp [AV.hasL, hm]))]
end

theorem hasL_mem {m : Nat} : ∀ {ts : List AV} {t : AV}, t ∈ ts → t.has m → AV.hasL m ts
  | _ :: _, _, .head _, h => by simp [AV.hasL, h]
  | _ :: ts, _, .tail _ ht, h => by simp [AV.hasL, hasL_mem ht h]

theorem mem_hasL {m : Nat} : ∀ {ts : List AV}, AV.hasL m ts → ∃ t, t ∈ ts ∧ t.has m
  | [], h => by simp [AV.hasL] at h
  | t :: ts, h => by
    simp only [AV.hasL] at h
    rcases h with h | h
    · exact ⟨t, .head _, h⟩
    · obtain ⟨u, hu, hm⟩ := mem_hasL h; exact ⟨u, .tail _ hu, hm⟩

/- a list whose place i bears x from now on (what lacks before it is filled up) -/
def setP {α : Type} (d : α) : List α → Nat → α → List α
  | [], 0, x => [x]
  | [], i + 1, x => d :: setP d [] i x
  | _ :: l, 0, x => x :: l
  | y :: l, i + 1, x => y :: setP d l i x

theorem length_setP {α : Type} (d : α) : ∀ (l : List α) (i : Nat) (x : α), i < l.length → (setP d l i x).length = l.length
  | [], i, _, h => absurd h (Nat.not_lt_zero i)
  | _ :: l, 0, x, _ => rfl
  | y :: l, i + 1, x, h => by simp only [setP, List.length_cons] at h ⊢; rw [length_setP d l i x (by omega)]

theorem getD_setP {α : Type} (d : α) : ∀ (l : List α) (i : Nat) (x : α) (j : Nat), (setP d l i x).getD j d = if i = j then x else l.getD j d
  | [], 0, x, 0 => by simp [setP]
  | [], 0, x, j + 1 => by simp [setP]
  | [], i + 1, x, 0 => by simp [setP]
  | [], i + 1, x, j + 1 => by simp only [setP, List.getD_cons_succ, getD_setP d [] i x j]; simp
  | y :: l, 0, x, 0 => by simp [setP]
  | y :: l, 0, x, j + 1 => by simp [setP]
  | y :: l, i + 1, x, 0 => by simp [setP]
  | y :: l, i + 1, x, j + 1 => by simp only [setP, List.getD_cons_succ, getD_setP d l i x j]; simp

theorem setP_comm {α : Type} (d : α) : ∀ (l : List α) (i j : Nat) (x y : α), i ≠ j → setP d (setP d l i x) j y = setP d (setP d l j y) i x
  | _, 0, 0, _, _, h => absurd rfl h
  | [], 0, j + 1, x, y, _ => by simp [setP]
  | [], i + 1, 0, x, y, _ => by simp [setP]
  | [], i + 1, j + 1, x, y, h => by simp only [setP]; rw [setP_comm d [] i j x y (by omega)]
  | z :: l, 0, j + 1, x, y, _ => by simp [setP]
  | z :: l, i + 1, 0, x, y, _ => by simp [setP]
  | z :: l, i + 1, j + 1, x, y, h => by simp only [setP]; rw [setP_comm d l i j x y (by omega)]

theorem setP_self {α : Type} (d : α) : ∀ (l : List α) (i : Nat) (x : α), l[i]? = some x → setP d l i x = l
  | [], _, _, h => by simp at h
  | y :: l, 0, x, h => by simp at h; simp [setP, h]
  | y :: l, i + 1, x, h => by simp at h; simp [setP, setP_self d l i x h]

theorem setP_length {α : Type} (d : α) : ∀ (l : List α) (i : Nat) (x : α), i < l.length → (setP d l i x).length = l.length
  | [], _, _, h => by simp at h
  | y :: l, 0, x, _ => by simp [setP]
  | y :: l, i + 1, x, h => by simp [setP, setP_length d l i x (by simpa using h)]

theorem setP_eq_set {α : Type} (d : α) : ∀ (l : List α) (i : Nat) (x : α), i < l.length → setP d l i x = l.set i x
  | [], _, _, h => by simp at h
  | y :: l, 0, x, _ => by simp [setP]
  | y :: l, i + 1, x, h => by simp [setP, setP_eq_set d l i x (by simpa using h)]


/-- a number of its kind -/
def inK : IntKind → Int → Prop
  | .u8, n => 0 ≤ n ∧ n < 256
  | .u16, n => 0 ≤ n ∧ n < 65536
  | .u32, n => 0 ≤ n ∧ n < 4294967296
  | .u64, n => 0 ≤ n ∧ n < 18446744073709551616
  | .i8, n => -128 ≤ n ∧ n < 128
  | .i16, n => -32768 ≤ n ∧ n < 32768
  | .i32, n => -2147483648 ≤ n ∧ n < 2147483648
  | .i64, n => -9223372036854775808 ≤ n ∧ n < 9223372036854775808

def inKB : IntKind → Int → Bool
  | .u8, n => decide (0 ≤ n) && decide (n < 256)
  | .u16, n => decide (0 ≤ n) && decide (n < 65536)
  | .u32, n => decide (0 ≤ n) && decide (n < 4294967296)
  | .u64, n => decide (0 ≤ n) && decide (n < 18446744073709551616)
  | .i8, n => decide (-128 ≤ n) && decide (n < 128)
  | .i16, n => decide (-32768 ≤ n) && decide (n < 32768)
  | .i32, n => decide (-2147483648 ≤ n) && decide (n < 2147483648)
  | .i64, n => decide (-9223372036854775808 ≤ n) && decide (n < 9223372036854775808)

theorem inKB_spec {k : IntKind} {n : Int} (h : inKB k n = true) : inK k n := by
  cases k <;> simpa [inKB, inK] using h

/- numbers are of their kinds, texts are no longer than any -/
mutual
def AV.wf : AV → Prop
  | .int k n => inK k n
  | .arr k n l => l.length = n ∧ ∀ j, j < n → inK k (l.getD j 0)
  | .str s => s.length < 9223372036854775808
  | .agg ts => AV.wfL ts
  | .tup ts => AV.wfL ts
  | _ => True
def AV.wfL : List AV → Prop
  | [] => True
  | t :: ts => t.wf ∧ AV.wfL ts
end

theorem wfL_mem : ∀ {ts : List AV} {t : AV}, AV.wfL ts → t ∈ ts → t.wf
  | _ :: _, _, h, .head _ => by simp only [AV.wfL] at h; exact h.1
  | _ :: ts, _, h, .tail _ ht => by simp only [AV.wfL] at h; exact wfL_mem h.2 ht

theorem wfL_of : ∀ {ts : List AV}, (∀ t ∈ ts, t.wf) → AV.wfL ts
  | [], _ => by simp [AV.wfL]
  | t :: ts, h => by simp only [AV.wfL]; exact ⟨h t (by simp), wfL_of fun u hu => h u (by simp [hu])⟩

theorem wfL_set {ts : List AV} {i : Nat} {t : AV} (h : AV.wfL ts) (ht : t.wf) : AV.wfL (ts.set i t) :=
  wfL_of fun u hu => by
    rcases List.mem_or_eq_of_mem_set hu with h' | h'
    · exact wfL_mem h h'
    · exact h' ▸ ht

end Go.Sim
namespace Go.Sim
variable {β : Type}

def subK : List Sel → AV → (AV → Option β) → Option β
  | [], v, K => K v
  | .fld o i :: p, .agg ts, K =>
    match ts[i]? with
    | some t => bif Nat.beq (AV.sizeL (ts.take i)) o then subK p t K else none
    | none => none
  | [.elt i], .arr k n l, K => bif Nat.blt i n then K (.int k (l.getD i 0)) else none
  | _, _, _ => none

def sub (p : List Sel) (v : AV) : Option AV := subK p v some

theorem subK_eq : ∀ (p : List Sel) (v : AV) (K : AV → Option β), subK p v K = (sub p v).bind K
  | [], v, K => by simp [subK, sub]
  | .fld o i :: p, .agg ts, K => by
    simp only [subK, sub]
    cases ts[i]? with
    | none => rfl
    | some t =>
      simp only
      cases Nat.beq (AV.sizeL (ts.take i)) o with
      | true => simp only [cond_true]; rw [subK_eq p t K]; rfl
      | false => rfl
  | [.elt i], .arr k n l, K => by
    simp only [subK, sub]
    cases Nat.blt i n <;> rfl
  | .elt i :: s :: p, .arr k n l, K => by simp [subK, sub]
  | .fld o i :: p, .arr .., K => by simp [subK, sub]
  | .fld o i :: p, .int .., K => by simp [subK, sub]
  | .fld o i :: p, .bool .., K => by simp [subK, sub]
  | .fld o i :: p, .str .., K => by simp [subK, sub]
  | .fld o i :: p, .nil, K => by simp [subK, sub]
  | .fld o i :: p, .ptr .., K => by simp [subK, sub]
  | .fld o i :: p, .tup .., K => by simp [subK, sub]
  | .fld o i :: p, .fn .., K => by simp [subK, sub]
  | .fld o i :: p, .lit .., K => by simp [subK, sub]
  | .elt i :: p, .int .., K => by cases p <;> simp [subK, sub]
  | .elt i :: p, .bool .., K => by cases p <;> simp [subK, sub]
  | .elt i :: p, .str .., K => by cases p <;> simp [subK, sub]
  | .elt i :: p, .nil, K => by cases p <;> simp [subK, sub]
  | .elt i :: p, .ptr .., K => by cases p <;> simp [subK, sub]
  | .elt i :: p, .tup .., K => by cases p <;> simp [subK, sub]
  | .elt i :: p, .fn .., K => by cases p <;> simp [subK, sub]
  | .elt i :: p, .lit .., K => by cases p <;> simp [subK, sub]
  | .elt i :: p, .agg .., K => by cases p <;> simp [subK, sub]

theorem cellsL_append (ρ : Ren) : ∀ a b : List AV, AV.cellsL ρ (a ++ b) = AV.cellsL ρ a ++ AV.cellsL ρ b
  | [], b => by simp [AV.cellsL]
  | t :: a, b => by simp [AV.cellsL, cellsL_append ρ a b]

theorem split_at {α : Type} {l : List α} {i : Nat} {x : α} (h : l[i]? = some x) : l = l.take i ++ x :: l.drop (i + 1) := by
  obtain ⟨hi, rfl⟩ := List.getElem?_eq_some_iff.1 h
  simp

theorem set_at {α : Type} {l : List α} {i : Nat} (x : α) (h : i < l.length) : l.set i x = l.take i ++ x :: l.drop (i + 1) := by
  rw [List.set_eq_take_append_cons_drop, if_pos h]

/-- what lies at a path is a segment of the cells -/
theorem sub_cells (ρ : Ren) : ∀ (p : List Sel) (v u : AV), sub p v = some u →
    ∃ a b, v.cells ρ = a ++ u.cells ρ ++ b ∧ a.length = pOff p
  | [], v, u, h => by simp [sub, subK] at h; subst h; exact ⟨[], [], by simp, rfl⟩
  | .fld o i :: p, .agg ts, u, h => by
    simp only [sub, subK] at h
    cases ht : ts[i]? with
    | none => simp [ht] at h
    | some t =>
      simp only [ht] at h
      cases hb : Nat.beq (AV.sizeL (ts.take i)) o with
      | false => simp [hb] at h
      | true =>
        simp only [hb, cond_true] at h
        obtain ⟨a, b, h1, h2⟩ := sub_cells ρ p t u h
        have he := Nat.eq_of_beq_eq_true hb
        refine ⟨AV.cellsL ρ (ts.take i) ++ a, b ++ AV.cellsL ρ (ts.drop (i + 1)), ?_, ?_⟩
        · have hs := split_at ht
          simp only [AV.cells]
          conv => lhs; rw [hs]
          rw [cellsL_append]
          simp [AV.cellsL, h1]
        · simp [cellsL_length, pOff, Sel.off, h2, he]
  | [.elt i], .arr k n l, u, h => by
    simp only [sub, subK] at h
    cases hb : Nat.blt i n with
    | false => simp [hb] at h
    | true =>
      simp only [hb, cond_true, Option.some.injEq] at h
      subst h
      have hi : i < n := by simp [Nat.blt] at hb; omega
      have hx : (arrCells k n l)[i]? = some (.int k (l.getD i 0)) := by simp [arrCells, hi]
      refine ⟨(arrCells k n l).take i, (arrCells k n l).drop (i + 1), ?_, ?_⟩
      · simp only [AV.cells]
        conv => lhs; rw [split_at hx]
        simp
      · simp [arrCells_length, pOff, Sel.off]; omega
  | .elt i :: s :: p, .arr k n l, u, h => by simp [subK, sub] at h
  | .fld o i :: p, .arr .., u, h => by simp [subK, sub] at h
  | .fld o i :: p, .int .., u, h => by simp [subK, sub] at h
  | .fld o i :: p, .bool .., u, h => by simp [subK, sub] at h
  | .fld o i :: p, .str .., u, h => by simp [subK, sub] at h
  | .fld o i :: p, .nil, u, h => by simp [subK, sub] at h
  | .fld o i :: p, .ptr .., u, h => by simp [subK, sub] at h
  | .fld o i :: p, .tup .., u, h => by simp [subK, sub] at h
  | .fld o i :: p, .fn .., u, h => by simp [subK, sub] at h
  | .fld o i :: p, .lit .., u, h => by simp [subK, sub] at h
  | .elt i :: p, .int .., u, h => by cases p <;> simp [subK, sub] at h
  | .elt i :: p, .bool .., u, h => by cases p <;> simp [subK, sub] at h
  | .elt i :: p, .str .., u, h => by cases p <;> simp [subK, sub] at h
  | .elt i :: p, .nil, u, h => by cases p <;> simp [subK, sub] at h
  | .elt i :: p, .ptr .., u, h => by cases p <;> simp [subK, sub] at h
  | .elt i :: p, .tup .., u, h => by cases p <;> simp [subK, sub] at h
  | .elt i :: p, .fn .., u, h => by cases p <;> simp [subK, sub] at h
  | .elt i :: p, .lit .., u, h => by cases p <;> simp [subK, sub] at h
  | .elt i :: p, .agg .., u, h => by cases p <;> simp [subK, sub] at h

theorem sub_has : ∀ (p : List Sel) (v u : AV), sub p v = some u → ∀ m, u.has m → v.has m
  | [], v, u, h, m, hm => by simp [sub, subK] at h; subst h; exact hm
  | .fld o i :: p, .agg ts, u, h, m, hm => by
    simp only [sub, subK] at h
    cases ht : ts[i]? with
    | none => simp [ht] at h
    | some t =>
      simp only [ht] at h
      cases hb : Nat.beq (AV.sizeL (ts.take i)) o with
      | false => simp [hb] at h
      | true =>
        simp only [hb, cond_true] at h
        simp only [AV.has]
        exact hasL_mem (List.mem_of_getElem? ht) (sub_has p t u h m hm)
  | [.elt i], .arr k n l, u, h, m, hm => by
    simp only [sub, subK] at h
    cases hb : Nat.blt i n with
    | false => simp [hb] at h
    | true =>
      simp only [hb, cond_true, Option.some.injEq] at h
      subst h
      simp [AV.has] at hm
  | .elt i :: s :: p, .arr k n l, u, h, _, _ => by simp [subK, sub] at h
  | .fld o i :: p, .arr .., u, h, _, _ => by simp [subK, sub] at h
  | .fld o i :: p, .int .., u, h, _, _ => by simp [subK, sub] at h
  | .fld o i :: p, .bool .., u, h, _, _ => by simp [subK, sub] at h
  | .fld o i :: p, .str .., u, h, _, _ => by simp [subK, sub] at h
  | .fld o i :: p, .nil, u, h, _, _ => by simp [subK, sub] at h
  | .fld o i :: p, .ptr .., u, h, _, _ => by simp [subK, sub] at h
  | .fld o i :: p, .tup .., u, h, _, _ => by simp [subK, sub] at h
  | .fld o i :: p, .fn .., u, h, _, _ => by simp [subK, sub] at h
  | .fld o i :: p, .lit .., u, h, _, _ => by simp [subK, sub] at h
  | .elt i :: p, .int .., u, h, _, _ => by cases p <;> simp [subK, sub] at h
  | .elt i :: p, .bool .., u, h, _, _ => by cases p <;> simp [subK, sub] at h
  | .elt i :: p, .str .., u, h, _, _ => by cases p <;> simp [subK, sub] at h
  | .elt i :: p, .nil, u, h, _, _ => by cases p <;> simp [subK, sub] at h
  | .elt i :: p, .ptr .., u, h, _, _ => by cases p <;> simp [subK, sub] at h
  | .elt i :: p, .tup .., u, h, _, _ => by cases p <;> simp [subK, sub] at h
  | .elt i :: p, .fn .., u, h, _, _ => by cases p <;> simp [subK, sub] at h
  | .elt i :: p, .lit .., u, h, _, _ => by cases p <;> simp [subK, sub] at h
  | .elt i :: p, .agg .., u, h, _, _ => by cases p <;> simp [subK, sub] at h

/-- writing x where the path leads; what lay there was as large -/
def putK : List Sel → AV → AV → (AV → Option β) → Option β
  | [], v, x, K => bif Nat.beq v.size x.size then K x else none
  | .fld o i :: p, .agg ts, x, K =>
    match ts[i]? with
    | some t => bif Nat.beq (AV.sizeL (ts.take i)) o then putK p t x (fun t' => K (.agg (ts.set i t'))) else none
    | none => none
  | [.elt i], .arr k n l, .int k' m, K => bif decide (k' = k) then bif Nat.blt i n then K (.arr k n (setP 0 l i m)) else none else none
  | _, _, _, _ => none

def put (p : List Sel) (v x : AV) : Option AV := putK p v x some

theorem putK_eq : ∀ (p : List Sel) (v x : AV) (β : Type) (K : AV → Option β), putK p v x K = (put p v x).bind K
  | [], v, x, _, K => by simp only [putK, put]; cases Nat.beq v.size x.size <;> rfl
  | .fld o i :: p, .agg ts, x, _, K => by
    simp only [putK, put]
    cases ts[i]? with
    | none => rfl
    | some t =>
      simp only
      cases Nat.beq (AV.sizeL (ts.take i)) o with
      | true =>
        simp only [cond_true]
        rw [putK_eq p t x _ (fun t' => K (AV.agg (ts.set i t'))), putK_eq p t x _ (fun t' => some (AV.agg (ts.set i t')))]
        cases put p t x <;> rfl
      | false => rfl
  | [.elt i], .arr k n l, .int k' m, _, K => by
    simp only [putK, put]
    cases decide (k' = k) <;> cases Nat.blt i n <;> rfl
  | [.elt i], .arr .., .bool _, _, K => by simp [putK, put]
  | [.elt i], .arr .., .str _, _, K => by simp [putK, put]
  | [.elt i], .arr .., .nil, _, K => by simp [putK, put]
  | [.elt i], .arr .., .ptr .., _, K => by simp [putK, put]
  | [.elt i], .arr .., .arr .., _, K => by simp [putK, put]
  | [.elt i], .arr .., .agg _, _, K => by simp [putK, put]
  | [.elt i], .arr .., .tup _, _, K => by simp [putK, put]
  | [.elt i], .arr .., .fn _, _, K => by simp [putK, put]
  | [.elt i], .arr .., .lit _, _, K => by simp [putK, put]
  | .elt i :: s :: p, .arr k n l, x, _, K => by simp [putK, put]
  | .fld o i :: p, .arr .., x, _, K => by simp [putK, put]
  | .fld o i :: p, .int .., x, _, K => by simp [putK, put]
  | .fld o i :: p, .bool .., x, _, K => by simp [putK, put]
  | .fld o i :: p, .str .., x, _, K => by simp [putK, put]
  | .fld o i :: p, .nil, x, _, K => by simp [putK, put]
  | .fld o i :: p, .ptr .., x, _, K => by simp [putK, put]
  | .fld o i :: p, .tup .., x, _, K => by simp [putK, put]
  | .fld o i :: p, .fn .., x, _, K => by simp [putK, put]
  | .fld o i :: p, .lit .., x, _, K => by simp [putK, put]
  | .elt i :: p, .int .., x, _, K => by cases p <;> simp [putK, put]
  | .elt i :: p, .bool .., x, _, K => by cases p <;> simp [putK, put]
  | .elt i :: p, .str .., x, _, K => by cases p <;> simp [putK, put]
  | .elt i :: p, .nil, x, _, K => by cases p <;> simp [putK, put]
  | .elt i :: p, .ptr .., x, _, K => by cases p <;> simp [putK, put]
  | .elt i :: p, .tup .., x, _, K => by cases p <;> simp [putK, put]
  | .elt i :: p, .fn .., x, _, K => by cases p <;> simp [putK, put]
  | .elt i :: p, .lit .., x, _, K => by cases p <;> simp [putK, put]
  | .elt i :: p, .agg .., x, _, K => by cases p <;> simp [putK, put]

theorem putK_eq' (p : List Sel) (v x : AV) (K : AV → Option β) : putK p v x K = (put p v x).bind K := putK_eq p v x β K

theorem arrCells_setP (k : IntKind) (n : Nat) (l : List Int) (i : Nat) (m : Int) (h : i < n) :
    arrCells k n (setP 0 l i m) = (arrCells k n l).take i ++ .int k m :: (arrCells k n l).drop (i + 1) := by
  rw [← set_at _ (by simp [arrCells_length, h])]
  apply List.ext_getElem?
  intro j
  have g := getD_setP 0 l i m j
  simp only [List.getElem?_set, arrCells, List.getElem?_map]
  by_cases hj : j < n
  · by_cases hij : i = j
    · subst hij; simp only [if_true] at g; simp [hj, -List.getD_eq_getElem?_getD, g]
    · simp only [hij, if_false] at g; simp [hj, hij, -List.getD_eq_getElem?_getD, g]
  · simp [hj]; omega

/-- what a put makes of the cells -/
theorem put_cells (ρ : Ren) : ∀ (p : List Sel) (v x v' : AV), put p v x = some v' →
    ∃ a u b, v.cells ρ = a ++ u ++ b ∧ v'.cells ρ = a ++ x.cells ρ ++ b ∧ a.length = pOff p ∧ u.length = x.size
  | [], v, x, v', h => by
    simp only [put, putK] at h
    cases hb : Nat.beq v.size x.size with
    | false => simp [hb] at h
    | true =>
      simp only [hb, cond_true, Option.some.injEq] at h
      subst h
      exact ⟨[], v.cells ρ, [], by simp, by simp, rfl, by rw [cells_length]; exact Nat.eq_of_beq_eq_true hb⟩
  | .fld o i :: p, .agg ts, x, v', h => by
    simp only [put, putK] at h
    cases ht : ts[i]? with
    | none => simp [ht] at h
    | some t =>
      simp only [ht] at h
      cases hb : Nat.beq (AV.sizeL (ts.take i)) o with
      | false => simp [hb] at h
      | true =>
        simp only [hb, cond_true] at h
        rw [putK_eq] at h
        cases hp : put p t x with
        | none => simp [hp] at h
        | some t' =>
          simp only [hp, Option.bind_some, Option.some.injEq] at h
          subst h
          obtain ⟨a, u, b, h1, h2, h3, h4⟩ := put_cells ρ p t x t' hp
          have he := Nat.eq_of_beq_eq_true hb
          have hlt : i < ts.length := (List.getElem?_eq_some_iff.1 ht).1
          refine ⟨AV.cellsL ρ (ts.take i) ++ a, u, b ++ AV.cellsL ρ (ts.drop (i + 1)), ?_, ?_, ?_, h4⟩
          · simp only [AV.cells]
            conv => lhs; rw [split_at ht]
            rw [cellsL_append]
            simp [AV.cellsL, h1]
          · simp only [AV.cells]
            rw [set_at _ hlt, cellsL_append]
            simp [AV.cellsL, h2]
          · simp [cellsL_length, pOff, Sel.off, h3, he]
  | [.elt i], .arr k n l, .int k' m, v', h => by
    simp only [put, putK] at h
    cases hk : decide (k' = k) with
    | false => simp [hk] at h
    | true =>
      cases hb : Nat.blt i n with
      | false => simp [hk, hb] at h
      | true =>
        simp only [hk, hb, cond_true, Option.some.injEq] at h
        subst h
        have hkk := of_decide_eq_true hk
        subst hkk
        have hi : i < n := by simp [Nat.blt] at hb; omega
        have hx : (arrCells k' n l)[i]? = some (.int k' (l.getD i 0)) := by simp [arrCells, hi]
        refine ⟨(arrCells k' n l).take i, [.int k' (l.getD i 0)], (arrCells k' n l).drop (i + 1), ?_, ?_, ?_, by simp [AV.size]⟩
        · simp only [AV.cells]
          conv => lhs; rw [split_at hx]
          simp
        · simp only [AV.cells]
          rw [arrCells_setP _ _ _ _ _ hi]
          simp
        · simp [arrCells_length, pOff, Sel.off]; omega
  | [.elt i], .arr .., .bool _, v', h => by simp [putK, put] at h
  | [.elt i], .arr .., .str _, v', h => by simp [putK, put] at h
  | [.elt i], .arr .., .nil, v', h => by simp [putK, put] at h
  | [.elt i], .arr .., .ptr .., v', h => by simp [putK, put] at h
  | [.elt i], .arr .., .arr .., v', h => by simp [putK, put] at h
  | [.elt i], .arr .., .agg _, v', h => by simp [putK, put] at h
  | [.elt i], .arr .., .tup _, v', h => by simp [putK, put] at h
  | [.elt i], .arr .., .fn _, v', h => by simp [putK, put] at h
  | [.elt i], .arr .., .lit _, v', h => by simp [putK, put] at h
  | .elt i :: s :: p, .arr k n l, x, v', h => by simp [putK, put] at h
  | .fld o i :: p, .arr .., x, v', h => by simp [putK, put] at h
  | .fld o i :: p, .int .., x, v', h => by simp [putK, put] at h
  | .fld o i :: p, .bool .., x, v', h => by simp [putK, put] at h
  | .fld o i :: p, .str .., x, v', h => by simp [putK, put] at h
  | .fld o i :: p, .nil, x, v', h => by simp [putK, put] at h
  | .fld o i :: p, .ptr .., x, v', h => by simp [putK, put] at h
  | .fld o i :: p, .tup .., x, v', h => by simp [putK, put] at h
  | .fld o i :: p, .fn .., x, v', h => by simp [putK, put] at h
  | .fld o i :: p, .lit .., x, v', h => by simp [putK, put] at h
  | .elt i :: p, .int .., x, v', h => by cases p <;> simp [putK, put] at h
  | .elt i :: p, .bool .., x, v', h => by cases p <;> simp [putK, put] at h
  | .elt i :: p, .str .., x, v', h => by cases p <;> simp [putK, put] at h
  | .elt i :: p, .nil, x, v', h => by cases p <;> simp [putK, put] at h
  | .elt i :: p, .ptr .., x, v', h => by cases p <;> simp [putK, put] at h
  | .elt i :: p, .tup .., x, v', h => by cases p <;> simp [putK, put] at h
  | .elt i :: p, .fn .., x, v', h => by cases p <;> simp [putK, put] at h
  | .elt i :: p, .lit .., x, v', h => by cases p <;> simp [putK, put] at h
  | .elt i :: p, .agg .., x, v', h => by cases p <;> simp [putK, put] at h

theorem put_size {p : List Sel} {v x v' : AV} (h : put p v x = some v') : v'.size = v.size := by
  obtain ⟨a, u, b, h1, h2, _, h4⟩ := put_cells (fun n => (n, 0)) p v x v' h
  have e1 := congrArg List.length h1
  have e2 := congrArg List.length h2
  simp [cells_length] at e1 e2
  omega

theorem hasL_set {m : Nat} : ∀ {ts : List AV} {i : Nat} {t : AV}, AV.hasL m (ts.set i t) → AV.hasL m ts ∨ t.has m
  | [], _, _, h => .inl h
  | y :: ts, 0, t, h => by
    simp only [List.set_cons_zero, AV.hasL] at h ⊢
    rcases h with h | h
    · exact .inr h
    · exact .inl (.inr h)
  | y :: ts, i + 1, t, h => by
    simp only [List.set_cons_succ, AV.hasL] at h ⊢
    rcases h with h | h
    · exact .inl (.inl h)
    · rcases hasL_set h with h | h
      · exact .inl (.inr h)
      · exact .inr h

theorem put_has : ∀ (p : List Sel) (v x v' : AV), put p v x = some v' → ∀ m, v'.has m → v.has m ∨ x.has m
  | [], v, x, v', h, m, hm => by
    simp only [put, putK] at h
    cases hb : Nat.beq v.size x.size with
    | false => simp [hb] at h
    | true => simp only [hb, cond_true, Option.some.injEq] at h; subst h; exact .inr hm
  | .fld o i :: p, .agg ts, x, v', h, m, hm => by
    simp only [put, putK] at h
    cases ht : ts[i]? with
    | none => simp [ht] at h
    | some t =>
      simp only [ht] at h
      cases hb : Nat.beq (AV.sizeL (ts.take i)) o with
      | false => simp [hb] at h
      | true =>
        simp only [hb, cond_true] at h
        rw [putK_eq] at h
        cases hp : put p t x with
        | none => simp [hp] at h
        | some t' =>
          simp only [hp, Option.bind_some, Option.some.injEq] at h
          subst h
          simp only [AV.has] at hm ⊢
          rcases hasL_set hm with h | h
          · exact .inl h
          · rcases put_has p t x t' hp m h with h | h
            · exact .inl (hasL_mem (List.mem_of_getElem? ht) h)
            · exact .inr h
  | [.elt i], .arr k n l, .int k' m', v', h, m, hm => by
    simp only [put, putK] at h
    cases hk : decide (k' = k) with
    | false => simp [hk] at h
    | true =>
      cases hb : Nat.blt i n with
      | false => simp [hk, hb] at h
      | true =>
        simp only [hk, hb, cond_true, Option.some.injEq] at h
        subst h
        simp [AV.has] at hm
  | [.elt i], .arr .., .bool _, v', h, _, _ => by simp [putK, put] at h
  | [.elt i], .arr .., .str _, v', h, _, _ => by simp [putK, put] at h
  | [.elt i], .arr .., .nil, v', h, _, _ => by simp [putK, put] at h
  | [.elt i], .arr .., .ptr .., v', h, _, _ => by simp [putK, put] at h
  | [.elt i], .arr .., .arr .., v', h, _, _ => by simp [putK, put] at h
  | [.elt i], .arr .., .agg _, v', h, _, _ => by simp [putK, put] at h
  | [.elt i], .arr .., .tup _, v', h, _, _ => by simp [putK, put] at h
  | [.elt i], .arr .., .fn _, v', h, _, _ => by simp [putK, put] at h
  | [.elt i], .arr .., .lit _, v', h, _, _ => by simp [putK, put] at h
  | .elt i :: s :: p, .arr k n l, x, v', h, _, _ => by simp [putK, put] at h
  | .fld o i :: p, .arr .., x, v', h, _, _ => by simp [putK, put] at h
  | .fld o i :: p, .int .., x, v', h, _, _ => by simp [putK, put] at h
  | .fld o i :: p, .bool .., x, v', h, _, _ => by simp [putK, put] at h
  | .fld o i :: p, .str .., x, v', h, _, _ => by simp [putK, put] at h
  | .fld o i :: p, .nil, x, v', h, _, _ => by simp [putK, put] at h
  | .fld o i :: p, .ptr .., x, v', h, _, _ => by simp [putK, put] at h
  | .fld o i :: p, .tup .., x, v', h, _, _ => by simp [putK, put] at h
  | .fld o i :: p, .fn .., x, v', h, _, _ => by simp [putK, put] at h
  | .fld o i :: p, .lit .., x, v', h, _, _ => by simp [putK, put] at h
  | .elt i :: p, .int .., x, v', h, _, _ => by cases p <;> simp [putK, put] at h
  | .elt i :: p, .bool .., x, v', h, _, _ => by cases p <;> simp [putK, put] at h
  | .elt i :: p, .str .., x, v', h, _, _ => by cases p <;> simp [putK, put] at h
  | .elt i :: p, .nil, x, v', h, _, _ => by cases p <;> simp [putK, put] at h
  | .elt i :: p, .ptr .., x, v', h, _, _ => by cases p <;> simp [putK, put] at h
  | .elt i :: p, .tup .., x, v', h, _, _ => by cases p <;> simp [putK, put] at h
  | .elt i :: p, .fn .., x, v', h, _, _ => by cases p <;> simp [putK, put] at h
  | .elt i :: p, .lit .., x, v', h, _, _ => by cases p <;> simp [putK, put] at h
  | .elt i :: p, .agg .., x, v', h, _, _ => by cases p <;> simp [putK, put] at h


theorem sub_wf : ∀ (p : List Sel) (v u : AV), sub p v = some u → v.wf → u.wf
  | [], v, u, h, hv => by simp [sub, subK] at h; subst h; exact hv
  | .fld o i :: p, .agg ts, u, h, hv => by
    simp only [sub, subK] at h
    cases ht : ts[i]? with
    | none => simp [ht] at h
    | some t =>
      simp only [ht] at h
      cases hb : Nat.beq (AV.sizeL (ts.take i)) o with
      | false => simp [hb] at h
      | true =>
        simp only [hb, cond_true] at h
        simp only [AV.wf] at hv
        exact sub_wf p t u h (wfL_mem hv (List.mem_of_getElem? ht))
  | [.elt i], .arr k n l, u, h, hv => by
    simp only [sub, subK] at h
    cases hb : Nat.blt i n with
    | false => simp [hb] at h
    | true =>
      simp only [hb, cond_true, Option.some.injEq] at h
      subst h
      simp only [AV.wf] at hv ⊢
      exact hv.2 i (by simp [Nat.blt] at hb; omega)
  | .elt i :: s :: p, .arr k n l, u, h, _ => by simp [subK, sub] at h
  | .fld o i :: p, .arr .., u, h, _ => by simp [subK, sub] at h
  | .fld o i :: p, .int .., u, h, _ => by simp [subK, sub] at h
  | .fld o i :: p, .bool .., u, h, _ => by simp [subK, sub] at h
  | .fld o i :: p, .str .., u, h, _ => by simp [subK, sub] at h
  | .fld o i :: p, .nil, u, h, _ => by simp [subK, sub] at h
  | .fld o i :: p, .ptr .., u, h, _ => by simp [subK, sub] at h
  | .fld o i :: p, .tup .., u, h, _ => by simp [subK, sub] at h
  | .fld o i :: p, .fn .., u, h, _ => by simp [subK, sub] at h
  | .fld o i :: p, .lit .., u, h, _ => by simp [subK, sub] at h
  | .elt i :: p, .int .., u, h, _ => by cases p <;> simp [subK, sub] at h
  | .elt i :: p, .bool .., u, h, _ => by cases p <;> simp [subK, sub] at h
  | .elt i :: p, .str .., u, h, _ => by cases p <;> simp [subK, sub] at h
  | .elt i :: p, .nil, u, h, _ => by cases p <;> simp [subK, sub] at h
  | .elt i :: p, .ptr .., u, h, _ => by cases p <;> simp [subK, sub] at h
  | .elt i :: p, .tup .., u, h, _ => by cases p <;> simp [subK, sub] at h
  | .elt i :: p, .fn .., u, h, _ => by cases p <;> simp [subK, sub] at h
  | .elt i :: p, .lit .., u, h, _ => by cases p <;> simp [subK, sub] at h
  | .elt i :: p, .agg .., u, h, _ => by cases p <;> simp [subK, sub] at h

theorem put_wf : ∀ (p : List Sel) (v x v' : AV), put p v x = some v' → v.wf → x.wf → v'.wf
  | [], v, x, v', h, _, hx => by
    simp only [put, putK] at h
    cases hb : Nat.beq v.size x.size with
    | false => simp [hb] at h
    | true => simp only [hb, cond_true, Option.some.injEq] at h; subst h; exact hx
  | .fld o i :: p, .agg ts, x, v', h, hv, hx => by
    simp only [put, putK] at h
    cases ht : ts[i]? with
    | none => simp [ht] at h
    | some t =>
      simp only [ht] at h
      cases hb : Nat.beq (AV.sizeL (ts.take i)) o with
      | false => simp [hb] at h
      | true =>
        simp only [hb, cond_true] at h
        rw [putK_eq] at h
        cases hp : put p t x with
        | none => simp [hp] at h
        | some t' =>
          simp only [hp, Option.bind_some, Option.some.injEq] at h
          subst h
          simp only [AV.wf] at hv ⊢
          exact wfL_set hv (put_wf p t x t' hp (wfL_mem hv (List.mem_of_getElem? ht)) hx)
  | [.elt i], .arr k n l, .int k' m', v', h, hv, hx => by
    simp only [put, putK] at h
    cases hk : decide (k' = k) with
    | false => simp [hk] at h
    | true =>
      cases hb : Nat.blt i n with
      | false => simp [hk, hb] at h
      | true =>
        simp only [hk, hb, cond_true, Option.some.injEq] at h
        have := of_decide_eq_true hk
        subst this
        subst h
        simp only [AV.wf] at hv hx ⊢
        refine ⟨by rw [length_setP _ _ _ _ (by simp [Nat.blt] at hb; omega)]; exact hv.1, fun j hj => ?_⟩
        rw [getD_setP]
        split
        · exact hx
        · exact hv.2 j hj
  | [.elt i], .arr .., .bool _, v', h, _, _ => by simp [putK, put] at h
  | [.elt i], .arr .., .str _, v', h, _, _ => by simp [putK, put] at h
  | [.elt i], .arr .., .nil, v', h, _, _ => by simp [putK, put] at h
  | [.elt i], .arr .., .ptr .., v', h, _, _ => by simp [putK, put] at h
  | [.elt i], .arr .., .arr .., v', h, _, _ => by simp [putK, put] at h
  | [.elt i], .arr .., .agg _, v', h, _, _ => by simp [putK, put] at h
  | [.elt i], .arr .., .tup _, v', h, _, _ => by simp [putK, put] at h
  | [.elt i], .arr .., .fn _, v', h, _, _ => by simp [putK, put] at h
  | [.elt i], .arr .., .lit _, v', h, _, _ => by simp [putK, put] at h
  | .elt i :: s :: p, .arr k n l, x, v', h, _, _ => by simp [putK, put] at h
  | .fld o i :: p, .arr .., x, v', h, _, _ => by simp [putK, put] at h
  | .fld o i :: p, .int .., x, v', h, _, _ => by simp [putK, put] at h
  | .fld o i :: p, .bool .., x, v', h, _, _ => by simp [putK, put] at h
  | .fld o i :: p, .str .., x, v', h, _, _ => by simp [putK, put] at h
  | .fld o i :: p, .nil, x, v', h, _, _ => by simp [putK, put] at h
  | .fld o i :: p, .ptr .., x, v', h, _, _ => by simp [putK, put] at h
  | .fld o i :: p, .tup .., x, v', h, _, _ => by simp [putK, put] at h
  | .fld o i :: p, .fn .., x, v', h, _, _ => by simp [putK, put] at h
  | .fld o i :: p, .lit .., x, v', h, _, _ => by simp [putK, put] at h
  | .elt i :: p, .int .., x, v', h, _, _ => by cases p <;> simp [putK, put] at h
  | .elt i :: p, .bool .., x, v', h, _, _ => by cases p <;> simp [putK, put] at h
  | .elt i :: p, .str .., x, v', h, _, _ => by cases p <;> simp [putK, put] at h
  | .elt i :: p, .nil, x, v', h, _, _ => by cases p <;> simp [putK, put] at h
  | .elt i :: p, .ptr .., x, v', h, _, _ => by cases p <;> simp [putK, put] at h
  | .elt i :: p, .tup .., x, v', h, _, _ => by cases p <;> simp [putK, put] at h
  | .elt i :: p, .fn .., x, v', h, _, _ => by cases p <;> simp [putK, put] at h
  | .elt i :: p, .lit .., x, v', h, _, _ => by cases p <;> simp [putK, put] at h
  | .elt i :: p, .agg .., x, v', h, _, _ => by cases p <;> simp [putK, put] at h


theorem sub_put_size : ∀ {p : List Sel} {v x v' t : AV}, sub p v = some t → put p v x = some v' → t.size = x.size
  | [], v, x, v', t, hs, hp => by
    simp [sub, subK] at hs; subst hs
    simp only [put, putK] at hp
    cases hb : Nat.beq v.size x.size with
    | false => simp [hb] at hp
    | true => exact Nat.eq_of_beq_eq_true hb
  | .fld o i :: p, .agg ts, x, v', t, hs, hp => by
    simp only [sub, subK] at hs
    simp only [put, putK] at hp
    cases ht : ts[i]? with
    | none => simp [ht] at hs
    | some u =>
      simp only [ht] at hs hp
      cases hb : Nat.beq (AV.sizeL (ts.take i)) o with
      | false => simp [hb] at hs
      | true =>
        simp only [hb, cond_true] at hs hp
        rw [putK_eq] at hp
        cases hq : put p u x with
        | none => simp [hq] at hp
        | some u' => exact sub_put_size (p := p) hs hq
  | [.elt i], .arr k n l, x, v', t, hs, hp => by
    simp only [sub, subK] at hs
    cases hb : Nat.blt i n with
    | false => simp [hb] at hs
    | true =>
      simp only [hb, cond_true, Option.some.injEq] at hs
      subst hs
      cases x <;> simp [put, putK] at hp
      simp [AV.size]
  | .elt i :: s :: p, .arr k n l, x, v', t, hs, _ => by simp [sub, subK] at hs
  | .fld o i :: p, .arr .., x, v', t, hs, _ => by simp [sub, subK] at hs
  | .fld o i :: p, .int .., x, v', t, hs, _ => by simp [sub, subK] at hs
  | .fld o i :: p, .bool .., x, v', t, hs, _ => by simp [sub, subK] at hs
  | .fld o i :: p, .str .., x, v', t, hs, _ => by simp [sub, subK] at hs
  | .fld o i :: p, .nil, x, v', t, hs, _ => by simp [sub, subK] at hs
  | .fld o i :: p, .ptr .., x, v', t, hs, _ => by simp [sub, subK] at hs
  | .fld o i :: p, .tup .., x, v', t, hs, _ => by simp [sub, subK] at hs
  | .fld o i :: p, .fn .., x, v', t, hs, _ => by simp [sub, subK] at hs
  | .fld o i :: p, .lit .., x, v', t, hs, _ => by simp [sub, subK] at hs
  | .elt i :: p, .int .., x, v', t, hs, _ => by cases p <;> simp [sub, subK] at hs
  | .elt i :: p, .bool .., x, v', t, hs, _ => by cases p <;> simp [sub, subK] at hs
  | .elt i :: p, .str .., x, v', t, hs, _ => by cases p <;> simp [sub, subK] at hs
  | .elt i :: p, .nil, x, v', t, hs, _ => by cases p <;> simp [sub, subK] at hs
  | .elt i :: p, .ptr .., x, v', t, hs, _ => by cases p <;> simp [sub, subK] at hs
  | .elt i :: p, .tup .., x, v', t, hs, _ => by cases p <;> simp [sub, subK] at hs
  | .elt i :: p, .fn .., x, v', t, hs, _ => by cases p <;> simp [sub, subK] at hs
  | .elt i :: p, .lit .., x, v', t, hs, _ => by cases p <;> simp [sub, subK] at hs
  | .elt i :: p, .agg .., x, v', t, hs, _ => by cases p <;> simp [sub, subK] at hs

end Go.Sim
namespace Go.Sim
variable {β : Type}

abbrev Tm := List (Option AV)

def constA : Value → Option AV
  | .int k n => bif inKB k n then some (.int k n) else none
  | .bool b => some (.bool b)
  | .string s => bif decide (s.data.toList.length < 9223372036854775808) then some (.str s.data.toList) else none
  | .pointer none => some .nil
  | .slice none 0 0 => some (.lit .nilSlice)
  | .map none => some (.lit .nilMap)
  | .nilFunc => some (.lit .nilFunc)
  | .nilIface => some (.lit .nilIface)
  | _ => none

theorem constA_enc {ρ : Ren} {v : Value} {u : AV} (h : constA v = some u) : u.enc ρ = v ∧ (∀ m, ¬ u.has m) := by
  unfold constA at h
  split at h
  · rename_i k n
    cases hk : inKB k n with
    | false => simp [hk] at h
    | true => simp only [hk, cond_true, Option.some.injEq] at h; subst h; simp [AV.enc, AV.has]
  · simp at h; subst h; simp [AV.enc, AV.has]
  · rename_i s
    cases hk : decide (s.data.toList.length < 9223372036854775808) with
    | false => rw [hk] at h; cases h
    | true => simp only [hk, cond_true, Option.some.injEq] at h; subst h; simp [AV.enc, AV.has]
  all_goals (simp at h; try subst h; try simp [AV.enc, AV.has, Cn.val])

theorem constA_wf {v : Value} {u : AV} (h : constA v = some u) : u.wf := by
  unfold constA at h
  split at h
  · rename_i k n
    cases hk : inKB k n with
    | false => simp [hk] at h
    | true => simp only [hk, cond_true, Option.some.injEq] at h; subst h; simpa [AV.wf] using inKB_spec hk
  · simp at h; subst h; simp [AV.wf]
  · rename_i s
    cases hk : decide (s.data.toList.length < 9223372036854775808) with
    | false => rw [hk] at h; cases h
    | true => simp only [hk, cond_true, Option.some.injEq] at h; subst h; simpa [AV.wf] using of_decide_eq_true hk
  all_goals (simp at h; try subst h; try simp [AV.wf])

def opv (tm : Tm) : Operand → Option AV
  | .tmp t => tm.getD t none
  | .const v => constA v
  | .func f => some (.fn f)
  | .global _ => none

def opvs (tm : Tm) : List Operand → Option (List AV)
  | [] => some []
  | x :: xs =>
    match opv tm x with
    | some v => match opvs tm xs with
      | some vs => some (v :: vs)
      | none => none
    | none => none

def getK (tm : Tm) (x : Operand) (K : AV → Option β) : Option β :=
  match opv tm x with
  | some v => K v
  | none => none

/-- a type's cells and shape are a tree's -/
def fits (P : Program) (t : TypeId) (v : AV) : Bool :=
  match P.info? t with
  | some i => match P.underlying t with
    | some d => Nat.beq i.size v.size && (d.isRow == v.isAgg)
    | none => false
  | none => false

theorem fits_spec {P : Program} {t : TypeId} {v : AV} (h : fits P t v = true) :
    ∃ i d, P.info? t = some i ∧ P.underlying t = some d ∧ i.size = v.size ∧ d.isRow = v.isAgg := by
  unfold fits at h
  split at h
  · rename_i i hi
    split at h
    · rename_i d hd
      simp only [Bool.and_eq_true, beq_iff_eq] at h
      exact ⟨i, d, hi, hd, Nat.eq_of_beq_eq_true h.1, h.2⟩
    · cases h
  · cases h

theorem run_isAgg {P : Program} {t : TypeId} {d : TypeDesc} (h : P.underlying t = some d) (w : World) : (isAgg t).run P w = .ok d.isRow w := by
  unfold isAgg
  rw [Sem.run_bind, run_underlying h w]
  cases d <;> simp [TypeDesc.isRow]

theorem run_sizeOf' {P : Program} {t : TypeId} {i : TypeInfo} (h : P.info? t = some i) (w : World) : (sizeOf t).run P w = .ok i.size w := by
  simp [sizeOf, typeInfo, h]

theorem seg_extract {α : Type} (a u b : List α) : ((a ++ u ++ b).toArray.extract a.length (a.length + u.length)) = u.toArray := by
  apply Array.ext'
  simp

theorem seg_get {α : Type} (a b : List α) (x : α) : (a ++ [x] ++ b).toArray[a.length]? = some x := by
  simp

theorem run_part_fits {P : Program} {t : TypeId} {v : AV} {ρ : Ren} {cs : List Value} {a b : List Value} (w : World)
    (h : fits P t v = true) (hc : cs = a ++ v.cells ρ ++ b) : (part t cs.toArray a.length).run P w = .ok (v.enc ρ) w := by
  obtain ⟨i, d, hi, hd, hs, hr⟩ := fits_spec h
  unfold part
  rw [Sem.run_bind, run_isAgg hd w, Result.andThen_ok]
  cases hv : v.isAgg with
  | true =>
    rw [hr, hv]
    simp only [if_true, Sem.run_bind, run_sizeOf' hi w, Result.andThen_ok, Sem.run_pure]
    rw [hs, ← cells_length ρ v, hc, seg_extract, enc_of_agg hv]
  | false =>
    rw [hr, hv, hc, cells_of_not hv]
    simp only [Bool.false_eq_true, if_false, seg_get]
    rfl

/-- the model's wrap, by literals -/
def wr : IntKind → Int → Int
  | .u8, n => n % 256
  | .u16, n => n % 65536
  | .u32, n => n % 4294967296
  | .u64, n => n % 18446744073709551616
  | .i8, n => (n + 128) % 256 - 128
  | .i16, n => (n + 32768) % 65536 - 32768
  | .i32, n => (n + 2147483648) % 4294967296 - 2147483648
  | .i64, n => (n + 9223372036854775808) % 18446744073709551616 - 9223372036854775808

theorem wr_eq (k : IntKind) (n : Int) : k.wrap n = wr k n := by
  cases k <;> simp only [IntKind.wrap, wr, IntKind.bits, IntKind.signed, Bool.false_and, Bool.true_and, Bool.false_eq_true, if_false, Int.reducePow, Nat.reduceSub] <;> (try (split <;> rename_i h <;> simp only [decide_eq_true_eq, ge_iff_le] at h)) <;> omega

def andI (k : IntKind) (a b : Int) : Int := k.wrap ((BitVec.ofInt k.bits a &&& BitVec.ofInt k.bits b).toNat : Int)
def orI (k : IntKind) (a b : Int) : Int := k.wrap ((BitVec.ofInt k.bits a ||| BitVec.ofInt k.bits b).toNat : Int)
def xorI (k : IntKind) (a b : Int) : Int := k.wrap ((BitVec.ofInt k.bits a ^^^ BitVec.ofInt k.bits b).toNat : Int)
def andNotI (k : IntKind) (a b : Int) : Int := k.wrap ((BitVec.ofInt k.bits a &&& ~~~BitVec.ofInt k.bits b).toNat : Int)

def arithK (op : BinOp) (k : IntKind) (a b : Int) (K : AV → Option β) : Option β :=
  match op with
  | .add => K (.int k (wr k (a + b)))
  | .sub => K (.int k (wr k (a - b)))
  | .mul => K (.int k (wr k (a * b)))
  | .quo => bif b == 0 then none else K (.int k (wr k (a.tdiv b)))
  | .rem => bif b == 0 then none else K (.int k (a.tmod b))
  | .and => K (.int k (andI k a b))
  | .or => K (.int k (orI k a b))
  | .xor => K (.int k (xorI k a b))
  | .andNot => K (.int k (andNotI k a b))
  | .eql => K (.bool (a == b))
  | .neq => K (.bool (a != b))
  | .lss => K (.bool (decide (a < b)))
  | .leq => K (.bool (decide (a ≤ b)))
  | .gtr => K (.bool (decide (a > b)))
  | .geq => K (.bool (decide (a ≥ b)))
  | _ => none

def intOpK (op : BinOp) (k : IntKind) (a : Int) (k' : IntKind) (b : Int) (K : AV → Option β) : Option β :=
  match op with
  | .shl => bif decide (b < 0) then none else K (.int k (wr k (a * 2 ^ (min b.toNat k.bits))))
  | .shr => bif decide (b < 0) then none else K (.int k (a / (2 ^ (min b.toNat k.bits))))
  | op => bif decide (k = k') then arithK op k a b K else none

theorem intOpK_eq (op : BinOp) (k : IntKind) (a : Int) (k' : IntKind) (b : Int) (K : AV → Option β) :
    intOpK op k a k' b K = (intOpK op k a k' b some).bind K := by
  unfold intOpK
  split
  · cases decide (b < 0) <;> rfl
  · cases decide (b < 0) <;> rfl
  · cases decide (k = k')
    · rfl
    · simp only [cond_true]
      unfold arithK
      split <;> first | rfl | (cases b == 0 <;> rfl)

theorem intOp_run {P : Program} {op : BinOp} {k k' : IntKind} {a b : Int} {v : AV} (w : World) (t : TypeId) {ρ : Ren}
    (h : intOpK op k a k' b some = some v) : (binOp op t (.int k a) (.int k' b)).run P w = .ok (v.enc ρ) w ∧ ∀ m, ¬ v.has m := by
  unfold intOpK at h
  split at h
  · cases hb : decide (b < 0) with
    | true => simp [hb] at h
    | false =>
      simp only [hb, cond_false, Option.some.injEq] at h
      subst h
      have : ¬ b < 0 := of_decide_eq_false hb
      simp [binOp, Op.shift, this, AV.enc, AV.has, wr_eq]
  · cases hb : decide (b < 0) with
    | true => simp [hb] at h
    | false =>
      simp only [hb, cond_false, Option.some.injEq] at h
      subst h
      have : ¬ b < 0 := of_decide_eq_false hb
      simp [binOp, Op.shift, this, AV.enc, AV.has, Int.fdiv_eq_ediv_of_nonneg a (show (0 : Int) ≤ 2 ^ (min b.toNat k.bits) from Int.le_of_lt (Int.pow_pos (by decide)))]
  · rename_i h1 h2
    cases hk : decide (k = k') with
    | false => simp [hk] at h
    | true =>
      rw [hk, cond_true] at h
      have hkk := of_decide_eq_true hk
      subst hkk
      unfold arithK at h
      split at h <;> first
        | (cases h; done)
        | (cases h
           simp [binOp, Op.intArith, Op.intBits, Op.intCmp, AV.enc, AV.has, andI, orI, xorI, andNotI, GE.ge, GT.gt, wr_eq]; done)
        | (cases hb : (b == 0) with
           | true => simp [hb] at h
           | false =>
             rw [hb, cond_false] at h
             cases h
             have hb' : b ≠ 0 := by simpa using hb
             simp [binOp, Op.intDiv, hb', AV.enc, AV.has, wr_eq])

theorem wr_in (k : IntKind) (n : Int) : inK k (wr k n) := by
  cases k <;> simp only [inK, wr] <;> omega

theorem div_in {k : IntKind} {a : Int} (m : Int) (hm : 0 < m) (h : inK k a) : inK k (a / m) := by
  have lo : ∀ l : Int, l ≤ 0 → l ≤ a → l ≤ a / m := fun l hl ha => by
    have h1 : l ≤ a / m ↔ l * m ≤ a := Int.le_ediv_iff_mul_le hm
    rw [h1]
    have : (-l) * 1 ≤ (-l) * m := Int.mul_le_mul_of_nonneg_left (by omega) (by omega)
    rw [Int.neg_mul, Int.neg_mul] at this
    omega
  have up : ∀ u : Int, 0 < u → a < u → a / m < u := fun u hu ha => by
    have h1 : a / m < u ↔ a < u * m := Int.ediv_lt_iff_lt_mul hm
    rw [h1]
    have : u * 1 ≤ u * m := Int.mul_le_mul_of_nonneg_left (by omega) (by omega)
    omega
  cases k <;> simp only [inK] at h ⊢ <;> exact ⟨lo _ (by decide) h.1, up _ (by decide) h.2⟩

theorem tmod_le {a : Int} (b : Int) (ha : 0 ≤ a) : 0 ≤ a.tmod b ∧ a.tmod b ≤ a := by
  have h1 := Int.tmod_nonneg b ha
  have h2 := Int.natAbs_tmod a b
  have h3 : a.natAbs % b.natAbs ≤ a.natAbs := Nat.mod_le _ _
  omega

theorem tmod_in {k : IntKind} {a : Int} (b : Int) (h : inK k a) : inK k (a.tmod b) := by
  have key : (0 ≤ a → 0 ≤ a.tmod b ∧ a.tmod b ≤ a) ∧ (a ≤ 0 → a ≤ a.tmod b ∧ a.tmod b ≤ 0) := by
    constructor
    · exact tmod_le b
    · intro ha
      have h1 := tmod_le (a := -a) b (by omega)
      rw [Int.neg_tmod] at h1
      omega
  cases k <;> simp only [inK] at h ⊢ <;> omega

theorem inK_andI (k : IntKind) (a b : Int) : inK k (andI k a b) := by unfold andI; rw [wr_eq]; exact wr_in ..
theorem inK_orI (k : IntKind) (a b : Int) : inK k (orI k a b) := by unfold orI; rw [wr_eq]; exact wr_in ..
theorem inK_xorI (k : IntKind) (a b : Int) : inK k (xorI k a b) := by unfold xorI; rw [wr_eq]; exact wr_in ..
theorem inK_andNotI (k : IntKind) (a b : Int) : inK k (andNotI k a b) := by unfold andNotI; rw [wr_eq]; exact wr_in ..

theorem intOp_wf {op : BinOp} {k k' : IntKind} {a b : Int} {v : AV} (ha : inK k a) (h : intOpK op k a k' b some = some v) : v.wf := by
  unfold intOpK at h
  split at h
  · cases hb : decide (b < 0) with
    | true => simp [hb] at h
    | false => simp only [hb, cond_false, Option.some.injEq] at h; subst h; exact wr_in ..
  · cases hb : decide (b < 0) with
    | true => simp [hb] at h
    | false =>
      simp only [hb, cond_false, Option.some.injEq] at h; subst h
      exact div_in _ (Int.pow_pos (by decide)) ha
  · cases hk : decide (k = k') with
    | false => simp [hk] at h
    | true =>
      rw [hk, cond_true] at h
      unfold arithK at h
      split at h <;> first
        | (cases h; done)
        | (cases h; simp only [AV.wf]; done)
        | (cases h; simp only [AV.wf]; first | with_reducible exact wr_in .. | with_reducible exact inK_andI .. | with_reducible exact inK_orI .. | with_reducible exact inK_xorI .. | with_reducible exact inK_andNotI ..)
        | (cases hb : (b == 0) with
           | true => simp [hb] at h
           | false =>
             rw [hb, cond_false] at h
             cases h
             simp only [AV.wf]
             first | with_reducible exact wr_in .. | with_reducible exact tmod_in _ ha)

def arrEq (n : Nat) (a b : List Int) : Bool := (List.range n).all fun j => a.getD j 0 == b.getD j 0

/- '==' of values, part by part -/
def eqFs (rec : TypeId → AV → AV → Option Bool) (P : Program) : List Field → List AV → List AV → Nat → Option Bool
  | [], [], [], _ => some true
  | f :: fs, t :: ts, u :: us, o =>
    bif f.name != "_" && Nat.beq f.offset o && fits P f.type t && fits P f.type u then
      match rec f.type t u with
      | some b => match eqFs rec P fs ts us (o + t.size) with
        | some c => some (b && c)
        | none => none
      | none => none
    else none
  | _, _, _, _ => none

def eqT (P : Program) : Nat → TypeId → AV → AV → Option Bool
  | 0, _, _, _ => none
  | d + 1, t, v, u =>
    match P.underlying t, v, u with
    | some (.int _), .int k a, .int k' b => bif decide (k = k') then some (a == b) else none
    | some .bool, .bool a, .bool b => some (a == b)
    | some .string, .str a, .str b => some (a == b)
    | some (.array n e), .arr k m a, .arr k' m' b =>
      bif decide (k = k') && Nat.beq n m && Nat.beq n m' && fits P e (.int k 0) && (match P.underlying e with | some (.int _) => true | _ => false)
      then some (arrEq n a b) else none
    | some (.struct fs), .agg ts, .agg us => bif P.stoodInHeld t then none else eqFs (eqT P d) P fs.toList ts us 0
    | _, _, _ => none

theorem run_eqItems_int {P : Program} (d : Nat) (e : TypeId) (k : IntKind) (n : Nat) (a b : List Int) (w : World) {q : IntKind}
    (hu : P.underlying e = some (.int q)) (hi : P.cellsOf e = 1) : ∀ is : List Nat, (∀ i ∈ is, i < n) →
    (Op.eqItems (d + 1) e (P.cellsOf e) (arrCells k n a).toArray (arrCells k n b).toArray is).run P w = .ok (is.all fun j => a.getD j 0 == b.getD j 0) w
  | [], _ => by simp [Op.eqItems]
  | i :: is, hl => by
    have hin : i < n := hl i (by simp)
    have hp : ∀ l : List Int, (part e (arrCells k n l).toArray (i * P.cellsOf e)).run P w = .ok (.int k (l.getD i 0)) w := by
      intro l
      unfold part
      rw [Sem.run_bind, run_isAgg hu w, Result.andThen_ok]
      have : (arrCells k n l).toArray[i * P.cellsOf e]? = some (.int k (l.getD i 0)) := by simp [hi, arrCells, hin]
      simp only [TypeDesc.isRow, Bool.false_eq_true, if_false, this]
      rfl
    have ih := run_eqItems_int d e k n a b w hu hi is (fun j hj => hl j (by simp [hj]))
    simp only [Op.eqItems, Sem.run_bind, hp, Result.andThen_ok, run_equalIn_int w d e k q _ _ hu, List.all_cons]
    cases a.getD i 0 == b.getD i 0
    · simp
    · simpa using ih

theorem eqFs_run {P : Program} {D : Nat} {ρ ρ' : Ren} {w : World} (rec : TypeId → AV → AV → Option Bool)
    (hrec : ∀ t v u r, rec t v u = some r → (Op.equalIn D t (v.enc ρ) (u.enc ρ')).run P w = .ok r w) :
    ∀ (fs : List Field) (ts us : List AV) (o : Nat) (r : Bool) (a a' : List Value), eqFs rec P fs ts us o = some r → a.length = o → a'.length = o →
      (Op.eqFields D (a ++ AV.cellsL ρ ts).toArray (a' ++ AV.cellsL ρ' us).toArray fs).run P w = .ok r w
  | [], [], [], _, r, _, _, h, _, _ => by simp [eqFs] at h; simp [Op.eqFields, h]
  | [], _ :: _, _, _, _, _, _, h, _, _ => by simp [eqFs] at h
  | [], [], _ :: _, _, _, _, _, h, _, _ => by simp [eqFs] at h
  | _ :: _, [], _, _, _, _, _, h, _, _ => by simp [eqFs] at h
  | _ :: _, _ :: _, [], _, _, _, _, h, _, _ => by simp [eqFs] at h
  | f :: fs, t :: ts, u :: us, o, r, a, a', h, ha, ha' => by
    simp only [eqFs] at h
    cases hc : (f.name != "_" && Nat.beq f.offset o && fits P f.type t && fits P f.type u) with
    | false => simp [hc] at h
    | true =>
      simp only [hc, cond_true] at h
      simp only [Bool.and_eq_true, bne_iff_ne] at hc
      obtain ⟨⟨⟨hn, ho⟩, ft⟩, fu⟩ := hc
      have ho := Nat.eq_of_beq_eq_true ho
      cases hr1 : rec f.type t u with
      | none => simp [hr1] at h
      | some b =>
        cases hr2 : eqFs rec P fs ts us (o + t.size) with
        | none => simp [hr1, hr2] at h
        | some c =>
          simp only [hr1, hr2, Option.some.injEq] at h
          subst h
          have p1 := run_part_fits (P := P) (ρ := ρ) (cs := a ++ AV.cellsL ρ (t :: ts)) (a := a) (b := AV.cellsL ρ ts) w ft (by simp [AV.cellsL])
          have p2 := run_part_fits (P := P) (ρ := ρ') (cs := a' ++ AV.cellsL ρ' (u :: us)) (a := a') (b := AV.cellsL ρ' us) w fu (by simp [AV.cellsL])
          obtain ⟨i1, _, hi1, _, hs1, _⟩ := fits_spec ft
          obtain ⟨i2, _, hi2, _, hs2, _⟩ := fits_spec fu
          have hsz : t.size = u.size := by rw [hi1] at hi2; cases hi2; omega
          have ih := eqFs_run rec hrec fs ts us (o + t.size) c (a ++ t.cells ρ) (a' ++ u.cells ρ') hr2 (by simp [ha, cells_length]) (by simp [ha', cells_length, hsz])
          have e1 : (a ++ AV.cellsL ρ (t :: ts)) = (a ++ t.cells ρ) ++ AV.cellsL ρ ts := by simp [AV.cellsL]
          have e2 : (a' ++ AV.cellsL ρ' (u :: us)) = (a' ++ u.cells ρ') ++ AV.cellsL ρ' us := by simp [AV.cellsL]
          rw [ha, ← ho] at p1
          rw [ha', ← ho] at p2
          simp only [Op.eqFields, hn, ne_eq, not_false_eq_true, if_true, Sem.run_bind, p1, p2, Result.andThen_ok, hrec _ _ _ _ hr1]
          rw [e1, e2]
          cases b
          · simp
          · simpa using ih

theorem eqT_run {P : Program} {ρ ρ' : Ren} {w : World} : ∀ (d D : Nat) (t : TypeId) (v u : AV) (r : Bool), eqT P d t v u = some r →
    (Op.equalIn (D + d + 1) t (v.enc ρ) (u.enc ρ')).run P w = .ok r w
  | 0, _, _, _, _, _, h => by simp [eqT] at h
  | d + 1, D, t, v, u, r, h => by
    unfold eqT at h
    split at h
    · rename_i q k a k' b hu
      cases hk : decide (k = k') with
      | false => simp [hk] at h
      | true =>
        simp only [hk, cond_true, Option.some.injEq] at h
        have := of_decide_eq_true hk
        subst this
        subst h
        simp only [AV.enc]
        exact run_equalIn_int w _ t k q a b hu
    · rename_i a b hu
      simp only [Option.some.injEq] at h
      subst h
      simp only [AV.enc]
      exact run_equalIn_bool w _ t a b hu
    · rename_i a b hu
      simp only [Option.some.injEq] at h
      subst h
      simp only [AV.enc]
      have := run_equalIn_string w (D + (d + 1)) t (⟨a.toArray⟩ : ByteArray) ⟨b.toArray⟩ hu
      simpa [ByteArray.toList_eq] using this
    · rename_i n e k m a k' m' b hu
      cases hc : (decide (k = k') && Nat.beq n m && Nat.beq n m' && fits P e (.int k 0) && (match P.underlying e with | some (.int _) => true | _ => false)) with
      | false => simp [hc] at h
      | true =>
        simp only [hc, cond_true, Option.some.injEq] at h
        subst h
        simp only [Bool.and_eq_true] at hc
        obtain ⟨⟨⟨⟨hk, hn⟩, hn'⟩, hf⟩, hq⟩ := hc
        have := of_decide_eq_true hk
        subst this
        have := Nat.eq_of_beq_eq_true hn
        subst this
        have := Nat.eq_of_beq_eq_true hn'
        subst this
        obtain ⟨i, d', hi, hd, hs, _⟩ := fits_spec hf
        have hcell : P.cellsOf e = 1 := by simp [Program.cellsOf, hi, hs, AV.size]
        split at hq
        · rename_i q hue
          simp only [AV.enc]
          rw [show D + (d + 1) + 1 = (D + d + 1) + 1 from rfl, run_equalIn_array w (D + d + 1) _ _ hu hi]
          exact run_eqItems_int (D + d) e k n a b w hue hcell (List.range n) (fun i hi => List.mem_range.1 hi)
        · cases hq
    · rename_i fs ts us hu
      cases hst : P.stoodInHeld t with
      | true => simp [hst] at h
      | false =>
        simp only [hst, cond_false] at h
        have hf : P.fieldsOf t = fs := by simp [Program.fieldsOf, hu]
        have := eqFs_run (P := P) (D := D + d + 1) (ρ := ρ) (ρ' := ρ') (w := w) (eqT P d) (fun t v u r hr => eqT_run d D t v u r hr) fs.toList ts us 0 r [] [] h rfl rfl
        simp only [AV.enc]
        rw [show D + (d + 1) + 1 = (D + d + 1) + 1 from rfl, run_equalIn_struct (P := P) w (D + d + 1) t _ _ (by rw [hf]; exact hu) hst, hf]
        simpa using this
    · cases h
end Go.Sim
namespace Go.Sim
variable {β : Type}

def inB (i : Int) (n : Nat) : Bool :=
  match i with
  | .ofNat m => Nat.blt m n
  | .negSucc _ => false

theorem inB_iff {i : Int} {n : Nat} : inB i n = true ↔ 0 ≤ i ∧ i < n := by
  cases i with
  | ofNat m => simp [inB, Nat.blt]; try omega
  | negSucc m => simp [inB]; try omega

/- zero values, by their types -/
def takeInts (k : IntKind) : Nat → List Value → Option (List Int × List Value)
  | 0, cs => some ([], cs)
  | n + 1, .int k' m :: cs => bif decide (k' = k) && inKB k m then
      match takeInts k n cs with
      | some (l, r) => some (m :: l, r)
      | none => none
    else none
  | _ + 1, _ => none

theorem takeInts_spec {k : IntKind} : ∀ {n : Nat} {cs : List Value} {l : List Int} {r : List Value}, takeInts k n cs = some (l, r) →
    l.length = n ∧ cs = l.map (Value.int k) ++ r ∧ ∀ x ∈ l, inK k x
  | 0, cs, l, r, h => by simp [takeInts] at h; obtain ⟨rfl, rfl⟩ := h; simp
  | n + 1, [], l, r, h => by simp [takeInts] at h
  | n + 1, c :: cs, l, r, h => by
    cases c <;> simp only [takeInts] at h <;> try (cases h; done)
    rename_i k' m
    cases hk : (decide (k' = k) && inKB k m) with
    | false => simp [hk] at h
    | true =>
      rw [hk, cond_true] at h
      simp only [Bool.and_eq_true] at hk
      have hm := inKB_spec hk.2
      have := of_decide_eq_true hk.1
      subst this
      cases ht : takeInts k' n cs with
      | none => simp [ht] at h
      | some x =>
        obtain ⟨l', r'⟩ := x
        simp only [ht, Option.some.injEq, Prod.mk.injEq] at h
        obtain ⟨rfl, rfl⟩ := h
        obtain ⟨h1, h2, h3⟩ := takeInts_spec ht
        exact ⟨by simp [h1], by simp [h2], fun x hx => by
          rcases List.mem_cons.1 hx with rfl | hx
          · exact hm
          · exact h3 x hx⟩

def takeN (g : List Value → Option (AV × List Value)) : Nat → List Value → Option (List AV × List Value)
  | 0, cs => some ([], cs)
  | n + 1, cs =>
    match g cs with
    | some (v, r) => match takeN g n r with
      | some (vs, r') => some (v :: vs, r')
      | none => none
    | none => none

def takeFs (g : TypeId → List Value → Option (AV × List Value)) : List Field → List Value → Option (List AV × List Value)
  | [], cs => some ([], cs)
  | f :: fs, cs =>
    match g f.type cs with
    | some (v, r) => match takeFs g fs r with
      | some (vs, r') => some (v :: vs, r')
      | none => none
    | none => none

def treeT (P : Program) : Nat → TypeId → List Value → Option (AV × List Value)
  | 0, _, _ => none
  | d + 1, t, cs =>
    match P.underlying t with
    | some (.array n e) =>
      match P.underlying e with
      | some (.int k) => match takeInts k n cs with
        | some (l, r) => some (.arr k n l, r)
        | none => none
      | _ => match takeN (treeT P d e) n cs with
        | some (ts, r) => some (.agg ts, r)
        | none => none
    | some (.struct fs) => match takeFs (treeT P d) fs.toList cs with
      | some (ts, r) => some (.agg ts, r)
      | none => none
    | some _ => match cs with
      | c :: r => match constA c with
        | some v => some (v, r)
        | none => none
      | [] => none
    | none => none

def Good (g : List Value → Option (AV × List Value)) : Prop :=
  ∀ cs v r, g cs = some (v, r) → (∀ ρ : Ren, cs = v.cells ρ ++ r) ∧ (∀ m, ¬ v.has m) ∧ v.wf

theorem takeN_spec {g : List Value → Option (AV × List Value)} (hg : Good g) : ∀ (n : Nat) (cs : List Value) (vs : List AV) (r : List Value), takeN g n cs = some (vs, r) →
    (∀ ρ : Ren, cs = AV.cellsL ρ vs ++ r) ∧ (∀ m, ¬ AV.hasL m vs) ∧ AV.wfL vs
  | 0, cs, vs, r, h => by simp [takeN] at h; obtain ⟨rfl, rfl⟩ := h; simp [AV.cellsL, AV.hasL, AV.wfL]
  | n + 1, cs, vs, r, h => by
    simp only [takeN] at h
    cases h1 : g cs with
    | none => simp [h1] at h
    | some x =>
      obtain ⟨v, r1⟩ := x
      cases h2 : takeN g n r1 with
      | none => simp [h1, h2] at h
      | some y =>
        obtain ⟨vs', r'⟩ := y
        simp only [h1, h2, Option.some.injEq, Prod.mk.injEq] at h
        obtain ⟨rfl, rfl⟩ := h
        obtain ⟨a1, a2, a3⟩ := hg _ _ _ h1
        obtain ⟨b1, b2, b3⟩ := takeN_spec hg n _ _ _ h2
        refine ⟨fun ρ => by rw [a1 ρ, b1 ρ]; simp [AV.cellsL], fun m => ?_, by simp only [AV.wfL]; exact ⟨a3, b3⟩⟩
        simp [AV.hasL, a2 m, b2 m]

theorem takeFs_spec {g : TypeId → List Value → Option (AV × List Value)} (hg : ∀ t, Good (g t)) : ∀ (fs : List Field) (cs : List Value) (vs : List AV) (r : List Value), takeFs g fs cs = some (vs, r) →
    (∀ ρ : Ren, cs = AV.cellsL ρ vs ++ r) ∧ (∀ m, ¬ AV.hasL m vs) ∧ AV.wfL vs
  | [], cs, vs, r, h => by simp [takeFs] at h; obtain ⟨rfl, rfl⟩ := h; simp [AV.cellsL, AV.hasL, AV.wfL]
  | f :: fs, cs, vs, r, h => by
    simp only [takeFs] at h
    cases h1 : g f.type cs with
    | none => simp [h1] at h
    | some x =>
      obtain ⟨v, r1⟩ := x
      cases h2 : takeFs g fs r1 with
      | none => simp [h1, h2] at h
      | some y =>
        obtain ⟨vs', r'⟩ := y
        simp only [h1, h2, Option.some.injEq, Prod.mk.injEq] at h
        obtain ⟨rfl, rfl⟩ := h
        obtain ⟨a1, a2, a3⟩ := hg _ _ _ _ h1
        obtain ⟨b1, b2, b3⟩ := takeFs_spec hg fs _ _ _ h2
        refine ⟨fun ρ => by rw [a1 ρ, b1 ρ]; simp [AV.cellsL], fun m => ?_, by simp only [AV.wfL]; exact ⟨a3, b3⟩⟩
        simp [AV.hasL, a2 m, b2 m]

theorem map_range_getD (k : IntKind) (l : List Int) : arrCells k l.length l = l.map (Value.int k) := by
  apply List.ext_getElem?
  intro j
  simp only [arrCells, List.getElem?_map]
  by_cases hj : j < l.length
  · simp [hj]
  · simp [hj]

theorem treeT_good (P : Program) : ∀ (d : Nat) (t : TypeId), Good (treeT P d t)
  | 0, t => by intro cs v r h; simp [treeT] at h
  | d + 1, t => by
    intro cs v r h
    unfold treeT at h
    split at h
    · split at h
      · rename_i n e _ _ k _
        cases ht : takeInts k n cs with
        | none => simp [ht] at h
        | some x =>
          obtain ⟨l, r'⟩ := x
          simp only [ht, Option.some.injEq, Prod.mk.injEq] at h
          obtain ⟨rfl, rfl⟩ := h
          obtain ⟨h1, h2, h3⟩ := takeInts_spec ht
          subst h1
          refine ⟨fun ρ => by simp only [AV.cells]; rw [map_range_getD]; exact h2, by simp [AV.has], ?_⟩
          simp only [AV.wf]
          refine ⟨trivial, fun j hj => ?_⟩
          have : l.getD j 0 = l[j] := by simp [hj]
          rw [this]
          exact h3 _ (List.getElem_mem hj)
      · rename_i n e _ _ _
        cases ht : takeN (treeT P d e) n cs with
        | none => simp [ht] at h
        | some x =>
          obtain ⟨ts, r'⟩ := x
          simp only [ht, Option.some.injEq, Prod.mk.injEq] at h
          obtain ⟨rfl, rfl⟩ := h
          obtain ⟨h1, h2, h3⟩ := takeN_spec (treeT_good P d e) _ _ _ _ ht
          exact ⟨fun ρ => by simp only [AV.cells]; exact h1 ρ, fun m => by simp only [AV.has]; exact h2 m, by simp only [AV.wf]; exact h3⟩
    · rename_i fs _
      cases ht : takeFs (treeT P d) fs.toList cs with
      | none => simp [ht] at h
      | some x =>
        obtain ⟨ts, r'⟩ := x
        simp only [ht, Option.some.injEq, Prod.mk.injEq] at h
        obtain ⟨rfl, rfl⟩ := h
        obtain ⟨h1, h2, h3⟩ := takeFs_spec (fun t => treeT_good P d t) _ _ _ _ ht
        exact ⟨fun ρ => by simp only [AV.cells]; exact h1 ρ, fun m => by simp only [AV.has]; exact h2 m, by simp only [AV.wf]; exact h3⟩
    · split at h
      · rename_i c r'
        cases hc : constA c with
        | none => simp [hc] at h
        | some u =>
          simp only [hc, Option.some.injEq, Prod.mk.injEq] at h
          obtain ⟨rfl, rfl⟩ := h
          refine ⟨fun ρ => ?_, (constA_enc (ρ := fun n => (n, 0)) hc).2, constA_wf hc⟩
          have := (constA_enc (ρ := ρ) hc).1
          have hna : u.isAgg = false := by
            unfold constA at hc
            split at hc <;> first
              | (cases hc; rfl)
              | (cases hk : inKB _ _ with
                 | false => rw [hk] at hc; cases hc
                 | true => rw [hk] at hc; cases hc; rfl)
              | (rename_i s; cases hk : decide (s.data.toList.length < 9223372036854775808) with
                 | false => rw [hk] at hc; cases hc
                 | true => rw [hk] at hc; cases hc; rfl)
              | cases hc
          rw [cells_of_not hna, this]; rfl
      · cases h
    · cases h

def zeroA (P : Program) (t : TypeId) : Option AV :=
  match P.info? t with
  | some i => match i.zero with
    | some z => match treeT P 8 t z.cells.toList with
      | some (v, []) => some v
      | _ => none
    | none => none
  | none => none

theorem zeroA_spec {P : Program} {t : TypeId} {v : AV} (h : zeroA P t = some v) : ∃ i z, P.info? t = some i ∧ i.zero = some z ∧ (∀ ρ : Ren, z.cells.toList = v.cells ρ) ∧ (∀ m, ¬ v.has m) ∧ v.wf := by
  unfold zeroA at h
  split at h
  · rename_i i hi
    split at h
    · rename_i z hz
      split at h
      · rename_i v' ht
        simp only [Option.some.injEq] at h
        subst h
        obtain ⟨h1, h2, h3⟩ := treeT_good P 8 t _ _ _ ht
        exact ⟨i, z, hi, hz, fun ρ => by simpa using h1 ρ, h2, h3⟩
      · cases h
    · cases h
  · cases h

/- a literal's parts -/
def setChild (z : AV) (i : Nat) (o s : Nat) (v : AV) : Option AV :=
  match z with
  | .agg ts =>
    match ts[i]? with
    | some u => bif Nat.beq (AV.sizeL (ts.take i)) o && Nat.beq s v.size && Nat.beq u.size v.size then some (.agg (ts.set i v)) else none
    | none => none
  | .arr k n l =>
    match v with
    | .int k' m => bif decide (k' = k) && Nat.blt i n && Nat.beq o i && Nat.beq s 1 then some (.arr k n (setP 0 l i m)) else none
    | _ => none
  | _ => none

def fillA (place : Nat → Option (Nat × Nat)) : AV → List (Nat × AV) → Option AV
  | z, [] => some z
  | z, (i, v) :: ps =>
    match place i with
    | some (o, s) => match setChild z i o s v with
      | some z' => fillA place z' ps
      | none => none
    | none => none

theorem setChild_cells {z v z' : AV} {i o s : Nat} (ρ : Ren) (h : setChild z i o s v = some z') :
    ∃ a u b, z.cells ρ = a ++ u ++ b ∧ z'.cells ρ = a ++ v.cells ρ ++ b ∧ a.length = o ∧ u.length = v.size ∧ s = v.size := by
  unfold setChild at h
  split at h
  · rename_i ts
    split at h
    · rename_i u hu
      cases hc : (Nat.beq (AV.sizeL (ts.take i)) o && Nat.beq s v.size && Nat.beq u.size v.size) with
      | false => simp [hc] at h
      | true =>
        simp only [hc, cond_true, Option.some.injEq] at h
        subst h
        simp only [Bool.and_eq_true] at hc
        have h1 := Nat.eq_of_beq_eq_true hc.1.1
        have h2 := Nat.eq_of_beq_eq_true hc.1.2
        have h3 := Nat.eq_of_beq_eq_true hc.2
        have hlt : i < ts.length := (List.getElem?_eq_some_iff.1 hu).1
        refine ⟨AV.cellsL ρ (ts.take i), u.cells ρ, AV.cellsL ρ (ts.drop (i + 1)), ?_, ?_, by rw [cellsL_length, h1], by rw [cells_length, h3], h2⟩
        · simp only [AV.cells]
          conv => lhs; rw [split_at hu]
          rw [cellsL_append]
          simp [AV.cellsL]
        · simp only [AV.cells]
          rw [set_at _ hlt, cellsL_append]
          simp [AV.cellsL]
    · cases h
  · rename_i k n l
    split at h
    · rename_i k' m
      cases hc : (decide (k' = k) && Nat.blt i n && Nat.beq o i && Nat.beq s 1) with
      | false => simp [hc] at h
      | true =>
        simp only [hc, cond_true, Option.some.injEq] at h
        subst h
        simp only [Bool.and_eq_true] at hc
        have h1 := of_decide_eq_true hc.1.1.1
        subst h1
        have hi : i < n := by have := hc.1.1.2; simp [Nat.blt] at this; omega
        have h3 := Nat.eq_of_beq_eq_true hc.1.2
        have h4 := Nat.eq_of_beq_eq_true hc.2
        have hx : (arrCells k' n l)[i]? = some (.int k' (l.getD i 0)) := by simp [arrCells, hi]
        refine ⟨(arrCells k' n l).take i, [.int k' (l.getD i 0)], (arrCells k' n l).drop (i + 1), ?_, ?_, by simp [arrCells_length]; omega, by simp [AV.size], by simp [AV.size, h4]⟩
        · simp only [AV.cells]
          conv => lhs; rw [split_at hx]
          simp
        · simp only [AV.cells]
          rw [arrCells_setP _ _ _ _ _ hi]
          simp
    · cases h
  · cases h

theorem foldl_set_seg (a b : List Value) : ∀ (x u : List Value) (j : Nat) (a' : List Value), u.length = x.length → a'.length = a.length + j →
    (x.zipIdx j).foldl (fun (cs : Array Value) (c : Value × Nat) => cs.setIfInBounds (a.length + c.2) c.1) (a' ++ u ++ b).toArray = (a' ++ x ++ b).toArray
  | [], u, j, a', hu, _ => by
    have : u = [] := by simpa using hu
    subst this
    simp
  | c :: x, [], j, a', hu, _ => by simp at hu
  | c :: x, y :: u, j, a', hu, ha => by
    simp only [List.zipIdx_cons, List.foldl_cons]
    have e : ((a' ++ (y :: u) ++ b).toArray).setIfInBounds (a.length + j) c = ((a' ++ [c]) ++ u ++ b).toArray := by
      apply Array.ext'
      simp [← ha]
    rw [e, foldl_set_seg a b x u (j + 1) (a' ++ [c]) (by simpa using hu) (by simp [ha]; omega)]
    simp

theorem fillA_run (ρ : Ren) (place : Nat → Option (Nat × Nat)) : ∀ (ps : List (Nat × AV)) (z v : AV), fillA place z ps = some v →
    Instr.fill place (z.cells ρ).toArray (ps.map fun p => (p.1, p.2.enc ρ)) = some (v.cells ρ).toArray
  | [], z, v, h => by simp [fillA] at h; subst h; simp [Instr.fill]
  | (i, x) :: ps, z, v, h => by
    simp only [fillA] at h
    cases hp : place i with
    | none => simp [hp] at h
    | some os =>
      obtain ⟨o, s⟩ := os
      simp only [hp] at h
      cases hs : setChild z i o s x with
      | none => simp [hs] at h
      | some z' =>
        simp only [hs] at h
        obtain ⟨a, u, b, h1, h2, h3, h4, h5⟩ := setChild_cells ρ hs
        have hsz : ((x.enc ρ).cells).size = x.size := by rw [← Array.length_toList, enc_cells, cells_length]
        simp only [List.map_cons, Instr.fill, hp, hsz, h5]
        have hb : ¬ ((x.size ≠ x.size || decide (o + x.size > (z.cells ρ).toArray.size)) = true) := by
          simp [h1]; omega
        simp only [hb, Bool.false_eq_true, if_false]
        have hz : (Array.foldl (fun (cs : Array Value) (c : Value × Nat) => cs.setIfInBounds (o + c.2) c.1) (z.cells ρ).toArray (x.enc ρ).cells.zipIdx) = (z'.cells ρ).toArray := by
          rw [← Array.foldl_toList, Array.toList_zipIdx, enc_cells, h1, h2, ← h3]
          exact foldl_set_seg a b (x.cells ρ) u 0 a (by rw [h4, cells_length]) (by simp)
        have ih := fillA_run ρ place ps z' v h
        rw [← hz] at ih
        exact ih

theorem setChild_has {z v z' : AV} {i o s : Nat} (h : setChild z i o s v = some z') : ∀ m, z'.has m → z.has m ∨ v.has m := by
  unfold setChild at h
  split at h
  · rename_i ts
    split at h
    · rename_i u hu
      cases hc : (Nat.beq (AV.sizeL (ts.take i)) o && Nat.beq s v.size && Nat.beq u.size v.size) with
      | false => simp [hc] at h
      | true =>
        simp only [hc, cond_true, Option.some.injEq] at h
        subst h
        intro m hm
        simp only [AV.has] at hm ⊢
        exact hasL_set hm
    · cases h
  · split at h
    · rename_i k n l _ k' m'
      cases hc : (decide (k' = k) && Nat.blt i n && Nat.beq o i && Nat.beq s 1) with
      | false => simp [hc] at h
      | true =>
        simp only [hc, cond_true, Option.some.injEq] at h
        subst h
        intro m hm
        simp [AV.has] at hm
    · cases h
  · cases h

theorem fillA_has (place : Nat → Option (Nat × Nat)) : ∀ (ps : List (Nat × AV)) (z v : AV), fillA place z ps = some v → ∀ m, v.has m → z.has m ∨ ∃ p ∈ ps, p.2.has m
  | [], z, v, h, m, hm => by simp [fillA] at h; subst h; exact .inl hm
  | (i, x) :: ps, z, v, h, m, hm => by
    simp only [fillA] at h
    cases hp : place i with
    | none => simp [hp] at h
    | some os =>
      obtain ⟨o, s⟩ := os
      simp only [hp] at h
      cases hs : setChild z i o s x with
      | none => simp [hs] at h
      | some z' =>
        simp only [hs] at h
        rcases fillA_has place ps z' v h m hm with h' | ⟨p, hp', hm'⟩
        · rcases setChild_has hs m h' with h' | h'
          · exact .inl h'
          · exact .inr ⟨(i, x), by simp, h'⟩
        · exact .inr ⟨p, by simp [hp'], hm'⟩

theorem setChild_wf {z v z' : AV} {i o s : Nat} (h : setChild z i o s v = some z') (hz : z.wf) (hv : v.wf) : z'.wf := by
  unfold setChild at h
  split at h
  · rename_i ts
    split at h
    · rename_i u hu
      cases hc : (Nat.beq (AV.sizeL (ts.take i)) o && Nat.beq s v.size && Nat.beq u.size v.size) with
      | false => simp [hc] at h
      | true =>
        simp only [hc, cond_true, Option.some.injEq] at h
        subst h
        simp only [AV.wf] at hz ⊢
        exact wfL_set hz hv
    · cases h
  · rename_i k n l
    split at h
    · rename_i k' m'
      cases hc : (decide (k' = k) && Nat.blt i n && Nat.beq o i && Nat.beq s 1) with
      | false => simp [hc] at h
      | true =>
        simp only [hc, cond_true, Option.some.injEq] at h
        simp only [Bool.and_eq_true] at hc
        have := of_decide_eq_true hc.1.1.1
        subst this
        subst h
        simp only [AV.wf] at hz hv ⊢
        have hb := hc.1.1.2
        refine ⟨by rw [length_setP _ _ _ _ (by simp [Nat.blt] at hb; omega)]; exact hz.1, fun j hj => ?_⟩
        rw [getD_setP]
        split
        · exact hv
        · exact hz.2 j hj
    · cases h
  · cases h

theorem fillA_wf (place : Nat → Option (Nat × Nat)) : ∀ (ps : List (Nat × AV)) (z v : AV), fillA place z ps = some v → z.wf → (∀ p ∈ ps, p.2.wf) → v.wf
  | [], z, v, h, hz, _ => by simp [fillA] at h; subst h; exact hz
  | (i, x) :: ps, z, v, h, hz, hp => by
    simp only [fillA] at h
    cases hpl : place i with
    | none => simp [hpl] at h
    | some os =>
      obtain ⟨o, s⟩ := os
      simp only [hpl] at h
      cases hs : setChild z i o s x with
      | none => simp [hs] at h
      | some z' =>
        simp only [hs] at h
        exact fillA_wf place ps z' v h (setChild_wf hs hz (hp (i, x) (by simp))) (fun p hm => hp p (by simp [hm]))

def partsV (tm : Tm) : List (Nat × Operand) → Option (List (Nat × AV))
  | [] => some []
  | (i, x) :: ps =>
    match opv tm x with
    | some v => match partsV tm ps with
      | some vs => some ((i, v) :: vs)
      | none => none
    | none => none

def fieldPlaces (P : Program) : List Field → Option (List (Nat × Nat))
  | [] => some []
  | f :: fs =>
    match P.info? f.type with
    | some i => match fieldPlaces P fs with
      | some ps => some ((f.offset, i.size) :: ps)
      | none => none
    | none => none

theorem fieldPlaces_eq (P : Program) : ∀ fs : List Field, fieldPlaces P fs = fs.mapM (fun f => (P.info? f.type).map fun i => (f.offset, i.size))
  | [] => by simp [fieldPlaces]
  | f :: fs => by
    simp only [fieldPlaces, List.mapM_cons, fieldPlaces_eq P fs]
    cases P.info? f.type with
    | none => rfl
    | some i =>
      simp only [Option.map_some, Option.bind_eq_bind, Option.bind_some]
      cases fs.mapM (fun f => (P.info? f.type).map fun i => (f.offset, i.size)) <;> rfl

def buildA (P : Program) (t : TypeId) (ps : List (Nat × AV)) : Option AV :=
  match zeroA P t with
  | some z =>
    match P.underlying t with
    | some (.struct fs) => match fieldPlaces P fs.toList with
      | some pl => fillA (fun i => pl[i]?) z ps
      | none => none
    | some (.array _ e) => match P.info? e with
      | some ie => fillA (fun i => some (i * ie.size, ie.size)) z ps
      | none => none
    | _ => none
  | none => none

theorem buildA_run {P : Program} {t : TypeId} {ps : List (Nat × AV)} {v : AV} (ρ : Ren) (w : World) (h : buildA P t ps = some v) :
    (Instr.build t (ps.map fun p => (p.1, p.2.enc ρ)).toArray).run P w = .ok (.agg (v.cells ρ).toArray) w ∧ ∀ m, v.has m → ∃ p ∈ ps, p.2.has m := by
  unfold buildA at h
  split at h
  · rename_i z hz
    obtain ⟨i, z0, hi, hz0, hzc, hzh, hzw⟩ := zeroA_spec hz
    have hcz : z0.cells = (z.cells ρ).toArray := by apply Array.ext'; simp [hzc ρ]
    split at h
    · rename_i fs hu
      cases hpl : fieldPlaces P fs.toList with
      | none => simp [hpl] at h
      | some pl =>
        simp only [hpl] at h
        refine ⟨run_build w t _ _ ?_, fun m hm => (fillA_has _ _ _ _ h m hm).resolve_left (hzh m)⟩
        have hf := fillA_run ρ _ ps z v h
        have hpl' := hpl
        rw [fieldPlaces_eq] at hpl'
        unfold Program.built
        simp only [hi, hu, hz0, hpl', hcz]
        simpa using hf
    · rename_i n e hu
      cases hie : P.info? e with
      | none => simp [hie] at h
      | some ie =>
        simp only [hie] at h
        refine ⟨run_build w t _ _ ?_, fun m hm => (fillA_has _ _ _ _ h m hm).resolve_left (hzh m)⟩
        have hf := fillA_run ρ _ ps z v h
        unfold Program.built
        simp only [hi, hu, hz0, hie, hcz]
        simpa using hf
    · cases h
  · cases h

theorem buildA_wf {P : Program} {t : TypeId} {ps : List (Nat × AV)} {v : AV} (h : buildA P t ps = some v) (hp : ∀ p ∈ ps, p.2.wf) : v.wf := by
  unfold buildA at h
  split at h
  · rename_i z hz
    obtain ⟨_, _, _, _, _, _, hzw⟩ := zeroA_spec hz
    split at h
    · split at h
      · exact fillA_wf _ _ _ _ h hzw hp
      · cases h
    · split at h
      · exact fillA_wf _ _ _ _ h hzw hp
      · cases h
    · cases h
  · cases h

end Go.Sim
namespace Go.Sim
variable {β : Type}

def isNilA : AV → Bool
  | .nil => true
  | _ => false

def binK (P : Program) (op : BinOp) (t : TypeId) (v u : AV) (K : AV → Option β) : Option β :=
  match v, u with
  | .int k a, .int k' b => intOpK op k a k' b K
  | .str a, .str b =>
    match op with
    | .eql => K (.bool (a == b))
    | .neq => K (.bool (!(a == b)))
    | .lss => K (.bool (Op.bytesLess a b))
    | .geq => K (.bool (!(Op.bytesLess a b)))
    | .leq => K (.bool (Op.bytesLess a b || (a == b)))
    | .gtr => K (.bool (!(Op.bytesLess a b || (a == b))))
    | _ => none
  | .bool a, .bool b =>
    match P.underlying t with
    | some .bool =>
      match op with
      | .eql => K (.bool (a == b))
      | .neq => K (.bool (!(a == b)))
      | _ => none
    | _ => none
  | .ptr _ _, .nil =>
    match P.underlying t with
    | some (.pointer _) =>
      match op with
      | .eql => K (.bool false)
      | .neq => K (.bool true)
      | _ => none
    | _ => none
  | .nil, .ptr _ _ =>
    match P.underlying t with
    | some (.pointer _) =>
      match op with
      | .eql => K (.bool false)
      | .neq => K (.bool true)
      | _ => none
    | _ => none
  | .nil, .nil =>
    match P.underlying t with
    | some (.pointer _) =>
      match op with
      | .eql => K (.bool true)
      | .neq => K (.bool false)
      | _ => none
    | _ => none
  | v, u =>
    bif v.isAgg && u.isAgg && !P.eqGuardType P.depth t then
      match eqT P 9 t v u with
      | some b =>
        match op with
        | .eql => K (.bool b)
        | .neq => K (.bool (!b))
        | _ => none
      | none => none
    else none

def unK (op : UnOp) (v : AV) (K : AV → Option β) : Option β :=
  match op, v with
  | .not, .bool b => K (.bool (!b))
  | .neg, .int k n => K (.int k (wr k (0 - n)))
  | .xor, .int k n => K (.int k (xorI k (if k.signed then -1 else k.max) n))
  | _, _ => none

def isIntT (P : Program) (t : TypeId) : Bool :=
  match P.underlying t with
  | some (.int _) => true
  | _ => false

def indexAddrK (P : Program) (t : TypeId) (x i : AV) (K : AV → Option β) : Option β :=
  match P.underlying t with
  | some (.array len e) =>
    match x with
    | .ptr n p =>
      match i with
      | .int _ i =>
        match P.info? e with
        | some ie =>
          bif inB i len then
            bif isIntT P e then
              bif Nat.beq ie.size 1 then K (.ptr n (p ++ [.elt i.toNat])) else none
            else K (.ptr n (p ++ [.fld (i.toNat * ie.size) i.toNat]))
          else none
        | none => none
      | _ => none
    | _ => none
  | _ => none

def indexK (P : Program) (t : TypeId) (x i : AV) (K : AV → Option β) : Option β :=
  match i with
  | .int _ i =>
    match x with
    | .arr k m l =>
      match P.underlying t with
      | some (.array len e) => bif Nat.beq len m && fits P e (.int k 0) then bif inB i len then K (.int k (l.getD i.toNat 0)) else none else none
      | _ => none
    | .agg ts =>
      match P.underlying t with
      | some (.array len e) =>
        match P.info? e with
        | some ie =>
          bif inB i len then
            match ts[i.toNat]? with
            | some u => bif Nat.beq (AV.sizeL (ts.take i.toNat)) (i.toNat * ie.size) && fits P e u then K u else none
            | none => none
          else none
        | none => none
      | _ => none
    | .str s =>
      match P.underlying t with
      | some .string => bif inB i s.length then K (.int .u8 ((s.getD i.toNat 0).toNat)) else none
      | _ => none
    | _ => none
  | _ => none

def minmaxA (mx : Bool) : List AV → Option AV
  | [.int k a, .int k' b] => bif decide (k = k') then some (.int k (bif mx then (if b > a then b else a) else (if b < a then b else a))) else none
  | _ => none

def valK (P : Program) (tm : Tm) (o : Oper) (K : AV → Option β) : Option β :=
  match o.op with
  | .move x => getK tm x K
  | .assign x => getK tm x K
  | .pick c a b =>
    match opv tm c with
    | some (.bool t) => bif t then getK tm a K else getK tm b K
    | _ => none
  | .nilCheck x =>
    match opv tm x with
    | some (.ptr n p) => K (.ptr n p)
    | _ => none
  | .binOp op t x y _ =>
    match opv tm x with
    | some v => match opv tm y with
      | some u => binK P op t v u K
      | none => none
    | none => none
  | .unOp op _ x =>
    match opv tm x with
    | some v => unK op v K
    | none => none
  | .convert s d x =>
    match P.underlying s with
    | some _ => match P.underlying d with
      | some (.int k) => match opv tm x with
        | some (.int _ n) => K (.int k (wr k n))
        | _ => none
      | _ => none
    | none => none
  | .fieldAddr s x f =>
    match P.underlying s with
    | some (.struct fs) => match opv tm x with
      | some (.ptr n p) => match fs[f]? with
        | some fd => match P.info? fd.type with
          | some i => bif Nat.beq i.size 0 then none else K (.ptr n (p ++ [.fld fd.offset f]))
          | none => none
        | none => none
      | _ => none
    | _ => none
  | .field s x f =>
    match P.underlying s with
    | some (.struct fs) => match opv tm x with
      | some (.agg ts) => match fs[f]? with
        | some fd => match ts[f]? with
          | some u => bif Nat.beq (AV.sizeL (ts.take f)) fd.offset && fits P fd.type u then K u else none
          | none => none
        | none => none
      | _ => none
    | _ => none
  | .indexAddr t x i =>
    match opv tm x with
    | some v => match opv tm i with
      | some u => indexAddrK P t v u K
      | none => none
    | none => none
  | .index t x i =>
    match opv tm x with
    | some v => match opv tm i with
      | some u => indexK P t v u K
      | none => none
    | none => none
  | .extract x i =>
    match opv tm x with
    | some (.tup ts) => match ts[i]? with
      | some v => K v
      | none => none
    | _ => none
  | .build t ps =>
    match partsV tm ps.toList with
    | some vs => match buildA P t vs with
      | some v => bif v.isAgg then K v else none
      | none => none
    | none => none
  | .call c =>
    match c.callee with
    | .builtin .min => match opvs tm c.args.toList with
      | some vs => match minmaxA false vs with
        | some v => K v
        | none => none
      | none => none
    | .builtin .max => match opvs tm c.args.toList with
      | some vs => match minmaxA true vs with
        | some v => K v
        | none => none
      | none => none
    | .builtin .len => match opvs tm c.args.toList with
      | some [.str s] => match c.argTypes[0]? with
        | some t => match P.underlying t with
          | some .string => K (.int .i64 s.length)
          | _ => none
        | none => none
      | _ => none
    | _ => none
  | _ => none

def val (P : Program) (tm : Tm) (o : Oper) : Option AV := valK P tm o some

theorem binK_eq (P : Program) (op : BinOp) (t : TypeId) (v u : AV) (K : AV → Option β) : binK P op t v u K = (binK P op t v u some).bind K := by
  unfold binK
  split
  · exact intOpK_eq ..
  · split <;> rfl
  · split
    · split <;> rfl
    · rfl
  · split
    · split <;> rfl
    · rfl
  · split
    · split <;> rfl
    · rfl
  · split
    · split <;> rfl
    · rfl
  · cases (_ && _ && !_) with
    | false => rfl
    | true =>
      simp only [cond_true]
      split
      · split <;> rfl
      · rfl

theorem indexAddrK_eq (P : Program) (t : TypeId) (x i : AV) (K : AV → Option β) : indexAddrK P t x i K = (indexAddrK P t x i some).bind K := by
  unfold indexAddrK
  repeat' (first | rfl | split)
  all_goals first | rfl | (cases inB _ _ <;> cases isIntT P _ <;> cases Nat.beq _ _ <;> rfl)

theorem indexK_eq (P : Program) (t : TypeId) (x i : AV) (K : AV → Option β) : indexK P t x i K = (indexK P t x i some).bind K := by
  unfold indexK
  repeat' (first | rfl | split)
  all_goals first | rfl | (cases inB _ _ <;> rfl) | (cases (_ && _) <;> cases inB _ _ <;> rfl)

theorem valK_eq (P : Program) (tm : Tm) (o : Oper) (K : AV → Option β) : valK P tm o K = (val P tm o).bind K := by
  unfold val valK
  split
  · unfold getK; split <;> rfl
  · unfold getK; split <;> rfl
  · split
    · rename_i t _
      unfold getK
      cases t <;> simp only [cond_true, cond_false] <;> split <;> rfl
    · rfl
  · split <;> rfl
  · split
    · split
      · exact binK_eq ..
      · rfl
    · rfl
  · split
    · unfold unK; split <;> rfl
    · rfl
  · split
    · split
      · split <;> rfl
      · rfl
    · rfl
  · split
    · split
      · split
        · split
          · cases Nat.beq _ _ <;> rfl
          · rfl
        · rfl
      · rfl
    · rfl
  · split
    · split
      · split
        · split
          · cases (_ && _) <;> rfl
          · rfl
        · rfl
      · rfl
    · rfl
  · split
    · split
      · exact indexAddrK_eq ..
      · rfl
    · rfl
  · split
    · split
      · exact indexK_eq ..
      · rfl
    · rfl
  · split
    · split <;> rfl
    · rfl
  · split
    · split
      · cases AV.isAgg _ <;> rfl
      · rfl
    · rfl
  · split
    · split
      · split <;> rfl
      · rfl
    · split
      · split <;> rfl
      · rfl
    · split
      · split
        · split <;> rfl
        · rfl
      · rfl
    · rfl
  · rfl
end Go.Sim
namespace Go.Sim

theorem pOff_append : ∀ (p : List Sel) (s : Sel), pOff (p ++ [s]) = pOff p + s.off
  | [], s => by simp [pOff]
  | t :: p, s => by simp only [List.cons_append, pOff, pOff_append p s]; omega

theorem addr_add (b o n : Nat) : (⟨b, o, none⟩ : Addr).add n = ⟨b, o + n, none⟩ := by
  unfold Addr.add
  split
  · rename_i h; simp [h]
  · rfl

theorem toList_mk (l : List UInt8) : (⟨l.toArray⟩ : ByteArray).toList = l := by simp [ByteArray.toList_eq]

theorem eqGuard_plain {P : Program} {op : BinOp} {t : TypeId} {x y : Operand} {a b : Value} (w : World)
    (h : match a, b with | .nilIface, .nilIface => False | .agg _, .agg _ => False | _, _ => True) : (eqGuard op t x y a b).run P w = .ok () w := by
  unfold eqGuard
  cases op <;> simp only [Bool.not_true, Bool.not_false, Bool.false_eq_true, if_false, if_true] <;> first
    | rfl
    | (cases a <;> first | rfl | (cases b <;> first | rfl | exact absurd h (by simp)))

theorem eqGuard_agg {P : Program} {op : BinOp} {t : TypeId} {x y : Operand} {a b : Array Value} (w : World)
    (h : P.eqGuardType P.depth t = false) : (eqGuard op t x y (.agg a) (.agg b)).run P w = .ok () w := by
  unfold eqGuard
  cases op <;> simp [h]

theorem eqP1 {P : Program} {t e : TypeId} (hu : P.underlying t = some (.pointer e)) (a : Addr) (w : World) :
    (Op.equal t (.pointer (some a)) (.pointer none)).run P w = .ok false w := by
  show (Op.equalIn (9999 + 1) t _ _).run P w = _
  rw [Op.equalIn]
  simp only [Sem.run_bind, run_underlying hu, Result.andThen_ok]
  rfl
theorem eqP2 {P : Program} {t e : TypeId} (hu : P.underlying t = some (.pointer e)) (a : Addr) (w : World) :
    (Op.equal t (.pointer none) (.pointer (some a))).run P w = .ok false w := by
  show (Op.equalIn (9999 + 1) t _ _).run P w = _
  rw [Op.equalIn]
  simp only [Sem.run_bind, run_underlying hu, Result.andThen_ok]
  rfl
theorem eqP3 {P : Program} {t e : TypeId} (hu : P.underlying t = some (.pointer e)) (w : World) :
    (Op.equal t (.pointer none) (.pointer none)).run P w = .ok true w := by
  show (Op.equalIn (9999 + 1) t _ _).run P w = _
  rw [Op.equalIn]
  simp only [Sem.run_bind, run_underlying hu, Result.andThen_ok]
  rfl

theorem andThen_ok' {α γ : Type} (a : α) (w : World) (f : α → World → Result γ) : (Result.ok a w).andThen f = f a w := rfl

theorem binK_run {P : Program} {op : BinOp} {t : TypeId} {v u r : AV} {ρ : Ren} (x y : Operand) (w : World) (h : binK P op t v u some = some r) :
    ((eqGuard op t x y (v.enc ρ) (u.enc ρ)).run P w = .ok () w) ∧ (binOp op t (v.enc ρ) (u.enc ρ)).run P w = .ok (r.enc ρ) w ∧ ∀ m, ¬ r.has m := by
  unfold binK at h
  split at h
  · refine ⟨eqGuard_plain w (by simp [AV.enc]), ?_⟩
    simp only [AV.enc]
    exact intOp_run w t h
  · refine ⟨eqGuard_plain w (by simp [AV.enc]), ?_⟩
    split at h <;> first
      | (cases h; done)
      | (cases h
         simp [AV.enc, AV.has, binOp, Op.stringOp])
  · refine ⟨eqGuard_plain w (by simp [AV.enc]), ?_⟩
    split at h
    · rename_i a b _ hu
      have hq : (Op.equal t (.bool a) (.bool b)).run P w = .ok (a == b) w := run_equal_bool w t a b hu
      split at h <;> first
        | (cases h; done)
        | (cases h
           simp [AV.enc, AV.has, binOp, hq])
    · cases h
  · refine ⟨eqGuard_plain w (by simp [AV.enc]), ?_⟩
    split at h
    · rename_i n p _ e hu
      have hq : (Op.equal t (.pointer (some ⟨(ρ n).1, (ρ n).2 + pOff p, none⟩)) (.pointer none)).run P w = .ok false w := eqP1 hu _ w
      split at h <;> first
        | (cases h; done)
        | (cases h
           simp [AV.enc, AV.has, binOp, hq])
    · cases h
  · refine ⟨eqGuard_plain w (by simp [AV.enc]), ?_⟩
    split at h
    · rename_i n p _ e hu
      have hq : (Op.equal t (.pointer none) (.pointer (some ⟨(ρ n).1, (ρ n).2 + pOff p, none⟩))).run P w = .ok false w := eqP2 hu _ w
      split at h <;> first
        | (cases h; done)
        | (cases h
           simp [AV.enc, AV.has, binOp, hq])
    · cases h
  · refine ⟨eqGuard_plain w (by simp [AV.enc]), ?_⟩
    split at h
    · rename_i e hu
      have hq : (Op.equal t (.pointer none) (.pointer none)).run P w = .ok true w := eqP3 hu w
      split at h <;> first
        | (cases h; done)
        | (cases h
           simp [AV.enc, AV.has, binOp, hq])
    · cases h
  · cases hc : (v.isAgg && u.isAgg && !P.eqGuardType P.depth t) with
    | false => simp [hc] at h
    | true =>
      simp only [hc, cond_true] at h
      simp only [Bool.and_eq_true, Bool.not_eq_true'] at hc
      obtain ⟨⟨hv, hu⟩, hg⟩ := hc
      split at h
      · rename_i b hb
        have hq : (Op.equal t (v.enc ρ) (u.enc ρ)).run P w = .ok b w := eqT_run 9 9990 t v u b hb
        rw [enc_of_agg hv, enc_of_agg hu] at hq ⊢
        refine ⟨eqGuard_agg w hg, ?_⟩
        split at h <;> first
          | (cases h; done)
          | (cases h
             simp [AV.enc, AV.has, binOp, hq])
      · cases h

theorem unK_run {P : Program} {op : UnOp} {v r : AV} {ρ : Ren} (w : World) (h : unK op v some = some r) :
    (Op.unary op (v.enc ρ)).run P w = .ok (r.enc ρ) w ∧ ∀ m, ¬ r.has m := by
  unfold unK at h
  split at h <;> first
    | (cases h; done)
    | (cases h
       simp [AV.enc, AV.has, Op.unary, Op.intArith, Op.intBits, xorI, wr_eq])

theorem indexAddrK_run {P : Program} {t : TypeId} {x i r : AV} {ρ : Ren} (w : World) (h : indexAddrK P t x i some = some r) :
    (Instr.indexAt t (x.enc ρ) (i.enc ρ)).run P w = .ok (r.enc ρ) w ∧ ∀ m, r.has m → x.has m := by
  unfold indexAddrK at h
  split at h
  · rename_i len e hu
    split at h
    · rename_i n p
      split at h
      · rename_i k i
        split at h
        · rename_i ie hie
          cases hb : inB i len with
          | false => simp [hb] at h
          | true =>
            have hin := inB_iff.1 hb
            simp only [hb, cond_true] at h
            have key : (Instr.indexAt t (.pointer (some ⟨(ρ n).1, (ρ n).2 + pOff p, none⟩)) (.int k i)).run P w =
                .ok (.pointer (some ⟨(ρ n).1, (ρ n).2 + pOff p + i.toNat * ie.size, none⟩)) w := by
              simp [Instr.indexAt, asIntOf, run_underlying hu, Instr.sureAddr, hin, sizeOf, typeInfo, hie, addr_add]
            cases hI : isIntT P e with
            | true =>
              simp only [hI, cond_true] at h
              cases h1 : Nat.beq ie.size 1 with
              | false => simp [h1] at h
              | true =>
                simp only [h1, cond_true, Option.some.injEq] at h
                subst h
                have h1 := Nat.eq_of_beq_eq_true h1
                simp only [AV.enc, key, h1, Nat.mul_one, pOff_append, Sel.off]
                exact ⟨by simp [Nat.add_assoc], fun m hm => by simpa [AV.has] using hm⟩
            | false =>
              simp only [hI, cond_false, Option.some.injEq] at h
              subst h
              simp only [AV.enc, key, pOff_append, Sel.off]
              exact ⟨by simp [Nat.add_assoc], fun m hm => by simpa [AV.has] using hm⟩
        · cases h
      · cases h
    · cases h
  · cases h

theorem indexK_run {P : Program} {t : TypeId} {x i r : AV} {ρ : Ren} (w : World) (h : indexK P t x i some = some r) :
    (Instr.index t (x.enc ρ) (i.enc ρ)).run P w = .ok (r.enc ρ) w ∧ ∀ m, r.has m → x.has m := by
  unfold indexK at h
  split at h
  · rename_i q i
    split at h
    · rename_i k m l
      split at h
      · rename_i len e hu
        cases hc : (Nat.beq len m && fits P e (.int k 0)) with
        | false => simp [hc] at h
        | true =>
          simp only [hc, cond_true] at h
          cases hb : inB i len with
          | false => simp [hb] at h
          | true =>
            have hin := inB_iff.1 hb
            simp only [hb, cond_true, Option.some.injEq] at h
            subst h
            simp only [Bool.and_eq_true] at hc
            have hlm := Nat.eq_of_beq_eq_true hc.1
            subst hlm
            obtain ⟨ie, de, hie, hde, hs, hr⟩ := fits_spec hc.2
            have hs1 : ie.size = 1 := by simpa [AV.size] using hs
            have hlt : i.toNat < len := by omega
            have hpart : (part e (arrCells k len l).toArray (i.toNat * ie.size)).run P w = .ok (.int k (l.getD i.toNat 0)) w := by
              unfold part
              rw [Sem.run_bind, run_isAgg hde w, Result.andThen_ok]
              have : (arrCells k len l).toArray[i.toNat * ie.size]? = some (.int k (l.getD i.toNat 0)) := by simp [hs1, arrCells, hlt]
              simp only [hr, AV.isAgg, Bool.false_eq_true, if_false, this]
              rfl
            refine ⟨?_, fun m hm => by simp [AV.has] at hm⟩
            simp only [AV.enc, Instr.index, Sem.run_bind, asIntOf, Sem.run_pure, Result.andThen_ok, run_underlying hu, hin, and_self, if_true, run_sizeOf' hie, hpart]
      · cases h
    · rename_i ts
      split at h
      · rename_i len e hu
        split at h
        · rename_i ie hie
          cases hb : inB i len with
          | false => simp [hb] at h
          | true =>
            have hin := inB_iff.1 hb
            simp only [hb, cond_true] at h
            split at h
            · rename_i u hu'
              cases hc : (Nat.beq (AV.sizeL (ts.take i.toNat)) (i.toNat * ie.size) && fits P e u) with
              | false => simp [hc] at h
              | true =>
                simp only [hc, cond_true, Option.some.injEq] at h
                subst h
                simp only [Bool.and_eq_true] at hc
                have ho := Nat.eq_of_beq_eq_true hc.1
                have hp := run_part_fits (P := P) (ρ := ρ) (cs := AV.cellsL ρ ts) (a := AV.cellsL ρ (ts.take i.toNat)) (b := AV.cellsL ρ (ts.drop (i.toNat + 1))) w hc.2 (by
                  conv => lhs; rw [split_at hu']
                  rw [cellsL_append]; simp [AV.cellsL])
                rw [cellsL_length, ho] at hp
                refine ⟨?_, fun m hm => by simp only [AV.has]; exact hasL_mem (List.mem_of_getElem? hu') hm⟩
                simp only [AV.enc, Instr.index, Sem.run_bind, asIntOf, Sem.run_pure, Result.andThen_ok, run_underlying hu, hin, and_self, if_true, run_sizeOf' hie, hp]
            · cases h
        · cases h
      · cases h
    · rename_i s
      split at h
      · rename_i hu
        cases hb : inB i s.length with
        | false => simp [hb] at h
        | true =>
          have hin := inB_iff.1 hb
          simp only [hb, cond_true, Option.some.injEq] at h
          subst h
          have hlt : i.toNat < s.length := by omega
          have hget : (⟨s.toArray⟩ : ByteArray)[i.toNat]? = some (s[i.toNat]) := by
            have hsz : i.toNat < (⟨s.toArray⟩ : ByteArray).size := by simpa [ByteArray.size] using hlt
            exact getElem?_pos (⟨s.toArray⟩ : ByteArray) i.toNat hsz
          refine ⟨?_, fun m hm => by simp [AV.has] at hm⟩
          simp [AV.enc, Instr.index, asIntOf, run_underlying hu, hin.1, hget, hlt]
      · cases h
    · cases h
  · cases h

theorem opvs_spec {tm : Tm} {ρ : Ren} {e : Operand → Value} (he : ∀ x u, opv tm x = some u → e x = u.enc ρ) : ∀ (xs : List Operand) (vs : List AV), opvs tm xs = some vs →
    xs.map e = vs.map (AV.enc ρ) ∧ ∀ v ∈ vs, ∃ x ∈ xs, opv tm x = some v
  | [], vs, h => by simp [opvs] at h; subst h; simp
  | x :: xs, vs, h => by
    simp only [opvs] at h
    cases h1 : opv tm x with
    | none => simp [h1] at h
    | some v =>
      cases h2 : opvs tm xs with
      | none => simp [h1, h2] at h
      | some vs' =>
        simp only [h1, h2, Option.some.injEq] at h
        subst h
        obtain ⟨a, b⟩ := opvs_spec he xs vs' h2
        refine ⟨by simp [he x v h1, a], fun u hu => ?_⟩
        rcases List.mem_cons.1 hu with rfl | hu
        · exact ⟨x, by simp, h1⟩
        · obtain ⟨y, hy, hv⟩ := b u hu
          exact ⟨y, by simp [hy], hv⟩

theorem partsV_spec {tm : Tm} {ρ : Ren} {e : Operand → Value} (he : ∀ x u, opv tm x = some u → e x = u.enc ρ) : ∀ (xs : List (Nat × Operand)) (vs : List (Nat × AV)), partsV tm xs = some vs →
    xs.map (fun p => (p.1, e p.2)) = vs.map (fun p => (p.1, p.2.enc ρ)) ∧ ∀ v ∈ vs, ∃ x ∈ xs, opv tm x.2 = some v.2
  | [], vs, h => by simp [partsV] at h; subst h; simp
  | (i, x) :: xs, vs, h => by
    simp only [partsV] at h
    cases h1 : opv tm x with
    | none => simp [h1] at h
    | some v =>
      cases h2 : partsV tm xs with
      | none => simp [h1, h2] at h
      | some vs' =>
        simp only [h1, h2, Option.some.injEq] at h
        subst h
        obtain ⟨a, b⟩ := partsV_spec he xs vs' h2
        refine ⟨by simp [he x v h1, a], fun u hu => ?_⟩
        rcases List.mem_cons.1 hu with rfl | hu
        · exact ⟨(i, x), by simp, h1⟩
        · obtain ⟨y, hy, hv⟩ := b u hu
          exact ⟨y, by simp [hy], hv⟩

theorem minmaxA_run {P : Program} {mx : Bool} {vs : List AV} {v : AV} {ρ : Ren} (w : World) (a : Array TypeId) (t : TypeId) (h : minmaxA mx vs = some v) :
    (if mx then Builtin.max_ a t (vs.map (AV.enc ρ)).toArray else Builtin.min_ a t (vs.map (AV.enc ρ)).toArray).run P w = .ok (v.enc ρ) w ∧ ∀ m, ¬ v.has m := by
  unfold minmaxA at h
  split at h
  · rename_i k a k' b
    cases hk : decide (k = k') with
    | false => simp [hk] at h
    | true =>
      rw [hk, cond_true] at h
      have := of_decide_eq_true hk
      subst this
      cases h
      cases mx <;> simp [AV.enc, AV.has, Builtin.max_, Builtin.min_, Builtin.max2, Builtin.min2]
  · cases h

theorem inK_byte (b : UInt8) : inK .u8 (b.toNat : Int) := by
  have := b.toNat_lt
  simp only [inK]; omega

theorem binK_wf {P : Program} {op : BinOp} {t : TypeId} {v u r : AV} (hv : v.wf) (h : binK P op t v u some = some r) : r.wf := by
  unfold binK at h
  split at h
  · simp only [AV.wf] at hv; exact intOp_wf hv h
  · split at h <;> first | (cases h; done) | (cases h; simp only [AV.wf])
  · split at h
    · split at h <;> first | (cases h; done) | (cases h; simp only [AV.wf])
    · cases h
  · split at h
    · split at h <;> first | (cases h; done) | (cases h; simp only [AV.wf])
    · cases h
  · split at h
    · split at h <;> first | (cases h; done) | (cases h; simp only [AV.wf])
    · cases h
  · split at h
    · split at h <;> first | (cases h; done) | (cases h; simp only [AV.wf])
    · cases h
  · cases hc : (v.isAgg && u.isAgg && !P.eqGuardType P.depth t) with
    | false => simp [hc] at h
    | true =>
      simp only [hc, cond_true] at h
      split at h
      · split at h <;> first | (cases h; done) | (cases h; simp only [AV.wf])
      · cases h

theorem unK_wf {op : UnOp} {v r : AV} (h : unK op v some = some r) : r.wf := by
  unfold unK at h
  split at h <;> first
    | (cases h; done)
    | (cases h; simp only [AV.wf]; done)
    | (cases h; simp only [AV.wf]; first | with_reducible exact wr_in .. | with_reducible exact inK_xorI ..)

theorem indexAddrK_wf {P : Program} {t : TypeId} {x i r : AV} (h : indexAddrK P t x i some = some r) : r.wf := by
  unfold indexAddrK at h
  split at h
  · rename_i len e hu
    split at h
    · rename_i n p
      split at h
      · rename_i k i
        split at h
        · rename_i ie hie
          cases hb : inB i len with
          | false => simp [hb] at h
          | true =>
            simp only [hb, cond_true] at h
            cases hI : isIntT P e with
            | true =>
              simp only [hI, cond_true] at h
              cases h1 : Nat.beq ie.size 1 with
              | false => simp [h1] at h
              | true => simp only [h1, cond_true, Option.some.injEq] at h; subst h; simp only [AV.wf]
            | false => simp only [hI, cond_false, Option.some.injEq] at h; subst h; simp only [AV.wf]
        · cases h
      · cases h
    · cases h
  · cases h

theorem indexK_wf {P : Program} {t : TypeId} {x i r : AV} (hx : x.wf) (h : indexK P t x i some = some r) : r.wf := by
  unfold indexK at h
  split at h
  · rename_i q i
    split at h
    · rename_i k m l
      split at h
      · rename_i len e hu
        cases hc : (Nat.beq len m && fits P e (.int k 0)) with
        | false => simp [hc] at h
        | true =>
          simp only [hc, cond_true] at h
          cases hb : inB i len with
          | false => simp [hb] at h
          | true =>
            have hin := inB_iff.1 hb
            simp only [hb, cond_true, Option.some.injEq] at h
            subst h
            simp only [Bool.and_eq_true] at hc
            have hlm := Nat.eq_of_beq_eq_true hc.1
            subst hlm
            simp only [AV.wf] at hx ⊢
            exact hx.2 _ (by omega)
      · cases h
    · rename_i ts
      split at h
      · split at h
        · rename_i len e _ _ ie _
          cases hb : inB i len with
          | false => simp [hb] at h
          | true =>
            simp only [hb, cond_true] at h
            split at h
            · rename_i u hu
              cases hc : (Nat.beq (AV.sizeL (ts.take i.toNat)) (i.toNat * ie.size) && fits P e u) with
              | false => simp [hc] at h
              | true =>
                simp only [hc, cond_true, Option.some.injEq] at h
                subst h
                simp only [AV.wf] at hx
                exact wfL_mem hx (List.mem_of_getElem? hu)
            · cases h
        · cases h
      · cases h
    · rename_i s
      split at h
      · cases hb : inB i s.length with
        | false => simp [hb] at h
        | true => simp only [hb, cond_true, Option.some.injEq] at h; subst h; simp only [AV.wf]; exact inK_byte _
      · cases h
    · cases h
  · cases h

theorem minmaxA_wf {mx : Bool} {vs : List AV} {v : AV} (hv : ∀ u ∈ vs, u.wf) (h : minmaxA mx vs = some v) : v.wf := by
  unfold minmaxA at h
  split at h
  · rename_i k a k' b
    cases hk : decide (k = k') with
    | false => simp [hk] at h
    | true =>
      rw [hk, cond_true] at h
      have := of_decide_eq_true hk
      subst this
      have h1 := hv (.int k a) (by simp)
      have h2 := hv (.int k b) (by simp)
      cases h
      simp only [AV.wf] at h1 h2 ⊢
      cases mx <;> simp only [cond_true, cond_false] <;> split <;> assumption
  · cases h
end Go.Sim
namespace Go.Sim

theorem getK_some {tm : Tm} {x : Operand} {v : AV} (h : getK tm x some = some v) : opv tm x = some v := by
  unfold getK at h
  split at h
  · rename_i u hu; cases h; exact hu
  · cases h

/-- the value's names are the operands' -/
def From (tm : Tm) (o : Oper) (v : AV) : Prop := ∀ m, v.has m → ∃ x ∈ o.op.operands, ∃ u, opv tm x = some u ∧ u.has m

set_option maxHeartbeats 1000000 in
theorem val_run {P : Program} {tm : Tm} {o : Oper} {v : AV} {ρ : Ren} {e : Operand → Value} (h : val P tm o = some v)
    (he : ∀ x u, opv tm x = some u → e x = u.enc ρ) (w : World) :
    (execOp e o).run P w = .ok (.value (v.enc ρ)) w ∧ From tm o v := by
  obtain ⟨dst, op, type, pos, after, guard⟩ := o
  unfold val valK at h
  unfold From
  split at h
  · rename_i x hop
    simp only at hop; subst hop
    have h1 := getK_some h
    exact ⟨by simp [execOp, he x v h1], fun m hm => ⟨x, by simp [Op.operands], v, h1, hm⟩⟩
  · rename_i x hop
    simp only at hop; subst hop
    have h1 := getK_some h
    exact ⟨by simp [execOp, he x v h1], fun m hm => ⟨x, by simp [Op.operands], v, h1, hm⟩⟩
  · rename_i c a b hop
    simp only at hop; subst hop
    split at h
    · rename_i t hc
      have hc' := he c _ hc
      cases t
      · simp only [cond_false] at h
        have h1 := getK_some h
        exact ⟨by simp [execOp, hc', AV.enc, asBool, he b v h1], fun m hm => ⟨b, by simp [Op.operands], v, h1, hm⟩⟩
      · simp only [cond_true] at h
        have h1 := getK_some h
        exact ⟨by simp [execOp, hc', AV.enc, asBool, he a v h1], fun m hm => ⟨a, by simp [Op.operands], v, h1, hm⟩⟩
    · cases h
  · rename_i x hop
    simp only at hop; subst hop
    split at h
    · rename_i n p hx
      cases h
      have hx' := he x _ hx
      exact ⟨by simp [execOp, hx', AV.enc], fun m hm => ⟨x, by simp [Op.operands], _, hx, hm⟩⟩
    · cases h
  · rename_i op t x y yt hop
    simp only at hop; subst hop
    split at h
    · rename_i a ha
      split at h
      · rename_i b hb
        obtain ⟨h1, h2, h3⟩ := binK_run (ρ := ρ) x y w h
        refine ⟨?_, fun m hm => absurd hm (h3 m)⟩
        simp only [execOp, he x a ha, he y b hb, Sem.run_bind, h1, h2, Result.andThen_ok, Sem.run_pure]
      · cases h
    · cases h
  · rename_i op t x hop
    simp only at hop; subst hop
    split at h
    · rename_i a ha
      obtain ⟨h1, h2⟩ := unK_run (P := P) (ρ := ρ) w h
      refine ⟨?_, fun m hm => absurd hm (h2 m)⟩
      simp only [execOp, he x a ha, Sem.run_bind, h1, Result.andThen_ok, Sem.run_pure]
    · cases h
  · rename_i s d x hop
    simp only at hop; subst hop
    split at h
    · rename_i sd hs
      split at h
      · rename_i k hd
        split at h
        · rename_i k' n hx
          cases h
          refine ⟨?_, fun m hm => by simp [AV.has] at hm⟩
          simp [execOp, he x _ hx, AV.enc, convert, run_underlying hs, run_underlying hd, Conv.intToInt, wr_eq]
        · cases h
      · cases h
    · cases h
  · rename_i s x f hop
    simp only at hop; subst hop
    split at h
    · rename_i fs hs
      split at h
      · rename_i n p hx
        split at h
        · rename_i fd hf
          split at h
          · rename_i i hi
            cases hz : Nat.beq i.size 0 with
            | true => simp [hz] at h
            | false =>
              simp only [hz, cond_false, Option.some.injEq] at h
              subst h
              have hnz : i.size ≠ 0 := fun e => by rw [e] at hz; simp at hz
              refine ⟨?_, fun m hm => ⟨x, by simp [Op.operands], _, hx, by simpa [AV.has] using hm⟩⟩
              simp only [execOp, he x _ hx, AV.enc, Instr.fieldAt, Sem.run_bind, run_underlying hs, Result.andThen_ok, hf, Instr.sureAddr, Sem.run_pure, fieldPlace, run_sizeOf' hi, hnz, if_false, addr_add, pOff_append, Sel.off, Sem.run_ite]
              simp [Nat.add_assoc]
          · cases h
        · cases h
      · cases h
    · cases h
  · rename_i s x f hop
    simp only at hop; subst hop
    split at h
    · rename_i fs hs
      split at h
      · rename_i ts hx
        split at h
        · rename_i fd hf
          split at h
          · rename_i u hu
            cases hc : (Nat.beq (AV.sizeL (ts.take f)) fd.offset && fits P fd.type u) with
            | false => simp [hc] at h
            | true =>
              simp only [hc, cond_true, Option.some.injEq] at h
              subst h
              simp only [Bool.and_eq_true] at hc
              have ho := Nat.eq_of_beq_eq_true hc.1
              have hp := run_part_fits (P := P) (ρ := ρ) (cs := AV.cellsL ρ ts) (a := AV.cellsL ρ (ts.take f)) (b := AV.cellsL ρ (ts.drop (f + 1))) w hc.2 (by
                conv => lhs; rw [split_at hu]
                rw [cellsL_append]; simp [AV.cellsL])
              rw [cellsL_length, ho] at hp
              refine ⟨?_, fun m hm => ⟨x, by simp [Op.operands], _, hx, by simp only [AV.has]; exact hasL_mem (List.mem_of_getElem? hu) hm⟩⟩
              simp only [execOp, he x _ hx, AV.enc, Instr.field, Sem.run_bind, run_underlying hs, Result.andThen_ok, hf, asAgg, Sem.run_pure, hp]
          · cases h
        · cases h
      · cases h
    · cases h
  · rename_i t x i hop
    simp only at hop; subst hop
    split at h
    · rename_i a ha
      split at h
      · rename_i b hb
        obtain ⟨h1, h2⟩ := indexAddrK_run (ρ := ρ) w h
        refine ⟨?_, fun m hm => ⟨x, by simp [Op.operands], a, ha, h2 m hm⟩⟩
        simp only [execOp, he x a ha, he i b hb, Sem.run_bind, h1, Result.andThen_ok, Sem.run_pure]
      · cases h
    · cases h
  · rename_i t x i hop
    simp only at hop; subst hop
    split at h
    · rename_i a ha
      split at h
      · rename_i b hb
        obtain ⟨h1, h2⟩ := indexK_run (ρ := ρ) w h
        refine ⟨?_, fun m hm => ⟨x, by simp [Op.operands], a, ha, h2 m hm⟩⟩
        simp only [execOp, he x a ha, he i b hb, Sem.run_bind, h1, Result.andThen_ok, Sem.run_pure]
      · cases h
    · cases h
  · rename_i x i hop
    simp only at hop; subst hop
    split at h
    · rename_i ts hx
      split at h
      · rename_i u hu
        cases h
        refine ⟨?_, fun m hm => ⟨x, by simp [Op.operands], _, hx, by simp only [AV.has]; exact hasL_mem (List.mem_of_getElem? hu) hm⟩⟩
        have : (AV.encL ρ ts)[i]? = some (v.enc ρ) := by rw [encL_eq]; simp [hu]
        simp [execOp, he x _ hx, AV.enc, Instr.extract, this]
      · cases h
    · cases h
  · rename_i t ps hop
    simp only at hop; subst hop
    split at h
    · rename_i vs hvs
      split at h
      · rename_i u hu
        cases ha : u.isAgg with
        | false => simp [ha] at h
        | true =>
          simp only [ha, cond_true, Option.some.injEq] at h
          subst h
          obtain ⟨h1, h2⟩ := buildA_run (P := P) ρ w hu
          obtain ⟨g1, g2⟩ := partsV_spec he ps.toList vs hvs
          have e1 : ps.map (fun x => (x.1, e x.2)) = (vs.map fun p => (p.1, p.2.enc ρ)).toArray := by
            apply Array.ext'; simpa using g1
          refine ⟨?_, fun m hm => ?_⟩
          · simp only [execOp]
            rw [show (ps.map fun x => match x with | (i, x) => (i, e x)) = ps.map (fun x => (x.1, e x.2)) from rfl, e1]
            simp only [Sem.run_bind, h1, Result.andThen_ok, Sem.run_pure, enc_of_agg ha]
          · obtain ⟨p, hp, hpm⟩ := h2 m hm
            obtain ⟨x, hx, hxv⟩ := g2 p hp
            exact ⟨x.2, by simp [Op.operands]; exact ⟨x.1, by simpa using hx⟩, p.2, hxv, hpm⟩
      · cases h
    · cases h
  · rename_i c hop
    simp only at hop; subst hop
    obtain ⟨callee, args, argTypes⟩ := c
    simp only at h
    split at h
    · split at h
      · rename_i vs hvs
        split at h
        · rename_i u hu
          cases h
          obtain ⟨g1, _⟩ := opvs_spec he args.toList vs hvs
          have e1 : args.map e = (vs.map (AV.enc ρ)).toArray := by apply Array.ext'; simpa using g1
          obtain ⟨h1, h2⟩ := minmaxA_run (P := P) (ρ := ρ) w argTypes type hu
          simp only [Bool.false_eq_true, if_false] at h1
          refine ⟨?_, fun m hm => absurd hm (h2 m)⟩
          simp [execOp, resolve, invoke, builtin, e1, h1]
        · cases h
      · cases h
    · split at h
      · rename_i vs hvs
        split at h
        · rename_i u hu
          cases h
          obtain ⟨g1, _⟩ := opvs_spec he args.toList vs hvs
          have e1 : args.map e = (vs.map (AV.enc ρ)).toArray := by apply Array.ext'; simpa using g1
          obtain ⟨h1, h2⟩ := minmaxA_run (P := P) (ρ := ρ) w argTypes type hu
          simp only [if_true] at h1
          refine ⟨?_, fun m hm => absurd hm (h2 m)⟩
          simp [execOp, resolve, invoke, builtin, e1, h1]
        · cases h
      · cases h
    · split at h
      · rename_i s hvs
        split at h
        · rename_i t ht
          split at h
          · rename_i hu
            cases h
            obtain ⟨g1, _⟩ := opvs_spec he args.toList _ hvs
            have e1 : args.map e = #[.string ⟨s.toArray⟩] := by apply Array.ext'; simpa [AV.enc] using g1
            refine ⟨?_, fun m hm => by simp [AV.has] at hm⟩
            have hsz : (⟨s.toArray⟩ : ByteArray).size = s.length := by show s.toArray.size = _; simp
            simp [execOp, resolve, invoke, builtin, e1, Builtin.len_, ht, run_underlying hu, goInt, AV.enc, hsz]
          · cases h
        · cases h
      · cases h
    · cases h
  · cases h

theorem opv_wf {tm : Tm} (hw : ∀ (i : Nat) v, tm.getD i none = some v → v.wf) {x : Operand} {v : AV} (h : opv tm x = some v) : v.wf := by
  cases x with
  | tmp t => exact hw t v h
  | const c => exact constA_wf h
  | global g => cases h
  | func f => cases h; simp only [AV.wf]

theorem opvs_wf {tm : Tm} (hw : ∀ (i : Nat) v, tm.getD i none = some v → v.wf) {xs : List Operand} {vs : List AV} (h : opvs tm xs = some vs) : ∀ v ∈ vs, v.wf := fun v hv => by
  obtain ⟨x, _, hx⟩ := (opvs_spec (ρ := fun n => (n, 0)) (e := fun x => match opv tm x with | some u => u.enc (fun n => (n, 0)) | none => undef) (fun x u hx => by simp [hx]) _ vs h).2 v hv
  exact opv_wf hw hx

set_option maxHeartbeats 1000000 in
theorem val_wf {P : Program} {tm : Tm} {o : Oper} {v : AV} (hw : ∀ (i : Nat) v, tm.getD i none = some v → v.wf) (h : val P tm o = some v) : v.wf := by
  have one : ∀ {x u}, opv tm x = some u → u.wf := fun h => opv_wf hw h
  unfold val valK at h
  split at h
  · exact one (getK_some h)
  · exact one (getK_some h)
  · split at h
    · rename_i t _
      cases t <;> simp only [cond_true, cond_false] at h <;> exact one (getK_some h)
    · cases h
  · split at h
    · cases h; simp only [AV.wf]
    · cases h
  · split at h
    · rename_i a ha
      split at h
      · exact binK_wf (one ha) h
      · cases h
    · cases h
  · split at h
    · exact unK_wf h
    · cases h
  · split at h
    · split at h
      · split at h
        · cases h; simp only [AV.wf]; exact wr_in ..
        · cases h
      · cases h
    · cases h
  · split at h
    · split at h
      · split at h
        · split at h
          · rename_i i _
            cases hz : Nat.beq i.size 0 with
            | true => simp [hz] at h
            | false => simp only [hz, cond_false, Option.some.injEq] at h; subst h; simp only [AV.wf]
          · cases h
        · cases h
      · cases h
    · cases h
  · split at h
    · split at h
      · rename_i ts hx
        split at h
        · rename_i fd _
          split at h
          · rename_i f _ _ _ _ _ u hu
            have hts := one hx
            simp only [AV.wf] at hts
            have hmem := wfL_mem hts (List.mem_of_getElem? hu)
            revert h
            cases (_ && _) with
            | false => intro h; cases h
            | true => intro h; cases h; exact hmem
          · cases h
        · cases h
      · cases h
    · cases h
  · split at h
    · split at h
      · exact indexAddrK_wf h
      · cases h
    · cases h
  · split at h
    · rename_i a ha
      split at h
      · exact indexK_wf (one ha) h
      · cases h
    · cases h
  · split at h
    · rename_i ts hx
      split at h
      · rename_i u hu
        cases h
        have hts := one hx
        simp only [AV.wf] at hts
        exact wfL_mem hts (List.mem_of_getElem? hu)
      · cases h
    · cases h
  · split at h
    · rename_i vs hvs
      split at h
      · rename_i u hu
        cases ha : u.isAgg with
        | false => simp [ha] at h
        | true =>
          simp only [ha, cond_true, Option.some.injEq] at h
          subst h
          refine buildA_wf hu fun p hp => ?_
          obtain ⟨x, _, hxv⟩ := (partsV_spec (ρ := fun n => (n, 0)) (e := fun x => match opv tm x with | some u => u.enc (fun n => (n, 0)) | none => undef) (fun x u hx => by simp [hx]) _ vs hvs).2 p hp
          exact one hxv
      · cases h
    · cases h
  · split at h
    · split at h
      · rename_i vs hvs
        split at h
        · rename_i u hu; cases h; exact minmaxA_wf (opvs_wf hw hvs) hu
        · cases h
      · cases h
    · split at h
      · rename_i vs hvs
        split at h
        · rename_i u hu; cases h; exact minmaxA_wf (opvs_wf hw hvs) hu
        · cases h
      · cases h
    · split at h
      · rename_i s hvs
        split at h
        · split at h
          · cases h
            have := opvs_wf hw hvs (.str s) (by simp)
            simp only [AV.wf] at this ⊢
            simp only [inK]
            omega
          · cases h
        · cases h
      · cases h
    · cases h
  · cases h
end Go.Sim
namespace Go.Sim

abbrev Hp := List (Option AV)

structure St where
  tm : Tm
  hp : Hp
  base : Nat

/-- a function that looks at no memory that was there -/
structure PSem where
  run : {β : Type} → List AV → (AV → Option β) → Option β
/-- a function that reads memory, and leaves it -/
structure RSem where
  run : {β : Type} → List AV → Hp → (AV → Option β) → Option β
/-- a function that may write: its arguments, memory, a name for a block of its own -/
structure FSem where
  run : {β : Type} → List AV → Hp → Nat → (AV → Hp → Option β) → Option β

inductive Entry where
  | pure (s : PSem)
  | read (s : RSem)
  | full (s : FSem)

abbrev Env := FuncId → Option Entry

def Entry.Law : Entry → Prop
  | .pure s => ∀ (β : Type) (args : List AV) (K : AV → Option β), s.run args K = (s.run args some).bind K
  | .read s => ∀ (β : Type) (args : List AV) (hp : Hp) (K : AV → Option β), s.run args hp K = (s.run args hp some).bind K
  | .full s => ∀ (β : Type) (args : List AV) (hp : Hp) (nm : Nat) (K : AV → Hp → Option β), s.run args hp nm K = (s.run args hp nm (fun v h => some (v, h))).bind fun x => K x.1 x.2

def Env.Law (Γ : Env) : Prop := ∀ f e, Γ f = some e → e.Law

variable {β : Type}

def setT (tm : Tm) (d : Option Tmp) (v : Option AV) : Tm :=
  match d with
  | some d => tm.set d v
  | none => tm

/- a value whose cells are single ones -/
mutual
def AV.oneA : AV → Bool
  | .tup _ => false
  | .agg ts => AV.oneAL ts
  | _ => true
def AV.oneAL : List AV → Bool
  | [] => true
  | t :: ts => t.oneA && AV.oneAL ts
end

def loadK (P : Program) (tm : Tm) (hp : Hp) (t : TypeId) (x : Operand) (K : AV → Option β) : Option β :=
  match opv tm x with
  | some (.ptr n p) =>
    match hp.getD n none with
    | some tree => subK p tree fun v => bif fits P t v then K v else none
    | none => none
  | _ => none

def storeK (P : Program) (tm : Tm) (hp : Hp) (t : TypeId) (x y : Operand) (K : Hp → Option β) : Option β :=
  match opv tm x with
  | some (.ptr n p) =>
    match opv tm y with
    | some v =>
      match hp.getD n none with
      | some tree => bif v.oneA && fits P t v then putK p tree v fun tree' => K (setP none hp n (some tree')) else none
      | none => none
    | none => none
  | _ => none

/-- what a new block holds -/
def allocA (P : Program) (tm : Tm) : Op → Option AV
  | .alloc t => match zeroA P t with
    | some v => bif v.oneA then some v else none
    | none => none
  | .box _ x => match opv tm x with
    | some v => bif v.oneA then some v else none
    | none => none
  | _ => none

inductive Cls where
  | val | load | store | alloc | pure (s : PSem) | read (s : RSem) | full (s : FSem) | bad

def cls (Γ : Env) (o : Op) : Cls :=
  match o with
  | .load .. => .load
  | .store .. => .store
  | .alloc _ => .alloc
  | .box .. => .alloc
  | .call c =>
    match c.callee with
    | .value (.func f) =>
      match Γ f with
      | some (.pure s) => .pure s
      | some (.read s) => .read s
      | some (.full s) => .full s
      | none => .bad
    | .builtin _ => .val
    | _ => .bad
  | .go _ => .bad
  | .defer _ => .bad
  | .select .. => .bad
  | _ => .val

def callArgs (tm : Tm) (o : Op) : Option (List AV) :=
  match o with
  | .call c => opvs tm c.args.toList
  | _ => none

def execK (P : Program) (Γ : Env) (o : Oper) (nm : Nat) (st : St) (K : St → Option β) : Option β :=
  match cls Γ o.op with
  | .val => valK P st.tm o fun v => K ⟨setT st.tm o.dst (some v), st.hp, st.base⟩
  | .load =>
    match o.op with
    | .load t x => loadK P st.tm st.hp t x fun v => K ⟨setT st.tm o.dst (some v), st.hp, st.base⟩
    | _ => none
  | .store =>
    match o.op with
    | .store t x y => storeK P st.tm st.hp t x y fun hp' => K ⟨setT st.tm o.dst none, hp', st.base⟩
    | _ => none
  | .alloc =>
    match allocA P st.tm o.op with
    | some v =>
      match st.hp.getD nm none with
      | none => K ⟨setT st.tm o.dst (some (.ptr nm [])), setP none st.hp nm (some v), st.base⟩
      | some _ => none
    | none => none
  | .pure s =>
    match callArgs st.tm o.op with
    | some vs => s.run vs fun v => K ⟨setT st.tm o.dst (some v), st.hp, st.base⟩
    | none => none
  | .read s =>
    match callArgs st.tm o.op with
    | some vs => s.run vs st.hp fun v => K ⟨setT st.tm o.dst (some v), st.hp, st.base⟩
    | none => none
  | .full s =>
    match callArgs st.tm o.op with
    | some vs =>
      match st.hp.getD nm none with
      | none => s.run vs st.hp nm fun v hp' => K ⟨setT st.tm o.dst (some v), hp', st.base⟩
      | some _ => none
    | none => none
  | .bad => none

/-- with its guard; the guard's temporary is known behind the test -/
def opK (P : Program) (Γ : Env) (ops : List Oper) (o : Oper) (nm : Nat) (st : St) (K : St → Option β) : Option β :=
  match o.guard with
  | none => execK P Γ o nm st K
  | some (j, want) =>
    match (ops[j]?).bind (·.dst) with
    | some t =>
      match st.tm.getD t none with
      | some (.bool b) =>
        bif b then
          bif want then execK P Γ o nm ⟨st.tm.set t (some (.bool true)), st.hp, st.base⟩ K
          else K ⟨setT (st.tm.set t (some (.bool true))) o.dst (some undefA), st.hp, st.base⟩
        else
          bif want then K ⟨setT (st.tm.set t (some (.bool false))) o.dst (some undefA), st.hp, st.base⟩
          else execK P Γ o nm ⟨st.tm.set t (some (.bool false)), st.hp, st.base⟩ K
      | some (.tup []) => K ⟨setT st.tm o.dst (some undefA), st.hp, st.base⟩
      | _ => none
    | none => none

def isAl (Γ : Env) (o : Oper) : Nat :=
  match cls Γ o.op with
  | .alloc => 1
  | .full _ => 1
  | _ => 0

def opsK (P : Program) (Γ : Env) (ops : List Oper) : List Oper → Nat → St → (St → Option β) → Option β
  | [], c, st, K => K ⟨st.tm, st.hp, st.base + c⟩
  | o :: os, c, st, K => opK P Γ ops o (st.base + c) st fun st' => opsK P Γ ops os (c + isAl Γ o) st' K

/- the direct forms -/
def opD (P : Program) (Γ : Env) (ops : List Oper) (o : Oper) (nm : Nat) (st : St) : Option St := opK P Γ ops o nm st some

theorem loadK_eq (P : Program) (tm : Tm) (hp : Hp) (t : TypeId) (x : Operand) (K : AV → Option β) : loadK P tm hp t x K = (loadK P tm hp t x some).bind K := by
  unfold loadK
  split
  · split
    · rw [subK_eq, subK_eq]
      cases sub _ _ with
      | none => rfl
      | some v => simp only [Option.bind_some]; cases fits P t v <;> rfl
    · rfl
  · rfl

theorem storeK_eq (P : Program) (tm : Tm) (hp : Hp) (t : TypeId) (x y : Operand) (K : Hp → Option β) : storeK P tm hp t x y K = (storeK P tm hp t x y some).bind K := by
  unfold storeK
  split
  · split
    · split
      · cases (_ && _) with
        | false => rfl
        | true => simp only [cond_true]; rw [putK_eq', putK_eq']; cases put _ _ _ <;> rfl
      · rfl
    · rfl
  · rfl

theorem kont {A S : Type} {F : (β : Type) → (A → Option β) → Option β} (hF : ∀ (β : Type) (K : A → Option β), F β K = (F A some).bind K) (g : A → S) (K : S → Option β) :
    F β (fun v => K (g v)) = (F S (fun v => some (g v))).bind K := by
  rw [hF, hF S]; cases F A some <;> rfl

theorem execK_eq {P : Program} {Γ : Env} (hΓ : Γ.Law) (o : Oper) (nm : Nat) (st : St) (K : St → Option β) :
    execK P Γ o nm st K = (execK P Γ o nm st some).bind K := by
  unfold execK
  split
  · exact kont (F := fun β K => valK P st.tm o K) (fun β K => valK_eq ..) (fun v => ⟨setT st.tm o.dst (some v), st.hp, st.base⟩) K
  · split
    · exact kont (F := fun β K => loadK P st.tm st.hp _ _ K) (fun β K => loadK_eq ..) (fun v => ⟨setT st.tm o.dst (some v), st.hp, st.base⟩) K
    · rfl
  · split
    · exact kont (F := fun β K => storeK P st.tm st.hp _ _ _ K) (fun β K => storeK_eq ..) (fun hp' => ⟨setT st.tm o.dst none, hp', st.base⟩) K
    · rfl
  · split
    · split <;> rfl
    · rfl
  · rename_i s hs
    have hl : (Entry.pure s).Law := by
      unfold cls at hs
      split at hs <;> try (cases hs; done)
      split at hs <;> try (cases hs; done)
      split at hs <;> try (cases hs; done)
      rename_i f _ s' hg
      cases hs
      exact hΓ _ _ hg
    split
    · exact kont (F := fun β K => s.run _ K) (fun β K => hl β _ K) (fun v => ⟨setT st.tm o.dst (some v), st.hp, st.base⟩) K
    · rfl
  · rename_i s hs
    have hl : (Entry.read s).Law := by
      unfold cls at hs
      split at hs <;> try (cases hs; done)
      split at hs <;> try (cases hs; done)
      split at hs <;> try (cases hs; done)
      rename_i f _ s' hg
      cases hs
      exact hΓ _ _ hg
    split
    · exact kont (F := fun β K => s.run _ _ K) (fun β K => hl β _ _ K) (fun v => ⟨setT st.tm o.dst (some v), st.hp, st.base⟩) K
    · rfl
  · rename_i s hs
    have hl : (Entry.full s).Law := by
      unfold cls at hs
      split at hs <;> try (cases hs; done)
      split at hs <;> try (cases hs; done)
      split at hs <;> try (cases hs; done)
      rename_i f _ s' hg
      cases hs
      exact hΓ _ _ hg
    split
    · split
      · rename_i vs _ _ _
        rw [hl β vs, hl St vs]
        cases s.run vs st.hp nm (fun v h => some (v, h)) <;> rfl
      · rfl
    · rfl
  · rfl

theorem opK_eq {P : Program} {Γ : Env} (hΓ : Γ.Law) (ops : List Oper) (o : Oper) (nm : Nat) (st : St) (K : St → Option β) :
    opK P Γ ops o nm st K = (opD P Γ ops o nm st).bind K := by
  unfold opD opK
  split
  · exact execK_eq hΓ ..
  · rename_i j want _
    split
    · split
      · rename_i b _
        cases b <;> cases want <;> simp only [cond_true, cond_false] <;> first | rfl | exact execK_eq hΓ ..
      · rfl
      · rfl
    · rfl

/-- the guard, without the refinement: the same -/
theorem opD_guard {P : Program} {Γ : Env} {ops : List Oper} {o : Oper} {nm : Nat} {st : St} {j : Nat} {want : Bool} (hg : o.guard = some (j, want)) {st' : St}
    (h : opD P Γ ops o nm st = some st') : (∃ t b, (ops[j]?).bind (·.dst) = some t ∧ st.tm.getD t none = some (.bool b) ∧
      ((b = want ∧ execK P Γ o nm st some = some st') ∨ (b ≠ want ∧ st' = ⟨setT st.tm o.dst (some undefA), st.hp, st.base⟩))) ∨
      ∃ t, (ops[j]?).bind (·.dst) = some t ∧ st.tm.getD t none = some (.tup []) ∧ st' = ⟨setT st.tm o.dst (some undefA), st.hp, st.base⟩ := by
  unfold opD opK at h
  rw [hg] at h
  simp only at h
  split at h
  · rename_i t ht
    split at h
    · rename_i b hb
      refine .inl ⟨t, b, ht, hb, ?_⟩
      have hset : st.tm.set t (some (.bool b)) = st.tm := by
        have hlt : t < st.tm.length := by
          rcases Nat.lt_or_ge t st.tm.length with h' | h'
          · exact h'
          · simp [List.getElem?_eq_none h'] at hb
        apply List.ext_getElem?
        intro i
        rw [List.getElem?_set]
        split
        · rename_i hi
          subst hi
          simp only [List.getD_eq_getElem?_getD] at hb
          cases hq : st.tm[t]? with
          | none => simp [hq] at hb
          | some x => simp [hq] at hb; simp [hb]
        · rfl
      cases b <;> cases want <;> simp only [cond_true, cond_false] at h <;> rw [hset] at h
      · exact .inl ⟨rfl, h⟩
      · exact .inr ⟨by simp, by cases h; rfl⟩
      · exact .inr ⟨by simp, by cases h; rfl⟩
      · exact .inl ⟨rfl, h⟩
    · rename_i hb
      exact .inr ⟨t, ht, hb, by cases h; rfl⟩
    · cases h
  · cases h
end Go.Sim
namespace Go.Sim

def Pres (hp : Hp) (m : Nat) : Prop := ∃ t, hp.getD m none = some t

def ClosedV (hp : Hp) (v : AV) : Prop := ∀ m, v.has m → Pres hp m
def ClosedH (hp : Hp) : Prop := ∀ n v, hp.getD n none = some v → ClosedV hp v
def ClosedT (tm : Tm) (hp : Hp) : Prop := ∀ (i : Nat) v, tm.getD i none = some v → ClosedV hp v

def WfT (tm : Tm) : Prop := ∀ (i : Nat) v, tm.getD i none = some v → v.wf
def WfH (hp : Hp) : Prop := ∀ n v, hp.getD n none = some v → v.wf
structure WfSt (st : St) : Prop where
  tm : WfT st.tm
  hp : WfH st.hp

structure Closed (st : St) : Prop where
  tm : ClosedT st.tm st.hp
  hp : ClosedH st.hp

def Entry.Good : Entry → Prop
  | .pure s => (Entry.pure s).Law ∧ (∀ args v, s.run args some = some v → ∀ m, ¬ v.has m) ∧ ∀ args v, s.run args some = some v → (∀ u ∈ args, u.wf) → v.wf
  | .read s => (Entry.read s).Law ∧ (∀ args hp v, s.run args hp some = some v → ClosedH hp → (∀ u ∈ args, ClosedV hp u) → ClosedV hp v) ∧
      ∀ args hp v, s.run args hp some = some v → (∀ u ∈ args, u.wf) → WfH hp → v.wf
  | .full s => (Entry.full s).Law ∧ (∀ args hp nm v hp', s.run args hp nm (fun v h => some (v, h)) = some (v, hp') → ClosedH hp → (∀ u ∈ args, ClosedV hp u) →
      ClosedV hp' v ∧ ClosedH hp' ∧ ∀ m, Pres hp m → Pres hp' m) ∧
      ∀ args hp nm v hp', s.run args hp nm (fun v h => some (v, h)) = some (v, hp') → (∀ u ∈ args, u.wf) → WfH hp → v.wf ∧ WfH hp'

def Env.Good (Γ : Env) : Prop := ∀ f e, Γ f = some e → e.Good

theorem Env.Good.law {Γ : Env} (h : Γ.Good) : Γ.Law := fun f e he => by
  have := h f e he
  cases e <;> exact this.1

theorem pres_setP {hp : Hp} {n m : Nat} {v : AV} (h : Pres hp m) : Pres (setP none hp n (some v)) m := by
  obtain ⟨t, ht⟩ := h
  unfold Pres
  rw [getD_setP]
  split
  · exact ⟨v, rfl⟩
  · exact ⟨t, ht⟩

theorem pres_self {hp : Hp} {n : Nat} {v : AV} : Pres (setP none hp n (some v)) n := ⟨v, by rw [getD_setP]; simp⟩

/-- what an operation yields, and what becomes of memory -/
def effD (P : Program) (Γ : Env) (o : Oper) (nm : Nat) (tm : Tm) (hp : Hp) : Option (Option AV × Hp) :=
  match cls Γ o.op with
  | .val => (val P tm o).map fun v => (some v, hp)
  | .load =>
    match o.op with
    | .load t x => (loadK P tm hp t x some).map fun v => (some v, hp)
    | _ => none
  | .store =>
    match o.op with
    | .store t x y => (storeK P tm hp t x y some).map fun hp' => (none, hp')
    | _ => none
  | .alloc =>
    match allocA P tm o.op with
    | some v =>
      match hp.getD nm none with
      | none => some (some (.ptr nm []), setP none hp nm (some v))
      | some _ => none
    | none => none
  | .pure s =>
    match callArgs tm o.op with
    | some vs => (s.run vs some).map fun v => (some v, hp)
    | none => none
  | .read s =>
    match callArgs tm o.op with
    | some vs => (s.run vs hp some).map fun v => (some v, hp)
    | none => none
  | .full s =>
    match callArgs tm o.op with
    | some vs =>
      match hp.getD nm none with
      | none => s.run vs hp nm fun v hp' => some (some v, hp')
      | some _ => none
    | none => none
  | .bad => none

theorem law_of_cls {Γ : Env} {o : Op} {e : Entry} (h : cls Γ o = match e with | .pure s => .pure s | .read s => .read s | .full s => .full s) : ∃ f, Γ f = some e := by
  unfold cls at h
  split at h <;> try (cases e <;> cases h; done)
  split at h <;> try (cases e <;> cases h; done)
  split at h <;> cases e <;> cases h <;> exact ⟨_, by assumption⟩

theorem execK_eff {P : Program} {Γ : Env} (hΓ : Γ.Law) (o : Oper) (nm : Nat) (st : St) :
    execK P Γ o nm st some = (effD P Γ o nm st.tm st.hp).map fun x => ⟨setT st.tm o.dst x.1, x.2, st.base⟩ := by
  unfold execK effD
  cases hs : cls Γ o.op with
  | val => simp only; rw [valK_eq]; cases val P st.tm o <;> rfl
  | load =>
    simp only
    generalize o.op = op
    cases op <;> try rfl
    simp only
    rw [loadK_eq]; cases loadK P st.tm st.hp _ _ some <;> rfl
  | store =>
    simp only
    generalize o.op = op
    cases op <;> try rfl
    simp only
    rw [storeK_eq]; cases storeK P st.tm st.hp _ _ _ some <;> rfl
  | alloc =>
    simp only
    cases allocA P st.tm o.op with
    | none => rfl
    | some v => simp only; cases st.hp.getD nm none <;> rfl
  | pure s =>
    obtain ⟨f, hf⟩ := law_of_cls (e := .pure s) hs
    have hl := hΓ _ _ hf
    simp only
    cases callArgs st.tm o.op with
    | none => rfl
    | some vs => simp only; rw [hl]; cases s.run vs some <;> rfl
  | read s =>
    obtain ⟨f, hf⟩ := law_of_cls (e := .read s) hs
    have hl := hΓ _ _ hf
    simp only
    cases callArgs st.tm o.op with
    | none => rfl
    | some vs => simp only; rw [hl]; cases s.run vs st.hp some <;> rfl
  | full s =>
    obtain ⟨f, hf⟩ := law_of_cls (e := .full s) hs
    have hl := hΓ _ _ hf
    simp only
    cases callArgs st.tm o.op with
    | none => rfl
    | some vs =>
      simp only
      cases st.hp.getD nm none with
      | none => simp only; rw [hl St vs, hl (Option AV × Hp) vs]; cases s.run vs st.hp nm (fun v h => some (v, h)) <;> rfl
      | some _ => rfl
  | bad => rfl

/-- with its guard -/
def geff (P : Program) (Γ : Env) (ops : List Oper) (o : Oper) (nm : Nat) (tm : Tm) (hp : Hp) : Option (Option AV × Hp) :=
  match o.guard with
  | none => effD P Γ o nm tm hp
  | some (j, want) =>
    match (ops[j]?).bind (·.dst) with
    | some t =>
      match tm.getD t none with
      | some (.bool b) => if b = want then effD P Γ o nm tm hp else some (some undefA, hp)
      | some (.tup []) => some (some undefA, hp)
      | _ => none
    | none => none

theorem opD_geff {P : Program} {Γ : Env} (hΓ : Γ.Law) {ops : List Oper} {o : Oper} {nm : Nat} {st st' : St} (h : opD P Γ ops o nm st = some st') :
    ∃ x, geff P Γ ops o nm st.tm st.hp = some x ∧ st' = ⟨setT st.tm o.dst x.1, x.2, st.base⟩ := by
  cases hg : o.guard with
  | none =>
    have h' := h
    unfold opD opK at h'
    rw [hg] at h'
    simp only at h'
    rw [execK_eff hΓ] at h'
    cases he : effD P Γ o nm st.tm st.hp with
    | none => simp [he] at h'
    | some x =>
      simp only [he, Option.map_some, Option.some.injEq] at h'
      exact ⟨x, by simp [geff, hg, he], h'.symm⟩
  | some jw =>
    obtain ⟨j, want⟩ := jw
    rcases opD_guard hg h with ⟨t, b, h1, h2, h3⟩ | ⟨t, h1, h2, rfl⟩
    case inr => exact ⟨(some undefA, st.hp), by simp [geff, hg, h1, h2, -List.getD_eq_getElem?_getD], rfl⟩
    rcases h3 with ⟨rfl, h3⟩ | ⟨h3, rfl⟩
    · rw [execK_eff hΓ] at h3
      cases he : effD P Γ o nm st.tm st.hp with
      | none => simp [he] at h3
      | some x =>
        simp only [he, Option.map_some, Option.some.injEq] at h3
        exact ⟨x, by simp [geff, hg, h1, h2, he, -List.getD_eq_getElem?_getD], h3.symm⟩
    · exact ⟨(some undefA, st.hp), by simp [geff, hg, h1, h2, h3, -List.getD_eq_getElem?_getD], rfl⟩

/-- the direct step, by its effect -/
def stepD (P : Program) (Γ : Env) (ops : List Oper) (o : Oper) (nm : Nat) (st : St) : Option St :=
  (geff P Γ ops o nm st.tm st.hp).map fun x => ⟨setT st.tm o.dst x.1, x.2, st.base⟩

theorem opD_step {P : Program} {Γ : Env} (hΓ : Γ.Law) {ops : List Oper} {o : Oper} {nm : Nat} {st st' : St} (h : opD P Γ ops o nm st = some st') :
    stepD P Γ ops o nm st = some st' := by
  obtain ⟨x, h1, h2⟩ := opD_geff hΓ h
  simp [stepD, h1, h2]

/-! what an operation looks at -/
theorem opv_set {tm : Tm} {d : Option Tmp} {v : Option AV} {x : Operand} (h : ∀ t, d = some t → x ≠ .tmp t) : opv (setT tm d v) x = opv tm x := by
  cases d with
  | none => rfl
  | some d =>
    cases x with
    | tmp t =>
      have hne : d ≠ t := fun e => h d rfl (by rw [e])
      simp [opv, setT, List.getElem?_set_ne hne]
    | _ => rfl

theorem opvs_set {tm : Tm} {d : Option Tmp} {v : Option AV} : ∀ {xs : List Operand}, (∀ t, d = some t → Operand.tmp t ∉ xs) → opvs (setT tm d v) xs = opvs tm xs
  | [], _ => rfl
  | x :: xs, h => by
    simp only [opvs]
    rw [opv_set (fun t ht hx => h t ht (by simp [hx])), opvs_set (xs := xs) (fun t ht hx => h t ht (by simp [hx]))]

theorem partsV_set {tm : Tm} {d : Option Tmp} {v : Option AV} : ∀ {xs : List (Nat × Operand)}, (∀ t, d = some t → Operand.tmp t ∉ xs.map (·.2)) → partsV (setT tm d v) xs = partsV tm xs
  | [], _ => rfl
  | (i, x) :: xs, h => by
    simp only [partsV]
    rw [opv_set (fun t ht hx => h t ht (by simp [hx])), partsV_set (xs := xs) (fun t ht hx => h t ht (by simp at hx ⊢; exact .inr hx))]

def Off (d : Option Tmp) (o : Oper) : Prop := ∀ t, d = some t → Operand.tmp t ∉ o.op.operands.toList

theorem Off.one {d : Option Tmp} {o : Oper} (h : Off d o) {x : Operand} (hx : x ∈ o.op.operands.toList) : ∀ t, d = some t → x ≠ .tmp t :=
  fun t ht e => h t ht (e ▸ hx)

theorem val_set {P : Program} {tm : Tm} {o : Oper} {d : Option Tmp} {v : Option AV} (h : Off d o) : val P (setT tm d v) o = val P tm o := by
  obtain ⟨dst, op, type, pos, after, guard⟩ := o
  have one : ∀ x, x ∈ op.operands.toList → opv (setT tm d v) x = opv tm x := fun x hx => opv_set (Off.one h hx)
  unfold val valK
  cases op <;> simp only [Op.operands] at one <;> try rfl
  case move x => simp only [getK, one x (by simp)]
  case assign x => simp only [getK, one x (by simp)]
  case pick c a b => simp only [getK, one c (by simp), one a (by simp), one b (by simp)]
  case nilCheck x => simp only [one x (by simp)]
  case binOp op t x y yt => simp only [one x (by simp), one y (by simp)]
  case unOp op t x => simp only [one x (by simp)]
  case convert s t x => simp only [one x (by simp)]
  case fieldAddr s x f => simp only [one x (by simp)]
  case field s x f => simp only [one x (by simp)]
  case indexAddr t x i => simp only [one x (by simp), one i (by simp)]
  case index t x i => simp only [one x (by simp), one i (by simp)]
  case extract x i => simp only [one x (by simp)]
  case build t ps =>
    simp only [partsV_set (xs := ps.toList) (fun t ht hx => h t ht (by simpa [Op.operands] using hx))]
  case call c =>
    have : opvs (setT tm d v) c.args.toList = opvs tm c.args.toList :=
      opvs_set fun t ht hx => h t ht (by simp [Op.operands, Call.operands]; right; simpa using hx)
    simp only [this]

theorem loadK_set {P : Program} {tm : Tm} {hp : Hp} {t : TypeId} {x : Operand} {d : Option Tmp} {v : Option AV} (h : ∀ t, d = some t → x ≠ .tmp t) :
    loadK P (setT tm d v) hp t x some = loadK P tm hp t x some := by simp only [loadK, opv_set h]

theorem storeK_set {P : Program} {tm : Tm} {hp : Hp} {t : TypeId} {x y : Operand} {d : Option Tmp} {v : Option AV} (h : ∀ t, d = some t → x ≠ .tmp t) (h' : ∀ t, d = some t → y ≠ .tmp t) :
    storeK P (setT tm d v) hp t x y some = storeK P tm hp t x y some := by simp only [storeK, opv_set h, opv_set h']

theorem allocA_set {P : Program} {tm : Tm} {o : Oper} {d : Option Tmp} {v : Option AV} (h : Off d o) : allocA P (setT tm d v) o.op = allocA P tm o.op := by
  cases ho : o.op <;> simp only [allocA]
  rename_i t x
  rw [opv_set (Off.one h (by simp [ho, Op.operands]))]

theorem callArgs_set {tm : Tm} {o : Oper} {d : Option Tmp} {v : Option AV} (h : Off d o) : callArgs (setT tm d v) o.op = callArgs tm o.op := by
  cases ho : o.op <;> simp only [callArgs]
  rename_i c
  exact opvs_set fun t ht hx => h t ht (by simp [ho, Op.operands, Call.operands]; right; simpa using hx)

theorem effD_set {P : Program} {Γ : Env} {tm : Tm} {hp : Hp} {o : Oper} {nm : Nat} {d : Option Tmp} {v : Option AV} (h : Off d o) :
    effD P Γ o nm (setT tm d v) hp = effD P Γ o nm tm hp := by
  unfold effD
  split
  · rw [val_set h]
  · split
    · rename_i t x ho
      rw [loadK_set (Off.one h (by simp [ho, Op.operands]))]
    · rfl
  · split
    · rename_i t x y ho
      rw [storeK_set (Off.one h (by simp [ho, Op.operands])) (Off.one h (by simp [ho, Op.operands]))]
    · rfl
  · rw [allocA_set h]
  · rw [callArgs_set h]
  · rw [callArgs_set h]
  · rw [callArgs_set h]
  · rfl

theorem geff_set {P : Program} {Γ : Env} {ops : List Oper} {tm : Tm} {hp : Hp} {o : Oper} {nm : Nat} {d : Option Tmp} {v : Option AV}
    (h : ∀ t, d = some t → t ∉ o.looksAt ops.toArray) : geff P Γ ops o nm (setT tm d v) hp = geff P Γ ops o nm tm hp := by
  have hoff : Off d o := fun t ht hx => h t ht (List.mem_append_left _ (List.mem_filterMap.2 ⟨.tmp t, hx, rfl⟩))
  unfold geff
  split
  · exact effD_set hoff
  · rename_i j want hg
    cases ht : (ops[j]?).bind (·.dst) with
    | none => rfl
    | some t =>
      have hne : ∀ d', d = some d' → d' ≠ t := fun d' hd e => h d' hd (by
        subst e
        refine List.mem_append_right _ ?_
        simp only [hg, List.getElem?_toArray, ht]
        simp)
      have e1 : (setT tm d v).getD t none = tm.getD t none := by
        cases d with
        | none => rfl
        | some d' => simp [setT, List.getElem?_set_ne (hne d' rfl)]
      simp only [e1, effD_set hoff]
end Go.Sim
namespace Go.Sim

def Cls.still : Cls → Bool
  | .val | .pure _ => true
  | _ => false
def Cls.looks : Cls → Bool
  | .val | .pure _ | .load | .read _ => true
  | _ => false

def pairOk (c d : Cls) : Bool :=
  c.still || d.still || (c.looks && d.looks) ||
  match c, d with
  | .load, .alloc | .alloc, .load | .alloc, .alloc | .alloc, .store | .store, .alloc => true
  | _, _ => false

/-- a guard decides as it does, whatever memory holds -/
theorem geff_cases {P : Program} {Γ : Env} {ops : List Oper} {o : Oper} {nm : Nat} {tm : Tm} {hp : Hp} {x : Option AV × Hp} (h : geff P Γ ops o nm tm hp = some x) :
    (effD P Γ o nm tm hp = some x ∧ ∀ hp2, geff P Γ ops o nm tm hp2 = effD P Γ o nm tm hp2) ∨ (x = (some undefA, hp) ∧ ∀ hp2, geff P Γ ops o nm tm hp2 = some (some undefA, hp2)) := by
  unfold geff at h
  split at h
  · rename_i hg
    exact .inl ⟨h, fun hp2 => by simp [geff, hg]⟩
  · rename_i j want hg
    split at h
    · rename_i t ht
      split at h
      · rename_i b hb
        split at h
        · rename_i e
          exact .inl ⟨h, fun hp2 => by simp [geff, hg, ht, hb, e, -List.getD_eq_getElem?_getD]⟩
        · rename_i e
          cases h
          exact .inr ⟨rfl, fun hp2 => by simp [geff, hg, ht, hb, e, -List.getD_eq_getElem?_getD]⟩
      · rename_i hb
        cases h
        exact .inr ⟨rfl, fun hp2 => by simp [geff, hg, ht, hb, -List.getD_eq_getElem?_getD]⟩
      · cases h
    · cases h

/-- how an effect turns memory, by its class -/
theorem geff_still {P : Program} {Γ : Env} {ops : List Oper} {o : Oper} {nm : Nat} {tm : Tm} {hp hp2 : Hp} {x : Option AV × Hp} (hc : (cls Γ o.op).still = true)
    (h : geff P Γ ops o nm tm hp = some x) : x.2 = hp ∧ geff P Γ ops o nm tm hp2 = some (x.1, hp2) := by
  have key : ∀ y, effD P Γ o nm tm hp = some y → y.2 = hp ∧ effD P Γ o nm tm hp2 = some (y.1, hp2) := by
    intro y hy
    unfold effD at hy ⊢
    cases hcl : cls Γ o.op <;> simp only [hcl, Cls.still, Bool.false_eq_true] at hc hy ⊢
    · cases hv : val P tm o with
      | none => simp [hv] at hy
      | some v => simp only [hv, Option.map_some, Option.some.injEq] at hy; subst hy; simp
    · rename_i s
      cases hv : callArgs tm o.op with
      | none => simp [hv] at hy
      | some vs =>
        simp only [hv] at hy ⊢
        cases hr : s.run vs some with
        | none => simp [hr] at hy
        | some v => simp only [hr, Option.map_some, Option.some.injEq] at hy; subst hy; simp
  rcases geff_cases h with ⟨f, f'⟩ | ⟨rfl, f'⟩
  · obtain ⟨e1, e2⟩ := key x f
    exact ⟨e1, by rw [f' hp2]; exact e2⟩
  · exact ⟨rfl, f' hp2⟩

theorem geff_looks {P : Program} {Γ : Env} {ops : List Oper} {o : Oper} {nm : Nat} {tm : Tm} {hp : Hp} {x : Option AV × Hp} (hc : (cls Γ o.op).looks = true)
    (h : geff P Γ ops o nm tm hp = some x) : x.2 = hp := by
  have key : ∀ y, effD P Γ o nm tm hp = some y → y.2 = hp := by
    intro y hy
    unfold effD at hy
    cases hcl : cls Γ o.op <;> simp only [hcl, Cls.looks, Bool.false_eq_true] at hc hy
    · cases hv : val P tm o with
      | none => simp [hv] at hy
      | some v => simp only [hv, Option.map_some, Option.some.injEq] at hy; subst hy; rfl
    · split at hy
      · rename_i t x' _
        cases hv : loadK P tm hp t x' some with
        | none => simp [hv] at hy
        | some v => simp only [hv, Option.map_some, Option.some.injEq] at hy; subst hy; rfl
      · cases hy
    · rename_i s
      cases hv : callArgs tm o.op with
      | none => simp [hv] at hy
      | some vs =>
        simp only [hv] at hy
        cases hr : s.run vs some with
        | none => simp [hr] at hy
        | some v => simp only [hr, Option.map_some, Option.some.injEq] at hy; subst hy; rfl
    · rename_i s
      cases hv : callArgs tm o.op with
      | none => simp [hv] at hy
      | some vs =>
        simp only [hv] at hy
        cases hr : s.run vs hp some with
        | none => simp [hr] at hy
        | some v => simp only [hr, Option.map_some, Option.some.injEq] at hy; subst hy; rfl
  rcases geff_cases h with ⟨f, _⟩ | ⟨rfl, _⟩
  · exact key x f
  · rfl

theorem opv_closed {tm : Tm} {hp : Hp} (hc : ClosedT tm hp) {x : Operand} {v : AV} (h : opv tm x = some v) : ClosedV hp v := by
  cases x with
  | tmp t => exact hc t v h
  | const c => intro m hm; exact absurd hm ((constA_enc (ρ := fun n => (n, 0)) h).2 m)
  | global g => cases h
  | func f => cases h; intro m hm; simp [AV.has] at hm

theorem getD_setP_ne {hp : Hp} {n m : Nat} {v : Option AV} (h : n ≠ m) : (setP none hp n v).getD m none = hp.getD m none := by
  rw [getD_setP, if_neg h]

/-- a load, seen over another block -/
theorem loadK_other {P : Program} {tm : Tm} {hp : Hp} {t : TypeId} {x : Operand} {n : Nat} {v : Option AV} (hx : ∀ m p, opv tm x = some (.ptr m p) → n ≠ m) :
    loadK P tm (setP none hp n v) t x some = loadK P tm hp t x some := by
  unfold loadK
  split
  · rename_i m p hm
    rw [getD_setP_ne (hx m p hm)]
  · rfl

theorem eff_comm {P : Program} {Γ : Env} {oi oj : Oper} {ni nj : Nat} {tm : Tm} {hp : Hp} {xi xj : Option AV × Hp} (hcl : ClosedT tm hp)
    (hn : (cls Γ oi.op matches .alloc) → (cls Γ oj.op matches .alloc) → ni ≠ nj)
    (hp' : pairOk (cls Γ oi.op) (cls Γ oj.op) = true)
    (hsi : (cls Γ oi.op).still = false) (hsj : (cls Γ oj.op).still = false) (hl : ((cls Γ oi.op).looks && (cls Γ oj.op).looks) = false)
    (h1 : effD P Γ oi ni tm hp = some xi) (h2 : effD P Γ oj nj tm xi.2 = some xj) :
    ∃ yj yi, effD P Γ oj nj tm hp = some yj ∧ effD P Γ oi ni tm yj.2 = some yi ∧ yj.1 = xj.1 ∧ yi.1 = xi.1 ∧ yi.2 = xj.2 := by
  simp only [pairOk, hsi, hsj, hl, Bool.false_or] at hp'
  have al : ∀ {o : Oper} {n : Nat} {h x}, cls Γ o.op = .alloc → effD P Γ o n tm h = some x → ∃ v, allocA P tm o.op = some v ∧ h.getD n none = none ∧ x = (some (.ptr n []), setP none h n (some v)) := by
    intro o n h x hc he
    unfold effD at he
    simp only [hc] at he
    cases ha : allocA P tm o.op with
    | none => simp [ha] at he
    | some v =>
      cases hg : h.getD n none with
      | some _ => simp only [ha, hg] at he; cases he
      | none => simp only [ha, hg, Option.some.injEq] at he; exact ⟨v, rfl, rfl, he.symm⟩
  have al' : ∀ {o : Oper} {n : Nat} {h v}, cls Γ o.op = .alloc → allocA P tm o.op = some v → h.getD n none = none → effD P Γ o n tm h = some (some (.ptr n []), setP none h n (some v)) := by
    intro o n h v hc ha hg
    unfold effD
    simp only [hc, ha, hg]
  have ne_of : ∀ {n m : Nat} {h : Hp} {v : AV}, h.getD n none = none → h.getD m none = some v → n ≠ m := by
    intro n m h v a b e; subst e; rw [a] at b; cases b
  cases hci : cls Γ oi.op <;> cases hcj : cls Γ oj.op <;> simp only [hci, hcj, Cls.still, Cls.looks, Bool.false_eq_true, Bool.and_self] at hp' hsi hsj hl
  · -- load, alloc
    obtain ⟨v, ha, hg, rfl⟩ := al hcj h2
    unfold effD at h1
    simp only [hci] at h1
    split at h1
    · rename_i t x ho
      cases hld : loadK P tm hp t x some with
      | none => simp [hld] at h1
      | some u =>
        simp only [hld, Option.map_some, Option.some.injEq] at h1
        subst h1
        refine ⟨_, (some u, setP none hp nj (some v)), al' hcj ha hg, ?_, rfl, rfl, rfl⟩
        unfold effD
        simp only [ho]
        rw [loadK_other, hld]
        · rfl
        · intro m p hm
          obtain ⟨t, ht⟩ := opv_closed hcl hm m (by simp [AV.has])
          exact ne_of hg ht
    · cases h1
  · -- store, alloc
    obtain ⟨v, ha, hg, rfl⟩ := al hcj h2
    unfold effD at h1
    simp only [hci] at h1
    split at h1
    · rename_i t x y ho
      unfold storeK at h1
      split at h1
      · rename_i m p hx
        split at h1
        · rename_i u hy
          split at h1
          · rename_i tree htree
            cases hb : (u.oneA && fits P t u) with
            | false => simp [hb] at h1
            | true =>
              simp only [hb, cond_true] at h1
              rw [putK_eq'] at h1
              cases hput : put p tree u with
              | none => simp [hput] at h1
              | some tree' =>
                simp only [hput, Option.bind_some, Option.map_some, Option.some.injEq] at h1
                subst h1
                simp only at hg
                have hne : nj ≠ m := by
                  intro e; subst e; rw [getD_setP] at hg; simp at hg
                rw [getD_setP_ne (Ne.symm hne)] at hg
                refine ⟨_, (none, setP none (setP none hp nj (some v)) m (some tree')), al' hcj ha hg, ?_, rfl, rfl, by rw [setP_comm _ _ _ _ _ _ hne]⟩
                unfold effD
                simp only [ho, storeK, hx, hy, getD_setP_ne hne, htree, hb, cond_true]
                rw [putK_eq', hput]
                rfl
          · cases h1
        · cases h1
      · cases h1
    · cases h1
  · -- alloc, load
    obtain ⟨v, ha, hg, rfl⟩ := al hci h1
    unfold effD at h2
    simp only [hcj] at h2
    split at h2
    · rename_i t x ho
      have hother : loadK P tm (setP none hp ni (some v)) t x some = loadK P tm hp t x some := loadK_other (fun m p hm => by
        obtain ⟨t, ht⟩ := opv_closed hcl hm m (by simp [AV.has])
        exact ne_of hg ht)
      rw [hother] at h2
      cases hld : loadK P tm hp t x some with
      | none => simp [hld] at h2
      | some u =>
        simp only [hld, Option.map_some, Option.some.injEq] at h2
        subst h2
        refine ⟨(some u, hp), _, ?_, al' hci ha hg, rfl, rfl, rfl⟩
        unfold effD
        rw [hcj]
        simp only [ho, hld, Option.map_some]
    · cases h2
  · -- alloc, store
    obtain ⟨v, ha, hg, rfl⟩ := al hci h1
    unfold effD at h2
    simp only [hcj] at h2
    split at h2
    · rename_i t x y ho
      unfold storeK at h2
      split at h2
      · rename_i m p hx
        have hne : ni ≠ m := by
          obtain ⟨t, ht⟩ := opv_closed hcl hx m (by simp [AV.has])
          exact ne_of hg ht
        split at h2
        · rename_i u hy
          split at h2
          · rename_i tree htree
            rw [getD_setP_ne hne] at htree
            cases hb : (u.oneA && fits P t u) with
            | false => simp [hb] at h2
            | true =>
              simp only [hb, cond_true] at h2
              rw [putK_eq'] at h2
              cases hput : put p tree u with
              | none => simp [hput] at h2
              | some tree' =>
                simp only [hput, Option.bind_some, Option.map_some, Option.some.injEq] at h2
                subst h2
                refine ⟨(none, setP none hp m (some tree')), _, ?_, al' hci ha ?_, rfl, rfl, by simp only; rw [setP_comm _ _ _ _ _ _ hne]⟩
                · unfold effD
                  simp only [ho, storeK, hx, hy, htree, hb, cond_true]
                  rw [putK_eq', hput]
                  rfl
                · simp only; rw [getD_setP_ne (Ne.symm hne)]; exact hg
          · cases h2
        · cases h2
      · cases h2
    · cases h2
  · -- alloc, alloc
    obtain ⟨v, ha, hg, rfl⟩ := al hci h1
    obtain ⟨u, hb, hg2, rfl⟩ := al hcj h2
    have hne : ni ≠ nj := hn (by simp [hci]) (by simp [hcj])
    rw [getD_setP_ne hne] at hg2
    refine ⟨_, _, al' hcj hb hg2, al' hci ha (by simp only; rw [getD_setP_ne (Ne.symm hne)]; exact hg), rfl, rfl, by simp only; rw [setP_comm _ _ _ _ _ _ (Ne.symm hne)]⟩

/-! two operations on blocks that are known to be others -/
abbrev Bl := List (Nat × Nat)

def addrT : Op → Option Nat
  | .load _ (.tmp x) => some x
  | .store _ (.tmp x) _ => some x
  | _ => none

def farB (bl : Bl) (oi oj : Oper) : Bool :=
  match addrT oi.op, addrT oj.op with
  | some a, some b => bl.any fun x => Nat.beq x.1 a && bl.any fun y => Nat.beq y.1 b && !Nat.beq x.2 y.2
  | _, _ => false

/-- what a table says of pointers holds -/
def InvB (bl : Bl) (tm : Tm) : Prop := ∀ x ∈ bl, tm.getD x.1 none = none ∨ tm.getD x.1 none = some undefA ∨ ∃ p, tm.getD x.1 none = some (.ptr x.2 p)

def updB (hp : Hp) (n : Nat) : Option AV → Hp
  | none => hp
  | some t => setP none hp n (some t)

theorem mem_form {P : Program} {Γ : Env} {o : Oper} {nm : Nat} {tm : Tm} {a n : Nat} {p : List Sel} (h : addrT o.op = some a) (ha : tm.getD a none = some (.ptr n p)) :
    ∃ g : AV → Option (Option AV × Option AV), ∀ hp : Hp, effD P Γ o nm tm hp = match hp.getD n none with | none => none | some t => (g t).map fun r => (r.1, updB hp n r.2) := by
  unfold addrT at h
  split at h
  · rename_i t x ho
    cases h
    refine ⟨fun tree => (subK p tree fun v => bif fits P t v then some v else none).map fun v => (some v, none), fun hp => ?_⟩
    unfold effD
    rw [show cls Γ o.op = .load by rw [ho]; rfl]
    simp only [ho, loadK, opv, ha]
    cases hp.getD n none with
    | none => rfl
    | some tree => simp only [Option.map_map]; rfl
  · rename_i t x y ho
    cases h
    refine ⟨fun tree => match opv tm y with | none => none | some v => bif v.oneA && fits P t v then putK p tree v fun t' => some (none, some t') else none, fun hp => ?_⟩
    unfold effD
    rw [show cls Γ o.op = .store by rw [ho]; rfl]
    simp only [ho, storeK, show opv tm (.tmp a) = some (.ptr n p) from ha]
    cases hy : opv tm y with
    | none => cases hp.getD n none <;> rfl
    | some v =>
      cases hp.getD n none with
      | none => rfl
      | some tree =>
        simp only
        cases (v.oneA && fits P t v) with
        | false => rfl
        | true =>
          simp only [cond_true]
          rw [putK_eq', putK_eq' (K := fun t' => some (none, some t'))]
          cases put p tree v <;> rfl
  · cases h

theorem mem_addr {P : Program} {Γ : Env} {o : Oper} {nm : Nat} {tm : Tm} {hp : Hp} {a : Nat} {x : Option AV × Hp} (h : addrT o.op = some a) (he : effD P Γ o nm tm hp = some x) :
    ∃ n p, tm.getD a none = some (.ptr n p) := by
  unfold addrT at h
  split at h
  · rename_i t y ho
    cases h
    unfold effD at he
    rw [show cls Γ o.op = .load by rw [ho]; rfl] at he
    simp only [ho, loadK, opv] at he
    split at he
    · rename_i n p hp; exact ⟨n, p, hp⟩
    · cases he
  · rename_i t y z ho
    cases h
    unfold effD at he
    rw [show cls Γ o.op = .store by rw [ho]; rfl] at he
    simp only [ho, storeK] at he
    split at he
    · rename_i n p hp; exact ⟨n, p, hp⟩
    · cases he
  · cases h

theorem eff_far {P : Program} {Γ : Env} {bl : Bl} {oi oj : Oper} {ni nj : Nat} {tm : Tm} {hp : Hp} {xi xj : Option AV × Hp} (hI : InvB bl tm) (hf : farB bl oi oj = true)
    (h1 : effD P Γ oi ni tm hp = some xi) (h2 : effD P Γ oj nj tm xi.2 = some xj) :
    ∃ yj yi, effD P Γ oj nj tm hp = some yj ∧ effD P Γ oi ni tm yj.2 = some yi ∧ yj.1 = xj.1 ∧ yi.1 = xi.1 ∧ yi.2 = xj.2 := by
  unfold farB at hf
  split at hf
  · rename_i a b ha hb
    obtain ⟨x, hx, hx2⟩ := List.any_eq_true.1 hf
    simp only [Bool.and_eq_true] at hx2
    obtain ⟨y, hy, hy2⟩ := List.any_eq_true.1 hx2.2
    simp only [Bool.and_eq_true, Bool.not_eq_true'] at hy2
    have ex := Nat.eq_of_beq_eq_true hx2.1
    have ey := Nat.eq_of_beq_eq_true hy2.1
    have hne : x.2 ≠ y.2 := fun e => by rw [e, Nat.beq_refl] at hy2; cases hy2.2
    obtain ⟨n, p, hn⟩ := mem_addr ha h1
    obtain ⟨m, q, hm⟩ := mem_addr hb h2
    have en : n = x.2 := by
      rcases hI x hx with h | h | ⟨p', h⟩
      · rw [ex, hn] at h; cases h
      · rw [ex, hn] at h; cases h
      · rw [ex, hn] at h; cases h; rfl
    have em : m = y.2 := by
      rcases hI y hy with h | h | ⟨p', h⟩
      · rw [ey, hm] at h; cases h
      · rw [ey, hm] at h; cases h
      · rw [ey, hm] at h; cases h; rfl
    have hnm : n ≠ m := by rw [en, em]; exact hne
    obtain ⟨gi, hgi⟩ := mem_form (P := P) (Γ := Γ) (nm := ni) ha hn
    obtain ⟨gj, hgj⟩ := mem_form (P := P) (Γ := Γ) (nm := nj) hb hm
    have other : ∀ (h : Hp) (k l : Nat) (r : Option AV), k ≠ l → (updB h k r).getD l none = h.getD l none := by
      intro h k l r hkl
      cases r with
      | none => rfl
      | some t => exact getD_setP_ne hkl
    rw [hgi] at h1
    cases ti : hp.getD n none with
    | none => simp only [ti] at h1; cases h1
    | some ti' =>
      simp only [ti] at h1
      cases gr : gi ti' with
      | none => simp only [gr, Option.map_none] at h1; cases h1
      | some ri =>
        simp only [gr, Option.map_some, Option.some.injEq] at h1
        subst h1
        rw [hgj] at h2
        simp only [other hp n m ri.2 hnm] at h2
        cases tj : hp.getD m none with
        | none => simp only [tj] at h2; cases h2
        | some tj' =>
          simp only [tj] at h2
          cases gs : gj tj' with
          | none => simp only [gs, Option.map_none] at h2; cases h2
          | some rj =>
            simp only [gs, Option.map_some, Option.some.injEq] at h2
            subst h2
            refine ⟨(rj.1, updB hp m rj.2), (ri.1, updB (updB hp m rj.2) n ri.2), ?_, ?_, rfl, rfl, ?_⟩
            · rw [hgj]; simp only [tj, gs, Option.map_some]
            · rw [hgi]; simp only [other hp m n rj.2 (Ne.symm hnm), ti, gr, Option.map_some]
            · cases ri.2 with
              | none => rfl
              | some u =>
                cases rj.2 with
                | none => rfl
                | some v => simp only [updB]; rw [setP_comm _ _ _ _ _ _ (Ne.symm hnm)]
  · cases hf

theorem setT_comm {tm : Tm} {x y : Option Tmp} {v u : Option AV} (h : ∀ d, x = some d → y ≠ some d) : setT (setT tm x v) y u = setT (setT tm y u) x v := by
  cases x with
  | none => rfl
  | some d =>
    cases y with
    | none => rfl
    | some e =>
      have hne : d ≠ e := fun he => h d rfl (he ▸ rfl)
      simp [setT, List.set_comm _ _ hne]

/-- two operations in the other order -/
theorem step_comm {P : Program} {Γ : Env} {bl : Bl} {ops : List Oper} {oi oj : Oper} {ni nj : Nat} {st s1 s2 : St} (hcl : Closed st) (hib : InvB bl st.tm)
    (hap : oi.apart ops.toArray oj = true) (hp' : (pairOk (cls Γ oi.op) (cls Γ oj.op) || farB bl oi oj) = true)
    (hn : (cls Γ oi.op matches .alloc) → (cls Γ oj.op matches .alloc) → ni ≠ nj)
    (h1 : stepD P Γ ops oi ni st = some s1) (h2 : stepD P Γ ops oj nj s1 = some s2) :
    ∃ t1, stepD P Γ ops oj nj st = some t1 ∧ stepD P Γ ops oi ni t1 = some s2 := by
  obtain ⟨a1, a2, a3⟩ := Oper.apart_spec hap
  unfold stepD at h1 h2 ⊢
  cases g1 : geff P Γ ops oi ni st.tm st.hp with
  | none => simp [g1] at h1
  | some xi =>
    simp only [g1, Option.map_some, Option.some.injEq] at h1
    subst h1
    simp only at h2
    rw [geff_set (fun t ht => a1 t ht)] at h2
    cases g2 : geff P Γ ops oj nj st.tm xi.2 with
    | none => simp [g2] at h2
    | some xj =>
      simp only [g2, Option.map_some, Option.some.injEq] at h2
      subst h2
      suffices hs : ∃ yj yi, geff P Γ ops oj nj st.tm st.hp = some yj ∧ geff P Γ ops oi ni st.tm yj.2 = some yi ∧ yj.1 = xj.1 ∧ yi.1 = xi.1 ∧ yi.2 = xj.2 by
        obtain ⟨yj, yi, e1, e2, e3, e4, e5⟩ := hs
        refine ⟨⟨setT st.tm oj.dst yj.1, yj.2, st.base⟩, by simp [e1], ?_⟩
        simp only
        rw [geff_set (fun t ht => a3 t ht), e2]
        simp only [Option.map_some, Option.some.injEq, St.mk.injEq, and_true]
        exact ⟨by rw [e3, e4, setT_comm a2], e5⟩
      cases hsi : (cls Γ oi.op).still with
      | true =>
        obtain ⟨e1, e2⟩ := geff_still (hp2 := xj.2) hsi g1
        rw [e1] at g2
        exact ⟨xj, _, g2, e2, rfl, rfl, rfl⟩
      | false =>
        cases hsj : (cls Γ oj.op).still with
        | true =>
          obtain ⟨e1, _⟩ := geff_still (hp2 := st.hp) hsj g2
          obtain ⟨_, e2⟩ := geff_still (hp2 := st.hp) hsj g2
          exact ⟨_, xi, e2, g1, rfl, rfl, e1.symm⟩
        | false =>
          cases hl : ((cls Γ oi.op).looks && (cls Γ oj.op).looks) with
          | true =>
            simp only [Bool.and_eq_true] at hl
            have e1 := geff_looks hl.1 g1
            rw [e1] at g2
            have e2 := geff_looks hl.2 g2
            exact ⟨xj, xi, g2, by rw [e2]; exact g1, rfl, rfl, by rw [e1, e2]⟩
          | false =>
            rcases geff_cases g1 with ⟨f1, f1'⟩ | ⟨rfl, f1'⟩
            · rcases geff_cases g2 with ⟨f2, f2'⟩ | ⟨rfl, f2'⟩
              · obtain ⟨yj, yi, e1, e2, e3, e4, e5⟩ : ∃ yj yi, effD P Γ oj nj st.tm st.hp = some yj ∧ effD P Γ oi ni st.tm yj.2 = some yi ∧ yj.1 = xj.1 ∧ yi.1 = xi.1 ∧ yi.2 = xj.2 := by
                  rcases (Bool.or_eq_true _ _).mp hp' with hp' | hp'
                  · exact eff_comm hcl.tm hn hp' hsi hsj hl f1 f2
                  · exact eff_far hib hp' f1 f2
                exact ⟨yj, yi, by rw [f2' st.hp]; exact e1, by rw [f1' yj.2]; exact e2, e3, e4, e5⟩
              · exact ⟨_, xi, f2' st.hp, g1, rfl, rfl, rfl⟩
            · exact ⟨xj, _, g2, f1' xj.2, rfl, rfl, rfl⟩
end Go.Sim
