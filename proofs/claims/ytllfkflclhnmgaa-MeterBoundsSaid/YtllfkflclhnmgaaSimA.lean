/- The abstract values of the deterministic evaluator, how they stand for the model's values and cells, and the plain laws of both. -/
import Derived.Calls
import Derived.Orders
namespace Go.Sim

/-- a step of a path into a tree: to child i of an aggregate, at cell o; or to element i of a row of integers -/
inductive Sel where
  | fld (o i : Nat)
  | elt (i : Nat)
  deriving DecidableEq

def Sel.off : Sel → Nat
  | .fld o _ => o
  | .elt i => i

def pOff : List Sel → Nat
  | [] => 0
  | s :: p => s.off + pOff p

/-- closed values of one cell -/
inductive Cn where
  | nilSlice | nilMap | nilFunc | nilIface

def Cn.val : Cn → Value
  | .nilSlice => .slice none 0 0
  | .nilMap => .map none
  | .nilFunc => .nilFunc
  | .nilIface => .nilIface

inductive AV where
  | int (k : IntKind) (n : Int)
  | bool (b : Bool)
  | str (s : List UInt8)
  | nil
  | ptr (n : Nat) (p : List Sel)
  | arr (k : IntKind) (n : Nat) (l : List Int)
  | agg (l : List AV)
  | tup (l : List AV)
  | fn (f : FuncId)
  | lit (c : Cn)

def undefA : AV := .tup []

mutual
def AV.size : AV → Nat
  | .arr _ n _ => n
  | .agg ts => AV.sizeL ts
  | _ => 1
def AV.sizeL : List AV → Nat
  | [] => 0
  | t :: ts => t.size + AV.sizeL ts
end

abbrev Ren := Nat → Nat × Nat

def arrCells (k : IntKind) (n : Nat) (l : List Int) : List Value := (List.range n).map fun j => .int k (l.getD j 0)

mutual
def AV.enc (ρ : Ren) : AV → Value
  | .int k n => .int k n
  | .bool b => .bool b
  | .str s => .string ⟨s.toArray⟩
  | .nil => .pointer none
  | .ptr n p => .pointer (some ⟨(ρ n).1, (ρ n).2 + pOff p, none⟩)
  | .arr k n l => .agg (arrCells k n l).toArray
  | .agg ts => .agg (AV.cellsL ρ ts).toArray
  | .tup ts => .tuple (AV.encL ρ ts).toArray
  | .fn f => .func (.func f) #[] #[]
  | .lit c => c.val
def AV.encL (ρ : Ren) : List AV → List Value
  | [] => []
  | t :: ts => t.enc ρ :: AV.encL ρ ts
def AV.cells (ρ : Ren) : AV → List Value
  | .arr k n l => arrCells k n l
  | .agg ts => AV.cellsL ρ ts
  | .int k n => [.int k n]
  | .bool b => [.bool b]
  | .str s => [.string ⟨s.toArray⟩]
  | .nil => [.pointer none]
  | .ptr n p => [.pointer (some ⟨(ρ n).1, (ρ n).2 + pOff p, none⟩)]
  | .tup ts => [.tuple (AV.encL ρ ts).toArray]
  | .fn f => [.func (.func f) #[] #[]]
  | .lit c => [c.val]
def AV.cellsL (ρ : Ren) : List AV → List Value
  | [] => []
  | t :: ts => t.cells ρ ++ AV.cellsL ρ ts
end

def AV.isAgg : AV → Bool
  | .arr .. | .agg _ => true
  | _ => false

theorem encL_eq (ρ : Ren) : ∀ ts : List AV, AV.encL ρ ts = ts.map (AV.enc ρ)
  | [] => by simp [AV.encL]
  | t :: ts => by simp [AV.encL, encL_eq ρ ts]

theorem cells_of_not {ρ : Ren} {v : AV} (h : v.isAgg = false) : v.cells ρ = [v.enc ρ] := by
  cases v <;> simp_all [AV.isAgg, AV.cells, AV.enc]

theorem enc_of_agg {ρ : Ren} {v : AV} (h : v.isAgg = true) : v.enc ρ = .agg (v.cells ρ).toArray := by
  cases v <;> simp_all [AV.isAgg, AV.cells, AV.enc]

theorem enc_cells (ρ : Ren) (v : AV) : (v.enc ρ).cells.toList = v.cells ρ := by
  cases v <;> simp [AV.enc, AV.cells, Value.cells]
  case lit c => cases c <;> simp [Cn.val]

theorem arrCells_length (k : IntKind) (n : Nat) (l : List Int) : (arrCells k n l).length = n := by simp [arrCells]

mutual
theorem cells_length (ρ : Ren) : ∀ v : AV, (v.cells ρ).length = v.size
  | .arr k n l => by simp [AV.cells, AV.size, arrCells_length]
  | .agg ts => by simp [AV.cells, AV.size, cellsL_length ρ ts]
  | .int .. | .bool _ | .str _ | .nil | .ptr .. | .tup _ | .fn _ | .lit _ => by simp [AV.cells, AV.size]
theorem cellsL_length (ρ : Ren) : ∀ ts : List AV, (AV.cellsL ρ ts).length = AV.sizeL ts
  | [] => by simp [AV.cellsL, AV.sizeL]
  | t :: ts => by simp [AV.cellsL, AV.sizeL, cells_length ρ t, cellsL_length ρ ts]
end

/- the names that a value bears -/
mutual
def AV.has (m : Nat) : AV → Prop
  | .ptr n _ => n = m
  | .agg ts => AV.hasL m ts
  | .tup ts => AV.hasL m ts
  | _ => False
def AV.hasL (m : Nat) : List AV → Prop
  | [] => False
  | t :: ts => t.has m ∨ AV.hasL m ts
end

/- a test that a value's names are all among those that a test lets -/
mutual
def AV.names (q : Nat → Bool) : AV → Bool
  | .ptr n _ => q n
  | .agg ts => AV.namesL q ts
  | .tup ts => AV.namesL q ts
  | _ => true
def AV.namesL (q : Nat → Bool) : List AV → Bool
  | [] => true
  | t :: ts => t.names q && AV.namesL q ts
end

mutual
theorem names_has {q : Nat → Bool} {m : Nat} : ∀ v : AV, v.names q = true → v.has m → q m = true
  | .ptr n p => by intro h e; simp only [AV.has] at e; subst e; simpa [AV.names] using h
  | .agg ts => by intro h e; exact namesL_has ts (by simpa [AV.names] using h) (by simpa [AV.has] using e)
  | .tup ts => by intro h e; exact namesL_has ts (by simpa [AV.names] using h) (by simpa [AV.has] using e)
  | .int .. | .bool _ | .str _ | .nil | .arr .. | .fn _ | .lit _ => by intro _ e; simp [AV.has] at e
theorem namesL_has {q : Nat → Bool} {m : Nat} : ∀ ts : List AV, AV.namesL q ts = true → AV.hasL m ts → q m = true
  | [] => by intro _ e; simp [AV.hasL] at e
  | t :: ts => by
    intro h e
    simp only [AV.namesL, Bool.and_eq_true] at h
    simp only [AV.hasL] at e
    rcases e with e | e
    · exact names_has t h.1 e
    · exact namesL_has ts h.2 e
end

mutual
theorem enc_congr {ρ ρ' : Ren} : ∀ v : AV, (∀ m, v.has m → ρ m = ρ' m) → v.enc ρ = v.enc ρ'
  | .ptr n p => by intro h; have := h n (by simp [AV.has]); simp [AV.enc, this]
  | .agg ts => by intro h; have := cellsL_congr ts (fun m hm => h m (by simpa [AV.has] using hm)); simp [AV.enc, this]
  | .tup ts => by intro h; have := encL_congr ts (fun m hm => h m (by simpa [AV.has] using hm)); simp [AV.enc, this]
  | .int .. | .bool _ | .str _ | .nil | .arr .. | .fn _ | .lit _ => by intro _; simp [AV.enc]
theorem encL_congr {ρ ρ' : Ren} : ∀ ts : List AV, (∀ m, AV.hasL m ts → ρ m = ρ' m) → AV.encL ρ ts = AV.encL ρ' ts
  | [] => by intro _; simp [AV.encL]
  | t :: ts => by
    intro h
    simp only [AV.encL]
    rw [enc_congr t (fun m hm => h m (by simp [AV.hasL, hm])), encL_congr ts (fun m hm => h m (by simp [AV.hasL, hm]))]
theorem cells_congr {ρ ρ' : Ren} : ∀ v : AV, (∀ m, v.has m → ρ m = ρ' m) → v.cells ρ = v.cells ρ'
  | .ptr n p => by intro h; have := h n (by simp [AV.has]); simp [AV.cells, this]
  | .agg ts => by intro h; have := cellsL_congr ts (fun m hm => h m (by simpa [AV.has] using hm)); simp [AV.cells, this]
  | .tup ts => by intro h; have := encL_congr ts (fun m hm => h m (by simpa [AV.has] using hm)); simp [AV.cells, this]
  | .int .. | .bool _ | .str _ | .nil | .arr .. | .fn _ | .lit _ => by intro _; simp [AV.cells]
theorem cellsL_congr {ρ ρ' : Ren} : ∀ ts : List AV, (∀ m, AV.hasL m ts → ρ m = ρ' m) → AV.cellsL ρ ts = AV.cellsL ρ' ts
  | [] => by intro _; simp [AV.cellsL]
  | t :: ts => by
    intro h
    simp only [AV.cellsL]
    rw [cells_congr t (fun m hm => h m (by simp [AV.hasL, hm])), cellsL_congr ts (fun m hm => h m (by simp [AV.hasL, hm]))]
end

theorem hasL_mem {m : Nat} : ∀ {ts : List AV} {t : AV}, t ∈ ts → t.has m → AV.hasL m ts
  | _ :: _, _, .head _, h => by simp [AV.hasL, h]
  | _ :: ts, _, .tail _ ht, h => by simp [AV.hasL, hasL_mem ht h]

theorem mem_hasL {m : Nat} : ∀ {ts : List AV}, AV.hasL m ts → ∃ t, t ∈ ts ∧ t.has m
  | [], h => by simp [AV.hasL] at h
  | t :: ts, h => by
    simp only [AV.hasL] at h
    rcases h with h | h
    · exact ⟨t, .head _, h⟩
    · obtain ⟨u, hu, hm⟩ := mem_hasL h; exact ⟨u, .tail _ hu, hm⟩

/- a list whose place i bears x from now on (what lacks before it is filled up) -/
def setP {α : Type} (d : α) : List α → Nat → α → List α
  | [], 0, x => [x]
  | [], i + 1, x => d :: setP d [] i x
  | _ :: l, 0, x => x :: l
  | y :: l, i + 1, x => y :: setP d l i x

theorem getD_setP {α : Type} (d : α) : ∀ (l : List α) (i : Nat) (x : α) (j : Nat), (setP d l i x).getD j d = if i = j then x else l.getD j d
  | [], 0, x, 0 => by simp [setP]
  | [], 0, x, j + 1 => by simp [setP]
  | [], i + 1, x, 0 => by simp [setP]
  | [], i + 1, x, j + 1 => by simp only [setP, List.getD_cons_succ, getD_setP d [] i x j]; simp
  | y :: l, 0, x, 0 => by simp [setP]
  | y :: l, 0, x, j + 1 => by simp [setP]
  | y :: l, i + 1, x, 0 => by simp [setP]
  | y :: l, i + 1, x, j + 1 => by simp only [setP, List.getD_cons_succ, getD_setP d l i x j]; simp

theorem setP_comm {α : Type} (d : α) : ∀ (l : List α) (i j : Nat) (x y : α), i ≠ j → setP d (setP d l i x) j y = setP d (setP d l j y) i x
  | _, 0, 0, _, _, h => absurd rfl h
  | [], 0, j + 1, x, y, _ => by simp [setP]
  | [], i + 1, 0, x, y, _ => by simp [setP]
  | [], i + 1, j + 1, x, y, h => by simp only [setP]; rw [setP_comm d [] i j x y (by omega)]
  | z :: l, 0, j + 1, x, y, _ => by simp [setP]
  | z :: l, i + 1, 0, x, y, _ => by simp [setP]
  | z :: l, i + 1, j + 1, x, y, h => by simp only [setP]; rw [setP_comm d l i j x y (by omega)]

theorem setP_self {α : Type} (d : α) : ∀ (l : List α) (i : Nat) (x : α), l[i]? = some x → setP d l i x = l
  | [], _, _, h => by simp at h
  | y :: l, 0, x, h => by simp at h; simp [setP, h]
  | y :: l, i + 1, x, h => by simp at h; simp [setP, setP_self d l i x h]

theorem setP_length {α : Type} (d : α) : ∀ (l : List α) (i : Nat) (x : α), i < l.length → (setP d l i x).length = l.length
  | [], _, _, h => by simp at h
  | y :: l, 0, x, _ => by simp [setP]
  | y :: l, i + 1, x, h => by simp [setP, setP_length d l i x (by simpa using h)]

theorem setP_eq_set {α : Type} (d : α) : ∀ (l : List α) (i : Nat) (x : α), i < l.length → setP d l i x = l.set i x
  | [], _, _, h => by simp at h
  | y :: l, 0, x, _ => by simp [setP]
  | y :: l, i + 1, x, h => by simp [setP, setP_eq_set d l i x (by simpa using h)]


/-- a number of its kind -/
def inK : IntKind → Int → Prop
  | .u8, n => 0 ≤ n ∧ n < 256
  | .u16, n => 0 ≤ n ∧ n < 65536
  | .u32, n => 0 ≤ n ∧ n < 4294967296
  | .u64, n => 0 ≤ n ∧ n < 18446744073709551616
  | .i8, n => -128 ≤ n ∧ n < 128
  | .i16, n => -32768 ≤ n ∧ n < 32768
  | .i32, n => -2147483648 ≤ n ∧ n < 2147483648
  | .i64, n => -9223372036854775808 ≤ n ∧ n < 9223372036854775808

def inKB : IntKind → Int → Bool
  | .u8, n => decide (0 ≤ n) && decide (n < 256)
  | .u16, n => decide (0 ≤ n) && decide (n < 65536)
  | .u32, n => decide (0 ≤ n) && decide (n < 4294967296)
  | .u64, n => decide (0 ≤ n) && decide (n < 18446744073709551616)
  | .i8, n => decide (-128 ≤ n) && decide (n < 128)
  | .i16, n => decide (-32768 ≤ n) && decide (n < 32768)
  | .i32, n => decide (-2147483648 ≤ n) && decide (n < 2147483648)
  | .i64, n => decide (-9223372036854775808 ≤ n) && decide (n < 9223372036854775808)

theorem inKB_spec {k : IntKind} {n : Int} (h : inKB k n = true) : inK k n := by
  cases k <;> simpa [inKB, inK] using h

/- numbers are of their kinds, texts are no longer than any -/
mutual
def AV.wf : AV → Prop
  | .int k n => inK k n
  | .arr k n l => ∀ j, j < n → inK k (l.getD j 0)
  | .str s => s.length < 9223372036854775808
  | .agg ts => AV.wfL ts
  | .tup ts => AV.wfL ts
  | _ => True
def AV.wfL : List AV → Prop
  | [] => True
  | t :: ts => t.wf ∧ AV.wfL ts
end

theorem wfL_mem : ∀ {ts : List AV} {t : AV}, AV.wfL ts → t ∈ ts → t.wf
  | _ :: _, _, h, .head _ => by simp only [AV.wfL] at h; exact h.1
  | _ :: ts, _, h, .tail _ ht => by simp only [AV.wfL] at h; exact wfL_mem h.2 ht

theorem wfL_of : ∀ {ts : List AV}, (∀ t ∈ ts, t.wf) → AV.wfL ts
  | [], _ => by simp [AV.wfL]
  | t :: ts, h => by simp only [AV.wfL]; exact ⟨h t (by simp), wfL_of fun u hu => h u (by simp [hu])⟩

theorem wfL_set {ts : List AV} {i : Nat} {t : AV} (h : AV.wfL ts) (ht : t.wf) : AV.wfL (ts.set i t) :=
  wfL_of fun u hu => by
    rcases List.mem_or_eq_of_mem_set hu with h' | h'
    · exact wfL_mem h h'
    · exact h' ▸ ht

end Go.Sim
