/- A region whose operations make new memory and turn nothing that was there: one obligation for each operation, whatever order is drawn; a tail that comes in order. Kinds of values: slices that read as lists; the obligations' small laws. Appending one element to a row of the call's own, among operations in any order. append of a slice of any capacity; a literal's row of its own. The types' law, where some operations make blocks that are known to be different ones. -/
import Derived.StillTail
import Derived.Below
import Derived.Maps.AppendAt
import Derived.Deep.AppendLies
import Derived.Laws.OwnMore
import Derived.Lib.Hide
import Derived.Lib.AppendZerosOnto
import Derived.Laws.IdiomStrings
import Derived.Lib.AppendStr
import Derived.Lib.SlBytesConst
import Derived.Laws.BytesArg
set_option linter.unusedVariables false
set_option linter.unusedSimpArgs false
namespace Go.Tp
open Go Go.RowKit

/-- What is known of a value in a world. -/
abbrev Kind := Value → World → Prop
def is (x : Value) : Kind := fun v _ => v = x
def any : Kind := fun _ _ => True

def edgesOf (o : Oper) : List Nat := (o.after.toList.filter (Region.binds .any ·)).map (·.on)
theorem mem_edges {o : Oper} {k : Nat} : k ∈ edgesOf o ↔ ∃ e ∈ o.after, Region.binds .any e = true ∧ e.on = k := by
  unfold edgesOf
  simp only [List.mem_map, List.mem_filter, Array.mem_toList_iff]
  constructor
  · rintro ⟨e, ⟨h1, h2⟩, h3⟩; exact ⟨e, h1, h2, h3⟩
  · rintro ⟨e, h1, h2, h3⟩; exact ⟨e, ⟨h1, h2⟩, h3⟩

/-- Who is ahead of whom, as bits. -/
def ancs : List Oper → List Nat → List Nat
  | [], acc => acc
  | o :: l, acc => ancs l (acc ++ [(edgesOf o).foldl (fun s e => s ||| 2 ^ e ||| acc.getD e 0) 0])

def Closed (ops : List Oper) (listed : Array Bool) : Prop :=
  ∀ j oj, ops[j]? = some oj → listed.getD j false = true → ∀ e ∈ edgesOf oj, listed.getD e false = true

theorem fold_bits {listed : Array Bool} {acc : List Nat} (hacc : ∀ e, listed.getD e false = true → ∀ x, (acc.getD e 0).testBit x = true → listed.getD x false = true) :
    ∀ (es : List Nat) (s : Nat), (∀ e ∈ es, listed.getD e false = true) → (∀ x, s.testBit x = true → listed.getD x false = true) →
      ∀ x, (es.foldl (fun s e => s ||| 2 ^ e ||| acc.getD e 0) s).testBit x = true → listed.getD x false = true
  | [], _, _, hs, x, h => hs x h
  | e :: es, s, he, hs, x, h => fold_bits hacc es _ (fun e' h' => he e' (List.mem_cons_of_mem _ h')) (fun y hy => by
      rw [Nat.testBit_or, Nat.testBit_or, Bool.or_eq_true, Bool.or_eq_true] at hy
      rcases hy with (hy | hy) | hy
      · exact hs y hy
      · rw [Nat.testBit_two_pow] at hy
        have : e = y := by simpa using hy
        subst this; exact he e (List.mem_cons_self ..)
      · exact hacc e (he e (List.mem_cons_self ..)) y hy) x h

theorem ancs_ok {ops : List Oper} {listed : Array Bool} (hc : Closed ops listed) :
    ∀ (l : List Oper) (acc : List Nat), (∀ j, l[j]? = ops[acc.length + j]?) →
      (∀ j, listed.getD j false = true → ∀ x, (acc.getD j 0).testBit x = true → listed.getD x false = true) →
      ∀ j, listed.getD j false = true → ∀ x, ((ancs l acc).getD j 0).testBit x = true → listed.getD x false = true
  | [], acc, _, hacc, j, hj, x, h => hacc j hj x h
  | o :: l, acc, hl, hacc, j, hj, x, h => by
    have h0 : ops[acc.length]? = some o := by simpa using (hl 0).symm
    refine ancs_ok hc l _ (fun j => ?_) ?_ j hj x h
    · have := hl (j + 1)
      simpa [Nat.add_assoc, Nat.add_comm 1 j] using this
    · intro j hj x hx
      rcases Nat.lt_trichotomy j acc.length with hlt | rfl | hgt
      · rw [List.getD, List.getElem?_append_left hlt] at hx; exact hacc j hj x hx
      · rw [List.getD, List.getElem?_append_right (Nat.le_refl _), Nat.sub_self] at hx
        exact fold_bits hacc (edgesOf o) 0 (fun e he => hc _ o h0 hj e he) (fun y hy => by simp at hy) x (by simpa using hx)
      · rw [List.getD, List.getElem?_eq_none (by simp; omega)] at hx
        simp at hx

/-- What an operation looks at: each slot, and which operation of the region ahead of it filled it. -/
abbrev Plan := List (List (Tmp × Option Nat))

def dstOf (ops : List Oper) (j : Nat) : Option Tmp := (ops[j]?).bind (·.dst)

/-- 'cons': which operation uses a value up. -/
abbrev Cons := List (Nat × Nat)
def usedBy (cons : Cons) (j : Nat) : Option Nat := (cons.find? fun x => x.1 == j).map (·.2)

def rowOk (ops : List Oper) (m : Nat) (A : List Nat) (cons : Cons) (k : Nat) (o : Oper) (pk : List (Tmp × Option Nat)) : Bool :=
  pk.all (fun x => match x.2 with
    | some j => (edgesOf o).contains j && dstOf ops j == some x.1 && (match usedBy cons j with | none => true | some c => c == k || (A.getD c 0).testBit k)
    | none => (List.range ops.length).all fun j => dstOf ops j != some x.1 || j == k || (A.getD j 0).testBit k) &&
  (edgesOf o).all (fun e => decide (e < k)) &&
  (match o.dst with | some d => decide (d < m) && (List.range k).all fun j => dstOf ops j != some d | none => true)

def rowsOk (ops : List Oper) (m : Nat) (A : List Nat) (cons : Cons) : Nat → List Oper → Plan → Bool
  | _, [], _ => true
  | _, _ :: _, [] => false
  | k, o :: l, pk :: pl => rowOk ops m A cons k o pk && rowsOk ops m A cons (k + 1) l pl

theorem rowsOk_at {ops : List Oper} {m : Nat} {A : List Nat} {cons : Cons} : ∀ (l : List Oper) (pl : Plan) (k j : Nat) (o : Oper), rowsOk ops m A cons k l pl = true → l[j]? = some o → ∃ pk, pl[j]? = some pk ∧ rowOk ops m A cons (k + j) o pk = true
  | [], _, _, j, o, _, h => by simp at h
  | _ :: _, [], _, _, _, h, _ => by simp [rowsOk] at h
  | o :: l, pk :: pl, k, 0, o', h, ho => by
    simp only [rowsOk, Bool.and_eq_true] at h
    have : o = o' := by simpa using ho
    subst this
    exact ⟨pk, rfl, by simpa using h.1⟩
  | o :: l, pk :: pl, k, j + 1, o', h, ho => by
    simp only [rowsOk, Bool.and_eq_true] at h
    obtain ⟨q, h1, h2⟩ := rowsOk_at l pl (k + 1) j o' h.2 (by simpa using ho)
    exact ⟨q, by simpa using h1, by rw [show k + (j + 1) = k + 1 + j by omega]; exact h2⟩

/-- A run's result, asked to be a value of the kind. -/
def GivenR (P : Program) (N : Kind) : Result Next → Prop
  | .ok (.value v) w' => N v w'
  | .ok .skip w' => N undef w'
  | .ok (.enter f args) w' => Calls P f args w' (fun e w'' => ∃ v, e = .returned v ∧ N v w'')
  | _ => False
def Gives (P : Program) (o : Oper) (A : Operand → Value) (u : World) (N : Kind) : Prop := GivenR P N ((execOp A o).run P u)

def isB (v : Value) (want : Bool) : Bool := match v with | .bool b => b == want | _ => false
/-- The guard, read off its slot. -/
def Wants (ops : List Oper) (o : Oper) (A : Operand → Value) (u : World) (T : Kind) (G : Prop) : Prop :=
  match o.guard with
  | none => G
  | some (g, want) => match dstOf ops g with
    | some t => if isB (A (.tmp t)) want then G else T undef u
    | none => T undef u

def Facts (S : Nat → Kind) (a : Act) (A : Operand → Value) (u : World) : List (Tmp × Option Nat) → Prop → Prop
  | [], G => G
  | (t, none) :: l, G => A (.tmp t) = a.eval (.tmp t) → Facts S a A u l G
  | (t, some j) :: l, G => ∀ v, A (.tmp t) = v → S j v u → Facts S a A u l G

/-- No operation of 'own' can have been carried out when operation k comes up. -/
def pre (ops : List Oper) (own : List Nat) (k : Nat) : Bool := own.all fun i => i == k || ((ancs ops []).getD i 0).testBit k
def Ob (P : Program) (ops : List Oper) (S : Nat → Kind) (C : World → Prop) (E : Nat → World → World → Prop) (own : List Nat) (R0 : World → Prop) (a : Act) (k : Nat) (o : Oper) (pk : List (Tmp × Option Nat)) : Prop :=
  ∀ (A : Operand → Value) (u : World), (∀ c, A (.const c) = c) → (∀ g, A (.global g) = .pointer (some ⟨g, 0, none⟩)) → (∀ f, A (.func f) = .func (.func f) #[] #[]) → C u → (pre ops own k = true → R0 u) → Facts S a A u pk (Wants ops o A u (S k) (Gives P o A u fun v u' => S k v u' ∧ E k u u'))

def Obs (P : Program) (ops : List Oper) (S : Nat → Kind) (C : World → Prop) (E : Nat → World → World → Prop) (own : List Nat) (R0 : World → Prop) (a : Act) : Nat → List Oper → Plan → Prop
  | _, [], _ => True
  | _, _ :: _, [] => False
  | k, o :: l, pk :: pl => Ob P ops S C E own R0 a k o pk ∧ Obs P ops S C E own R0 a (k + 1) l pl

theorem obs_at {P : Program} {ops : List Oper} {S : Nat → Kind} {C : World → Prop} {E : Nat → World → World → Prop} {own : List Nat} {R0 : World → Prop} {a : Act} : ∀ (l : List Oper) (pl : Plan) (k j : Nat) (o : Oper), Obs P ops S C E own R0 a k l pl → l[j]? = some o → ∀ pk, pl[j]? = some pk → Ob P ops S C E own R0 a (k + j) o pk
  | [], _, _, j, o, _, h, _, _ => by simp at h
  | _ :: _, [], _, _, _, h, _, _, _ => h.elim
  | o :: l, pk :: pl, k, 0, o', h, ho, q, hq => by
    have h1 : o = o' := by simpa using ho
    have h2 : pk = q := by simpa using hq
    subst h1 h2
    exact h.1
  | o :: l, pk :: pl, k, j + 1, o', h, ho, q, hq => by
    have := obs_at l pl (k + 1) j o' h.2 (by simpa using ho) q (by simpa using hq)
    rw [show k + (j + 1) = k + 1 + j by omega]; exact this

theorem facts_give {S : Nat → Kind} {a : Act} {A : Operand → Value} {u : World} {G : Prop} : ∀ (pk : List (Tmp × Option Nat)),
    (∀ x ∈ pk, match x.2 with | none => A (.tmp x.1) = a.eval (.tmp x.1) | some j => S j (A (.tmp x.1)) u) → Facts S a A u pk G → G
  | [], _, h => h
  | (t, none) :: l, hx, h => facts_give l (fun x hm => hx x (List.mem_cons_of_mem _ hm)) (h (hx (t, none) (List.mem_cons_self ..)))
  | (t, some j) :: l, hx, h => facts_give l (fun x hm => hx x (List.mem_cons_of_mem _ hm)) (h _ rfl (hx (t, some j) (List.mem_cons_self ..)))

/-- Behind the head: every slot that it filled holds what is known of it. -/
def Left (cons : Cons) (S : Nat → Kind) (k : Nat) : Kind := match usedBy cons k with | none => S k | some _ => any
def Fin (S : Nat → Kind) (w' : World) (Q : Act → Prop) : Nat → List Oper → Act → Prop
  | _, [], a => Q a
  | k, o :: l, a => match o.dst with
    | none => Fin S w' Q (k + 1) l a
    | some d => ∀ v, S k v w' → Fin S w' Q (k + 1) l (a.put (some d) v)

structure St (ops : List Oper) (n : Nat) (S : Nat → Kind) (C : World → Prop) (cons : Cons) (own : List Nat) (R0 : World → Prop) (a : Act) (listed : Array Bool) (a' : Act) (w' : World) : Prop where
  size : a'.tmps.size = a.tmps.size
  defers : a'.defers = a.defers
  cls : C w'
  res : (∀ i ∈ own, listed.getD i false = false) → R0 w'
  head : HeadInv .any ops.toArray n listed
  done : ∀ j o t, ops[j]? = some o → j < n → listed.getD j false = true → o.dst = some t → (∀ c, usedBy cons j = some c → listed.getD c false = false) → S j (a'.eval (.tmp t)) w'
  same : ∀ t, (∀ j o, ops[j]? = some o → listed.getD j false = true → o.dst ≠ some t) → a'.eval (.tmp t) = a.eval (.tmp t)

theorem eval_put_self {a : Act} {d : Tmp} {v : Value} (h : d < a.tmps.size) : (a.put (some d) v).eval (.tmp d) = v := by
  simp [Act.put, Act.eval, h]
theorem eval_put_ne {a : Act} {dst : Option Tmp} {t : Tmp} {v : Value} (h : dst ≠ some t) : (a.put dst v).eval (.tmp t) = a.eval (.tmp t) :=
  Act.eval_put fun d hd e => h (by rw [hd]; injection e with e; rw [e])
theorem size_put (a : Act) (dst : Option Tmp) (v : Value) : (a.put dst v).tmps.size = a.tmps.size := by cases dst <;> simp [Act.put]
theorem defers_put (a : Act) (dst : Option Tmp) (v : Value) : (a.put dst v).defers = a.defers := by cases dst <;> rfl

theorem act_ext {a b : Act} (hs : a.tmps.size = b.tmps.size) (hd : a.defers = b.defers) (h : ∀ t : Tmp, a.eval (.tmp t) = b.eval (.tmp t)) : a = b := by
  obtain ⟨x, d⟩ := a
  obtain ⟨y, e⟩ := b
  have hd' : d = e := hd
  have hs' : x.size = y.size := hs
  subst hd'
  congr
  refine Array.ext hs' fun i h1 h2 => ?_
  have := h i
  simpa [Act.eval, h1, h2] using this

theorem fin_use {S : Nat → Kind} {w' : World} {Q : Act → Prop} {a' : Act} {m : Nat} (hm : a'.tmps.size = m) : ∀ (l : List Oper) (k : Nat) (b : Act), b.tmps.size = m → b.defers = a'.defers →
    (∀ (j : Nat) (o : Oper) (d : Tmp), l[j]? = some o → o.dst = some d → d < m) →
    (∀ (i j : Nat) (oi oj : Oper) (d : Tmp), l[i]? = some oi → l[j]? = some oj → oi.dst = some d → oj.dst = some d → i = j) →
    (∀ (j : Nat) (o : Oper) (d : Tmp), l[j]? = some o → o.dst = some d → S (k + j) (a'.eval (.tmp d)) w') →
    (∀ (t : Tmp), (∀ (j : Nat) (o : Oper), l[j]? = some o → o.dst ≠ some t) → a'.eval (.tmp t) = b.eval (.tmp t)) → Fin S w' Q k l b → Q a'
  | [], k, b, hb, hd, _, _, _, hsame, h => by
    have : a' = b := act_ext (by rw [hm, hb]) hd.symm fun t => hsame t (fun j o ho => by simp at ho)
    rw [this]; exact h
  | o :: l, k, b, hb, hd, hlt, hdis, hS, hsame, h => by
    have step : ∀ b' : Act, b'.tmps.size = m → b'.defers = a'.defers → (∀ (t : Tmp), (∀ (j : Nat) (o' : Oper), l[j]? = some o' → o'.dst ≠ some t) → a'.eval (.tmp t) = b'.eval (.tmp t)) → Fin S w' Q (k + 1) l b' → Q a' := fun b' h1 h2 h3 h4 =>
      fin_use hm l (k + 1) b' h1 h2 (fun j o' d ho' hd' => hlt (j + 1) o' d (by simpa using ho') hd')
        (fun i j oi oj d hi hj hdi hdj => by have := hdis (i + 1) (j + 1) oi oj d (by simpa using hi) (by simpa using hj) hdi hdj; omega)
        (fun j o' d ho' hd' => by have := hS (j + 1) o' d (by simpa using ho') hd'; rwa [show k + (j + 1) = k + 1 + j by omega] at this) h3 h4
    cases hod : o.dst with
    | none =>
      simp only [Fin, hod] at h
      refine step b hb hd (fun t ht => hsame t fun j o' ho' => ?_) h
      cases j with
      | zero => have : o = o' := by simpa using ho'
                subst this; rw [hod]; simp
      | succ j => exact ht j o' (by simpa using ho')
    | some d =>
      simp only [Fin, hod] at h
      have hv := hS 0 o d (by simp) hod
      refine step _ (by rw [size_put, hb]) (by rw [defers_put, hd]) (fun t ht => ?_) (h _ hv)
      by_cases htd : d = t
      · subst htd
        rw [eval_put_self (by rw [hb]; exact hlt 0 o d (by simp) hod)]
      · rw [eval_put_ne (by simpa using htd)]
        refine hsame t fun j o' ho' => ?_
        cases j with
        | zero => have : o = o' := by simpa using ho'
                  subst this; rw [hod]; simpa using htd
        | succ j => exact ht j o' (by simpa using ho')

/-- The check by the kernel. -/
def okB (ops : List Oper) (n m : Nat) (plan : Plan) (cons : Cons) : Bool :=
  Region.noSelect ops.toArray && decide (n ≤ ops.length) && rowsOk ops m (ancs ops []) cons 0 (ops.take n) plan &&
  (if n < ops.length then Region.sinkB .any ops.toArray n && Region.chainB .any ops.toArray n else true) &&
  Region.seqB .any ops.toArray (ops.length - n) n ((List.replicate n true ++ List.replicate (ops.length - n) false).toArray)

theorem countP_one {p p' : Nat → Bool} {i : Nat} (hp : p i = false) (hp' : p' i = true) : ∀ l : List Nat, l.Nodup → i ∈ l → (∀ x ∈ l, x ≠ i → p' x = p x) → l.countP p' = l.countP p + 1
  | [], _, h, _ => by cases h
  | y :: l, hn, h, hx => by
    rw [List.nodup_cons] at hn
    by_cases hy : y = i
    · subst hy
      have e : l.countP p' = l.countP p := List.countP_congr fun x hm => by
        have hne : x ≠ y := fun e => hn.1 (e ▸ hm)
        rw [hx x (List.mem_cons_of_mem _ hm) hne]
      rw [List.countP_cons, List.countP_cons, e, hp, hp']
      simp
    · have := countP_one hp hp' l hn.2 (by
        rcases List.mem_cons.1 h with h | h
        · exact absurd h.symm hy
        · exact h) (fun x hm hne => hx x (List.mem_cons_of_mem _ hm) hne)
      rw [List.countP_cons, List.countP_cons, this, hx y (List.mem_cons_self ..) hy]
      omega

theorem wanted_isB {ops : List Oper} {o : Oper} {g : Nat} {want : Bool} (hg : o.guard = some (g, want)) (a : Act) :
    Region.wanted o (yielded ops.toArray a.tmps) = (match dstOf ops g with | some t => isB (a.eval (.tmp t)) want | none => false) := by
  unfold Region.wanted
  simp only [hg]
  unfold yielded dstOf
  simp only [List.getElem?_toArray]
  cases (ops[g]?).bind (·.dst) with
  | none => rfl
  | some t =>
    simp only [Option.bind_some, Act.eval]
    cases h : a.tmps[t]? with
    | none =>
      have : a.tmps.getD t undef = undef := by rw [Array.getD_eq_getD_getElem?, h]; rfl
      rw [this]; rfl
    | some x =>
      have : a.tmps.getD t undef = x := by simp [h]
      rw [this]
      unfold isB
      cases x <;> rfl

theorem wp_of_gives {P : Program} {o : Oper} {A : Act} {u : World} {N : Kind} {K : Act → World → Prop} {Q : Exit → Act → World → Prop} (h : Gives P o A.eval u N)
    (hK : ∀ v w'', N v w'' → K (A.put o.dst v) w'') : o.wp P A u K Q := by
  unfold Gives at h
  unfold Oper.wp
  generalize (execOp A.eval o).run P u = r at *
  cases r with
  | ok nx w' =>
    cases nx <;> simp only [GivenR] at h <;> simp only [Oper.upon]
    case value v => exact hK _ _ h
    case skip => exact hK _ _ h
    case enter f args =>
      refine Calls.mono h fun e w'' he => ?_
      obtain ⟨v, rfl, h1⟩ := he
      exact hK _ _ h1
  | halt x w' => simp only [GivenR] at h

section
variable {P : Program} {ops : List Oper} {n m : Nat} {plan : Plan} {cons : Cons} {S : Nat → Kind} {C : World → Prop} {E : Nat → World → World → Prop} {own : List Nat} {R0 : World → Prop} {a : Act} {w : World} {Q : Exit → Act → World → Prop}

theorem any_of_types (hsz : a.tmps.size = m) (hn : n ≤ ops.length) (hrows : rowsOk ops m (ancs ops []) cons 0 (ops.take n) plan = true)
    (hsink : n < ops.length → Region.sinkB .any ops.toArray n = true ∧ Region.chainB .any ops.toArray n = true)
    (hseq : Region.seqB .any ops.toArray (ops.length - n) n ((List.replicate n true ++ List.replicate (ops.length - n) false).toArray) = true)
    (hCE : ∀ i u u', C u → E i u u' → C u') (hR : ∀ i u u', i ∉ own → C u → R0 u → E i u u' → R0 u') (hst : ∀ i j v u u', i ≠ j → usedBy cons j ≠ some i → ((ancs ops []).getD j 0).testBit i = false → (∀ c, usedBy cons j = some c → ((ancs ops []).getD i 0).testBit c = false) → C u → S j v u → E i u u' → S j v u')
    (hob : Obs P ops S C E own R0 a 0 (ops.take n) plan)
    (hfin : ∀ w', C w' → Fin (Left cons S) w' (fun a' => wpList P ops.toArray Q (ops.drop n) a' w') 0 (ops.take n) a) :
    ∀ (f : Nat) (listed : Array Bool) (a' : Act) (w' : World), St ops n S C cons own R0 a listed a' w' → (List.range n).countP (fun i => listed.getD i false) + f = n → wpAny P .any ops.toArray Q (f + (ops.length - n)) listed a' w' := by
  have hrow : ∀ j o, ops[j]? = some o → j < n → ∃ pk, plan[j]? = some pk ∧ rowOk ops m (ancs ops []) cons j o pk = true := fun j o ho hj => by
    have := rowsOk_at (ops.take n) plan 0 j o hrows (by rw [List.getElem?_take_of_lt hj]; exact ho)
    simpa using this
  have hdst : ∀ j o d, ops[j]? = some o → j < n → o.dst = some d → d < m ∧ ∀ i oi, i < j → ops[i]? = some oi → oi.dst ≠ some d := fun j o d ho hj hd => by
    obtain ⟨pk, _, hr⟩ := hrow j o ho hj
    unfold rowOk at hr
    simp only [hd, Bool.and_eq_true, decide_eq_true_eq, List.all_eq_true] at hr
    refine ⟨hr.2.1, fun i oi hij hi => ?_⟩
    have := hr.2.2 i (List.mem_range.2 hij)
    simpa [dstOf, hi] using this
  have hdis : ∀ i j oi oj d, ops[i]? = some oi → ops[j]? = some oj → i < n → j < n → oi.dst = some d → oj.dst = some d → i = j := fun i j oi oj d hi hj hin hjn hdi hdj => by
    rcases Nat.lt_trichotomy i j with h | h | h
    · exact absurd hdi ((hdst j oj d hj hjn hdj).2 i oi h hi)
    · exact h
    · exact absurd hdj ((hdst i oi d hi hin hdi).2 j oj h hj)
  intro f
  induction f with
  | zero =>
    intro listed a' w' st hc
    have hall : ∀ i, i < n → listed.getD i false = true := by
      have h0 : List.countP (fun i => listed.getD i false) (List.range n) = (List.range n).length := by rw [List.length_range]; exact hc
      have := List.countP_eq_length.1 h0
      exact fun i hi => this i (List.mem_range.2 hi)
    have hl : listed = (List.replicate n true ++ List.replicate (ops.length - n) false).toArray := by
      refine Array.ext (by rw [st.head.size]; simp; omega) fun i h1 h2 => ?_
      have hsz := st.head.size
      by_cases hi : i < n
      · have := hall i hi
        simp [h1] at this
        simp [this, List.getElem_append_left, hi]
      · have := st.head.tail i (by omega) (by rw [← hsz]; exact h1)
        simp [h1] at this
        rw [this, List.getElem_toArray, List.getElem_append_right (by simp; omega), List.getElem_replicate]
    rw [Nat.zero_add]
    have hw : wpList P ops.toArray Q (ops.drop n) a' w' := by
      have htk : ∀ j o, (ops.take n)[j]? = some o → j < n ∧ ops[j]? = some o := fun j o h => by
        have hj : j < n := by
          rcases Nat.lt_or_ge j n with h' | h'
          · exact h'
          · rw [List.getElem?_eq_none (by simp; omega)] at h; cases h
        exact ⟨hj, by rw [List.getElem?_take_of_lt hj] at h; exact h⟩
      refine fin_use (m := m) (by rw [st.size, hsz]) (ops.take n) 0 a hsz st.defers.symm
        (fun j o d ho hd => (hdst j o d (htk j o ho).2 (htk j o ho).1 hd).1)
        (fun i j oi oj d hi hj hdi hdj => hdis i j oi oj d (htk i oi hi).2 (htk j oj hj).2 (htk i oi hi).1 (htk j oj hj).1 hdi hdj)
        (fun j o d ho hd => ?_) (fun t ht => st.same t fun j o ho hlj => ?_) (hfin w' st.cls)
      · obtain ⟨hj, ho'⟩ := htk j o ho
        have hd2 := st.done j o d ho' hj (hall j hj) hd
        rw [Nat.zero_add]
        unfold Left
        cases hu : usedBy cons j with
        | none => exact hd2 (fun c hc => by rw [hu] at hc; cases hc)
        | some c => trivial
      · have hj : j < n := by
          rcases Nat.lt_or_ge j n with h' | h'
          · exact h'
          · have hjl : j < ops.length := (List.getElem?_eq_some_iff.1 ho).1
            have := getD_both (st.head.tail j h' (by simpa using hjl))
            rw [hlj] at this; cases this
        exact ht j o (by rw [List.getElem?_take_of_lt hj]; exact ho)
    have := wpAny_of_seq (md := .any) (ops := ops.toArray) (Q' := Q) (ops.drop n) n listed a' w' (fun j => by simp [List.getElem?_drop]) (by rw [List.length_drop, hl]; exact hseq) hw
    rwa [List.length_drop] at this
  | succ f ih =>
    intro listed a' w' st hc
    have hinv := st.head
    have hcl : Closed ops listed := fun j oj hj hl e he => by
      obtain ⟨e', h1, h2, h3⟩ := mem_edges.1 he
      rw [← h3]
      exact hinv.closed j oj (by simpa using hj) hl e' h1 h2
    rw [show f + 1 + (ops.length - n) = (f + (ops.length - n)) + 1 by omega]
    -- some operation of the head is ready
    have hex : ∃ i, i < n ∧ listed.getD i false = false := by
      apply Classical.byContradiction
      intro hno
      have : (List.range n).countP (fun i => listed.getD i false) = (List.range n).length := List.countP_eq_length.2 fun i hi => by
        have hi := List.mem_range.1 hi
        cases h : listed.getD i false with
        | true => rfl
        | false => exact absurd ⟨i, hi, h⟩ hno
      rw [this, List.length_range] at hc
      omega
    have hfirst : ∀ (k i : Nat), i ≤ k → i < n → listed.getD i false = false → Region.ready .any ops.toArray listed ≠ [] := by
      intro k
      induction k with
      | zero =>
        intro i hi hin hl
        have : i = 0 := by omega
        subst this
        have h0 : 0 < ops.length := by omega
        obtain ⟨pk, _, hr⟩ := hrow 0 ops[0] (by simp [h0]) hin
        have hm : 0 ∈ Region.ready .any ops.toArray listed := mem_ready.2 ⟨getD_in (by rw [hinv.size]; simpa using h0) hl, ops[0], by simp [h0], fun e he hb => by
          unfold rowOk at hr
          simp only [Bool.and_eq_true, List.all_eq_true, decide_eq_true_eq] at hr
          exact absurd (hr.1.2 e.on (mem_edges.2 ⟨e, he, hb, rfl⟩)) (Nat.not_lt_zero _)⟩
        exact fun h => by rw [h] at hm; cases hm
      | succ k ihk =>
        intro i hi hin hl
        have hil : i < ops.length := by omega
        obtain ⟨pk, _, hr⟩ := hrow i ops[i] (by simp [hil]) hin
        by_cases hall : ∀ e ∈ edgesOf ops[i], listed.getD e false = true
        · have hm : i ∈ Region.ready .any ops.toArray listed := mem_ready.2 ⟨getD_in (by rw [hinv.size]; simpa using hil) hl, ops[i], by simp [hil], fun e he hb => hall e.on (mem_edges.2 ⟨e, he, hb, rfl⟩)⟩
          exact fun h => by rw [h] at hm; cases hm
        · have : ∃ e, e ∈ edgesOf ops[i] ∧ listed.getD e false = false := by
            apply Classical.byContradiction
            intro hno
            refine hall fun e he => ?_
            cases h : listed.getD e false with
            | true => rfl
            | false => exact absurd ⟨e, he, h⟩ hno
          obtain ⟨e, he, hel⟩ := this
          unfold rowOk at hr
          simp only [Bool.and_eq_true, List.all_eq_true, decide_eq_true_eq] at hr
          have hlt := hr.1.2 e he
          exact ihk e (by omega) (by omega) hel
    obtain ⟨i0, hi0, hl0⟩ := hex
    refine ⟨fun h0 => absurd h0 (hfirst i0 i0 (Nat.le_refl _) hi0 hl0), fun i hi => ?_⟩
    have hin : i < n := by
      rcases Nat.lt_or_ge i n with h | h
      · exact h
      · exfalso
        obtain ⟨_, oi, hoi, _⟩ := mem_ready.1 hi
        have hil : i < ops.length := by
          have := (Array.getElem?_eq_some_iff.1 hoi).1
          simpa using this
        obtain ⟨hs, hch⟩ := hsink (by omega)
        exact tail_waits hs hch (by simp; omega) hinv _ i0 rfl hi0 (getD_in (by rw [hinv.size]; simp; omega) hl0) i h hi
    obtain ⟨hun, o, hoa, hall⟩ := mem_ready.1 hi
    have ho : ops[i]? = some o := by simpa using hoa
    have hil : i < ops.length := (List.getElem?_eq_some_iff.1 ho).1
    have hunf := getD_both hun
    obtain ⟨pk, hpk, hr⟩ := hrow i o ho hin
    have hO : Ob P ops S C E own R0 a i o pk := by
      have := obs_at (ops.take n) plan 0 i o hob (by rw [List.getElem?_take_of_lt hin]; exact ho) pk hpk
      simpa using this
    have hW := facts_give (G := Wants ops o a'.eval w' (S i) (Gives P o a'.eval w' fun v u' => S i v u' ∧ E i w' u')) pk (fun x hx => by
      have hr' := hr
      unfold rowOk at hr'
      simp only [Bool.and_eq_true] at hr'
      have h2 := List.all_eq_true.1 hr'.1.1 x hx
      obtain ⟨t, s⟩ := x
      cases s with
      | some j =>
        simp only [Bool.and_eq_true, List.contains_iff_mem] at h2
        obtain ⟨⟨hje, hjd⟩, hcs⟩ := h2
        have hjd : dstOf ops j = some t := by simpa using hjd
        obtain ⟨e, he, hb, hon⟩ := mem_edges.1 hje
        have hjl := hall e he hb
        rw [hon] at hjl
        have hjk : j < i := by
          have := List.all_eq_true.1 hr'.1.2 j hje
          simpa using this
        have hjlen : j < ops.length := by omega
        refine st.done j ops[j] t (by simp [hjlen]) (by omega) hjl (by simpa [dstOf, hjlen] using hjd) fun c hc => ?_
        rw [hc] at hcs
        simp only [Bool.or_eq_true, beq_iff_eq] at hcs
        rcases hcs with hcs | hcs
        · rw [hcs]; exact hunf
        · cases hlc : listed.getD c false with
          | false => rfl
          | true =>
            have := ancs_ok hcl ops [] (fun j => by simp) (fun j _ x hx => by simp at hx) c hlc i hcs
            rw [this] at hunf; cases hunf
      | none =>
        refine st.same t fun j oj hj hlj hd => ?_
        have hjlen : j < ops.length := (List.getElem?_eq_some_iff.1 hj).1
        have h3 := List.all_eq_true.1 h2 j (List.mem_range.2 hjlen)
        have hdj : dstOf ops j = some t := by simp [dstOf, hj, hd]
        simp only [hdj, bne_self_eq_false, Bool.false_or, Bool.or_eq_true, beq_iff_eq] at h3
        rcases h3 with h3 | h3
        · subst h3; rw [hlj] at hunf; cases hunf
        · have := ancs_ok hcl ops [] (fun j => by simp) (fun j _ x hx => by simp at hx) j hlj i h3
          rw [this] at hunf; cases hunf) (hO a'.eval w' (fun _ => rfl) (fun _ => rfl) (fun _ => rfl) st.cls (fun hp => st.res fun x hx => by
      have := List.all_eq_true.1 hp x hx
      simp only [Bool.or_eq_true, beq_iff_eq] at this
      rcases this with h | h
      · subst h; exact hunf
      · cases hl : listed.getD x false with
        | false => rfl
        | true =>
          have := ancs_ok hcl ops [] (fun j => by simp) (fun j _ x hx => by simp at hx) x hl i h
          rw [this] at hunf; cases hunf))
    have put : ∀ v w'', C w'' → S i v w'' → (∀ j u, i ≠ j → usedBy cons j ≠ some i → ((ancs ops []).getD j 0).testBit i = false → (∀ c, usedBy cons j = some c → ((ancs ops []).getD i 0).testBit c = false) → S j u w' → S j u w'') → (i ∉ own → R0 w' → R0 w'') → wpAny P .any ops.toArray Q (f + (ops.length - n)) (listed.setIfInBounds i true) (a'.put o.dst v) w'' := fun v w'' hcw hv hk hr0 => by
      have hli : (listed.setIfInBounds i true).getD i false = true := by
        have : i < listed.size := by rw [hinv.size]; simpa using hil
        simp [this]
      have hcl' : Closed ops (listed.setIfInBounds i true) := fun j oj hj hl e he => by
        obtain ⟨e', h1, h2, h3⟩ := mem_edges.1 he
        rw [← h3]
        exact (hinv.set hi hin).closed j oj (by simpa using hj) hl e' h1 h2
      refine ih _ _ _ ⟨by rw [size_put, st.size], by rw [defers_put, st.defers], hcw, fun hno => ?_, hinv.set hi hin, fun j oj t hj hjn hlj hd hus => ?_, fun t ht => ?_⟩ ?_
      · have hni : i ∉ own := fun hm => by
          have := hno i hm
          rw [hli] at this; cases this
        refine hr0 hni (st.res fun x hx => ?_)
        have := hno x hx
        by_cases hix : i = x
        · subst hix; exact hunf
        · rwa [getD_set_ne false hix] at this
      · by_cases hij : i = j
        · subst hij
          have : o = oj := Option.some.inj (ho.symm.trans hj)
          subst this
          rw [hd, eval_put_self (by rw [st.size, hsz]; exact (hdst i o t ho hin hd).1)]
          exact hv
        · rw [eval_put_ne (fun e => hij (hdis i j o oj t ho hj hin hjn e hd))]
          rw [getD_set_ne false hij] at hlj
          refine hk j _ hij (fun he => ?_) (by
            cases hb : ((ancs ops []).getD j 0).testBit i with
            | false => rfl
            | true =>
              have := ancs_ok hcl ops [] (fun j => by simp) (fun j _ x hx => by simp at hx) j hlj i hb
              rw [this] at hunf; cases hunf) (fun c hc => by
            cases hb : ((ancs ops []).getD i 0).testBit c with
            | false => rfl
            | true =>
              have h1 := ancs_ok hcl' ops [] (fun j => by simp) (fun j _ x hx => by simp at hx) i hli c hb
              have h2 := hus c hc
              rw [h1] at h2; cases h2) (st.done j oj t hj hjn hlj hd fun c hc => ?_)
          · have := hus i he
            rw [hli] at this; cases this
          · have := hus c hc
            by_cases hic : i = c
            · subst hic; exact hunf
            · rwa [getD_set_ne false hic] at this
      · have hne : o.dst ≠ some t := ht i o ho hli
        rw [eval_put_ne hne]
        exact st.same t fun j oj hj hlj => ht j oj hj (getD_set_true hlj)
      · have := countP_one (p := fun x => listed.getD x false) (p' := fun x => (listed.setIfInBounds i true).getD x false) (i := i) hunf hli (List.range n) List.nodup_range (List.mem_range.2 hin) (fun x _ hne => getD_set_ne false (Ne.symm hne))
        rw [this]
        omega
    have next : ∀ v w'', (S i v w'' ∧ E i w' w'') → wpAny P .any ops.toArray Q (f + (ops.length - n)) (listed.setIfInBounds i true) (a'.put o.dst v) w'' := fun v w'' ⟨hv, he⟩ =>
      put v w'' (hCE i w' w'' st.cls he) hv (fun j u hij hus hb hc h => hst i j u w' w'' hij hus hb hc st.cls h he) (fun hni h => hR i w' w'' hni st.cls h he)
    have pass : S i undef w' → wpAny P .any ops.toArray Q (f + (ops.length - n)) (listed.setIfInBounds i true) (a'.put o.dst undef) w' := fun h => put undef w' st.cls h (fun _ _ _ _ _ _ h => h) (fun _ h => h)
    unfold wpOp
    simp only [hoa]
    unfold Wants at hW
    cases hg : o.guard with
    | none =>
      simp only [hg] at hW
      rw [if_pos (by simp [Region.wanted, hg])]
      exact .inl (wp_of_gives hW next)
    | some gw =>
      obtain ⟨g, want⟩ := gw
      simp only [hg] at hW
      rw [wanted_isB (ops := ops) hg a']
      cases hd : dstOf ops g with
      | none =>
        simp only [hd] at hW
        exact pass hW
      | some t =>
        simp only [hd] at hW
        cases hb : isB (a'.eval (.tmp t)) want with
        | true =>
          rw [hb, if_pos rfl] at hW
          rw [if_pos hb]
          exact .inl (wp_of_gives hW next)
        | false =>
          rw [hb, if_neg Bool.false_ne_true] at hW
          rw [if_neg (show ¬ isB (a'.eval (.tmp t)) want = true by rw [hb]; exact Bool.false_ne_true)]
          exact pass hW

theorem region_gen {id : Nat} (hm : P.follows .mixedOrders = true) (n m : Nat) (plan : Plan) (cons : Cons) (S : Nat → Kind) (C : World → Prop) (E : Nat → World → World → Prop) (own : List Nat) (R0 : World → Prop) (hB : okB ops n m plan cons = true) (hsz : a.tmps.size = m)
    (hC : C w.drew) (hR0 : R0 w.drew) (hCE : ∀ i u u', C u → E i u u' → C u') (hR : ∀ i u u', i ∉ own → C u → R0 u → E i u u' → R0 u') (hst : ∀ i j v u u', i ≠ j → usedBy cons j ≠ some i → ((ancs ops []).getD j 0).testBit i = false → (∀ c, usedBy cons j = some c → ((ancs ops []).getD i 0).testBit c = false) → C u → S j v u → E i u u' → S j v u') (hob : Obs P ops S C E own R0 a 0 (ops.take n) plan)
    (hfin : ∀ w', C w' → Fin (Left cons S) w' (fun a' => wpList P ops.toArray Q (ops.drop n) a' w') 0 (ops.take n) a) : (Code.region id ops.toArray true).wp P Q a w := by
  unfold okB at hB
  simp only [Bool.and_eq_true, decide_eq_true_eq] at hB
  obtain ⟨⟨⟨⟨_, hn⟩, hrows⟩, hsc⟩, hseq⟩ := hB
  refine wp_region_any hm ?_
  have := any_of_types (Q := Q) hsz hn hrows (fun h => by rw [if_pos h, Bool.and_eq_true] at hsc; exact hsc) hseq hCE hR hst hob hfin n (Array.replicate ops.toArray.size false) a { w with drawn := w.drawn + 1 }
    ⟨rfl, rfl, hC, fun _ => hR0, ⟨by simp, fun j oj _ hl => (by rw [getD_replicate_false] at hl; cases hl), fun t _ ht => getD_in (by simpa using ht) (getD_replicate_false _ _)⟩,
      fun j o t _ _ hl => (by rw [getD_replicate_false] at hl; cases hl), fun t _ => rfl⟩ (by
        have : (List.range n).countP (fun i => (Array.replicate ops.toArray.size false).getD i false) = 0 := List.countP_eq_zero.2 fun i _ => by rw [getD_replicate_false]; simp
        rw [this, Nat.zero_add])
  rw [show n + (ops.length - n) = ops.toArray.size by simp; omega] at this
  exact this
end

/-- A kind that lasts while memory grows. -/
structure Ty where
  p : Kind
  st : ∀ v w w', p v w → Below w.heap.size w w' → p v w'
def Ty.is (x : Value) : Ty := ⟨fun v _ => v = x, fun _ _ _ h _ => h⟩
def Ty.any : Ty := ⟨fun _ _ => True, fun _ _ _ _ _ => trivial⟩
def tys (l : List Ty) (k : Nat) : Kind := (l.getD k Ty.any).p

/-- The plain one: nothing that is there is turned. -/
theorem region {P : Program} {ops : List Oper} {a : Act} {w : World} {Q : Exit → Act → World → Prop} {id : Nat} (hm : P.follows .mixedOrders = true) (n m : Nat) (plan : Plan) (l : List Ty) (hB : okB ops n m plan [] = true) (hsz : a.tmps.size = m)
    (hob : Obs P ops (tys l) (fun u => Below w.heap.size w u) (fun _ u u' => Below u.heap.size u u') [] (fun _ => True) a 0 (ops.take n) plan)
    (hfin : ∀ w', Below w.heap.size w w' → Fin (tys l) w' (fun a' => wpList P ops.toArray Q (ops.drop n) a' w') 0 (ops.take n) a) : (Code.region id ops.toArray true).wp P Q a w :=
  region_gen hm n m plan [] (tys l) (fun u => Below w.heap.size w u) (fun _ u u' => Below u.heap.size u u') [] (fun _ => True) hB hsz (Below.refl _ _).drew trivial (fun _ _ _ h k => h.trans (k.mono h.size)) (fun _ _ _ _ _ _ _ => trivial) (fun _ j v u u' _ _ _ _ _ h k => (l.getD j Ty.any).st v u u' h k) hob hfin
theorem left_nil (S : Nat → Kind) : Left [] S = S := rfl
theorem region_ex {P : Program} {ops : List Oper} {a : Act} {w : World} {Q : Exit → Act → World → Prop} {id : Nat} (hm : P.follows .mixedOrders = true) (n m : Nat) (plan : Plan) (hB : okB ops n m plan [] = true) (hsz : a.tmps.size = m)
    (h : ∃ l, Obs P ops (tys l) (fun u => Below w.heap.size w u) (fun _ u u' => Below u.heap.size u u') [] (fun _ => True) a 0 (ops.take n) plan ∧
      ∀ w', Below w.heap.size w w' → Fin (Left [] (tys l)) w' (fun a' => wpList P ops.toArray Q (ops.drop n) a' w') 0 (ops.take n) a) : (Code.region id ops.toArray true).wp P Q a w := by
  obtain ⟨l, h1, h2⟩ := h
  exact region hm n m plan l hB hsz h1 h2

/-- Cells read as they did (a block may have been marked). -/
structure Cl (w w' : World) : Prop where
  os : w'.os = w.os
  tape : w'.tape = w.tape
  output : w'.output = w.output
  size : w.heap.size ≤ w'.heap.size
  cell : ∀ b off, b < w.heap.size → w'.cell? ⟨b, off, none⟩ = w.cell? ⟨b, off, none⟩
def CSt (T : Ty) : Prop := ∀ v w w', T.p v w → Cl w w' → T.p v w'
theorem cst_is (x : Value) : CSt (Ty.is x) := fun _ _ _ h _ => h
theorem cst_any : CSt Ty.any := fun _ _ _ _ _ => trivial
def CAll (j0 : Nat) : Nat → List Ty → Prop
  | _, [] => True
  | k, T :: l => (k = j0 ∨ CSt T) ∧ CAll j0 (k + 1) l
theorem call_at {j0 : Nat} : ∀ (l : List Ty) (k j : Nat), CAll j0 k l → k + j ≠ j0 → CSt (l.getD j Ty.any)
  | [], _, j, _, _ => by simpa using cst_any
  | T :: l, k, 0, h, hj => by
    have := h.1.resolve_left (by simpa using hj)
    simpa using this
  | T :: l, k, j + 1, h, hj => by
    have := call_at l (k + 1) j h.2 (by omega)
    simpa using this
/-- .. one operation, f, marks the block that operation j0 made. -/
theorem region_c {P : Program} {ops : List Oper} {a : Act} {w : World} {Q : Exit → Act → World → Prop} {id : Nat} (j0 f : Nat) (hm : P.follows .mixedOrders = true) (n m : Nat) (plan : Plan) (hB : okB ops n m plan [(j0, f)] = true) (hsz : a.tmps.size = m)
    (h : ∃ l, Obs P ops (tys l) (fun u => Below w.heap.size w u) (fun i u u' => Below u.heap.size u u' ∨ (i = f ∧ Cl u u' ∧ Below w.heap.size u u')) [] (fun _ => True) a 0 (ops.take n) plan ∧ CAll j0 0 l ∧
      ∀ w', Below w.heap.size w w' → Fin (Left [(j0, f)] (tys l)) w' (fun a' => wpList P ops.toArray Q (ops.drop n) a' w') 0 (ops.take n) a) : (Code.region id ops.toArray true).wp P Q a w := by
  obtain ⟨l, h1, hc, h2⟩ := h
  refine region_gen hm n m plan [(j0, f)] (tys l) (fun u => Below w.heap.size w u) (fun i u u' => Below u.heap.size u u' ∨ (i = f ∧ Cl u u' ∧ Below w.heap.size u u')) [] (fun _ => True) hB hsz (Below.refl _ _).drew trivial (fun _ _ _ h k => ?_) (fun _ _ _ _ _ _ _ => trivial) (fun i j v u u' hij hus _ _ hu hS hE => ?_) h1 h2
  · rcases k with k | ⟨_, _, k⟩
    · exact h.trans (k.mono h.size)
    · exact h.trans k
  · rcases hE with k | ⟨hi, k, _⟩
    · exact (l.getD j Ty.any).st v u u' hS k
    · subst hi
      refine call_at l 0 j hc (fun e => hus ?_) v u u' hS k
      have : j = j0 := by omega
      subst this
      simp [usedBy]

/-- A block of one cell. -/
def One (u : World) (b : Nat) : Prop := ∃ x t fr, u.heap[b]? = some (.cells #[x] t fr)
/-- What an operation may do that appends to the call's own row (or turns the block g0): old blocks but g0, and blocks of one cell, are as they were. -/
structure OE (n0 : Nat) (g0 : Option Nat) (u u' : World) : Prop where
  os : u'.os = u.os
  tape : u'.tape = u.tape
  output : u'.output = u.output
  size : u.heap.size ≤ u'.heap.size
  block : ∀ b, b < u.heap.size → (b < n0 ∧ some b ≠ g0) ∨ One u b → u'.heap[b]? = u.heap[b]?
def OSt (T : Ty) : Prop := ∀ n0 g0 v u u', T.p v u → OE n0 g0 u u' → T.p v u'
theorem ost_is (x : Value) : OSt (Ty.is x) := fun _ _ _ _ _ h _ => h
theorem ost_any : OSt Ty.any := fun _ _ _ _ _ _ _ => trivial
def OAll (own : List Nat) : Nat → List Ty → Prop
  | _, [] => True
  | k, T :: l => (k ∈ own ∨ OSt T) ∧ OAll own (k + 1) l
theorem oall_at {own : List Nat} : ∀ (l : List Ty) (k j : Nat), OAll own k l → k + j ∉ own → OSt (l.getD j Ty.any)
  | [], _, j, _, _ => by simpa using ost_any
  | T :: l, k, 0, h, hj => by
    have := h.1.resolve_left (by simpa using hj)
    simpa using this
  | T :: l, k, j + 1, h, hj => by
    have := oall_at l (k + 1) j h.2 (by rwa [show k + 1 + j = k + (j + 1) by omega])
    simpa using this
/-- Those that append come one behind another, each using up the value of the one ahead. -/
def ownB (ops : List Oper) (own : List Nat) (cons : Cons) : Bool := own.all fun j => own.all fun i => i == j || usedBy cons j == some i || ((ancs ops []).getD j 0).testBit i || (match usedBy cons j with | some c => ((ancs ops []).getD i 0).testBit c | none => false)
theorem region_o {P : Program} {ops : List Oper} {a : Act} {w : World} {Q : Exit → Act → World → Prop} {id : Nat} (own : List Nat) (cons : Cons) (g0 : Option Nat) (R0 : World → Prop) (hRb : ∀ u u', R0 u → Below u.heap.size u u' → R0 u') (hR0 : R0 w.drew) (hm : P.follows .mixedOrders = true) (n m : Nat) (plan : Plan) (hB : okB ops n m plan cons = true) (hO : ownB ops own cons = true) (hsz : a.tmps.size = m)
    (h : ∃ l, Obs P ops (tys l) (fun u => w.grownBy u g0) (fun i u u' => Below u.heap.size u u' ∨ (i ∈ own ∧ OE w.heap.size g0 u u')) own R0 a 0 (ops.take n) plan ∧ OAll own 0 l ∧
      ∀ w', w.grownBy w' g0 → Fin (Left cons (tys l)) w' (fun a' => wpList P ops.toArray Q (ops.drop n) a' w') 0 (ops.take n) a) : (Code.region id ops.toArray true).wp P Q a w := by
  obtain ⟨l, h1, hc, h2⟩ := h
  refine region_gen hm n m plan cons (tys l) (fun u => w.grownBy u g0) (fun i u u' => Below u.heap.size u u' ∨ (i ∈ own ∧ OE w.heap.size g0 u u')) own R0 hB hsz ⟨rfl, rfl, rfl, Nat.le_refl _, fun _ _ _ => rfl⟩ hR0 (fun _ u u' h k => ?_) (fun i u u' hi _ h k => hRb u u' h (k.resolve_right fun k => hi k.1)) (fun i j v u u' hij hus hanc hcc hu hS hE => ?_) h1 h2
  · rcases k with k | ⟨_, k⟩
    · exact ⟨k.os.trans h.os, k.tape.trans h.tape, k.output.trans h.output, Nat.le_trans h.size k.size, fun b hb hne => (k.block b (Nat.lt_of_lt_of_le hb h.size)).trans (h.block b hb hne)⟩
    · exact ⟨k.os.trans h.os, k.tape.trans h.tape, k.output.trans h.output, Nat.le_trans h.size k.size, fun b hb hne => (k.block b (Nat.lt_of_lt_of_le hb h.size) (.inl ⟨hb, hne⟩)).trans (h.block b hb hne)⟩
  · rcases hE with k | ⟨hi, k⟩
    · exact (l.getD j Ty.any).st v u u' hS k
    · by_cases hj : j ∈ own
      · exfalso
        unfold ownB at hO
        have := List.all_eq_true.1 (List.all_eq_true.1 hO j hj) i hi
        rw [hanc] at this
        simp only [Bool.or_false, Bool.or_eq_true, beq_iff_eq] at this
        rcases this with (h | h) | h
        · exact hij h
        · exact hus h
        · cases hc' : usedBy cons j with
          | none => rw [hc'] at h; cases h
          | some c =>
            rw [hc'] at h
            have := hcc c hc'
            simp only at h
            rw [this] at h; cases h
      · exact oall_at l 0 j hc (by simpa using hj) _ _ v u u' hS k
end Go.Tp
set_option linter.unusedSimpArgs false
namespace Go.Tp
open Go Go.RowKit

theorem addN (b off j : Nat) : (⟨b, off, none⟩ : Addr).add j = ⟨b, off + j, none⟩ := by cases j <;> simp [Addr.add]
/-- A slice of elements of one cell, whose cells are these. -/
structure Sl (w : World) (a : Option Addr) (n c : Nat) (xs : List Value) : Prop where
  len : xs.length = n
  cap : n ≤ c
  big : c ≤ maxLen
  at_ : 0 < n → ∃ b off, a = some ⟨b, off, none⟩ ∧ b < w.heap.size
  cell : ∀ b off, a = some ⟨b, off, none⟩ → ∀ j v, xs[j]? = some v → w.cell? ⟨b, off + j, none⟩ = some v
theorem Sl.keep {w w' : World} {a : Option Addr} {n c : Nat} {xs : List Value} (h : Sl w a n c xs) (k : Below w.heap.size w w') : Sl w' a n c xs :=
  ⟨h.len, h.cap, h.big, fun hn => let ⟨b, off, e, hb⟩ := h.at_ hn; ⟨b, off, e, Nat.lt_of_lt_of_le hb k.size⟩, fun b off e j v hj => by
    have hc := h.cell b off e j v hj
    exact (k.cell (p := ⟨b, off + j, none⟩) (World.block_lt_of_cell? w _ hc)).trans hc⟩
theorem Sl.nil (w : World) : Sl w none 0 0 [] := ⟨rfl, Nat.le_refl _, Nat.zero_le _, fun h => absurd h (Nat.lt_irrefl _), fun _ _ e => by cases e⟩
theorem Sl.of_own {w : World} {base : Nat} {e : TypeId} {v : Value} {n : Nat} {xs : List Value} (h : w.ownsRow base e 1 v n xs) : ∃ a c, v = .slice a n c ∧ Sl w a n c xs ∧ (∀ b off, a = some ⟨b, off, none⟩ → base ≤ b) := by
  have hl : xs.length = n := by simpa using h.1
  rcases h.2 with ⟨rfl, rfl⟩ | ⟨g, cap, cur, rfl, hb, hg, hnc, hcm, hcs, ht⟩
  · have : xs = [] := List.length_eq_zero_iff.1 hl
    subst this
    exact ⟨none, 0, rfl, Sl.nil w, fun _ _ e => by cases e⟩
  · refine ⟨_, cap, rfl, ⟨hl, hnc, hcm, fun _ => ⟨g, 0, rfl, (Array.getElem?_eq_some_iff.1 hg).1⟩, fun b off e j v hj => ?_⟩, fun b off e => by cases e; exact hb⟩
    cases e
    have := h.cells (g := g) rfl j v hj
    rw [addN] at this
    exact this
theorem Sl.of_row {w : World} {B : Nat} {t : TypeId} {cs : Array Value} {fr : Nat × Nat} (h : w.heap[B]? = some (.cells cs t fr)) (n c : Nat) (hn : n ≤ cs.size) (hc : n ≤ c) (hm : c ≤ maxLen) : Sl w (some ⟨B, 0, none⟩) n c (cs.toList.take n) :=
  ⟨by simp; omega, hc, hm, fun _ => ⟨B, 0, rfl, (Array.getElem?_eq_some_iff.1 h).1⟩, fun b off e j v hj => by
    cases e
    rw [Nat.zero_add, cell_of_row w B j cs t fr h]
    have hjn : j < n := by
      rcases Nat.lt_or_ge j n with h' | h'
      · exact h'
      · rw [List.getElem?_eq_none (by simp; omega)] at hj; cases hj
    rw [List.getElem?_take_of_lt hjn] at hj
    simpa using hj⟩
theorem Sl.lt {w : World} {b off n c : Nat} {xs : List Value} (h : Sl w (some ⟨b, off, none⟩) n c xs) (hn : 0 < n) : b < w.heap.size := by
  obtain ⟨b', off', e, hb⟩ := h.at_ hn
  cases e; exact hb

/-- A slice that reads as these bytes. -/
def Bs (l : List Int) : Ty := ⟨fun v w => ∃ a n c, v = .slice a n c ∧ Sl w a n c (l.map (Value.int .u8)), fun _ _ _ ⟨a, n, c, e, h⟩ k => ⟨a, n, c, e, h.keep k⟩⟩
/-- A slice of such slices. -/
def BsSAt (L : List (List Int)) (v : Value) (w : World) : Prop := ∃ a c vs, v = .slice a L.length c ∧ Sl w a L.length c vs ∧ (∀ (j : Nat) (l : List Int), L[j]? = some l → ∃ u, vs[j]? = some u ∧ (Bs l).p u w)
theorem BsSAt.keep {L : List (List Int)} {v : Value} {w w' : World} (h : BsSAt L v w) (k : Below w.heap.size w w') : BsSAt L v w' := by
  obtain ⟨a, c, vs, e, hs, hx⟩ := h
  exact ⟨a, c, vs, e, hs.keep k, fun j l hj => (hx j l hj).elim fun u hu => ⟨u, hu.1, (Bs l).st _ _ _ hu.2 k⟩⟩
def BsS (L : List (List Int)) : Ty := ⟨BsSAt L, fun _ _ _ h k => h.keep k⟩
/-- A pointer to a block of its own, whole, made from 'base' on. -/
def NewRow (base : Nat) (t : TypeId) (cs : Array Value) : Ty := ⟨fun v w => ∃ b, v = .pointer (some ⟨b, 0, none⟩) ∧ base ≤ b ∧ w.heap[b]? = some (.cells cs t (0, 0)), fun _ _ _ ⟨b, e, hb, h⟩ k => ⟨b, e, hb, (k.block b (Array.getElem?_eq_some_iff.1 h).1).trans h⟩⟩

/-- What a call leaves: a value of the kind; what was there is as it was. -/
def Ret (T : Ty) (w : World) (e : Ending) (w' : World) : Prop := ∃ v, e = .returned v ∧ T.p v w' ∧ Below w.heap.size w w'
theorem ret_is {x : Value} {w : World} {e : Ending} {w' : World} (h : e = .returned x ∧ Below w.heap.size w w') : Ret (Ty.is x) w e w' := ⟨x, h.1, rfl, h.2⟩
theorem ret_same {x : Value} {w : World} {e : Ending} {w' : World} (h : e = .returned x ∧ w' = w) : Ret (Ty.is x) w e w' := ⟨x, h.1, rfl, by rw [h.2]; exact Below.refl _ _⟩

section
variable {P : Program} {o : Oper} {A : Operand → Value} {u : World} {l : List Ty} {k : Nat}
theorem gives_run {N : Kind} {r : Result Next} (h : (execOp A o).run P u = r) (hr : GivenR P N r) : Gives P o A u N := by unfold Gives; rw [h]; exact hr
/-- The obligation's aim, of the plain law. -/
abbrev Aim (l : List Ty) (k : Nat) (u : World) : Kind := fun v u' => tys l k v u' ∧ Below u.heap.size u u'
theorem given_is {x : Value} (hk : l.getD k Ty.any = Ty.is x) : GivenR P (Aim l k u) (.ok (.value x) u) := ⟨by unfold tys; rw [hk]; rfl, Below.refl _ _⟩
theorem given_skip (hk : l.getD k Ty.any = Ty.any) : GivenR P (Aim l k u) (.ok .skip u) := ⟨by unfold tys; rw [hk]; trivial, Below.refl _ _⟩
theorem given_ty {x : Value} {u' : World} {T : Ty} (hk : l.getD k Ty.any = T) (h : T.p x u') (hb : Below u.heap.size u u') : GivenR P (Aim l k u) (.ok (.value x) u') := ⟨by unfold tys; rw [hk]; exact h, hb⟩
theorem given_call {f : FuncId} {args : Array Value} {T : Ty} (hk : l.getD k Ty.any = T) (h : Calls P f args u (Ret T u)) : GivenR P (Aim l k u) (.ok (.enter f args) u) :=
  Calls.mono h fun _ _ ⟨v, h1, h2, h3⟩ => ⟨v, h1, by unfold tys; rw [hk]; exact h2, h3⟩
theorem wants_plain {ops : List Oper} {T : Kind} {G : Prop} (h : o.guard = none) (hg : G) : Wants ops o A u T G := by unfold Wants; rw [h]; exact hg
section
variable {S : Nat → Kind} {a : Act} {t : Tmp} {rest : List (Tmp × Option Nat)} {G : Prop}
theorem facts_nil (h : G) : Facts S a A u [] G := h
theorem facts_old {x : Value} (h : A (.tmp t) = x → Facts S a A u rest G) (hx : a.eval (.tmp t) = x) : Facts S a A u ((t, none) :: rest) G := fun e => h (e.trans hx)
theorem facts_is {j : Nat} {x : Value} (hj : l.getD j Ty.any = Ty.is x) (h : A (.tmp t) = x → Facts (tys l) a A u rest G) : Facts (tys l) a A u ((t, some j) :: rest) G := fun v e hv => by
  unfold tys at hv
  rw [hj] at hv
  exact h (e.trans hv)
theorem facts_ty {j : Nat} {T : Ty} (hj : l.getD j Ty.any = T) (h : ∀ v, A (.tmp t) = v → T.p v u → Facts (tys l) a A u rest G) : Facts (tys l) a A u ((t, some j) :: rest) G := fun v e hv => h v e (by
  unfold tys at hv
  rw [hj] at hv
  exact hv)
end
theorem fin_nil {S : Nat → Kind} {w' : World} {Q : Act → Prop} {a : Act} (h : Q a) : Fin S w' Q k [] a := h
theorem fin_none {S : Nat → Kind} {w' : World} {Q : Act → Prop} {a : Act} {r : List Oper} (hd : o.dst = none) (h : Fin S w' Q (k + 1) r a) : Fin S w' Q k (o :: r) a := by unfold Fin; rw [hd]; exact h
theorem fin_used {w' : World} {cons : Cons} {Q : Act → Prop} {a : Act} {r : List Oper} {d : Tmp} {c : Nat} (hd : o.dst = some d) (hu : usedBy cons k = some c) (h : ∀ v, Fin (Left cons (tys l)) w' Q (k + 1) r (a.put (some d) v)) : Fin (Left cons (tys l)) w' Q k (o :: r) a := by
  unfold Fin; rw [hd]
  exact fun v _ => h v
theorem fin_is {cons : Cons} {w' : World} {Q : Act → Prop} {a : Act} {r : List Oper} {d : Tmp} {x : Value} (hd : o.dst = some d) (hu : usedBy cons k = none) (hk : l.getD k Ty.any = Ty.is x) (h : Fin (Left cons (tys l)) w' Q (k + 1) r (a.put (some d) x)) : Fin (Left cons (tys l)) w' Q k (o :: r) a := by
  unfold Fin; rw [hd]
  intro v hv
  unfold Left at hv
  rw [hu] at hv
  unfold tys at hv
  rw [hk] at hv
  have : v = x := hv
  rw [this]; exact h
theorem fin_ty {cons : Cons} {w' : World} {Q : Act → Prop} {a : Act} {r : List Oper} {d : Tmp} {T : Ty} (hd : o.dst = some d) (hu : usedBy cons k = none) (hk : l.getD k Ty.any = T) (h : ∀ v, T.p v w' → Fin (Left cons (tys l)) w' Q (k + 1) r (a.put (some d) v)) : Fin (Left cons (tys l)) w' Q k (o :: r) a := by
  unfold Fin; rw [hd]
  intro v hv
  unfold Left at hv
  rw [hu] at hv
  unfold tys at hv
  rw [hk] at hv
  exact h v hv
end

theorem aim_l {P : Program} {o : Oper} {A : Operand → Value} {u : World} {l : List Ty} {k : Nat} {X : World → Prop} (h : Gives P o A u (Aim l k u)) : Gives P o A u (fun v u' => tys l k v u' ∧ (Below u.heap.size u u' ∨ X u')) := by
  unfold Gives at *
  generalize (execOp A o).run P u = r at *
  cases r with
  | ok nx w' =>
    cases nx <;> simp only [GivenR] at h ⊢
    case value v => exact ⟨h.1, .inl h.2⟩
    case skip => exact ⟨h.1, .inl h.2⟩
    case enter f args => exact Calls.mono h fun e w'' ⟨v, e1, h1, h2⟩ => ⟨v, e1, h1, .inl h2⟩
  | halt x w' => simp only [GivenR] at h
/-- append of a slice that reads as a list onto a row of the call's own. -/
theorem run_append_sl {P : Program} (w : World) (base : Nat) (t ty e : TypeId) (i : TypeInfo) (z : Value) (bytes : Nat) (ht : P.underlying t = some (.slice e)) (hi : P.info? e = some i) (hz : i.zero = some z)
    (hsize : i.size = 1) (hby : i.bytes = bytes) (hzs : z.cells.size = 1) (v : Value) (n : Nat) (xs : List Value) (hown : w.ownsRow base e 1 v n xs)
    (a : Option Addr) (m c : Nat) (news : List Value) (hs : Sl w a m c news) (h1 : ∀ u ∈ news, u.oneCell' = true)
    (h63 : n + m ≤ maxLen) (hbytes : (n + m) * bytes ≤ 140737488355328) (hbase : base ≤ w.heap.size) :
    ∃ v' w', (Builtin.append_ #[t, t] ty #[v, .slice a m c]).run P w = .ok v' w' ∧ w'.ownsRow base e 1 v' (n + m) (xs ++ news) ∧ w.grownBy w' v.ownBlock ∧
      (v'.ownBlock = v.ownBlock ∨ v'.ownBlock = some w.heap.size) := by
  by_cases hm : m = 0
  · subst hm
    have : news = [] := List.length_eq_zero_iff.1 hs.len
    subst this
    refine ⟨v, w, ?_, by simpa using hown, ⟨rfl, rfl, rfl, Nat.le_refl _, fun _ _ _ => rfl⟩, .inl rfl⟩
    rcases hown.2 with ⟨rfl, rfl⟩ | ⟨g, cap, cur, rfl, _, _, hnc, _⟩
    · cases a <;> simp [Builtin.append_, run_underlying ht, sizeOf, typeInfo, hi, Builtin.lenOf, Builtin.firstCells, loadCells, loadCellsFrom]
    · cases a <;> simp [Builtin.append_, run_underlying ht, sizeOf, typeInfo, hi, Builtin.lenOf, Builtin.firstCells, loadCells, loadCellsFrom, hnc, storeCells]
  · obtain ⟨b, off, rfl, hb⟩ := hs.at_ (by omega)
    obtain ⟨v', w', r1, r2, r3, _, r5⟩ := run_append_own_at (P := P) w base t ty e i z 1 bytes ht hi hz hsize hby hzs (by omega) v n xs hown ⟨b, off, none⟩ m c news (by simpa using hs.len) (fun j u hu => by rw [addN]; exact hs.cell b off rfl j u hu) h1 h63 hbytes hbase
    exact ⟨v', w', r1, r2, r3, r5⟩
theorem wpList_append_sl {P : Program} {w : World} {ops : Array Oper} {rest : List Oper} {o : Oper} {a : Act} {Q : Exit → Act → World → Prop} (hgd : o.guard = none) (s x : Operand) (t : TypeId)
    (ho : o.op = .call { callee := .builtin .append, args := #[s, x], argTypes := #[t, t] })
    (base : Nat) (e : TypeId) (i : TypeInfo) (z : Value) (bytes : Nat) (ht : P.underlying t = some (.slice e)) (hi : P.info? e = some i) (hz : i.zero = some z)
    (hsize : i.size = 1) (hby : i.bytes = bytes) (hzs : z.cells.size = 1) (v : Value) (n : Nat) (xs : List Value) (hv : a.eval s = v) (hown : w.ownsRow base e 1 v n xs)
    (ad : Option Addr) (m c : Nat) (news : List Value) (hx : a.eval x = .slice ad m c) (hs : Sl w ad m c news) (h1 : ∀ u ∈ news, u.oneCell' = true)
    (h63 : n + m ≤ maxLen) (hbytes : (n + m) * bytes ≤ 140737488355328) (hbase : base ≤ w.heap.size)
    (h : ∀ v' w', w'.ownsRow base e 1 v' (n + m) (xs ++ news) → w.grownBy w' v.ownBlock → (v'.ownBlock = v.ownBlock ∨ v'.ownBlock = some w.heap.size) → wpList P ops Q rest (a.put o.dst v') w') : wpList P ops Q (o :: rest) a w :=
  wpList_plain hgd fun K hK => by
    obtain ⟨v', w', hrun, h2, h3, h4⟩ := run_append_sl (P := P) w base t o.type e i z bytes ht hi hz hsize hby hzs v n xs hown ad m c news hs h1 h63 hbytes hbase
    unfold Oper.wp execOp
    simp only [ho, resolve, invoke, builtin, Sem.run_bind, Sem.run_pure, Result.andThen_ok, List.map_toArray, List.map_cons, List.map_nil, hv, hx, hrun]
    exact hK _ _ (h v' w' h2 h3 h4)
theorem wpList_append_run {P : Program} {w : World} {ops : Array Oper} {rest : List Oper} {o : Oper} {a : Act} {Q : Exit → Act → World → Prop} (hgd : o.guard = none) (s x : Operand) (t t' : TypeId)
    (ho : o.op = .call { callee := .builtin .append, args := #[s, x], argTypes := #[t, t'] }) (v xv v' : Value) (w' : World) (hv : a.eval s = v) (hx : a.eval x = xv)
    (hrun : (Builtin.append_ #[t, t'] o.type #[v, xv]).run P w = .ok v' w') (h : wpList P ops Q rest (a.put o.dst v') w') : wpList P ops Q (o :: rest) a w :=
  wpList_plain hgd fun K hK => by
    unfold Oper.wp execOp
    simp only [ho, resolve, invoke, builtin, Sem.run_bind, Sem.run_pure, Result.andThen_ok, List.map_toArray, List.map_cons, List.map_nil, hv, hx, hrun]
    exact hK _ _ h
theorem bs_new (u : World) (l : List Int) (t : TypeId) (n : Nat) (hn : l.length = n) (hm : n ≤ 1048576) : (Bs l).p (.slice (some ⟨u.heap.size, 0, none⟩) n n) (u.alloc (.cells (l.map (Value.int .u8)).toArray t)) := by
  refine ⟨_, n, n, rfl, ?_⟩
  have := Sl.of_row (w := u.alloc (.cells (l.map (Value.int .u8)).toArray t)) (heap_alloc_new u _) n n (by simp [hn]) (Nat.le_refl _) (by unfold maxLen; omega)
  rwa [List.take_of_length_le (by simp [hn])] at this
def AllBs (u : World) : List Value → List (List Int) → Prop
  | [], [] => True
  | v :: vs, l :: L => (Bs l).p v u ∧ AllBs u vs L
  | _, _ => False
theorem allBs_at {u : World} : ∀ (vs : List Value) (L : List (List Int)), AllBs u vs L → vs.length = L.length ∧ ∀ (j : Nat) (l : List Int), L[j]? = some l → ∃ v, vs[j]? = some v ∧ (Bs l).p v u
  | [], [], _ => ⟨rfl, fun j l h => by simp at h⟩
  | [], _ :: _, h => h.elim
  | _ :: _, [], h => h.elim
  | v :: vs, l :: L, h => by
    obtain ⟨h1, h2⟩ := allBs_at vs L h.2
    refine ⟨by simp [h1], fun j l' hj => ?_⟩
    cases j with
    | zero =>
      have : l = l' := by simpa using hj
      subst this
      exact ⟨v, rfl, h.1⟩
    | succ j => simpa using h2 j l' (by simpa using hj)
theorem bss_new (u : World) (vs : List Value) (L : List (List Int)) (t : TypeId) (n : Nat) (hn : vs.length = n) (hm : n ≤ 1048576) (h : AllBs u vs L) : (BsS L).p (.slice (some ⟨u.heap.size, 0, none⟩) n n) (u.alloc (.cells vs.toArray t)) := by
  obtain ⟨h1, h2⟩ := allBs_at vs L h
  have hb : Below u.heap.size u (u.alloc (.cells vs.toArray t)) := (Below.refl _ _).alloc (Nat.le_refl _) _
  have hs := Sl.of_row (w := u.alloc (.cells vs.toArray t)) (heap_alloc_new u _) n n (by simp [hn]) (Nat.le_refl _) (by unfold maxLen; omega)
  rw [List.take_of_length_le (by simp [hn])] at hs
  have hl : L.length = n := by omega
  refine ⟨some ⟨u.heap.size, 0, none⟩, n, vs, by rw [hl], by rw [hl]; simpa using hs, fun j l hj => ?_⟩
  obtain ⟨v, hv, hk⟩ := h2 j l hj
  exact ⟨v, hv, (Bs l).st _ _ _ hk hb⟩
theorem bs_cast {l l' : List Int} {v : Value} {w : World} (h : (Bs l).p v w) (e : l = l') : (Bs l').p v w := e ▸ h
/-- A slice of the call's own, from 'base' on, that reads as these bytes. -/
def Ow (e : TypeId) (base : Nat) (l : List Int) : Ty := ⟨fun v w => ∃ n, w.ownsRow base e 1 v n (l.map (Value.int .u8)), fun v w w' ⟨n, h⟩ k => ⟨n, h.1, by
  rcases h.2 with h2 | ⟨g, cap, cur, e1, hb, hg, h3⟩
  · exact .inl h2
  · exact .inr ⟨g, cap, cur, e1, hb, (k.block g (Array.getElem?_eq_some_iff.1 hg).1).trans hg, h3⟩⟩⟩
theorem ow_bs {e : TypeId} {base : Nat} {l : List Int} {v : Value} {w : World} (h : (Ow e base l).p v w) : (Bs l).p v w := by
  obtain ⟨n, h⟩ := h
  obtain ⟨a, c, rfl, hs, _⟩ := Sl.of_own h
  exact ⟨a, n, c, rfl, hs⟩
theorem ow_base {e : TypeId} {base base' : Nat} {l : List Int} {v : Value} {w : World} (h : (Ow e base l).p v w) (hb : base' ≤ base) : (Ow e base' l).p v w := by
  obtain ⟨n, h1, h2⟩ := h
  refine ⟨n, h1, ?_⟩
  rcases h2 with h2 | ⟨g, cap, cur, e1, hb', h3⟩
  · exact .inl h2
  · exact .inr ⟨g, cap, cur, e1, by omega, h3⟩
theorem ow_cast {e : TypeId} {base : Nat} {l l' : List Int} {v : Value} {w : World} (h : (Ow e base l).p v w) (q : l = l') : (Ow e base l').p v w := q ▸ h
theorem ret_bs {e : TypeId} {base : Nat} {l : List Int} {w : World} {en : Ending} {w' : World} (h : Ret (Ow e base l) w en w') : Ret (Bs l) w en w' := by
  obtain ⟨v, h1, h2, h3⟩ := h
  exact ⟨v, h1, ow_bs h2, h3⟩
/-- The bytes of a text. -/
def bytesI (s : ByteArray) : List Int := s.data.toList.map fun b => (b.toNat : Int)
theorem bytesI_length (s : ByteArray) : (bytesI s).length = s.size := by simp [bytesI]
theorem bytes_of_string {P : Program} {o : Oper} {A : Operand → Value} {u : World} {l : List Ty} {k : Nat} (src dst e : TypeId) (x : Operand) (ho : o.op = .convert src dst x) {s : ByteArray} (hx : A x = .string s) (hs : P.underlying src = some .string) (hd : P.underlying dst = some (.slice e)) (he : P.underlying e = some (.int .u8))
    (hm : s.size ≤ 140737488355328) (hk : l.getD k Ty.any = Bs (bytesI s)) : Gives P o A u (Aim l k u) := by
  refine gives_run (r := _) (by
    unfold execOp
    simp only [ho, hx, Sem.run_bind, Sem.run_map, run_bytes_of_string u src dst e s hs hd he]
    exact rfl) ?_
  refine given_ty hk ?_ ((Below.refl _ _).drew.alloc (by exact Nat.le_refl _) _)
  have hc := grownCap_ge u s.size 0 e
  have hmx := grownCap_le_maxLen u s.size 0 e (by unfold maxLen; omega)
  generalize grownCap u s.size 0 e = c at *
  refine ⟨_, s.size, c, rfl, ?_⟩
  have hh := heap_alloc_new u.drew (.cells (bytesRow s c) e ((bytesRow s c).size, (bytesRow s c).size + 1))
  have hsz : s.size ≤ (bytesRow s c).size := by simp [bytesRow]
  have := Sl.of_row (w := u.drew.alloc (.cells (bytesRow s c) e ((bytesRow s c).size, (bytesRow s c).size + 1))) hh s.size c hsz hc hmx
  have e1 : (bytesRow s c).toList.take s.size = (bytesI s).map (Value.int .u8) := by
    unfold bytesRow bytesI
    rw [Array.toList_append, List.take_left' (by simp)]
    simp [Function.comp_def]
  rw [e1] at this
  exact this
theorem Sl.cl {w w' : World} {a : Option Addr} {n c : Nat} {xs : List Value} (h : Sl w a n c xs) (k : Cl w w') : Sl w' a n c xs :=
  ⟨h.len, h.cap, h.big, fun hn => let ⟨b, off, e, hb⟩ := h.at_ hn; ⟨b, off, e, Nat.lt_of_lt_of_le hb k.size⟩, fun b off e j v hj => by
    have hc := h.cell b off e j v hj
    exact (k.cell b (off + j) (World.block_lt_of_cell? w _ hc)).trans hc⟩
theorem cst_bs (l : List Int) : CSt (Bs l) := fun _ _ _ ⟨a, n, c, e, h⟩ k => ⟨a, n, c, e, h.cl k⟩
theorem cst_bss (L : List (List Int)) : CSt (BsS L) := fun _ _ _ h k => by
  obtain ⟨a, c, vs, e, hs, hx⟩ := h
  exact ⟨a, c, vs, e, hs.cl k, fun j l hj => (hx j l hj).elim fun u hu => ⟨u, hu.1, cst_bs l _ _ _ hu.2 k⟩⟩
/-- A literal's row, of the call's own, not marked yet. -/
def Lit (base : Nat) (e : TypeId) (l : List Int) : Ty := ⟨fun v w => ∃ g, v = .slice (some ⟨g, 0, none⟩) l.length l.length ∧ base ≤ g ∧ w.heap[g]? = some (.cells (l.map (Value.int .u8)).toArray e (0, 0)),
  fun _ _ _ ⟨g, e1, hb, h⟩ k => ⟨g, e1, hb, (k.block g (Array.getElem?_eq_some_iff.1 h).1).trans h⟩⟩
theorem lit_new (u : World) (base : Nat) (l : List Int) (t : TypeId) (n : Nat) (hn : l.length = n) (hb : base ≤ u.heap.size) : (Lit base t l).p (.slice (some ⟨u.heap.size, 0, none⟩) n n) (u.alloc (.cells (l.map (Value.int .u8)).toArray t)) :=
  ⟨u.heap.size, by rw [hn], hb, heap_alloc_new u _⟩
/-- The literal's bytes as a slice of bytes: its row is marked. -/
theorem mark_lit {P : Program} {o : Oper} {A : Operand → Value} {u w : World} {l : List Ty} {k : Nat} (t e : TypeId) (x : Operand) (ho : o.op = .convert t t x) {v : Value} (hx : A x = v) {xs : List Int} (hv : (Lit w.heap.size e xs).p v u) (ht : P.underlying t = some (.slice e)) (he : P.underlying e = some (.int .u8))
    (hm : xs.length ≤ 1048576) (hk : l.getD k Ty.any = Bs xs) : Gives P o A u (fun v u' => tys l k v u' ∧ (Below u.heap.size u u' ∨ (k = k ∧ Cl u u' ∧ Below w.heap.size u u'))) := by
  obtain ⟨g, rfl, hb, hg⟩ := hv
  have hlt := (Array.getElem?_eq_some_iff.1 hg).1
  generalize hcs : (xs.map (Value.int .u8)).toArray = cs at hg
  have hsh : u.shape? g = some (e, cs.size) := by unfold World.shape?; rw [hg]
  have hr : (convert t t (.slice (some ⟨g, 0, none⟩) xs.length xs.length)).run P u = .ok (.slice (some ⟨g, 0, none⟩) xs.length xs.length) (u.freeze ⟨g, cs.size, none⟩ 1) := by
    simp [convert, run_underlying ht, run_underlying he, markStringish, hsh]
  have hfo : ∀ b, b ≠ g → (u.freeze ⟨g, cs.size, none⟩ 1).heap[b]? = u.heap[b]? := fun b hb => by
    unfold World.freeze
    rw [if_neg (by decide)]
    simp [Array.getElem?_modify, Ne.symm hb]
  have hfg : (u.freeze ⟨g, cs.size, none⟩ 1).heap[g]? = some (.cells cs e (cs.size, cs.size + 1)) := by
    unfold World.freeze
    rw [if_neg (by decide)]
    simp [Array.getElem?_modify, hg]
  have hcl : Cl u (u.freeze ⟨g, cs.size, none⟩ 1) := ⟨rfl, rfl, rfl, by unfold World.freeze; rw [if_neg (by decide)]; simp, fun b off _ => by
    by_cases hbg : b = g
    · subst hbg
      simp [World.cell?, hfg, hg]
    · simp [World.cell?, hfo b hbg]⟩
  refine gives_run (r := .ok (.value (.slice (some ⟨g, 0, none⟩) xs.length xs.length)) (u.freeze ⟨g, cs.size, none⟩ 1)) (by
    unfold execOp
    simp only [ho, hx, Sem.run_bind, Sem.run_map, hr]
    rfl) ⟨?_, .inr ⟨rfl, hcl, ⟨rfl, rfl, rfl, hcl.size, fun b hb' => hfo b (by omega)⟩⟩⟩
  unfold tys
  rw [hk]
  refine ⟨_, xs.length, xs.length, rfl, ?_⟩
  have := Sl.of_row hfg xs.length xs.length (by simp [← hcs]) (Nat.le_refl _) (by unfold maxLen; omega)
  have e1 : cs.toList.take xs.length = xs.map (Value.int .u8) := by rw [← hcs, List.take_of_length_le (by simp)]
  rw [e1] at this
  exact this
theorem load_var {P : Program} {o : Oper} {A : Operand → Value} {u : World} {l : List Ty} {k : Nat} {ty : TypeId} {x : Operand} (ho : o.op = .load ty x) {p : Addr} (hx : A x = .pointer (some p)) {v : Value} (hl : (loadVar ty p).run P u = .ok v u) (hk : l.getD k Ty.any = Ty.is v) : Gives P o A u (Aim l k u) := by
  refine gives_run (r := .ok (.value v) u) ?_ (given_is hk)
  unfold execOp
  simp only [ho, hx, Instr.loadAt, Instr.sureAddr, Sem.run_bind, Sem.run_pure, Result.andThen_ok, Sem.run_map, hl]
theorem Sl.of_mid {w : World} {B : Nat} {t : TypeId} {cs : Array Value} {fr : Nat × Nat} (h : w.heap[B]? = some (.cells cs t fr)) (off n c : Nat) (hn : off + n ≤ cs.size) (hc : n ≤ c) (hm : c ≤ maxLen) : Sl w (some ⟨B, off, none⟩) n c ((cs.toList.drop off).take n) :=
  ⟨by simp; omega, hc, hm, fun _ => ⟨B, off, rfl, (Array.getElem?_eq_some_iff.1 h).1⟩, fun b o e j v hj => by
    cases e
    rw [cell_of_row w B (off + j) cs t fr h]
    have hjn : j < n := by
      rcases Nat.lt_or_ge j n with h' | h'
      · exact h'
      · rw [List.getElem?_eq_none (by simp; omega)] at hj; cases hj
    rw [List.getElem?_take_of_lt hjn, List.getElem?_drop] at hj
    simpa using hj⟩
/-- What appending to a value leaves: nothing else has turned. -/
structure Gr (w w' : World) (v v' : Value) : Prop where
  gr : w.grownBy w' v.ownBlock
  at_ : v'.ownBlock = v.ownBlock ∨ ∀ g, v'.ownBlock = some g → w.heap.size ≤ g
theorem Gr.refl (w : World) (v : Value) : Gr w w v v := ⟨⟨rfl, rfl, rfl, Nat.le_refl _, fun _ _ _ => rfl⟩, .inl rfl⟩
theorem Gr.mk1 {w w' : World} {v v' : Value} (h : w.grownBy w' v.ownBlock) (k : v'.ownBlock = v.ownBlock ∨ v'.ownBlock = some w.heap.size) : Gr w w' v v' :=
  ⟨h, k.imp id fun e g hg => by rw [e] at hg; cases hg; exact Nat.le_refl _⟩
theorem Gr.trans {w w1 w2 : World} {v v1 v2 : Value} (h : Gr w w1 v v1) (k : Gr w1 w2 v1 v2) : Gr w w2 v v2 := by
  refine ⟨⟨k.gr.os.trans h.gr.os, k.gr.tape.trans h.gr.tape, k.gr.output.trans h.gr.output, Nat.le_trans h.gr.size k.gr.size, fun b hb hne => ?_⟩, ?_⟩
  · rw [k.gr.block b (Nat.lt_of_lt_of_le hb h.gr.size) (fun e => ?_), h.gr.block b hb hne]
    rcases h.at_ with h1 | h1
    · exact hne (e.trans h1)
    · exact absurd (h1 b e.symm) (by omega)
  · rcases k.at_ with k1 | k1
    · rcases h.at_ with h1 | h1
      · exact .inl (k1.trans h1)
      · exact .inr fun g hg => h1 g (k1 ▸ hg)
    · exact .inr fun g hg => Nat.le_trans h.gr.size (k1 g hg)
theorem Gr.alloc {w w1 : World} {v v1 : Value} (h : Gr w w1 v v1) (o : Obj) : Gr w (w1.alloc o) v v1 :=
  ⟨⟨h.gr.os, h.gr.tape, h.gr.output, Nat.le_trans h.gr.size (by simp), fun b hb hne => (Below.heap_alloc w1 o b (Nat.lt_of_lt_of_le hb h.gr.size)).trans (h.gr.block b hb hne)⟩, h.at_⟩
theorem Gr.below {w w1 : World} {v v1 : Value} (h : Gr w w1 v v1) {B : Nat} (hB : B ≤ w.heap.size) (hv : ∀ g, v.ownBlock = some g → B ≤ g) : Below B w w1 :=
  ⟨h.gr.os, h.gr.tape, h.gr.output, h.gr.size, fun k hk => h.gr.block k (by omega) (fun e => by have := hv k e.symm; omega)⟩
theorem Gr.of_below {w w0 w1 : World} {v v1 : Value} (hb : Below w0.heap.size w0 w) (h : Gr w w1 v v1) : Gr w0 w1 v v1 :=
  ⟨⟨h.gr.os.trans hb.os, h.gr.tape.trans hb.tape, h.gr.output.trans hb.output, Nat.le_trans hb.size h.gr.size, fun k hk hne => (h.gr.block k (Nat.lt_of_lt_of_le hk hb.size) hne).trans (hb.block k hk)⟩,
    h.at_.imp id fun k g hg => Nat.le_trans hb.size (k g hg)⟩
theorem ret_base {e : TypeId} {base : Nat} {l : List Int} {w : World} {en : Ending} {w' : World} (h : Ret (Ow e w.heap.size l) w en w') (hb : base ≤ w.heap.size) : Ret (Ow e base l) w en w' := by
  obtain ⟨v, h1, h2, h3⟩ := h
  exact ⟨v, h1, ow_base h2 hb, h3⟩
/-- A slice of one element, a block of its own. -/
def Cell1 (t : TypeId) (x : Value) : Ty := ⟨fun v w => ∃ g, v = .slice (some ⟨g, 0, none⟩) 1 1 ∧ w.heap[g]? = some (.cells #[x] t (0, 0)), fun _ _ _ ⟨g, e, h⟩ k => ⟨g, e, (k.block g (Array.getElem?_eq_some_iff.1 h).1).trans h⟩⟩
theorem cell1_new (u : World) (t : TypeId) (x : Value) : (Cell1 t x).p (.slice (some ⟨u.heap.size, 0, none⟩) 1 1) (u.alloc (.cells #[x] t)) := ⟨_, rfl, heap_alloc_new u _⟩
theorem ost_cell1 (t : TypeId) (x : Value) : OSt (Cell1 t x) := fun _ _ _ u _ ⟨g, e, h⟩ k => ⟨g, e, (k.block g (Array.getElem?_eq_some_iff.1 h).1 (.inr ⟨x, t, (0, 0), h⟩)).trans h⟩
theorem cell1_sl {t : TypeId} {x v : Value} {w : World} (h : (Cell1 t x).p v w) : ∃ g, v = .slice (some ⟨g, 0, none⟩) 1 1 ∧ Sl w (some ⟨g, 0, none⟩) 1 1 [x] := by
  obtain ⟨g, e, h⟩ := h
  exact ⟨g, e, Sl.of_row h 1 1 (by simp) (Nat.le_refl _) (by unfold maxLen; omega)⟩
/-- An own row, the link to the row it came from. -/
def OwG (e : TypeId) (base n0 : Nat) (v0 : Value) (l : List Value) : Ty := ⟨fun v w => w.ownsRow base e 1 v l.length l ∧ (v.ownBlock = v0.ownBlock ∨ ∀ g, v.ownBlock = some g → n0 ≤ g), fun v w w' ⟨h, h'⟩ k => ⟨⟨h.1, by
  rcases h.2 with h2 | ⟨g, cap, cur, e1, hb, hg, h3⟩
  · exact .inl h2
  · exact .inr ⟨g, cap, cur, e1, hb, (k.block g (Array.getElem?_eq_some_iff.1 hg).1).trans hg, h3⟩⟩, h'⟩⟩
theorem oe_of_gr {n0 : Nat} {u u' : World} {v0 v v' : Value} {base : Nat} {e : TypeId} {xs : List Value} (h : Gr u u' v v') (ho : u.ownsRow base e 1 v xs.length xs) (h2 : 2 ≤ xs.length) (hv : v.ownBlock = v0.ownBlock ∨ ∀ g, v.ownBlock = some g → n0 ≤ g) : OE n0 v0.ownBlock u u' :=
  ⟨h.gr.os, h.gr.tape, h.gr.output, h.gr.size, fun b hb hc => h.gr.block b hb (fun e' => by
    rcases hc with ⟨hc1, hc2⟩ | ⟨x, t, fr, hx⟩
    · rcases hv with hv | hv
      · exact hc2 (e'.trans hv)
      · have := hv b e'.symm; omega
    · rcases ho.2 with ⟨_, h0⟩ | ⟨g, cap, cur, rfl, _, hg, hnc, _, hs, _⟩
      · omega
      · have : b = g := by simpa [Value.ownBlock] using e'
        subst this
        rw [hx] at hg
        cases hg
        simp at hs
        omega)⟩
theorem given_own {P : Program} {u : World} {l : List Ty} {k : Nat} {own : List Nat} {n0 : Nat} {g0 : Option Nat} {f : FuncId} {args : Array Value} {T : Ty} (hk : l.getD k Ty.any = T) (ho : k ∈ own)
    (h : Calls P f args u fun e w' => ∃ v, e = .returned v ∧ T.p v w' ∧ OE n0 g0 u w') : GivenR P (fun v u' => tys l k v u' ∧ (Below u.heap.size u u' ∨ (k ∈ own ∧ OE n0 g0 u u'))) (.ok (.enter f args) u) :=
  Calls.mono h fun _ _ ⟨v, h1, h2, h3⟩ => ⟨v, h1, by unfold tys; rw [hk]; exact h2, .inr ⟨ho, h3⟩⟩
theorem given_ownv {P : Program} {u u' : World} {l : List Ty} {k : Nat} {own : List Nat} {n0 : Nat} {g0 : Option Nat} {x : Value} {T : Ty} (hk : l.getD k Ty.any = T) (ho : k ∈ own) (h : T.p x u') (hb : OE n0 g0 u u') : GivenR P (fun v u' => tys l k v u' ∧ (Below u.heap.size u u' ∨ (k ∈ own ∧ OE n0 g0 u u'))) (.ok (.value x) u') :=
  ⟨by unfold tys; rw [hk]; exact h, .inr ⟨ho, hb⟩⟩
theorem Gr.link {u w' : World} {v v2 v0 : Value} {n0 : Nat} (h : Gr u w' v v2) (k : v.ownBlock = v0.ownBlock ∨ ∀ g, v.ownBlock = some g → n0 ≤ g) (hn : n0 ≤ u.heap.size) : v2.ownBlock = v0.ownBlock ∨ ∀ g, v2.ownBlock = some g → n0 ≤ g := by
  rcases h.at_ with h | h
  · rw [h]; exact k
  · exact .inr fun g hg => Nat.le_trans hn (h g hg)
/-- A call that appends to a row of the call's own. -/
theorem own_step {P : Program} {f : FuncId} {args : Array Value} {u : World} {base n0 : Nat} {e : TypeId} {v0 v : Value} {xs zs : List Value}
    (h : Calls P f args u fun en w' => ∃ v', en = .returned v' ∧ w'.ownsRow base e 1 v' zs.length zs ∧ Gr u w' v v') (hk : (OwG e base n0 v0 xs).p v u) (h2 : 2 ≤ xs.length) (hn : n0 ≤ u.heap.size) :
    Calls P f args u fun en w' => ∃ v', en = .returned v' ∧ (OwG e base n0 v0 zs).p v' w' ∧ OE n0 v0.ownBlock u w' :=
  Calls.mono h fun _ _ ⟨v', a1, a2, a3⟩ => ⟨v', a1, ⟨a2, a3.link hk.2 hn⟩, oe_of_gr a3 hk.1 h2 hk.2⟩
theorem strCells_bytes (s : ByteArray) : Lib.strCells s = (bytesI s).map (Value.int .u8) := by simp [Lib.strCells, bytesI, Function.comp_def]
theorem run_append_str {P : Program} (w : World) (base : Nat) (t u ty e : TypeId) (i : TypeInfo) (ht : P.underlying t = some (.slice e)) (hu : P.underlying u = some .string) (hi : P.info? e = some i) (hz : i.zero = some (.int .u8 0))
    (hsize : i.size = 1) (hby : i.bytes = 1) (v : Value) (n : Nat) (xs : List Value) (hown : w.ownsRow base e 1 v n xs) (s : ByteArray)
    (h63 : n + s.size ≤ maxLen) (hbytes : n + s.size ≤ 140737488355328) (hbase : base ≤ w.heap.size) :
    ∃ v' w', (Builtin.append_ #[t, u] ty #[v, .string s]).run P w = .ok v' w' ∧ w'.ownsRow base e 1 v' (n + s.size) (xs ++ (bytesI s).map (Value.int .u8)) ∧ w.grownBy w' v.ownBlock ∧ (v'.ownBlock = v.ownBlock ∨ v'.ownBlock = some w.heap.size) := by
  obtain ⟨v', w', hr, h2, h3, h4⟩ := Lib.run_append_own_string (P := P) w base t u ty e i ht hu hi hz hsize hby v n xs hown s h63 hbytes hbase
  rw [strCells_bytes] at h2
  refine ⟨v', w', hr, h2, h3, ?_⟩
  rcases hown.2 with ⟨rfl, rfl⟩ | ⟨g, cap, cur, rfl, hbg, hg, hnc, hcm, hcs, htake⟩
  · by_cases hm : s.size = 0
    · left; rw [h4.2 ⟨rfl, hm⟩]
    · have hr2 := run_append_nil_string (P := P) w t u ty e i (.int .u8 0) ht hu hi hz s (by omega) (by omega) (by rw [hby]; omega)
      rw [hr2] at hr
      cases hr
      exact .inr rfl
  · by_cases hroom : n + s.size ≤ cap
    · have hr2 := Lib.run_append_room_string (P := P) w t u ty e i ht hu hi hsize g n cap cur hg s hroom (by omega)
      rw [hr2] at hr
      cases hr
      exact .inl rfl
    · have holds : ∀ j u, xs[j]? = some u → w.cell? ((⟨g, 0, none⟩ : Addr).add j) = some u := hown.cells (g := g) rfl
      have hr2 := Lib.run_append_grow_string (P := P) w t u ty e i (.int .u8 0) ht hu hi hz ⟨g, 0, none⟩ n cap xs (by rw [hsize]; exact hown.1) holds s (by omega) (by omega) (by rw [hby]; exact growslice_fits (by omega) (by omega))
      rw [hr2] at hr
      cases hr
      exact .inr rfl
theorem append_str_own {P : Program} {o : Oper} {A : Operand → Value} {u : World} {l : List Ty} {k : Nat} {own : List Nat} {n0 : Nat} (s x : Operand) (t t' e : TypeId) (ho : o.op = .call { callee := .builtin .append, args := #[s, x], argTypes := #[t, t'] })
    (i : TypeInfo) (ht : P.underlying t = some (.slice e)) (ht' : P.underlying t' = some .string) (hi : P.info? e = some i) (hz : i.zero = some (.int .u8 0)) (hsize : i.size = 1) (hby : i.bytes = 1)
    {v v0 : Value} {base : Nat} {xs : List Value} {str : ByteArray} (hv : A s = v) (hx : A x = .string str) (hk : (OwG e base n0 v0 xs).p v u) (hbytes : xs.length + str.size ≤ 140737488355328) (h2 : 2 ≤ xs.length) (hbase : base ≤ u.heap.size) (hn : n0 ≤ u.heap.size)
    (hko : k ∈ own) (hT : l.getD k Ty.any = OwG e base n0 v0 (xs ++ (bytesI str).map (Value.int .u8))) : Gives P o A u (fun v u' => tys l k v u' ∧ (Below u.heap.size u u' ∨ (k ∈ own ∧ OE n0 v0.ownBlock u u'))) := by
  obtain ⟨v', w', hr, h3, h4, h5⟩ := run_append_str (P := P) u base t t' o.type e i ht ht' hi hz hsize hby v xs.length xs hk.1 str (by unfold maxLen; omega) hbytes hbase
  have hg := Gr.mk1 h4 h5
  refine gives_run (r := .ok (.value v') w') (by
    unfold execOp
    simp only [ho, resolve, invoke, builtin, Sem.run_bind, Sem.run_pure, Result.andThen_ok, List.map_toArray, List.map_cons, List.map_nil, hv, hx, hr, Sem.run_map]) ?_
  refine given_ownv hT hko ⟨?_, hg.link hk.2 hn⟩ (oe_of_gr hg hk.1 h2 hk.2)
  rw [List.length_append, List.length_map, bytesI_length]
  exact h3
theorem wpList_append_str {P : Program} {w : World} {ops : Array Oper} {rest : List Oper} {o : Oper} {a : Act} {Q : Exit → Act → World → Prop} (hgd : o.guard = none) (s x : Operand) (t t' : TypeId)
    (ho : o.op = .call { callee := .builtin .append, args := #[s, x], argTypes := #[t, t'] })
    (base : Nat) (e : TypeId) (i : TypeInfo) (ht : P.underlying t = some (.slice e)) (ht' : P.underlying t' = some .string) (hi : P.info? e = some i) (hz : i.zero = some (.int .u8 0))
    (hsize : i.size = 1) (hby : i.bytes = 1) (v : Value) (n : Nat) (xs : List Value) (hv : a.eval s = v) (hown : w.ownsRow base e 1 v n xs)
    (str : ByteArray) (hx : a.eval x = .string str) (hbytes : n + str.size ≤ 140737488355328) (hbase : base ≤ w.heap.size)
    (h : ∀ v' w', w'.ownsRow base e 1 v' (n + str.size) (xs ++ (bytesI str).map (Value.int .u8)) → Gr w w' v v' → wpList P ops Q rest (a.put o.dst v') w') : wpList P ops Q (o :: rest) a w := by
  obtain ⟨v', w', hr, h3, h4, h5⟩ := run_append_str (P := P) w base t t' o.type e i ht ht' hi hz hsize hby v n xs hown str (by unfold maxLen; omega) hbytes hbase
  exact wpList_append_run hgd s x t t' ho v (.string str) v' w' hv hx hr (h v' w' h3 (Gr.mk1 h4 h5))
/-- append onto a slice that is full: a new row. -/
theorem wpList_append_full {P : Program} {w : World} {ops : Array Oper} {rest : List Oper} {o : Oper} {a : Act} {Q : Exit → Act → World → Prop} (hgd : o.guard = none) (s x : Operand) (t : TypeId)
    (ho : o.op = .call { callee := .builtin .append, args := #[s, x], argTypes := #[t, t] })
    (e : TypeId) (i : TypeInfo) (z : Value) (bytes : Nat) (ht : P.underlying t = some (.slice e)) (hi : P.info? e = some i) (hz : i.zero = some z)
    (hsize : i.size = 1) (hby : i.bytes = bytes) (hzs : z.cells.size = 1) (b off n : Nat) (xs : List Value) (hv : a.eval s = .slice (some ⟨b, off, none⟩) n n) (hs : Sl w (some ⟨b, off, none⟩) n n xs)
    (b' off' m c : Nat) (news : List Value) (hx : a.eval x = .slice (some ⟨b', off', none⟩) m c) (hs' : Sl w (some ⟨b', off', none⟩) m c news) (h0 : 0 < m)
    (h63 : n + m ≤ maxLen) (hbytes : (n + m) * bytes ≤ 140737488355328)
    (h : ∀ v' w', w'.ownsRow w.heap.size e 1 v' (n + m) (xs ++ news) → Below w.heap.size w w' → wpList P ops Q rest (a.put o.dst v') w') : wpList P ops Q (o :: rest) a w := by
  have hsm : n + m ≤ 9223372036854775807 := by unfold maxLen at h63; omega
  have hr := run_append_grow (P := P) w t o.type e i z ht hi hz ⟨b, off, none⟩ n n xs (by rw [hsize, Nat.mul_one]; exact hs.len) (fun j v hj => by rw [addN]; exact hs.cell b off rfl j v hj) ⟨b', off', none⟩ m c news (by rw [hsize, Nat.mul_one]; exact hs'.len)
    (fun j v hj => by rw [addN]; exact hs'.cell b' off' rfl j v hj) (by omega) (by omega) (by rw [hby]; exact growslice_fits (by omega) hbytes)
  have hge := grownCap_ge w (n + m) n e
  have hcm : grownCap w (n + m) n e ≤ maxLen := grownCap_le_maxLen w (n + m) n e h63
  refine wpList_append_run hgd s x t t ho _ _ _ _ hv hx hr (h _ _ ⟨by simp [hs.len, hs'.len], .inr ⟨w.heap.size, _, _, rfl, Nat.le_refl _, heap_alloc_new w.drew _, hge, hcm, ?_, ?_⟩⟩ ((Below.refl _ _).drew.alloc (by exact Nat.le_refl _) _))
  · simp only [Array.size_append, List.size_toArray, size_zeroCells, hzs, hs.len, hs'.len]
    omega
  · simp only [Array.toList_append, List.append_assoc]
    rw [← List.append_assoc]
    exact List.take_left' (by simp [hs.len, hs'.len])
theorem own_mono {w : World} {base base' n : Nat} {e : TypeId} {v : Value} {xs : List Value} (h : w.ownsRow base e 1 v n xs) (hb : base' ≤ base) : w.ownsRow base' e 1 v n xs := by
  refine ⟨h.1, ?_⟩
  rcases h.2 with h2 | ⟨g, cap, cur, e1, hb', h3⟩
  · exact .inl h2
  · exact .inr ⟨g, cap, cur, e1, by omega, h3⟩
end Go.Tp
set_option linter.unusedSimpArgs false
namespace Go.Tp
open Go Go.RowKit
theorem oe_below {n0 : Nat} {g0 : Option Nat} {u u' : World} (h : Below u.heap.size u u') : OE n0 g0 u u' := ⟨h.os, h.tape, h.output, h.size, fun b hb _ => h.block b hb⟩
theorem append_cell_own {P : Program} {o : Oper} {A : Operand → Value} {u : World} {l : List Ty} {k : Nat} {own : List Nat} {n0 : Nat} (s x : Operand) (t e : TypeId) (ho : o.op = .call { callee := .builtin .append, args := #[s, x], argTypes := #[t, t] })
    (i : TypeInfo) (z : Value) (bytes : Nat) (ht : P.underlying t = some (.slice e)) (hi : P.info? e = some i) (hz : i.zero = some z) (hsize : i.size = 1) (hby : i.bytes = bytes) (hzs : z.cells.size = 1)
    {v v0 : Value} {base : Nat} {xs : List Value} {y c : Value} (hv : A s = v) (hx : A x = c) (hk : (OwG e base n0 v0 xs).p v u) (hc : (Cell1 e y).p c u) (h1 : y.oneCell' = true) (hm : xs.length + 1 ≤ maxLen) (hbytes : (xs.length + 1) * bytes ≤ 140737488355328) (h2 : 1 ≤ xs.length) (hbase : base ≤ u.heap.size) (hn : n0 ≤ u.heap.size)
    (hko : k ∈ own) (hT : l.getD k Ty.any = OwG e base n0 v0 (xs ++ [y])) : Gives P o A u (fun v u' => tys l k v u' ∧ (Below u.heap.size u u' ∨ (k ∈ own ∧ OE n0 v0.ownBlock u u'))) := by
  obtain ⟨g1, rfl, hs⟩ := cell1_sl hc
  obtain ⟨v', w', hr, h3, h4, h5⟩ := run_append_sl (P := P) u base t o.type e i z bytes ht hi hz hsize hby hzs v xs.length xs hk.1 (some ⟨g1, 0, none⟩) 1 1 [y] hs (by intro u hu; simp at hu; subst hu; exact h1) hm hbytes hbase
  have hg := Gr.mk1 h4 h5
  have hoe : OE n0 v0.ownBlock u w' := by
    rcases hk.1.2 with ⟨_, h0⟩ | ⟨g, cap, cur, rfl, hbg, hgh, hnc, hcm, hcs, htake⟩
    · omega
    · by_cases hroom : xs.length + 1 ≤ cap
      · refine ⟨hg.gr.os, hg.gr.tape, hg.gr.output, hg.gr.size, fun b hb hc => hg.gr.block b hb (fun e' => ?_)⟩
        have hbg' : b = g := by simpa [Value.ownBlock] using e'
        subst hbg'
        rcases hc with ⟨hc1, hc2⟩ | ⟨x', t', fr, hx'⟩
        · rcases hk.2 with hv | hv
          · exact hc2 (e'.trans hv)
          · have := hv b rfl; omega
        · rw [hgh] at hx'
          cases hx'
          simp at hcs
          omega
      · have holds : ∀ j u', xs[j]? = some u' → u.cell? ((⟨g, 0, none⟩ : Addr).add j) = some u' := hk.1.cells (g := g) rfl
        have hr2 := run_append_grow (P := P) u t o.type e i z ht hi hz ⟨g, 0, none⟩ xs.length cap xs (by rw [hsize, Nat.mul_one]) holds ⟨g1, 0, none⟩ 1 1 [y] (by rw [hsize]; rfl) (fun j v hj => by rw [addN]; exact hs.cell g1 0 rfl j v hj) (by omega) (by unfold maxLen at hm; omega) (by rw [hby]; exact growslice_fits (by omega) hbytes)
        rw [hr2] at hr
        cases hr
        exact oe_below ((Below.refl _ _).drew.alloc (by exact Nat.le_refl _) _)
  refine gives_run (r := .ok (.value v') w') (by
    unfold execOp
    simp only [ho, resolve, invoke, builtin, Sem.run_bind, Sem.run_pure, Result.andThen_ok, List.map_toArray, List.map_cons, List.map_nil, hv, hx, hr, Sem.run_map]) ?_
  refine given_ownv hT hko ⟨?_, hg.link hk.2 hn⟩ hoe
  rw [List.length_append]
  exact h3
/-- Blocks of one cell are as they were. -/
def OneK (w w' : World) : Prop := ∀ b, b < w.heap.size → One w b → w'.heap[b]? = w.heap[b]?
theorem OneK.refl (w : World) : OneK w w := fun _ _ _ => rfl
theorem OneK.below {w w' : World} (h : Below w.heap.size w w') : OneK w w' := fun b hb _ => h.block b hb
theorem OneK.trans {w w1 w2 : World} (h : OneK w w1) (hs : w.heap.size ≤ w1.heap.size) (k : OneK w1 w2) : OneK w w2 := fun b hb ho =>
  (k b (by omega) (by obtain ⟨x, t, fr, e⟩ := ho; exact ⟨x, t, fr, (h b hb ⟨x, t, fr, e⟩).trans e⟩)).trans (h b hb ho)
theorem wpList_append_sl1 {P : Program} {w : World} {ops : Array Oper} {rest : List Oper} {o : Oper} {a : Act} {Q : Exit → Act → World → Prop} (hgd : o.guard = none) (s x : Operand) (t : TypeId)
    (ho : o.op = .call { callee := .builtin .append, args := #[s, x], argTypes := #[t, t] })
    (base : Nat) (e : TypeId) (i : TypeInfo) (z : Value) (bytes : Nat) (ht : P.underlying t = some (.slice e)) (hi : P.info? e = some i) (hz : i.zero = some z)
    (hsize : i.size = 1) (hby : i.bytes = bytes) (hzs : z.cells.size = 1) (v : Value) (n : Nat) (xs : List Value) (hv : a.eval s = v) (hown : w.ownsRow base e 1 v n xs)
    (ad : Option Addr) (m c : Nat) (news : List Value) (hx : a.eval x = .slice ad m c) (hs : Sl w ad m c news) (h1 : ∀ u ∈ news, u.oneCell' = true)
    (h63 : n + m ≤ maxLen) (hbytes : (n + m) * bytes ≤ 140737488355328) (hbase : base ≤ w.heap.size) (hn1 : 1 ≤ n) (hm1 : 1 ≤ m)
    (h : ∀ v' w', w'.ownsRow base e 1 v' (n + m) (xs ++ news) → Gr w w' v v' → OneK w w' → wpList P ops Q rest (a.put o.dst v') w') : wpList P ops Q (o :: rest) a w := by
  obtain ⟨v', w', hr, h3, h4, h5⟩ := run_append_sl (P := P) w base t o.type e i z bytes ht hi hz hsize hby hzs v n xs hown ad m c news hs h1 h63 hbytes hbase
  refine wpList_append_run hgd s x t t ho v _ v' w' hv hx hr (h v' w' h3 (Gr.mk1 h4 h5) fun b hb hone => ?_)
  rcases hown.2 with ⟨_, h0⟩ | ⟨g, cap, cur, rfl, hbg, hgh, hnc, hcm, hcs, htake⟩
  · omega
  · by_cases hroom : n + m ≤ cap
    · refine h4.block b hb (fun e' => ?_)
      have : b = g := by simpa [Value.ownBlock] using e'
      subst this
      obtain ⟨x', t', fr, hx'⟩ := hone
      rw [hgh] at hx'
      cases hx'
      simp at hcs
      omega
    · obtain ⟨b1, o1, rfl, _⟩ := hs.at_ (by omega)
      have hr2 := run_append_grow (P := P) w t o.type e i z ht hi hz ⟨g, 0, none⟩ n cap xs (by rw [hsize]; exact hown.1) (hown.cells (g := g) rfl) ⟨b1, o1, none⟩ m c news (by rw [hsize, Nat.mul_one]; exact hs.len) (fun j v hj => by rw [addN]; exact hs.cell b1 o1 rfl j v hj) (by omega) (by unfold maxLen at h63; omega) (by rw [hby]; exact growslice_fits (by omega) hbytes)
      rw [hr2] at hr
      cases hr
      exact heap_alloc_old w.drew _ b hb
theorem oe_of_one {n0 : Nat} {u u' : World} {v0 v v' : Value} (h : Gr u u' v v') (ho : OneK u u') (hv : v.ownBlock = v0.ownBlock ∨ ∀ g, v.ownBlock = some g → n0 ≤ g) : OE n0 v0.ownBlock u u' :=
  ⟨h.gr.os, h.gr.tape, h.gr.output, h.gr.size, fun b hb hc => by
    rcases hc with ⟨hc1, hc2⟩ | hc
    · refine h.gr.block b hb (fun e' => ?_)
      rcases hv with hv | hv
      · exact hc2 (e'.trans hv)
      · have := hv b e'.symm; omega
    · exact ho b hb hc⟩
theorem own_step1 {P : Program} {f : FuncId} {args : Array Value} {u : World} {base n0 : Nat} {e : TypeId} {v0 v : Value} {xs zs : List Value}
    (h : Calls P f args u fun en w' => ∃ v', en = .returned v' ∧ w'.ownsRow base e 1 v' zs.length zs ∧ Gr u w' v v' ∧ OneK u w') (hk : (OwG e base n0 v0 xs).p v u) (hn : n0 ≤ u.heap.size) :
    Calls P f args u fun en w' => ∃ v', en = .returned v' ∧ (OwG e base n0 v0 zs).p v' w' ∧ OE n0 v0.ownBlock u w' :=
  Calls.mono h fun _ _ ⟨v', a1, a2, a3, a4⟩ => ⟨v', a1, ⟨a2, a3.link hk.2 hn⟩, oe_of_one a3 a4 hk.2⟩
theorem Sl.grown {w w' : World} {a : Option Addr} {n c : Nat} {xs : List Value} (h : Sl w a n c xs) {row : Option Nat} (hg : w.grownBy w' row) (hne : 0 < n → ∀ b off, a = some ⟨b, off, none⟩ → some b ≠ row) : Sl w' a n c xs :=
  ⟨h.len, h.cap, h.big, fun hn => let ⟨b, off, e, hb⟩ := h.at_ hn; ⟨b, off, e, Nat.lt_of_lt_of_le hb hg.size⟩, fun b off e j v hj => by
    have hn : 0 < n := by
      rcases Nat.eq_zero_or_pos n with h0 | h0
      · have : xs = [] := List.length_eq_zero_iff.1 (h.len.trans h0)
        subst this; simp at hj
      · exact h0
    have hc := h.cell b off e j v hj
    exact (World.cell?_of_block (hg.block b (World.block_lt_of_cell? w _ hc) (hne hn b off e))).trans hc⟩
theorem grown_setCell (w : World) (p : Addr) (v : Value) : w.grownBy (w.setCell p v) (some p.block) := ⟨rfl, rfl, rfl, by simp [World.setCell], fun k _ hk => Below.heap_setCell w p v k (fun e => hk (by rw [e]))⟩
theorem grown_below {w w' : World} {row : Option Nat} (h : Below w.heap.size w w') : w.grownBy w' row := ⟨h.os, h.tape, h.output, h.size, fun k hk _ => h.block k hk⟩
theorem grown_refl (w : World) (row : Option Nat) : w.grownBy w row := ⟨rfl, rfl, rfl, Nat.le_refl _, fun _ _ _ => rfl⟩
theorem grown_trans {a b c : World} {row : Option Nat} (h : a.grownBy b row) (k : b.grownBy c row) : a.grownBy c row :=
  ⟨k.os.trans h.os, k.tape.trans h.tape, k.output.trans h.output, Nat.le_trans h.size k.size, fun i hi hne => (k.block i (Nat.lt_of_lt_of_le hi h.size) hne).trans (h.block i hi hne)⟩
theorem Sl.take {w : World} {a : Option Addr} {n c : Nat} {xs : List Value} (h : Sl w a n c xs) (k : Nat) (hk : k ≤ n) : Sl w a k c (xs.take k) :=
  ⟨by rw [List.length_take, h.len]; omega, Nat.le_trans hk h.cap, h.big, fun h0 => h.at_ (by omega), fun b off e j v hj => by
    have hjk : j < k := by
      rcases Nat.lt_or_ge j k with h' | h'
      · exact h'
      · rw [List.getElem?_eq_none (by rw [List.length_take]; omega)] at hj; cases hj
    rw [List.getElem?_take_of_lt hjk] at hj
    exact h.cell b off e j v hj⟩
theorem Sl.takeC {w : World} {a : Option Addr} {n c : Nat} {xs : List Value} (h : Sl w a n c xs) (k : Nat) (hk : k = n) : Sl w a k c xs := by subst hk; exact h
theorem Sl.drop {w : World} {a : Option Addr} {n c : Nat} {xs : List Value} (h : Sl w a n c xs) (k : Nat) (hk : k ≤ n) : Sl w (a.map fun x => x.add k) (n - k) (c - k) (xs.drop k) :=
  ⟨by rw [List.length_drop, h.len], by have := h.cap; omega, by have := h.big; omega, fun h0 => by
    obtain ⟨b, off, rfl, hb⟩ := h.at_ (by omega)
    exact ⟨b, off + k, by simp [addN], hb⟩, fun b off e j v hj => by
    rw [List.getElem?_drop] at hj
    have hn : 0 < n := by
      rcases Nat.eq_zero_or_pos n with h0 | h0
      · have : xs = [] := List.length_eq_zero_iff.1 (h.len.trans h0)
        subst this; simp at hj
      · exact h0
    obtain ⟨b', off', rfl, hb⟩ := h.at_ hn
    rw [Option.map_some, addN] at e
    cases e
    rw [Nat.add_assoc]
    exact h.cell b off' rfl (k + j) v hj⟩
theorem Sl.empty {w : World} {a : Option Addr} {n c : Nat} (h0 : n = 0) (hc : c ≤ maxLen) : Sl w a n c [] := ⟨h0.symm, by omega, hc, fun h => by omega, fun _ _ _ j v hj => by simp at hj⟩
theorem conv_str {P : Program} {w : World} {a : Option Addr} {n c : Nat} {l : List Int} (h : Sl w a n c (l.map (Value.int .u8))) (src dst e : TypeId) (hs : P.underlying src = some (.slice e)) (he : P.underlying e = some (.int .u8)) (hd : P.underlying dst = some .string) :
    (convert src dst (.slice a n c)).run P w = .ok (.string (strOfNums l)) w := by
  have hln : l.length = n := by have := h.len; simpa using this
  by_cases h0 : 0 < n
  · obtain ⟨b, off, rfl, _⟩ := h.at_ h0
    exact run_convert_bytes_arg w src e hs he b off n c l hln (fun i hi => h.cell b off rfl i _ (by rw [List.getElem?_map, List.getElem?_eq_getElem (by omega)]; simp [List.getD, List.getElem?_eq_getElem (show i < l.length by omega)])) dst hd
  · have : n = 0 := by omega
    subst this
    have : l = [] := List.length_eq_zero_iff.1 hln
    subst this
    cases a with
    | none => exact run_convert_bytes_nil w src e hs he 0 c dst hd
    | some x =>
      rw [run_convert_bytes_string w src dst e _ 0 c hs he hd]
      simp [Conv.bytesToString, loadCells, loadCellsFrom, strOfNums]
      rfl
theorem strOfNums_size (l : List Int) : (strOfNums l).size = l.length := by simp [strOfNums, ByteArray.size]
theorem bytesI_strOf (l : List Int) (h : ∀ z ∈ l, 0 ≤ z ∧ z < 256) : bytesI (strOfNums l) = l := by
  unfold bytesI strOfNums
  simp only [List.map_map]
  conv => rhs; rw [← List.map_id l]
  refine List.map_congr_left fun z hz => ?_
  have := h z hz
  simp [UInt8.toNat_ofNat']
  omega
theorem strOf_bytesI (s : ByteArray) : strOfNums (bytesI s) = s := by
  unfold bytesI strOfNums
  cases s with
  | mk d =>
    congr
    simp [Function.comp_def]
end Go.Tp
set_option linter.unusedSimpArgs false
namespace Go.Tp
open Go Go.RowKit
theorem wpList_append_any {P : Program} {w : World} {ops : Array Oper} {rest : List Oper} {o : Oper} {a : Act} {Q : Exit → Act → World → Prop} (hgd : o.guard = none) (s x : Operand) (t : TypeId)
    (ho : o.op = .call { callee := .builtin .append, args := #[s, x], argTypes := #[t, t] })
    (base : Nat) (e : TypeId) (i : TypeInfo) (z : Value) (bytes : Nat) (ht : P.underlying t = some (.slice e)) (hi : P.info? e = some i) (hz : i.zero = some z)
    (hsize : i.size = 1) (hby : i.bytes = bytes) (hzs : z.cells.size = 1) (v : Value) (n : Nat) (xs : List Value) (hv : a.eval s = v) (hown : w.ownsRow base e 1 v n xs)
    (ad : Option Addr) (m c : Nat) (news : List Value) (hx : a.eval x = .slice ad m c) (hs : Sl w ad m m news) (h1 : ∀ u ∈ news, u.oneCell' = true)
    (h63 : n + m ≤ maxLen) (hbytes : (n + m) * bytes ≤ 140737488355328) (hbase : base ≤ w.heap.size)
    (h : ∀ v' w', w'.ownsRow base e 1 v' (n + m) (xs ++ news) → w.grownBy w' v.ownBlock → (v'.ownBlock = v.ownBlock ∨ v'.ownBlock = some w.heap.size) → wpList P ops Q rest (a.put o.dst v') w') : wpList P ops Q (o :: rest) a w :=
  wpList_plain hgd fun K hK => by
    have hrun : ∃ v' w', (Builtin.append_ #[t, t] o.type #[v, .slice ad m c]).run P w = .ok v' w' ∧ w'.ownsRow base e 1 v' (n + m) (xs ++ news) ∧ w.grownBy w' v.ownBlock ∧
        (v'.ownBlock = v.ownBlock ∨ v'.ownBlock = some w.heap.size) := by
      by_cases hm : m = 0
      · subst hm
        have : news = [] := List.length_eq_zero_iff.1 hs.len
        subst this
        refine ⟨v, w, ?_, by simpa using hown, ⟨rfl, rfl, rfl, Nat.le_refl _, fun _ _ _ => rfl⟩, .inl rfl⟩
        rcases hown.2 with ⟨rfl, rfl⟩ | ⟨g, cap, cur, rfl, _, _, hnc, _⟩
        · cases ad <;> simp [Builtin.append_, run_underlying ht, sizeOf, typeInfo, hi, Builtin.lenOf, Builtin.firstCells, loadCells, loadCellsFrom]
        · cases ad <;> simp [Builtin.append_, run_underlying ht, sizeOf, typeInfo, hi, Builtin.lenOf, Builtin.firstCells, loadCells, loadCellsFrom, hnc, storeCells]
      · obtain ⟨b, off, rfl, hb⟩ := hs.at_ (by omega)
        obtain ⟨v', w', r1, r2, r3, _, r5⟩ := run_append_own_at (P := P) w base t o.type e i z 1 bytes ht hi hz hsize hby hzs (by omega) v n xs hown ⟨b, off, none⟩ m c news (by simpa using hs.len) (fun j u hu => by rw [addN]; exact hs.cell b off rfl j u hu) h1 h63 hbytes hbase
        exact ⟨v', w', r1, r2, r3, r5⟩
    obtain ⟨v', w', hrun, h2, h3, h4⟩ := hrun
    unfold Oper.wp execOp
    simp only [ho, resolve, invoke, builtin, Sem.run_bind, Sem.run_pure, Result.andThen_ok, List.map_toArray, List.map_cons, List.map_nil, hv, hx, hrun]
    exact hK _ _ (h v' w' h2 h3 h4)
theorem own_lit1 {w : World} {base : Nat} {e : TypeId} {v : Value} (hb : base ≤ w.heap.size) : (w.alloc (.cells #[v] e)).ownsRow base e 1 (.slice (some ⟨w.heap.size, 0, none⟩) 1 1) 1 [v] :=
  World.ownsRow_lit w #[v] 1 hb (by unfold maxLen; omega) (by simp)
end Go.Tp
set_option linter.unusedSimpArgs false
set_option linter.unusedVariables false
namespace Go.Tp
open Go Go.RowKit
def ObN (P : Program) (ops : List Oper) (S : Nat → Kind) (C : World → Prop) (E : Nat → Value → World → World → Prop) (own : List Nat) (R0 : World → Prop) (a : Act) (k : Nat) (o : Oper) (pk : List (Tmp × Option Nat)) : Prop :=
  ∀ (A : Operand → Value) (u : World), (∀ c, A (.const c) = c) → (∀ g, A (.global g) = .pointer (some ⟨g, 0, none⟩)) → (∀ f, A (.func f) = .func (.func f) #[] #[]) → C u → (pre ops own k = true → R0 u) → Facts S a A u pk (Wants ops o A u (S k) (Gives P o A u fun v u' => S k v u' ∧ E k v u u'))

def ObsN (P : Program) (ops : List Oper) (S : Nat → Kind) (C : World → Prop) (E : Nat → Value → World → World → Prop) (own : List Nat) (R0 : World → Prop) (a : Act) : Nat → List Oper → Plan → Prop
  | _, [], _ => True
  | _, _ :: _, [] => False
  | k, o :: l, pk :: pl => ObN P ops S C E own R0 a k o pk ∧ ObsN P ops S C E own R0 a (k + 1) l pl

theorem obsN_at {P : Program} {ops : List Oper} {S : Nat → Kind} {C : World → Prop} {E : Nat → Value → World → World → Prop} {own : List Nat} {R0 : World → Prop} {a : Act} : ∀ (l : List Oper) (pl : Plan) (k j : Nat) (o : Oper), ObsN P ops S C E own R0 a k l pl → l[j]? = some o → ∀ pk, pl[j]? = some pk → ObN P ops S C E own R0 a (k + j) o pk
  | [], _, _, j, o, _, h, _, _ => by simp at h
  | _ :: _, [], _, _, _, h, _, _, _ => h.elim
  | o :: l, pk :: pl, k, 0, o', h, ho, q, hq => by
    have h1 : o = o' := by simpa using ho
    have h2 : pk = q := by simpa using hq
    subst h1 h2
    exact h.1
  | o :: l, pk :: pl, k, j + 1, o', h, ho, q, hq => by
    have := obsN_at l pl (k + 1) j o' h.2 (by simpa using ho) q (by simpa using hq)
    rw [show k + (j + 1) = k + 1 + j by omega]; exact this

structure StN (ops : List Oper) (n : Nat) (S : Nat → Kind) (C : World → Prop) (cons : Cons) (own : List Nat) (R0 : World → Prop) (news : List Nat) (a : Act) (listed : Array Bool) (a' : Act) (w' : World) : Prop where
  size : a'.tmps.size = a.tmps.size
  defers : a'.defers = a.defers
  cls : C w'
  res : (∀ i ∈ own, listed.getD i false = false) → R0 w'
  head : HeadInv .any ops.toArray n listed
  done : ∀ j o t, ops[j]? = some o → j < n → listed.getD j false = true → o.dst = some t → (∀ c, usedBy cons j = some c → listed.getD c false = false) → S j (a'.eval (.tmp t)) w'
  same : ∀ t, (∀ j o, ops[j]? = some o → listed.getD j false = true → o.dst ≠ some t) → a'.eval (.tmp t) = a.eval (.tmp t)
  dist : ∀ j k t s, j ∈ news → k ∈ news → j ≠ k → listed.getD j false = true → listed.getD k false = true → dstOf ops j = some t → dstOf ops k = some s → a'.eval (.tmp t) ≠ a'.eval (.tmp s)
section
variable {P : Program} {ops : List Oper} {n m : Nat} {plan : Plan} {cons : Cons} {S : Nat → Kind} {C : World → Prop} {E : Nat → Value → World → World → Prop} {own : List Nat} {R0 : World → Prop} {news : List Nat} {a : Act} {w : World} {Q : Exit → Act → World → Prop}

theorem any_of_typesN (hsz : a.tmps.size = m) (hn : n ≤ ops.length) (hrows : rowsOk ops m (ancs ops []) cons 0 (ops.take n) plan = true)
    (hsink : n < ops.length → Region.sinkB .any ops.toArray n = true ∧ Region.chainB .any ops.toArray n = true)
    (hseq : Region.seqB .any ops.toArray (ops.length - n) n ((List.replicate n true ++ List.replicate (ops.length - n) false).toArray) = true)
    (hCE : ∀ i z u u', C u → E i z u u' → C u') (hR : ∀ i z u u', i ∉ own → C u → R0 u → E i z u u' → R0 u') (hst : ∀ i z j v u u', i ≠ j → usedBy cons j ≠ some i → ((ancs ops []).getD j 0).testBit i = false → (∀ c, usedBy cons j = some c → ((ancs ops []).getD i 0).testBit c = false) → C u → S j v u → E i z u u' → S j v u')
    (hN : ∀ i ∈ news, i < n ∧ (∀ o, ops[i]? = some o → o.guard = none) ∧ usedBy cons i = none) (hD : ∀ i j v x u u', i ∈ news → j ∈ news → i ≠ j → C u → S j x u → S i v u' → E i v u u' → v ≠ x)
    (hob : ObsN P ops S C E own R0 a 0 (ops.take n) plan)
    (hfin : ∀ w', C w' → Fin (Left cons S) w' (fun a' => (∀ j k t s, j ∈ news → k ∈ news → j ≠ k → dstOf ops j = some t → dstOf ops k = some s → a'.eval (.tmp t) ≠ a'.eval (.tmp s)) → wpList P ops.toArray Q (ops.drop n) a' w') 0 (ops.take n) a) :
    ∀ (f : Nat) (listed : Array Bool) (a' : Act) (w' : World), StN ops n S C cons own R0 news a listed a' w' → (List.range n).countP (fun i => listed.getD i false) + f = n → wpAny P .any ops.toArray Q (f + (ops.length - n)) listed a' w' := by
  have hrow : ∀ j o, ops[j]? = some o → j < n → ∃ pk, plan[j]? = some pk ∧ rowOk ops m (ancs ops []) cons j o pk = true := fun j o ho hj => by
    have := rowsOk_at (ops.take n) plan 0 j o hrows (by rw [List.getElem?_take_of_lt hj]; exact ho)
    simpa using this
  have hdst : ∀ j o d, ops[j]? = some o → j < n → o.dst = some d → d < m ∧ ∀ i oi, i < j → ops[i]? = some oi → oi.dst ≠ some d := fun j o d ho hj hd => by
    obtain ⟨pk, _, hr⟩ := hrow j o ho hj
    unfold rowOk at hr
    simp only [hd, Bool.and_eq_true, decide_eq_true_eq, List.all_eq_true] at hr
    refine ⟨hr.2.1, fun i oi hij hi => ?_⟩
    have := hr.2.2 i (List.mem_range.2 hij)
    simpa [dstOf, hi] using this
  have hdis : ∀ i j oi oj d, ops[i]? = some oi → ops[j]? = some oj → i < n → j < n → oi.dst = some d → oj.dst = some d → i = j := fun i j oi oj d hi hj hin hjn hdi hdj => by
    rcases Nat.lt_trichotomy i j with h | h | h
    · exact absurd hdi ((hdst j oj d hj hjn hdj).2 i oi h hi)
    · exact h
    · exact absurd hdj ((hdst i oi d hi hin hdi).2 j oj h hj)
  intro f
  induction f with
  | zero =>
    intro listed a' w' st hc
    have hall : ∀ i, i < n → listed.getD i false = true := by
      have h0 : List.countP (fun i => listed.getD i false) (List.range n) = (List.range n).length := by rw [List.length_range]; exact hc
      have := List.countP_eq_length.1 h0
      exact fun i hi => this i (List.mem_range.2 hi)
    have hl : listed = (List.replicate n true ++ List.replicate (ops.length - n) false).toArray := by
      refine Array.ext (by rw [st.head.size]; simp; omega) fun i h1 h2 => ?_
      have hsz := st.head.size
      by_cases hi : i < n
      · have := hall i hi
        simp [h1] at this
        simp [this, List.getElem_append_left, hi]
      · have := st.head.tail i (by omega) (by rw [← hsz]; exact h1)
        simp [h1] at this
        rw [this, List.getElem_toArray, List.getElem_append_right (by simp; omega), List.getElem_replicate]
    rw [Nat.zero_add]
    have hw : wpList P ops.toArray Q (ops.drop n) a' w' := by
      have htk : ∀ j o, (ops.take n)[j]? = some o → j < n ∧ ops[j]? = some o := fun j o h => by
        have hj : j < n := by
          rcases Nat.lt_or_ge j n with h' | h'
          · exact h'
          · rw [List.getElem?_eq_none (by simp; omega)] at h; cases h
        exact ⟨hj, by rw [List.getElem?_take_of_lt hj] at h; exact h⟩
      have hq := fin_use (m := m) (by rw [st.size, hsz]) (ops.take n) 0 a hsz st.defers.symm
        (fun j o d ho hd => (hdst j o d (htk j o ho).2 (htk j o ho).1 hd).1)
        (fun i j oi oj d hi hj hdi hdj => hdis i j oi oj d (htk i oi hi).2 (htk j oj hj).2 (htk i oi hi).1 (htk j oj hj).1 hdi hdj)
        (fun j o d ho hd => by
          obtain ⟨hj, ho'⟩ := htk j o ho
          have hd2 := st.done j o d ho' hj (hall j hj) hd
          rw [Nat.zero_add]
          unfold Left
          cases hu : usedBy cons j with
          | none => exact hd2 (fun c hc => by rw [hu] at hc; cases hc)
          | some c => trivial) (fun t ht => st.same t fun j o ho hlj => by
          have hj : j < n := by
            rcases Nat.lt_or_ge j n with h' | h'
            · exact h'
            · have hjl : j < ops.length := (List.getElem?_eq_some_iff.1 ho).1
              have := getD_both (st.head.tail j h' (by simpa using hjl))
              rw [hlj] at this; cases this
          exact ht j o (by rw [List.getElem?_take_of_lt hj]; exact ho)) (hfin w' st.cls)
      exact hq fun j k t s hj hk hjk hdj hdk => st.dist j k t s hj hk hjk (hall j (hN j hj).1) (hall k (hN k hk).1) hdj hdk
    have := wpAny_of_seq (md := .any) (ops := ops.toArray) (Q' := Q) (ops.drop n) n listed a' w' (fun j => by simp [List.getElem?_drop]) (by rw [List.length_drop, hl]; exact hseq) hw
    rwa [List.length_drop] at this
  | succ f ih =>
    intro listed a' w' st hc
    have hinv := st.head
    have hcl : Closed ops listed := fun j oj hj hl e he => by
      obtain ⟨e', h1, h2, h3⟩ := mem_edges.1 he
      rw [← h3]
      exact hinv.closed j oj (by simpa using hj) hl e' h1 h2
    rw [show f + 1 + (ops.length - n) = (f + (ops.length - n)) + 1 by omega]
    -- some operation of the head is ready
    have hex : ∃ i, i < n ∧ listed.getD i false = false := by
      apply Classical.byContradiction
      intro hno
      have : (List.range n).countP (fun i => listed.getD i false) = (List.range n).length := List.countP_eq_length.2 fun i hi => by
        have hi := List.mem_range.1 hi
        cases h : listed.getD i false with
        | true => rfl
        | false => exact absurd ⟨i, hi, h⟩ hno
      rw [this, List.length_range] at hc
      omega
    have hfirst : ∀ (k i : Nat), i ≤ k → i < n → listed.getD i false = false → Region.ready .any ops.toArray listed ≠ [] := by
      intro k
      induction k with
      | zero =>
        intro i hi hin hl
        have : i = 0 := by omega
        subst this
        have h0 : 0 < ops.length := by omega
        obtain ⟨pk, _, hr⟩ := hrow 0 ops[0] (by simp [h0]) hin
        have hm : 0 ∈ Region.ready .any ops.toArray listed := mem_ready.2 ⟨getD_in (by rw [hinv.size]; simpa using h0) hl, ops[0], by simp [h0], fun e he hb => by
          unfold rowOk at hr
          simp only [Bool.and_eq_true, List.all_eq_true, decide_eq_true_eq] at hr
          exact absurd (hr.1.2 e.on (mem_edges.2 ⟨e, he, hb, rfl⟩)) (Nat.not_lt_zero _)⟩
        exact fun h => by rw [h] at hm; cases hm
      | succ k ihk =>
        intro i hi hin hl
        have hil : i < ops.length := by omega
        obtain ⟨pk, _, hr⟩ := hrow i ops[i] (by simp [hil]) hin
        by_cases hall : ∀ e ∈ edgesOf ops[i], listed.getD e false = true
        · have hm : i ∈ Region.ready .any ops.toArray listed := mem_ready.2 ⟨getD_in (by rw [hinv.size]; simpa using hil) hl, ops[i], by simp [hil], fun e he hb => hall e.on (mem_edges.2 ⟨e, he, hb, rfl⟩)⟩
          exact fun h => by rw [h] at hm; cases hm
        · have : ∃ e, e ∈ edgesOf ops[i] ∧ listed.getD e false = false := by
            apply Classical.byContradiction
            intro hno
            refine hall fun e he => ?_
            cases h : listed.getD e false with
            | true => rfl
            | false => exact absurd ⟨e, he, h⟩ hno
          obtain ⟨e, he, hel⟩ := this
          unfold rowOk at hr
          simp only [Bool.and_eq_true, List.all_eq_true, decide_eq_true_eq] at hr
          have hlt := hr.1.2 e he
          exact ihk e (by omega) (by omega) hel
    obtain ⟨i0, hi0, hl0⟩ := hex
    refine ⟨fun h0 => absurd h0 (hfirst i0 i0 (Nat.le_refl _) hi0 hl0), fun i hi => ?_⟩
    have hin : i < n := by
      rcases Nat.lt_or_ge i n with h | h
      · exact h
      · exfalso
        obtain ⟨_, oi, hoi, _⟩ := mem_ready.1 hi
        have hil : i < ops.length := by
          have := (Array.getElem?_eq_some_iff.1 hoi).1
          simpa using this
        obtain ⟨hs, hch⟩ := hsink (by omega)
        exact tail_waits hs hch (by simp; omega) hinv _ i0 rfl hi0 (getD_in (by rw [hinv.size]; simp; omega) hl0) i h hi
    obtain ⟨hun, o, hoa, hall⟩ := mem_ready.1 hi
    have ho : ops[i]? = some o := by simpa using hoa
    have hil : i < ops.length := (List.getElem?_eq_some_iff.1 ho).1
    have hunf := getD_both hun
    obtain ⟨pk, hpk, hr⟩ := hrow i o ho hin
    have hO : ObN P ops S C E own R0 a i o pk := by
      have := obsN_at (ops.take n) plan 0 i o hob (by rw [List.getElem?_take_of_lt hin]; exact ho) pk hpk
      simpa using this
    have hW := facts_give (G := Wants ops o a'.eval w' (S i) (Gives P o a'.eval w' fun v u' => S i v u' ∧ E i v w' u')) pk (fun x hx => by
      have hr' := hr
      unfold rowOk at hr'
      simp only [Bool.and_eq_true] at hr'
      have h2 := List.all_eq_true.1 hr'.1.1 x hx
      obtain ⟨t, s⟩ := x
      cases s with
      | some j =>
        simp only [Bool.and_eq_true, List.contains_iff_mem] at h2
        obtain ⟨⟨hje, hjd⟩, hcs⟩ := h2
        have hjd : dstOf ops j = some t := by simpa using hjd
        obtain ⟨e, he, hb, hon⟩ := mem_edges.1 hje
        have hjl := hall e he hb
        rw [hon] at hjl
        have hjk : j < i := by
          have := List.all_eq_true.1 hr'.1.2 j hje
          simpa using this
        have hjlen : j < ops.length := by omega
        refine st.done j ops[j] t (by simp [hjlen]) (by omega) hjl (by simpa [dstOf, hjlen] using hjd) fun c hc => ?_
        rw [hc] at hcs
        simp only [Bool.or_eq_true, beq_iff_eq] at hcs
        rcases hcs with hcs | hcs
        · rw [hcs]; exact hunf
        · cases hlc : listed.getD c false with
          | false => rfl
          | true =>
            have := ancs_ok hcl ops [] (fun j => by simp) (fun j _ x hx => by simp at hx) c hlc i hcs
            rw [this] at hunf; cases hunf
      | none =>
        refine st.same t fun j oj hj hlj hd => ?_
        have hjlen : j < ops.length := (List.getElem?_eq_some_iff.1 hj).1
        have h3 := List.all_eq_true.1 h2 j (List.mem_range.2 hjlen)
        have hdj : dstOf ops j = some t := by simp [dstOf, hj, hd]
        simp only [hdj, bne_self_eq_false, Bool.false_or, Bool.or_eq_true, beq_iff_eq] at h3
        rcases h3 with h3 | h3
        · subst h3; rw [hlj] at hunf; cases hunf
        · have := ancs_ok hcl ops [] (fun j => by simp) (fun j _ x hx => by simp at hx) j hlj i h3
          rw [this] at hunf; cases hunf) (hO a'.eval w' (fun _ => rfl) (fun _ => rfl) (fun _ => rfl) st.cls (fun hp => st.res fun x hx => by
      have := List.all_eq_true.1 hp x hx
      simp only [Bool.or_eq_true, beq_iff_eq] at this
      rcases this with h | h
      · subst h; exact hunf
      · cases hl : listed.getD x false with
        | false => rfl
        | true =>
          have := ancs_ok hcl ops [] (fun j => by simp) (fun j _ x hx => by simp at hx) x hl i h
          rw [this] at hunf; cases hunf))
    have put : ∀ v w'', C w'' → S i v w'' → (∀ j u, i ≠ j → usedBy cons j ≠ some i → ((ancs ops []).getD j 0).testBit i = false → (∀ c, usedBy cons j = some c → ((ancs ops []).getD i 0).testBit c = false) → S j u w' → S j u w'') → (i ∉ own → R0 w' → R0 w'') → (i ∈ news → ∀ j x, j ∈ news → i ≠ j → S j x w' → v ≠ x) → wpAny P .any ops.toArray Q (f + (ops.length - n)) (listed.setIfInBounds i true) (a'.put o.dst v) w'' := fun v w'' hcw hv hk hr0 hnw => by
      have hli : (listed.setIfInBounds i true).getD i false = true := by
        have : i < listed.size := by rw [hinv.size]; simpa using hil
        simp [this]
      have hcl' : Closed ops (listed.setIfInBounds i true) := fun j oj hj hl e he => by
        obtain ⟨e', h1, h2, h3⟩ := mem_edges.1 he
        rw [← h3]
        exact (hinv.set hi hin).closed j oj (by simpa using hj) hl e' h1 h2
      refine ih _ _ _ ⟨by rw [size_put, st.size], by rw [defers_put, st.defers], hcw, fun hno => ?_, hinv.set hi hin, fun j oj t hj hjn hlj hd hus => ?_, fun t ht => ?_, fun j k t s hj hk hjk hlj hlk hdj hdk => ?_⟩ ?_
      · have hni : i ∉ own := fun hm => by
          have := hno i hm
          rw [hli] at this; cases this
        refine hr0 hni (st.res fun x hx => ?_)
        have := hno x hx
        by_cases hix : i = x
        · subst hix; exact hunf
        · rwa [getD_set_ne false hix] at this
      · by_cases hij : i = j
        · subst hij
          have : o = oj := Option.some.inj (ho.symm.trans hj)
          subst this
          rw [hd, eval_put_self (by rw [st.size, hsz]; exact (hdst i o t ho hin hd).1)]
          exact hv
        · rw [eval_put_ne (fun e => hij (hdis i j o oj t ho hj hin hjn e hd))]
          rw [getD_set_ne false hij] at hlj
          refine hk j _ hij (fun he => ?_) (by
            cases hb : ((ancs ops []).getD j 0).testBit i with
            | false => rfl
            | true =>
              have := ancs_ok hcl ops [] (fun j => by simp) (fun j _ x hx => by simp at hx) j hlj i hb
              rw [this] at hunf; cases hunf) (fun c hc => by
            cases hb : ((ancs ops []).getD i 0).testBit c with
            | false => rfl
            | true =>
              have h1 := ancs_ok hcl' ops [] (fun j => by simp) (fun j _ x hx => by simp at hx) i hli c hb
              have h2 := hus c hc
              rw [h1] at h2; cases h2) (st.done j oj t hj hjn hlj hd fun c hc => ?_)
          · have := hus i he
            rw [hli] at this; cases this
          · have := hus c hc
            by_cases hic : i = c
            · subst hic; exact hunf
            · rwa [getD_set_ne false hic] at this
      · have hne : o.dst ≠ some t := ht i o ho hli
        rw [eval_put_ne hne]
        exact st.same t fun j oj hj hlj => ht j oj hj (getD_set_true hlj)
      · have hget : ∀ q d, dstOf ops q = some d → ∃ oq, ops[q]? = some oq ∧ oq.dst = some d := fun q d h => by
          unfold dstOf at h
          cases hq : ops[q]? with
          | none => rw [hq] at h; cases h
          | some oq => rw [hq] at h; exact ⟨oq, rfl, h⟩
        obtain ⟨oj, hoj, hdj'⟩ := hget j t hdj
        obtain ⟨ok, hok, hdk'⟩ := hget k s hdk
        have old : ∀ q oq d, q ∈ news → ops[q]? = some oq → oq.dst = some d → i ≠ q → (listed.setIfInBounds i true).getD q false = true → S q (a'.eval (.tmp d)) w' ∧ (a'.put o.dst v).eval (.tmp d) = a'.eval (.tmp d) ∧ listed.getD q false = true := fun q oq d hq hoq hd hiq hl => by
          rw [getD_set_ne false hiq] at hl
          exact ⟨st.done q oq d hoq (hN q hq).1 hl hd (fun c hc => by rw [(hN q hq).2.2] at hc; cases hc), eval_put_ne (fun e => hiq (hdis i q o oq d ho hoq hin (hN q hq).1 e hd)), hl⟩
        by_cases hij : i = j
        · subst hij
          have e1 : o = oj := Option.some.inj (ho.symm.trans hoj)
          subst e1
          obtain ⟨h1, h2, _⟩ := old k ok s hk hok hdk' hjk hlk
          rw [h2, hdj', eval_put_self (by rw [st.size, hsz]; exact (hdst i o t ho hin hdj').1)]
          exact hnw hj k _ hk hjk h1
        · obtain ⟨h1, h2, h3⟩ := old j oj t hj hoj hdj' hij hlj
          by_cases hik : i = k
          · subst hik
            have e1 : o = ok := Option.some.inj (ho.symm.trans hok)
            subst e1
            rw [h2, hdk', eval_put_self (by rw [st.size, hsz]; exact (hdst i o s ho hin hdk').1)]
            exact fun e => hnw hk j _ hj hij h1 e.symm
          · obtain ⟨_, h5, h6⟩ := old k ok s hk hok hdk' hik hlk
            rw [h2, h5]
            exact st.dist j k t s hj hk hjk h3 h6 hdj hdk
      · have := countP_one (p := fun x => listed.getD x false) (p' := fun x => (listed.setIfInBounds i true).getD x false) (i := i) hunf hli (List.range n) List.nodup_range (List.mem_range.2 hin) (fun x _ hne => getD_set_ne false (Ne.symm hne))
        rw [this]
        omega
    have next : ∀ v w'', (S i v w'' ∧ E i v w' w'') → wpAny P .any ops.toArray Q (f + (ops.length - n)) (listed.setIfInBounds i true) (a'.put o.dst v) w'' := fun v w'' ⟨hv, he⟩ =>
      put v w'' (hCE i v w' w'' st.cls he) hv (fun j u hij hus hb hc h => hst i v j u w' w'' hij hus hb hc st.cls h he) (fun hni h => hR i v w' w'' hni st.cls h he) (fun hin j x hj hij hS => hD i j v x w' w'' hin hj hij st.cls hS hv he)
    have pass : o.guard ≠ none → S i undef w' → wpAny P .any ops.toArray Q (f + (ops.length - n)) (listed.setIfInBounds i true) (a'.put o.dst undef) w' := fun hgd h => put undef w' st.cls h (fun _ _ _ _ _ _ h => h) (fun _ h => h) (fun hin => absurd ((hN i hin).2.1 o ho) hgd)
    unfold wpOp
    simp only [hoa]
    unfold Wants at hW
    cases hg : o.guard with
    | none =>
      simp only [hg] at hW
      rw [if_pos (by simp [Region.wanted, hg])]
      exact .inl (wp_of_gives hW next)
    | some gw =>
      obtain ⟨g, want⟩ := gw
      simp only [hg] at hW
      rw [wanted_isB (ops := ops) hg a']
      cases hd : dstOf ops g with
      | none =>
        simp only [hd] at hW
        exact pass (by rw [hg]; simp) hW
      | some t =>
        simp only [hd] at hW
        cases hb : isB (a'.eval (.tmp t)) want with
        | true =>
          rw [hb, if_pos rfl] at hW
          rw [if_pos hb]
          exact .inl (wp_of_gives hW next)
        | false =>
          rw [hb, if_neg Bool.false_ne_true] at hW
          rw [if_neg (show ¬ isB (a'.eval (.tmp t)) want = true by rw [hb]; exact Bool.false_ne_true)]
          exact pass (by rw [hg]; simp) hW

theorem region_genN {id : Nat} (hm : P.follows .mixedOrders = true) (n m : Nat) (plan : Plan) (cons : Cons) (S : Nat → Kind) (C : World → Prop) (E : Nat → Value → World → World → Prop) (own : List Nat) (R0 : World → Prop) (hB : okB ops n m plan cons = true) (hsz : a.tmps.size = m)
    (hC : C w.drew) (hR0 : R0 w.drew) (hCE : ∀ i z u u', C u → E i z u u' → C u') (hR : ∀ i z u u', i ∉ own → C u → R0 u → E i z u u' → R0 u') (hst : ∀ i z j v u u', i ≠ j → usedBy cons j ≠ some i → ((ancs ops []).getD j 0).testBit i = false → (∀ c, usedBy cons j = some c → ((ancs ops []).getD i 0).testBit c = false) → C u → S j v u → E i z u u' → S j v u') (hN : ∀ i ∈ news, i < n ∧ (∀ o, ops[i]? = some o → o.guard = none) ∧ usedBy cons i = none) (hD : ∀ i j v x u u', i ∈ news → j ∈ news → i ≠ j → C u → S j x u → S i v u' → E i v u u' → v ≠ x) (hob : ObsN P ops S C E own R0 a 0 (ops.take n) plan)
    (hfin : ∀ w', C w' → Fin (Left cons S) w' (fun a' => (∀ j k t s, j ∈ news → k ∈ news → j ≠ k → dstOf ops j = some t → dstOf ops k = some s → a'.eval (.tmp t) ≠ a'.eval (.tmp s)) → wpList P ops.toArray Q (ops.drop n) a' w') 0 (ops.take n) a) : (Code.region id ops.toArray true).wp P Q a w := by
  unfold okB at hB
  simp only [Bool.and_eq_true, decide_eq_true_eq] at hB
  obtain ⟨⟨⟨⟨_, hn⟩, hrows⟩, hsc⟩, hseq⟩ := hB
  refine wp_region_any hm ?_
  have := any_of_typesN (Q := Q) hsz hn hrows (fun h => by rw [if_pos h, Bool.and_eq_true] at hsc; exact hsc) hseq hCE hR hst hN hD hob hfin n (Array.replicate ops.toArray.size false) a { w with drawn := w.drawn + 1 }
    ⟨rfl, rfl, hC, fun _ => hR0, ⟨by simp, fun j oj _ hl => (by rw [getD_replicate_false] at hl; cases hl), fun t _ ht => getD_in (by simpa using ht) (getD_replicate_false _ _)⟩,
      fun j o t _ _ hl => (by rw [getD_replicate_false] at hl; cases hl), fun t _ => rfl, fun j k t s _ _ _ hl => (by rw [getD_replicate_false] at hl; cases hl)⟩ (by
        have : (List.range n).countP (fun i => (Array.replicate ops.toArray.size false).getD i false) = 0 := List.countP_eq_zero.2 fun i _ => by rw [getD_replicate_false]; simp
        rw [this, Nat.zero_add])
  rw [show n + (ops.length - n) = ops.toArray.size by simp; omega] at this
  exact this
end


/-- A new pointer: below it all was there. -/
def FreshAt (v : Value) (u : World) : Prop := ∃ b, v = .pointer (some ⟨b, 0, none⟩) ∧ u.heap.size ≤ b
def InAt (T : Ty) : Prop := ∀ v u, T.p v u → ∃ b, v = .pointer (some ⟨b, 0, none⟩) ∧ b < u.heap.size
def NAll (news : List Nat) : Nat → List Ty → Prop
  | _, [] => True
  | k, T :: l => (k ∈ news → InAt T) ∧ NAll news (k + 1) l
theorem nall_at {news : List Nat} : ∀ (l : List Ty) (k j : Nat), NAll news k l → k + j ∈ news → j < l.length → InAt (l.getD j Ty.any)
  | [], _, j, _, _, h => by simp at h
  | T :: l, k, 0, h, hj, _ => by simpa using h.1 (by simpa using hj)
  | T :: l, k, j + 1, h, hj, hl => by
    have := nall_at l (k + 1) j h.2 (by rwa [show k + 1 + j = k + (j + 1) by omega]) (by simpa using hl)
    simpa using this
def newsB (ops : List Oper) (n : Nat) (news : List Nat) : Bool := news.all fun i => decide (i < n) && (match ops[i]? with | some o => o.guard.isNone | none => true)
def Dist (ops : List Oper) (news : List Nat) (a' : Act) : Prop := ∀ j k t s, j ∈ news → k ∈ news → j ≠ k → dstOf ops j = some t → dstOf ops k = some s → a'.eval (.tmp t) ≠ a'.eval (.tmp s)
theorem dist_ne {ops : List Oper} {news : List Nat} {a' : Act} (h : Dist ops news a') (j k t s : Nat) {x y : Value} (hj : j ∈ news) (hk : k ∈ news) (hjk : j ≠ k) (d1 : dstOf ops j = some t) (d2 : dstOf ops k = some s) (e1 : a'.eval (.tmp t) = x) (e2 : a'.eval (.tmp s) = y) : x ≠ y := by
  rw [← e1, ← e2]; exact h j k t s hj hk hjk d1 d2
theorem region_n {P : Program} {ops : List Oper} {a : Act} {w : World} {Q : Exit → Act → World → Prop} {id : Nat} (news : List Nat) (hm : P.follows .mixedOrders = true) (n m : Nat) (plan : Plan) (hB : okB ops n m plan [] = true) (hNB : newsB ops n news = true) (hsz : a.tmps.size = m)
    (h : ∃ l, ObsN P ops (tys l) (fun u => Below w.heap.size w u) (fun i v u u' => Below u.heap.size u u' ∧ (i ∈ news → FreshAt v u)) [] (fun _ => True) a 0 (ops.take n) plan ∧ (NAll news 0 l ∧ n ≤ l.length) ∧
      ∀ w', Below w.heap.size w w' → Fin (Left [] (tys l)) w' (fun a' => Dist ops news a' → wpList P ops.toArray Q (ops.drop n) a' w') 0 (ops.take n) a) : (Code.region id ops.toArray true).wp P Q a w := by
  obtain ⟨l, h1, ⟨hc, hl⟩, h2⟩ := h
  have hN : ∀ i ∈ news, i < n ∧ (∀ o, ops[i]? = some o → o.guard = none) ∧ usedBy [] i = none := fun i hi => by
    have := List.all_eq_true.1 hNB i hi
    simp only [Bool.and_eq_true, decide_eq_true_eq] at this
    refine ⟨this.1, fun o ho => ?_, rfl⟩
    have h3 := this.2
    rw [ho] at h3
    simpa using h3
  refine region_genN (news := news) hm n m plan [] (tys l) (fun u => Below w.heap.size w u) (fun i v u u' => Below u.heap.size u u' ∧ (i ∈ news → FreshAt v u)) [] (fun _ => True) hB hsz (Below.refl _ _).drew trivial (fun _ _ _ _ h k => h.trans (k.1.mono h.size)) (fun _ _ _ _ _ _ _ _ => trivial) (fun _ _ j v u u' _ _ _ _ _ h k => (l.getD j Ty.any).st v u u' h k.1) hN (fun i j v x u u' hi hj _ _ hS _ hE => ?_) h1 h2
  obtain ⟨b, rfl, hb⟩ := hE.2 hi
  obtain ⟨b', rfl, hb'⟩ := nall_at l 0 j hc (by simpa using hj) (Nat.lt_of_lt_of_le (hN j hj).1 hl) x u hS
  intro e
  cases e
  omega
theorem newrow_in {base : Nat} {t : TypeId} {cs : Array Value} : InAt (NewRow base t cs) := fun v u ⟨b, e, _, h⟩ => ⟨b, e, (Array.getElem?_eq_some_iff.1 h).1⟩
section
variable {P : Program} {o : Oper} {A : Operand → Value} {u : World} {l : List Ty} {k : Nat} {news : List Nat}
theorem wants_go {ops : List Oper} {T : Kind} {G : Prop} {g : Nat} {want : Bool} {t : Tmp} (hg : o.guard = some (g, want)) (hd : dstOf ops g = some t) (h : A (.tmp t) = .bool want) (hG : G) : Wants ops o A u T G := by
  unfold Wants
  rw [hg]
  simp only [hd, h, isB, beq_self_eq_true, if_true]
  exact hG
theorem wants_skip {ops : List Oper} {T : Kind} {G : Prop} {g : Nat} {want : Bool} {t : Tmp} (hg : o.guard = some (g, want)) (hd : dstOf ops g = some t) (h : A (.tmp t) = .bool (!want)) (hT : T undef u) : Wants ops o A u T G := by
  unfold Wants
  rw [hg]
  have : ((!want) == want) = false := by cases want <;> rfl
  simp only [hd, h, isB, this, Bool.false_eq_true, if_false]
  exact hT
theorem skip_t (hk : l.getD k Ty.any = Ty.is undef) : tys l k undef u := by unfold tys; rw [hk]; rfl
theorem aim_n (hk : k ∉ news) (h : Gives P o A u (Aim l k u)) : Gives P o A u (fun v u' => tys l k v u' ∧ (Below u.heap.size u u' ∧ (k ∈ news → FreshAt v u))) := by
  unfold Gives at *
  generalize (execOp A o).run P u = r at *
  cases r with
  | ok nx w' =>
    cases nx <;> simp only [GivenR] at h ⊢
    case value v => exact ⟨h.1, h.2, fun hh => absurd hh hk⟩
    case skip => exact ⟨h.1, h.2, fun hh => absurd hh hk⟩
    case enter f args => exact Calls.mono h fun e w'' ⟨v, e1, h1, h2⟩ => ⟨v, e1, h1, h2, fun hh => absurd hh hk⟩
  | halt x w' => simp only [GivenR] at h
theorem given_new {base : Nat} {t : TypeId} {cs : Array Value} (hk : l.getD k Ty.any = NewRow base t cs) (hb : base ≤ u.heap.size) : GivenR P (fun v u' => tys l k v u' ∧ (Below u.heap.size u u' ∧ (k ∈ news → FreshAt v u))) (.ok (.value (.pointer (some ⟨u.heap.size, 0, none⟩))) (u.alloc (.cells cs t))) :=
  ⟨by unfold tys; rw [hk]; exact ⟨_, rfl, hb, heap_alloc_new u _⟩, (Below.refl _ _).alloc (Nat.le_refl _) _, fun _ => ⟨_, rfl, Nat.le_refl _⟩⟩
end
end Go.Tp
