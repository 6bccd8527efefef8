/- The state, one operation, a region in the order of the text. -/
import Derived.Test.YtllfkflclhnmgaaSimG
namespace Go.Sim

abbrev Hp := List (Option AV)

structure St where
  tm : Tm
  hp : Hp
  base : Nat

/-- a function that looks at no memory that was there -/
structure PSem where
  run : {β : Type} → List AV → (AV → Option β) → Option β
/-- a function that reads memory, and leaves it -/
structure RSem where
  run : {β : Type} → List AV → Hp → (AV → Option β) → Option β
/-- a function that may write: its arguments, memory, a name for a block of its own -/
structure FSem where
  run : {β : Type} → List AV → Hp → Nat → (AV → Hp → Option β) → Option β

inductive Entry where
  | pure (s : PSem)
  | read (s : RSem)
  | full (s : FSem)

abbrev Env := FuncId → Option Entry

def Entry.Law : Entry → Prop
  | .pure s => ∀ (β : Type) (args : List AV) (K : AV → Option β), s.run args K = (s.run args some).bind K
  | .read s => ∀ (β : Type) (args : List AV) (hp : Hp) (K : AV → Option β), s.run args hp K = (s.run args hp some).bind K
  | .full s => ∀ (β : Type) (args : List AV) (hp : Hp) (nm : Nat) (K : AV → Hp → Option β), s.run args hp nm K = (s.run args hp nm (fun v h => some (v, h))).bind fun x => K x.1 x.2

def Env.Law (Γ : Env) : Prop := ∀ f e, Γ f = some e → e.Law

variable {β : Type}

def setT (tm : Tm) (d : Option Tmp) (v : Option AV) : Tm :=
  match d with
  | some d => tm.set d v
  | none => tm

/- a value whose cells are single ones -/
mutual
def AV.oneA : AV → Bool
  | .tup _ => false
  | .agg ts => AV.oneAL ts
  | _ => true
def AV.oneAL : List AV → Bool
  | [] => true
  | t :: ts => t.oneA && AV.oneAL ts
end

def loadK (P : Program) (tm : Tm) (hp : Hp) (t : TypeId) (x : Operand) (K : AV → Option β) : Option β :=
  match opv tm x with
  | some (.ptr n p) =>
    match hp.getD n none with
    | some tree => subK p tree fun v => bif fits P t v then K v else none
    | none => none
  | _ => none

def storeK (P : Program) (tm : Tm) (hp : Hp) (t : TypeId) (x y : Operand) (K : Hp → Option β) : Option β :=
  match opv tm x with
  | some (.ptr n p) =>
    match opv tm y with
    | some v =>
      match hp.getD n none with
      | some tree => bif v.oneA && fits P t v then putK p tree v fun tree' => K (setP none hp n (some tree')) else none
      | none => none
    | none => none
  | _ => none

/-- what a new block holds -/
def allocA (P : Program) (tm : Tm) : Op → Option AV
  | .alloc t => match zeroA P t with
    | some v => bif v.oneA then some v else none
    | none => none
  | .box _ x => match opv tm x with
    | some v => bif v.oneA then some v else none
    | none => none
  | _ => none

inductive Cls where
  | val | load | store | alloc | pure (s : PSem) | read (s : RSem) | full (s : FSem) | bad

def cls (Γ : Env) (o : Op) : Cls :=
  match o with
  | .load .. => .load
  | .store .. => .store
  | .alloc _ => .alloc
  | .box .. => .alloc
  | .call c =>
    match c.callee with
    | .value (.func f) =>
      match Γ f with
      | some (.pure s) => .pure s
      | some (.read s) => .read s
      | some (.full s) => .full s
      | none => .bad
    | .builtin _ => .val
    | _ => .bad
  | .go _ => .bad
  | .defer _ => .bad
  | .select .. => .bad
  | _ => .val

def callArgs (tm : Tm) (o : Op) : Option (List AV) :=
  match o with
  | .call c => opvs tm c.args.toList
  | _ => none

def execK (P : Program) (Γ : Env) (o : Oper) (nm : Nat) (st : St) (K : St → Option β) : Option β :=
  match cls Γ o.op with
  | .val => valK P st.tm o fun v => K ⟨setT st.tm o.dst (some v), st.hp, st.base⟩
  | .load =>
    match o.op with
    | .load t x => loadK P st.tm st.hp t x fun v => K ⟨setT st.tm o.dst (some v), st.hp, st.base⟩
    | _ => none
  | .store =>
    match o.op with
    | .store t x y => storeK P st.tm st.hp t x y fun hp' => K ⟨setT st.tm o.dst none, hp', st.base⟩
    | _ => none
  | .alloc =>
    match allocA P st.tm o.op with
    | some v =>
      match st.hp.getD nm none with
      | none => K ⟨setT st.tm o.dst (some (.ptr nm [])), setP none st.hp nm (some v), st.base⟩
      | some _ => none
    | none => none
  | .pure s =>
    match callArgs st.tm o.op with
    | some vs => s.run vs fun v => K ⟨setT st.tm o.dst (some v), st.hp, st.base⟩
    | none => none
  | .read s =>
    match callArgs st.tm o.op with
    | some vs => s.run vs st.hp fun v => K ⟨setT st.tm o.dst (some v), st.hp, st.base⟩
    | none => none
  | .full s =>
    match callArgs st.tm o.op with
    | some vs =>
      match st.hp.getD nm none with
      | none => s.run vs st.hp nm fun v hp' => K ⟨setT st.tm o.dst (some v), hp', st.base⟩
      | some _ => none
    | none => none
  | .bad => none

/-- with its guard; the guard's temporary is known behind the test -/
def opK (P : Program) (Γ : Env) (ops : List Oper) (o : Oper) (nm : Nat) (st : St) (K : St → Option β) : Option β :=
  match o.guard with
  | none => execK P Γ o nm st K
  | some (j, want) =>
    match (ops[j]?).bind (·.dst) with
    | some t =>
      match st.tm.getD t none with
      | some (.bool b) =>
        bif b then
          bif want then execK P Γ o nm ⟨st.tm.set t (some (.bool true)), st.hp, st.base⟩ K
          else K ⟨setT (st.tm.set t (some (.bool true))) o.dst none, st.hp, st.base⟩
        else
          bif want then K ⟨setT (st.tm.set t (some (.bool false))) o.dst none, st.hp, st.base⟩
          else execK P Γ o nm ⟨st.tm.set t (some (.bool false)), st.hp, st.base⟩ K
      | _ => none
    | none => none

def isAl (Γ : Env) (o : Oper) : Nat :=
  match cls Γ o.op with
  | .alloc => 1
  | .full _ => 1
  | _ => 0

def opsK (P : Program) (Γ : Env) (ops : List Oper) : List Oper → Nat → St → (St → Option β) → Option β
  | [], c, st, K => K ⟨st.tm, st.hp, st.base + c⟩
  | o :: os, c, st, K => opK P Γ ops o (st.base + c) st fun st' => opsK P Γ ops os (c + isAl Γ o) st' K

/- the direct forms -/
def opD (P : Program) (Γ : Env) (ops : List Oper) (o : Oper) (nm : Nat) (st : St) : Option St := opK P Γ ops o nm st some

theorem loadK_eq (P : Program) (tm : Tm) (hp : Hp) (t : TypeId) (x : Operand) (K : AV → Option β) : loadK P tm hp t x K = (loadK P tm hp t x some).bind K := by
  unfold loadK
  split
  · split
    · rw [subK_eq, subK_eq]
      cases sub _ _ with
      | none => rfl
      | some v => simp only [Option.bind_some]; cases fits P t v <;> rfl
    · rfl
  · rfl

theorem storeK_eq (P : Program) (tm : Tm) (hp : Hp) (t : TypeId) (x y : Operand) (K : Hp → Option β) : storeK P tm hp t x y K = (storeK P tm hp t x y some).bind K := by
  unfold storeK
  split
  · split
    · split
      · cases (_ && _) with
        | false => rfl
        | true => simp only [cond_true]; rw [putK_eq', putK_eq']; cases put _ _ _ <;> rfl
      · rfl
    · rfl
  · rfl

theorem kont {A S : Type} {F : (β : Type) → (A → Option β) → Option β} (hF : ∀ (β : Type) (K : A → Option β), F β K = (F A some).bind K) (g : A → S) (K : S → Option β) :
    F β (fun v => K (g v)) = (F S (fun v => some (g v))).bind K := by
  rw [hF, hF S]; cases F A some <;> rfl

theorem execK_eq {P : Program} {Γ : Env} (hΓ : Γ.Law) (o : Oper) (nm : Nat) (st : St) (K : St → Option β) :
    execK P Γ o nm st K = (execK P Γ o nm st some).bind K := by
  unfold execK
  split
  · exact kont (F := fun β K => valK P st.tm o K) (fun β K => valK_eq ..) (fun v => ⟨setT st.tm o.dst (some v), st.hp, st.base⟩) K
  · split
    · exact kont (F := fun β K => loadK P st.tm st.hp _ _ K) (fun β K => loadK_eq ..) (fun v => ⟨setT st.tm o.dst (some v), st.hp, st.base⟩) K
    · rfl
  · split
    · exact kont (F := fun β K => storeK P st.tm st.hp _ _ _ K) (fun β K => storeK_eq ..) (fun hp' => ⟨setT st.tm o.dst none, hp', st.base⟩) K
    · rfl
  · split
    · split <;> rfl
    · rfl
  · rename_i s hs
    have hl : (Entry.pure s).Law := by
      unfold cls at hs
      split at hs <;> try (cases hs; done)
      split at hs <;> try (cases hs; done)
      split at hs <;> try (cases hs; done)
      rename_i f _ s' hg
      cases hs
      exact hΓ _ _ hg
    split
    · exact kont (F := fun β K => s.run _ K) (fun β K => hl β _ K) (fun v => ⟨setT st.tm o.dst (some v), st.hp, st.base⟩) K
    · rfl
  · rename_i s hs
    have hl : (Entry.read s).Law := by
      unfold cls at hs
      split at hs <;> try (cases hs; done)
      split at hs <;> try (cases hs; done)
      split at hs <;> try (cases hs; done)
      rename_i f _ s' hg
      cases hs
      exact hΓ _ _ hg
    split
    · exact kont (F := fun β K => s.run _ _ K) (fun β K => hl β _ _ K) (fun v => ⟨setT st.tm o.dst (some v), st.hp, st.base⟩) K
    · rfl
  · rename_i s hs
    have hl : (Entry.full s).Law := by
      unfold cls at hs
      split at hs <;> try (cases hs; done)
      split at hs <;> try (cases hs; done)
      split at hs <;> try (cases hs; done)
      rename_i f _ s' hg
      cases hs
      exact hΓ _ _ hg
    split
    · split
      · rename_i vs _ _ _
        rw [hl β vs, hl St vs]
        cases s.run vs st.hp nm (fun v h => some (v, h)) <;> rfl
      · rfl
    · rfl
  · rfl

theorem opK_eq {P : Program} {Γ : Env} (hΓ : Γ.Law) (ops : List Oper) (o : Oper) (nm : Nat) (st : St) (K : St → Option β) :
    opK P Γ ops o nm st K = (opD P Γ ops o nm st).bind K := by
  unfold opD opK
  split
  · exact execK_eq hΓ ..
  · rename_i j want _
    split
    · split
      · rename_i b _
        cases b <;> cases want <;> simp only [cond_true, cond_false] <;> first | rfl | exact execK_eq hΓ ..
      · rfl
    · rfl

/-- the guard, without the refinement: the same -/
theorem opD_guard {P : Program} {Γ : Env} {ops : List Oper} {o : Oper} {nm : Nat} {st : St} {j : Nat} {want : Bool} (hg : o.guard = some (j, want)) {st' : St}
    (h : opD P Γ ops o nm st = some st') : ∃ t b, (ops[j]?).bind (·.dst) = some t ∧ st.tm.getD t none = some (.bool b) ∧
      ((b = want ∧ execK P Γ o nm st some = some st') ∨ (b ≠ want ∧ st' = ⟨setT st.tm o.dst none, st.hp, st.base⟩)) := by
  unfold opD opK at h
  rw [hg] at h
  simp only at h
  split at h
  · rename_i t ht
    split at h
    · rename_i b hb
      refine ⟨t, b, ht, hb, ?_⟩
      have hset : st.tm.set t (some (.bool b)) = st.tm := by
        have hlt : t < st.tm.length := by
          rcases Nat.lt_or_ge t st.tm.length with h' | h'
          · exact h'
          · simp [List.getElem?_eq_none h'] at hb
        apply List.ext_getElem?
        intro i
        rw [List.getElem?_set]
        split
        · rename_i hi
          subst hi
          simp only [List.getD_eq_getElem?_getD] at hb
          cases hq : st.tm[t]? with
          | none => simp [hq] at hb
          | some x => simp [hq] at hb; simp [hb]
        · rfl
      cases b <;> cases want <;> simp only [cond_true, cond_false] at h <;> rw [hset] at h
      · exact .inl ⟨rfl, h⟩
      · exact .inr ⟨by simp, by cases h; rfl⟩
      · exact .inr ⟨by simp, by cases h; rfl⟩
      · exact .inl ⟨rfl, h⟩
    · cases h
  · cases h
end Go.Sim
