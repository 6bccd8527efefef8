/- Operations that do not wait for one another may change places: whatever order is drawn, the state at the end is that of the text's order. -/
import Derived.Test.YtllfkflclhnmgaaSimH
namespace Go.Sim

def Pres (hp : Hp) (m : Nat) : Prop := ∃ t, hp.getD m none = some t

def ClosedV (hp : Hp) (v : AV) : Prop := ∀ m, v.has m → Pres hp m
def ClosedH (hp : Hp) : Prop := ∀ n v, hp.getD n none = some v → ClosedV hp v
def ClosedT (tm : Tm) (hp : Hp) : Prop := ∀ (i : Nat) v, tm.getD i none = some v → ClosedV hp v

def WfT (tm : Tm) : Prop := ∀ (i : Nat) v, tm.getD i none = some v → v.wf
def WfH (hp : Hp) : Prop := ∀ n v, hp.getD n none = some v → v.wf
structure WfSt (st : St) : Prop where
  tm : WfT st.tm
  hp : WfH st.hp

structure Closed (st : St) : Prop where
  tm : ClosedT st.tm st.hp
  hp : ClosedH st.hp

def Entry.Good : Entry → Prop
  | .pure s => (Entry.pure s).Law ∧ (∀ args v, s.run args some = some v → ∀ m, ¬ v.has m) ∧ ∀ args v, s.run args some = some v → (∀ u ∈ args, u.wf) → v.wf
  | .read s => (Entry.read s).Law ∧ (∀ args hp v, s.run args hp some = some v → ClosedH hp → (∀ u ∈ args, ClosedV hp u) → ClosedV hp v) ∧
      ∀ args hp v, s.run args hp some = some v → (∀ u ∈ args, u.wf) → WfH hp → v.wf
  | .full s => (Entry.full s).Law ∧ (∀ args hp nm v hp', s.run args hp nm (fun v h => some (v, h)) = some (v, hp') → ClosedH hp → (∀ u ∈ args, ClosedV hp u) →
      ClosedV hp' v ∧ ClosedH hp' ∧ ∀ m, Pres hp m → Pres hp' m) ∧
      ∀ args hp nm v hp', s.run args hp nm (fun v h => some (v, h)) = some (v, hp') → (∀ u ∈ args, u.wf) → WfH hp → v.wf ∧ WfH hp'

def Env.Good (Γ : Env) : Prop := ∀ f e, Γ f = some e → e.Good

theorem Env.Good.law {Γ : Env} (h : Γ.Good) : Γ.Law := fun f e he => by
  have := h f e he
  cases e <;> exact this.1

theorem pres_setP {hp : Hp} {n m : Nat} {v : AV} (h : Pres hp m) : Pres (setP none hp n (some v)) m := by
  obtain ⟨t, ht⟩ := h
  unfold Pres
  rw [getD_setP]
  split
  · exact ⟨v, rfl⟩
  · exact ⟨t, ht⟩

theorem pres_self {hp : Hp} {n : Nat} {v : AV} : Pres (setP none hp n (some v)) n := ⟨v, by rw [getD_setP]; simp⟩

/-- what an operation yields, and what becomes of memory -/
def effD (P : Program) (Γ : Env) (o : Oper) (nm : Nat) (tm : Tm) (hp : Hp) : Option (Option AV × Hp) :=
  match cls Γ o.op with
  | .val => (val P tm o).map fun v => (some v, hp)
  | .load =>
    match o.op with
    | .load t x => (loadK P tm hp t x some).map fun v => (some v, hp)
    | _ => none
  | .store =>
    match o.op with
    | .store t x y => (storeK P tm hp t x y some).map fun hp' => (none, hp')
    | _ => none
  | .alloc =>
    match allocA P tm o.op with
    | some v =>
      match hp.getD nm none with
      | none => some (some (.ptr nm []), setP none hp nm (some v))
      | some _ => none
    | none => none
  | .pure s =>
    match callArgs tm o.op with
    | some vs => (s.run vs some).map fun v => (some v, hp)
    | none => none
  | .read s =>
    match callArgs tm o.op with
    | some vs => (s.run vs hp some).map fun v => (some v, hp)
    | none => none
  | .full s =>
    match callArgs tm o.op with
    | some vs =>
      match hp.getD nm none with
      | none => s.run vs hp nm fun v hp' => some (some v, hp')
      | some _ => none
    | none => none
  | .bad => none

theorem law_of_cls {Γ : Env} {o : Op} {e : Entry} (h : cls Γ o = match e with | .pure s => .pure s | .read s => .read s | .full s => .full s) : ∃ f, Γ f = some e := by
  unfold cls at h
  split at h <;> try (cases e <;> cases h; done)
  split at h <;> try (cases e <;> cases h; done)
  split at h <;> cases e <;> cases h <;> exact ⟨_, by assumption⟩

theorem execK_eff {P : Program} {Γ : Env} (hΓ : Γ.Law) (o : Oper) (nm : Nat) (st : St) :
    execK P Γ o nm st some = (effD P Γ o nm st.tm st.hp).map fun x => ⟨setT st.tm o.dst x.1, x.2, st.base⟩ := by
  unfold execK effD
  cases hs : cls Γ o.op with
  | val => simp only; rw [valK_eq]; cases val P st.tm o <;> rfl
  | load =>
    simp only
    generalize o.op = op
    cases op <;> try rfl
    simp only
    rw [loadK_eq]; cases loadK P st.tm st.hp _ _ some <;> rfl
  | store =>
    simp only
    generalize o.op = op
    cases op <;> try rfl
    simp only
    rw [storeK_eq]; cases storeK P st.tm st.hp _ _ _ some <;> rfl
  | alloc =>
    simp only
    cases allocA P st.tm o.op with
    | none => rfl
    | some v => simp only; cases st.hp.getD nm none <;> rfl
  | pure s =>
    obtain ⟨f, hf⟩ := law_of_cls (e := .pure s) hs
    have hl := hΓ _ _ hf
    simp only
    cases callArgs st.tm o.op with
    | none => rfl
    | some vs => simp only; rw [hl]; cases s.run vs some <;> rfl
  | read s =>
    obtain ⟨f, hf⟩ := law_of_cls (e := .read s) hs
    have hl := hΓ _ _ hf
    simp only
    cases callArgs st.tm o.op with
    | none => rfl
    | some vs => simp only; rw [hl]; cases s.run vs st.hp some <;> rfl
  | full s =>
    obtain ⟨f, hf⟩ := law_of_cls (e := .full s) hs
    have hl := hΓ _ _ hf
    simp only
    cases callArgs st.tm o.op with
    | none => rfl
    | some vs =>
      simp only
      cases st.hp.getD nm none with
      | none => simp only; rw [hl St vs, hl (Option AV × Hp) vs]; cases s.run vs st.hp nm (fun v h => some (v, h)) <;> rfl
      | some _ => rfl
  | bad => rfl

/-- with its guard -/
def geff (P : Program) (Γ : Env) (ops : List Oper) (o : Oper) (nm : Nat) (tm : Tm) (hp : Hp) : Option (Option AV × Hp) :=
  match o.guard with
  | none => effD P Γ o nm tm hp
  | some (j, want) =>
    match (ops[j]?).bind (·.dst) with
    | some t =>
      match tm.getD t none with
      | some (.bool b) => if b = want then effD P Γ o nm tm hp else some (none, hp)
      | _ => none
    | none => none

theorem opD_geff {P : Program} {Γ : Env} (hΓ : Γ.Law) {ops : List Oper} {o : Oper} {nm : Nat} {st st' : St} (h : opD P Γ ops o nm st = some st') :
    ∃ x, geff P Γ ops o nm st.tm st.hp = some x ∧ st' = ⟨setT st.tm o.dst x.1, x.2, st.base⟩ := by
  cases hg : o.guard with
  | none =>
    have h' := h
    unfold opD opK at h'
    rw [hg] at h'
    simp only at h'
    rw [execK_eff hΓ] at h'
    cases he : effD P Γ o nm st.tm st.hp with
    | none => simp [he] at h'
    | some x =>
      simp only [he, Option.map_some, Option.some.injEq] at h'
      exact ⟨x, by simp [geff, hg, he], h'.symm⟩
  | some jw =>
    obtain ⟨j, want⟩ := jw
    obtain ⟨t, b, h1, h2, h3⟩ := opD_guard hg h
    rcases h3 with ⟨rfl, h3⟩ | ⟨h3, rfl⟩
    · rw [execK_eff hΓ] at h3
      cases he : effD P Γ o nm st.tm st.hp with
      | none => simp [he] at h3
      | some x =>
        simp only [he, Option.map_some, Option.some.injEq] at h3
        exact ⟨x, by simp [geff, hg, h1, h2, he, -List.getD_eq_getElem?_getD], h3.symm⟩
    · exact ⟨(none, st.hp), by simp [geff, hg, h1, h2, h3, -List.getD_eq_getElem?_getD], rfl⟩

/-- the direct step, by its effect -/
def stepD (P : Program) (Γ : Env) (ops : List Oper) (o : Oper) (nm : Nat) (st : St) : Option St :=
  (geff P Γ ops o nm st.tm st.hp).map fun x => ⟨setT st.tm o.dst x.1, x.2, st.base⟩

theorem opD_step {P : Program} {Γ : Env} (hΓ : Γ.Law) {ops : List Oper} {o : Oper} {nm : Nat} {st st' : St} (h : opD P Γ ops o nm st = some st') :
    stepD P Γ ops o nm st = some st' := by
  obtain ⟨x, h1, h2⟩ := opD_geff hΓ h
  simp [stepD, h1, h2]

/-! what an operation looks at -/
theorem opv_set {tm : Tm} {d : Option Tmp} {v : Option AV} {x : Operand} (h : ∀ t, d = some t → x ≠ .tmp t) : opv (setT tm d v) x = opv tm x := by
  cases d with
  | none => rfl
  | some d =>
    cases x with
    | tmp t =>
      have hne : d ≠ t := fun e => h d rfl (by rw [e])
      simp [opv, setT, List.getElem?_set_ne hne]
    | _ => rfl

theorem opvs_set {tm : Tm} {d : Option Tmp} {v : Option AV} : ∀ {xs : List Operand}, (∀ t, d = some t → Operand.tmp t ∉ xs) → opvs (setT tm d v) xs = opvs tm xs
  | [], _ => rfl
  | x :: xs, h => by
    simp only [opvs]
    rw [opv_set (fun t ht hx => h t ht (by simp [hx])), opvs_set (xs := xs) (fun t ht hx => h t ht (by simp [hx]))]

theorem partsV_set {tm : Tm} {d : Option Tmp} {v : Option AV} : ∀ {xs : List (Nat × Operand)}, (∀ t, d = some t → Operand.tmp t ∉ xs.map (·.2)) → partsV (setT tm d v) xs = partsV tm xs
  | [], _ => rfl
  | (i, x) :: xs, h => by
    simp only [partsV]
    rw [opv_set (fun t ht hx => h t ht (by simp [hx])), partsV_set (xs := xs) (fun t ht hx => h t ht (by simp at hx ⊢; exact .inr hx))]

def Off (d : Option Tmp) (o : Oper) : Prop := ∀ t, d = some t → Operand.tmp t ∉ o.op.operands.toList

theorem Off.one {d : Option Tmp} {o : Oper} (h : Off d o) {x : Operand} (hx : x ∈ o.op.operands.toList) : ∀ t, d = some t → x ≠ .tmp t :=
  fun t ht e => h t ht (e ▸ hx)

theorem val_set {P : Program} {tm : Tm} {o : Oper} {d : Option Tmp} {v : Option AV} (h : Off d o) : val P (setT tm d v) o = val P tm o := by
  obtain ⟨dst, op, type, pos, after, guard⟩ := o
  have one : ∀ x, x ∈ op.operands.toList → opv (setT tm d v) x = opv tm x := fun x hx => opv_set (Off.one h hx)
  unfold val valK
  cases op <;> simp only [Op.operands] at one <;> try rfl
  case move x => simp only [getK, one x (by simp)]
  case assign x => simp only [getK, one x (by simp)]
  case pick c a b => simp only [getK, one c (by simp), one a (by simp), one b (by simp)]
  case nilCheck x => simp only [one x (by simp)]
  case binOp op t x y yt => simp only [one x (by simp), one y (by simp)]
  case unOp op t x => simp only [one x (by simp)]
  case convert s t x => simp only [one x (by simp)]
  case fieldAddr s x f => simp only [one x (by simp)]
  case field s x f => simp only [one x (by simp)]
  case indexAddr t x i => simp only [one x (by simp), one i (by simp)]
  case index t x i => simp only [one x (by simp), one i (by simp)]
  case extract x i => simp only [one x (by simp)]
  case build t ps =>
    simp only [partsV_set (xs := ps.toList) (fun t ht hx => h t ht (by simpa [Op.operands] using hx))]
  case call c =>
    have : opvs (setT tm d v) c.args.toList = opvs tm c.args.toList :=
      opvs_set fun t ht hx => h t ht (by simp [Op.operands, Call.operands]; right; simpa using hx)
    simp only [this]

theorem loadK_set {P : Program} {tm : Tm} {hp : Hp} {t : TypeId} {x : Operand} {d : Option Tmp} {v : Option AV} (h : ∀ t, d = some t → x ≠ .tmp t) :
    loadK P (setT tm d v) hp t x some = loadK P tm hp t x some := by simp only [loadK, opv_set h]

theorem storeK_set {P : Program} {tm : Tm} {hp : Hp} {t : TypeId} {x y : Operand} {d : Option Tmp} {v : Option AV} (h : ∀ t, d = some t → x ≠ .tmp t) (h' : ∀ t, d = some t → y ≠ .tmp t) :
    storeK P (setT tm d v) hp t x y some = storeK P tm hp t x y some := by simp only [storeK, opv_set h, opv_set h']

theorem allocA_set {P : Program} {tm : Tm} {o : Oper} {d : Option Tmp} {v : Option AV} (h : Off d o) : allocA P (setT tm d v) o.op = allocA P tm o.op := by
  cases ho : o.op <;> simp only [allocA]
  rename_i t x
  rw [opv_set (Off.one h (by simp [ho, Op.operands]))]

theorem callArgs_set {tm : Tm} {o : Oper} {d : Option Tmp} {v : Option AV} (h : Off d o) : callArgs (setT tm d v) o.op = callArgs tm o.op := by
  cases ho : o.op <;> simp only [callArgs]
  rename_i c
  exact opvs_set fun t ht hx => h t ht (by simp [ho, Op.operands, Call.operands]; right; simpa using hx)

theorem effD_set {P : Program} {Γ : Env} {tm : Tm} {hp : Hp} {o : Oper} {nm : Nat} {d : Option Tmp} {v : Option AV} (h : Off d o) :
    effD P Γ o nm (setT tm d v) hp = effD P Γ o nm tm hp := by
  unfold effD
  split
  · rw [val_set h]
  · split
    · rename_i t x ho
      rw [loadK_set (Off.one h (by simp [ho, Op.operands]))]
    · rfl
  · split
    · rename_i t x y ho
      rw [storeK_set (Off.one h (by simp [ho, Op.operands])) (Off.one h (by simp [ho, Op.operands]))]
    · rfl
  · rw [allocA_set h]
  · rw [callArgs_set h]
  · rw [callArgs_set h]
  · rw [callArgs_set h]
  · rfl

theorem geff_set {P : Program} {Γ : Env} {ops : List Oper} {tm : Tm} {hp : Hp} {o : Oper} {nm : Nat} {d : Option Tmp} {v : Option AV}
    (h : ∀ t, d = some t → t ∉ o.looksAt ops.toArray) : geff P Γ ops o nm (setT tm d v) hp = geff P Γ ops o nm tm hp := by
  have hoff : Off d o := fun t ht hx => h t ht (List.mem_append_left _ (List.mem_filterMap.2 ⟨.tmp t, hx, rfl⟩))
  unfold geff
  split
  · exact effD_set hoff
  · rename_i j want hg
    cases ht : (ops[j]?).bind (·.dst) with
    | none => rfl
    | some t =>
      have hne : ∀ d', d = some d' → d' ≠ t := fun d' hd e => h d' hd (by
        subst e
        refine List.mem_append_right _ ?_
        simp only [hg, List.getElem?_toArray, ht]
        simp)
      have e1 : (setT tm d v).getD t none = tm.getD t none := by
        cases d with
        | none => rfl
        | some d' => simp [setT, List.getElem?_set_ne (hne d' rfl)]
      simp only [e1, effD_set hoff]
end Go.Sim
