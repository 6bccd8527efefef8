/- A region in whatever order: the abstract side. -/
import Derived.Test.YtllfkflclhnmgaaSimJ
namespace Go.Sim

theorem setT_closed {tm : Tm} {hp hp' : Hp} {d : Option Tmp} {v : Option AV} (h : ClosedT tm hp) (hm : ∀ m, Pres hp m → Pres hp' m) (hv : ∀ u, v = some u → ClosedV hp' u) :
    ClosedT (setT tm d v) hp' := by
  intro i u hu m hmm
  cases d with
  | none => exact hm m (h i u hu m hmm)
  | some d =>
    simp only [setT, List.getD_eq_getElem?_getD, List.getElem?_set] at hu
    split at hu
    · split at hu
      · cases v with
        | none => simp at hu
        | some w => simp at hu; subst hu; exact hv w rfl m hmm
      · simp at hu
    · exact hm m (h i u (by simpa using hu) m hmm)

theorem setP_closed {hp : Hp} {n : Nat} {v : AV} (h : ClosedH hp) (hv : ClosedV hp v) : ClosedH (setP none hp n (some v)) := by
  intro m u hu k hk
  rw [getD_setP] at hu
  split at hu
  · cases hu; exact pres_setP (hv k hk)
  · exact pres_setP (h m u hu k hk)

theorem loadK_closed {P : Program} {tm : Tm} {hp : Hp} {t : TypeId} {x : Operand} {v : AV} (hh : ClosedH hp) (h : loadK P tm hp t x some = some v) : ClosedV hp v := by
  unfold loadK at h
  split at h
  · rename_i n p _
    split at h
    · rename_i tree htree
      rw [subK_eq] at h
      cases hs : sub p tree with
      | none => simp [hs] at h
      | some u =>
        simp only [hs, Option.bind_some] at h
        cases hf : fits P t u with
        | false => simp [hf] at h
        | true =>
          simp only [hf, cond_true, Option.some.injEq] at h
          subst h
          intro m hm
          exact hh _ _ htree m (sub_has _ _ _ hs m hm)
    · cases h
  · cases h

theorem callArgs_closed {tm : Tm} {hp : Hp} {o : Op} {vs : List AV} (hc : ClosedT tm hp) (h : callArgs tm o = some vs) : ∀ u ∈ vs, ClosedV hp u := by
  unfold callArgs at h
  split at h
  · intro u hu
    obtain ⟨x, _, hx⟩ := (opvs_spec (ρ := fun n => (n, 0)) (e := fun x => match opv tm x with | some u => u.enc (fun n => (n, 0)) | none => undef) (fun x u hx => by simp [hx]) _ vs h).2 u hu
    exact opv_closed hc hx
  · cases h

theorem step_closed {P : Program} {Γ : Env} (hΓ : Γ.Good) {ops : List Oper} {o : Oper} {nm : Nat} {st st' : St} (hc : Closed st)
    (h : stepD P Γ ops o nm st = some st') : Closed st' ∧ (∀ m, Pres st.hp m → Pres st'.hp m) ∧ st'.base = st.base := by
  unfold stepD at h
  cases g : geff P Γ ops o nm st.tm st.hp with
  | none => simp [g] at h
  | some x =>
    simp only [g, Option.map_some, Option.some.injEq] at h
    subst h
    suffices hs : (∀ m, Pres st.hp m → Pres x.2 m) ∧ ClosedH x.2 ∧ ∀ u, x.1 = some u → ClosedV x.2 u from
      ⟨⟨setT_closed hc.tm hs.1 hs.2.2, hs.2.1⟩, hs.1, rfl⟩
    rcases geff_cases g with ⟨f, _⟩ | ⟨rfl, _⟩
    · unfold effD at f
      cases hcl : cls Γ o.op <;> simp only [hcl] at f
      · cases hv : val P st.tm o with
        | none => simp [hv] at f
        | some v =>
          simp only [hv, Option.map_some, Option.some.injEq] at f
          subst f
          refine ⟨fun m h => h, hc.hp, fun u hu => ?_⟩
          cases hu
          intro m hm
          obtain ⟨y, _, w, hw, hwm⟩ := (val_run (ρ := fun n => (n, 0)) (e := fun x => match opv st.tm x with | some u => u.enc (fun n => (n, 0)) | none => undef) hv (fun x u hx => by simp [hx]) default).2 m hm
          exact opv_closed hc.tm hw m hwm
      · split at f
        · rename_i t y _
          cases hv : loadK P st.tm st.hp t y some with
          | none => simp [hv] at f
          | some v =>
            simp only [hv, Option.map_some, Option.some.injEq] at f
            subst f
            exact ⟨fun m h => h, hc.hp, fun u hu => by cases hu; exact loadK_closed hc.hp hv⟩
        · cases f
      · split at f
        · rename_i t y z _
          cases hv : storeK P st.tm st.hp t y z some with
          | none => simp [hv] at f
          | some hp' =>
            simp only [hv, Option.map_some, Option.some.injEq] at f
            subst f
            unfold storeK at hv
            split at hv
            · rename_i n p _
              split at hv
              · rename_i v hz
                split at hv
                · rename_i tree htree
                  cases hb : (v.oneA && fits P t v) with
                  | false => simp [hb] at hv
                  | true =>
                    simp only [hb, cond_true] at hv
                    rw [putK_eq'] at hv
                    cases hput : put p tree v with
                    | none => simp [hput] at hv
                    | some tree' =>
                      simp only [hput, Option.bind_some, Option.some.injEq] at hv
                      subst hv
                      refine ⟨fun m h => pres_setP h, setP_closed hc.hp (fun m hm => ?_), fun u hu => by cases hu⟩
                      rcases put_has _ _ _ _ hput m hm with h' | h'
                      · exact hc.hp _ _ htree m h'
                      · exact opv_closed hc.tm hz m h'
                · cases hv
              · cases hv
            · cases hv
        · cases f
      · cases ha : allocA P st.tm o.op with
        | none => simp [ha] at f
        | some v =>
          cases hg : st.hp.getD nm none with
          | some _ => simp only [ha, hg] at f; cases f
          | none =>
            simp only [ha, hg, Option.some.injEq] at f
            subst f
            refine ⟨fun m h => pres_setP h, setP_closed hc.hp ?_, fun u hu => by cases hu; intro m hm; simp only [AV.has] at hm; subst hm; exact pres_self⟩
            intro m hm
            unfold allocA at ha
            split at ha
            · split at ha
              · rename_i z hz
                cases ho : z.oneA with
                | false => simp [ho] at ha
                | true =>
                  simp only [ho, cond_true, Option.some.injEq] at ha
                  subst ha
                  obtain ⟨_, _, _, _, _, hh, _⟩ := zeroA_spec hz
                  exact absurd hm (hh m)
              · cases ha
            · split at ha
              · rename_i z hz
                cases ho : z.oneA with
                | false => simp [ho] at ha
                | true =>
                  simp only [ho, cond_true, Option.some.injEq] at ha
                  subst ha
                  exact opv_closed hc.tm hz m hm
              · cases ha
            · cases ha
      · rename_i s
        obtain ⟨fn, hf⟩ := law_of_cls (e := .pure s) hcl
        have hgood := hΓ _ _ hf
        cases hv : callArgs st.tm o.op with
        | none => simp [hv] at f
        | some vs =>
          simp only [hv] at f
          cases hr : s.run vs some with
          | none => simp [hr] at f
          | some v =>
            simp only [hr, Option.map_some, Option.some.injEq] at f
            subst f
            exact ⟨fun m h => h, hc.hp, fun u hu => by cases hu; intro m hm; exact absurd hm (hgood.2.1 _ _ hr m)⟩
      · rename_i s
        obtain ⟨fn, hf⟩ := law_of_cls (e := .read s) hcl
        have hgood := hΓ _ _ hf
        cases hv : callArgs st.tm o.op with
        | none => simp [hv] at f
        | some vs =>
          simp only [hv] at f
          cases hr : s.run vs st.hp some with
          | none => simp [hr] at f
          | some v =>
            simp only [hr, Option.map_some, Option.some.injEq] at f
            subst f
            exact ⟨fun m h => h, hc.hp, fun u hu => by cases hu; exact hgood.2.1 _ _ _ hr hc.hp (callArgs_closed hc.tm hv)⟩
      · rename_i s
        obtain ⟨fn, hf⟩ := law_of_cls (e := .full s) hcl
        have hgood := hΓ _ _ hf
        cases hv : callArgs st.tm o.op with
        | none => simp [hv] at f
        | some vs =>
          simp only [hv] at f
          cases hg : st.hp.getD nm none with
          | some _ => simp only [hg] at f; cases f
          | none =>
            simp only [hg] at f
            rw [hgood.1] at f
            cases hr : s.run vs st.hp nm (fun v h => some (v, h)) with
            | none => simp [hr] at f
            | some y =>
              obtain ⟨v, hp'⟩ := y
              simp only [hr, Option.bind_some, Option.some.injEq] at f
              subst f
              obtain ⟨h1, h2, h3⟩ := hgood.2.1 _ _ _ _ _ hr hc.hp (callArgs_closed hc.tm hv)
              exact ⟨h3, h2, fun u hu => by cases hu; exact h1⟩
      · cases f
    · exact ⟨fun m h => h, hc.hp, fun u hu => by cases hu⟩

theorem setT_wf {tm : Tm} {d : Option Tmp} {v : Option AV} (h : WfT tm) (hv : ∀ u, v = some u → u.wf) : WfT (setT tm d v) := by
  intro i u hu
  cases d with
  | none => exact h i u hu
  | some d =>
    simp only [setT, List.getD_eq_getElem?_getD, List.getElem?_set] at hu
    split at hu
    · split at hu
      · cases v with
        | none => simp at hu
        | some w => simp at hu; subst hu; exact hv w rfl
      · simp at hu
    · exact h i u (by simpa using hu)

theorem setP_wf {hp : Hp} {n : Nat} {v : AV} (h : WfH hp) (hv : v.wf) : WfH (setP none hp n (some v)) := by
  intro m u hu
  rw [getD_setP] at hu
  split at hu
  · cases hu; exact hv
  · exact h m u hu

theorem callArgs_wf {tm : Tm} {o : Op} {vs : List AV} (hw : WfT tm) (h : callArgs tm o = some vs) : ∀ u ∈ vs, u.wf := by
  unfold callArgs at h
  split at h
  · exact opvs_wf hw h
  · cases h

theorem step_wf {P : Program} {Γ : Env} (hΓ : Γ.Good) {ops : List Oper} {o : Oper} {nm : Nat} {st st' : St} (hw : WfSt st)
    (h : stepD P Γ ops o nm st = some st') : WfSt st' := by
  unfold stepD at h
  cases g : geff P Γ ops o nm st.tm st.hp with
  | none => simp [g] at h
  | some x =>
    simp only [g, Option.map_some, Option.some.injEq] at h
    subst h
    suffices hs : WfH x.2 ∧ ∀ u, x.1 = some u → u.wf from ⟨setT_wf hw.tm hs.2, hs.1⟩
    rcases geff_cases g with ⟨f, _⟩ | ⟨rfl, _⟩
    · unfold effD at f
      cases hcl : cls Γ o.op <;> simp only [hcl] at f
      · cases hv : val P st.tm o with
        | none => simp [hv] at f
        | some v =>
          simp only [hv, Option.map_some, Option.some.injEq] at f
          subst f
          exact ⟨hw.hp, fun u hu => by cases hu; exact val_wf hw.tm hv⟩
      · split at f
        · rename_i t y _
          cases hv : loadK P st.tm st.hp t y some with
          | none => simp [hv] at f
          | some v =>
            simp only [hv, Option.map_some, Option.some.injEq] at f
            subst f
            refine ⟨hw.hp, fun u hu => ?_⟩
            cases hu
            unfold loadK at hv
            split at hv
            · rename_i n p _
              split at hv
              · rename_i tree htree
                rw [subK_eq] at hv
                cases hs : sub p tree with
                | none => simp [hs] at hv
                | some u =>
                  simp only [hs, Option.bind_some] at hv
                  cases hf : fits P t u with
                  | false => simp [hf] at hv
                  | true => simp only [hf, cond_true, Option.some.injEq] at hv; subst hv; exact sub_wf _ _ _ hs (hw.hp _ _ htree)
              · cases hv
            · cases hv
        · cases f
      · split at f
        · rename_i t y z _
          cases hv : storeK P st.tm st.hp t y z some with
          | none => simp [hv] at f
          | some hp' =>
            simp only [hv, Option.map_some, Option.some.injEq] at f
            subst f
            refine ⟨?_, fun u hu => by cases hu⟩
            unfold storeK at hv
            split at hv
            · rename_i n p _
              split at hv
              · rename_i v hz
                split at hv
                · rename_i tree htree
                  cases hb : (v.oneA && fits P t v) with
                  | false => simp [hb] at hv
                  | true =>
                    simp only [hb, cond_true] at hv
                    rw [putK_eq'] at hv
                    cases hput : put p tree v with
                    | none => simp [hput] at hv
                    | some tree' =>
                      simp only [hput, Option.bind_some, Option.some.injEq] at hv
                      subst hv
                      exact setP_wf hw.hp (put_wf _ _ _ _ hput (hw.hp _ _ htree) (opv_wf hw.tm hz))
                · cases hv
              · cases hv
            · cases hv
        · cases f
      · cases ha : allocA P st.tm o.op with
        | none => simp [ha] at f
        | some v =>
          cases hg : st.hp.getD nm none with
          | some _ => simp only [ha, hg] at f; cases f
          | none =>
            simp only [ha, hg, Option.some.injEq] at f
            subst f
            refine ⟨setP_wf hw.hp ?_, fun u hu => by cases hu; simp only [AV.wf]⟩
            unfold allocA at ha
            split at ha
            · split at ha
              · rename_i z hz
                cases ho : z.oneA with
                | false => simp [ho] at ha
                | true =>
                  simp only [ho, cond_true, Option.some.injEq] at ha
                  subst ha
                  obtain ⟨_, _, _, _, _, _, hh⟩ := zeroA_spec hz
                  exact hh
              · cases ha
            · split at ha
              · rename_i z hz
                cases ho : z.oneA with
                | false => simp [ho] at ha
                | true => simp only [ho, cond_true, Option.some.injEq] at ha; subst ha; exact opv_wf hw.tm hz
              · cases ha
            · cases ha
      · rename_i s
        obtain ⟨fn, hf⟩ := law_of_cls (e := .pure s) hcl
        have hgood := hΓ _ _ hf
        cases hv : callArgs st.tm o.op with
        | none => simp [hv] at f
        | some vs =>
          simp only [hv] at f
          cases hr : s.run vs some with
          | none => simp [hr] at f
          | some v =>
            simp only [hr, Option.map_some, Option.some.injEq] at f
            subst f
            exact ⟨hw.hp, fun u hu => by cases hu; exact hgood.2.2 _ _ hr (callArgs_wf hw.tm hv)⟩
      · rename_i s
        obtain ⟨fn, hf⟩ := law_of_cls (e := .read s) hcl
        have hgood := hΓ _ _ hf
        cases hv : callArgs st.tm o.op with
        | none => simp [hv] at f
        | some vs =>
          simp only [hv] at f
          cases hr : s.run vs st.hp some with
          | none => simp [hr] at f
          | some v =>
            simp only [hr, Option.map_some, Option.some.injEq] at f
            subst f
            exact ⟨hw.hp, fun u hu => by cases hu; exact hgood.2.2 _ _ _ hr (callArgs_wf hw.tm hv) hw.hp⟩
      · rename_i s
        obtain ⟨fn, hf⟩ := law_of_cls (e := .full s) hcl
        have hgood := hΓ _ _ hf
        cases hv : callArgs st.tm o.op with
        | none => simp [hv] at f
        | some vs =>
          simp only [hv] at f
          cases hg : st.hp.getD nm none with
          | some _ => simp only [hg] at f; cases f
          | none =>
            simp only [hg] at f
            rw [hgood.1] at f
            cases hr : s.run vs st.hp nm (fun v h => some (v, h)) with
            | none => simp [hr] at f
            | some y =>
              obtain ⟨v, hp'⟩ := y
              simp only [hr, Option.bind_some, Option.some.injEq] at f
              subst f
              obtain ⟨h1, h2⟩ := hgood.2.2 _ _ _ _ _ hr (callArgs_wf hw.tm hv) hw.hp
              exact ⟨h2, fun u hu => by cases hu; exact h1⟩
      · cases f
    · exact ⟨hw.hp, fun u hu => by cases hu⟩

/-! orders -/
def rkL (Γ : Env) (l : List Oper) : Nat := (l.map (isAl Γ)).sum

def stepI (P : Program) (Γ : Env) (ops : List Oper) (i : Nat) (st : St) : Option St :=
  match ops[i]? with
  | some o => stepD P Γ ops o (st.base + rkL Γ (ops.take i)) st
  | none => some st

def AnyA (P : Program) (Γ : Env) (ops : List Oper) (G : St → Prop) : Nat → Array Bool → St → Prop
  | 0, listed, st => Region.ready .any ops.toArray listed = [] ∧ G st
  | n + 1, listed, st => (Region.ready .any ops.toArray listed = [] → G st) ∧
      ∀ i ∈ Region.ready .any ops.toArray listed, ∃ st', stepI P Γ ops i st = some st' ∧ AnyA P Γ ops G n (listed.setIfInBounds i true) st'

/-- the test on a region: whoever comes later waits for the earlier one, or may change places with it -/
def pairB (Γ : Env) (ops : List Oper) (i j : Nat) (oi oj : Oper) : Bool :=
  oj.after.any (fun e => Region.binds .any e && e.on == i) || (oi.apart ops.toArray oj && pairOk (cls Γ oi.op) (cls Γ oj.op))

def laterB (Γ : Env) (ops : List Oper) (i : Nat) (oi : Oper) : Nat → List Oper → Bool
  | _, [] => true
  | j, oj :: r => pairB Γ ops i j oi oj && laterB Γ ops i oi (j + 1) r

def chkFrom (Γ : Env) (ops : List Oper) : Nat → List Oper → Bool
  | _, [] => true
  | i, oi :: r => oi.after.all (fun e => !Region.binds .any e || Nat.blt e.on i) && laterB Γ ops i oi (i + 1) r && chkFrom Γ ops (i + 1) r

def chk (Γ : Env) (ops : List Oper) : Bool := chkFrom Γ ops 0 ops

theorem laterB_spec {Γ : Env} {ops : List Oper} {i : Nat} {oi : Oper} : ∀ {l : List Oper} {j : Nat}, laterB Γ ops i oi j l = true → ∀ k oj, l[k]? = some oj → pairB Γ ops i (j + k) oi oj = true
  | [], _, _, k, oj, h => by simp at h
  | o :: l, j, h, 0, oj, hk => by
    simp only [laterB, Bool.and_eq_true] at h
    simp at hk; subst hk; exact h.1
  | o :: l, j, h, k + 1, oj, hk => by
    simp only [laterB, Bool.and_eq_true] at h
    have := laterB_spec h.2 k oj (by simpa using hk)
    rwa [show j + 1 + k = j + (k + 1) by omega] at this

theorem chkFrom_spec {Γ : Env} {ops : List Oper} : ∀ {l : List Oper} {k : Nat}, chkFrom Γ ops k l = true → (∀ j, l[j]? = ops[k + j]?) →
    ∀ i oi, k ≤ i → ops[i]? = some oi → (∀ e ∈ oi.after, Region.binds .any e = true → e.on < i) ∧ ∀ j oj, i < j → ops[j]? = some oj → pairB Γ ops i j oi oj = true
  | [], k, _, hl, i, oi, hk, ho => by
    have := hl (i - k)
    rw [show k + (i - k) = i by omega, ho] at this
    simp at this
  | o :: l, k, h, hl, i, oi, hk, ho => by
    simp only [chkFrom, Bool.and_eq_true] at h
    obtain ⟨⟨h1, h2⟩, h3⟩ := h
    by_cases he : i = k
    · subst he
      have h0 := hl 0
      simp at h0
      rw [ho] at h0
      cases h0
      refine ⟨fun e hm hb => ?_, fun j oj hj hoj => ?_⟩
      · have := Array.all_eq_true_iff_forall_mem.1 h1 e hm
        simp only [hb, Bool.not_true, Bool.false_or] at this
        simp [Nat.blt] at this; omega
      · have hj' := hl (j - i)
        rw [show i + (j - i) = j by omega, hoj] at hj'
        obtain ⟨d, hd⟩ : ∃ d, j - i = d + 1 := ⟨j - i - 1, by omega⟩
        rw [hd, List.getElem?_cons_succ] at hj'
        have := laterB_spec h2 d oj hj'
        rwa [show i + 1 + d = j by omega] at this
    · exact chkFrom_spec h3 (fun j => by have := hl (j + 1); rw [List.getElem?_cons_succ] at this; rw [this]; congr 1; omega) i oi (by omega) ho

theorem pairB_spec {Γ : Env} {ops : List Oper} {i j : Nat} {oi oj : Oper} (h : pairB Γ ops i j oi oj = true) (hno : ∀ e ∈ oj.after, Region.binds .any e = true → e.on ≠ i) :
    oi.apart ops.toArray oj = true ∧ pairOk (cls Γ oi.op) (cls Γ oj.op) = true := by
  unfold pairB at h
  simp only [Bool.or_eq_true, Bool.and_eq_true] at h
  rcases h with h | h
  · obtain ⟨e, he, hb⟩ := Array.any_eq_true'.1 h
    simp only [Bool.and_eq_true, beq_iff_eq] at hb
    exact absurd hb.2 (hno e he hb.1)
  · exact h

theorem rkL_lt {Γ : Env} {ops : List Oper} {i j : Nat} {oi : Oper} (hi : ops[i]? = some oi) (h : isAl Γ oi = 1) (hij : i < j) : rkL Γ (ops.take i) < rkL Γ (ops.take j) := by
  unfold rkL
  have e : ops.take j = ops.take i ++ oi :: (ops.drop (i + 1)).take (j - i - 1) := by
    conv => lhs; rw [split_at hi]
    rw [List.take_append, List.length_take]
    have hlt : i < ops.length := (List.getElem?_eq_some_iff.1 hi).1
    rw [List.take_of_length_le (by simp; omega), Nat.min_eq_left (by omega)]
    obtain ⟨d, hd⟩ : ∃ d, j - i = d + 1 := ⟨j - i - 1, by omega⟩
    rw [hd, List.take_succ_cons]
    simp
  rw [e]
  simp [h]
  omega

theorem AnyA_first {P : Program} {Γ : Env} (hΓ : Γ.Good) {ops : List Oper} {G : St → Prop} {i : Nat} {oi : Oper} (hi : ops[i]? = some oi)
    (hpair : ∀ j oj, i < j → ops[j]? = some oj → pairB Γ ops i j oi oj = true) :
    ∀ (fuel : Nat) (listed : Array Bool) (st s1 : St), Closed st → (∀ j, j < i → listed.getD j true = true) →
      i ∈ Region.ready .any ops.toArray listed → stepI P Γ ops i st = some s1 →
      AnyA P Γ ops G fuel (listed.setIfInBounds i true) s1 → AnyA P Γ ops G (fuel + 1) listed st := by
  intro fuel
  induction fuel with
  | zero =>
    intro listed st s1 _ _ hr hs H
    refine ⟨fun h => (by rw [h] at hr; cases hr), fun j hj => ?_⟩
    by_cases hji : j = i
    · subst hji; exact ⟨s1, hs, H⟩
    · have := ready_mono hj hji
      rw [H.1] at this
      cases this
  | succ fuel ih =>
    intro listed st s1 hcl hlow hr hs H
    refine ⟨fun h => (by rw [h] at hr; cases hr), fun j hj => ?_⟩
    by_cases hji : j = i
    · subst hji; exact ⟨s1, hs, H⟩
    · obtain ⟨s2, hs2, H2⟩ := H.2 j (ready_mono hj hji)
      obtain ⟨hjun, oj, hoj, hall⟩ := mem_ready.1 hj
      have hoj' : ops[j]? = some oj := by simpa using hoj
      have hlt : i < j := by
        rcases Nat.lt_or_ge j i with h | h
        · rw [hlow j h] at hjun; cases hjun
        · omega
      have hnot : ∀ e ∈ oj.after, Region.binds .any e = true → e.on ≠ i := fun e he hb heq => by
        have h1 := hall e he hb
        have h0 := (mem_ready.1 hr).1
        rw [heq] at h1
        rcases Nat.lt_or_ge i listed.size with h' | h'
        · simp [h'] at h0 h1; rw [h0] at h1; cases h1
        · simp [Array.getElem?_eq_none h'] at h1
      obtain ⟨hap, hpk⟩ := pairB_spec (hpair j oj hlt hoj') hnot
      have hb : s1.base = st.base := by
        have := hs; unfold stepI at this; rw [hi] at this; exact (step_closed hΓ hcl this).2.2
      unfold stepI at hs hs2
      simp only [hi] at hs
      simp only [hoj', hb] at hs2
      have hne : ((cls Γ oi.op) matches .alloc) → ((cls Γ oj.op) matches .alloc) → st.base + rkL Γ (ops.take i) ≠ st.base + rkL Γ (ops.take j) := by
        intro h1 _
        have : isAl Γ oi = 1 := by unfold isAl; revert h1; cases cls Γ oi.op <;> simp
        have := rkL_lt hi this hlt
        omega
      obtain ⟨t1, ht1, ht2⟩ := step_comm hcl hap hpk hne hs hs2
      have hclt := step_closed hΓ hcl ht1
      refine ⟨t1, by unfold stepI; simp only [hoj']; exact ht1, ?_⟩
      refine ih (listed.setIfInBounds j true) t1 s2 hclt.1 (fun k hk => ?_) (ready_mono hr (Ne.symm hji)) (by unfold stepI; simp only [hi, hclt.2.2]; exact ht2) ?_
      · have := hlow k hk
        rw [getD_set_ne true (by omega)]; exact this
      · rw [Array.setIfInBounds_comm _ _ hji]
        exact H2

def chain (P : Program) (Γ : Env) (ops : List Oper) : List Oper → Nat → St → Option St
  | [], _, st => some st
  | o :: os, c, st => (stepD P Γ ops o (st.base + c) st).bind (chain P Γ ops os (c + isAl Γ o))

theorem opsK_chain {β : Type} {P : Program} {Γ : Env} (hΓ : Γ.Good) {ops : List Oper} : ∀ (l : List Oper) (c : Nat) (st : St) (K : St → Option β) (r : β), Closed st →
    opsK P Γ ops l c st K = some r → ∃ st', chain P Γ ops l c st = some st' ∧ st'.base = st.base ∧ K ⟨st'.tm, st'.hp, st.base + (c + rkL Γ l)⟩ = some r
  | [], c, st, K, r, _, h => ⟨st, rfl, rfl, by simpa [rkL, opsK] using h⟩
  | o :: os, c, st, K, r, hcl, h => by
    simp only [opsK] at h
    rw [opK_eq hΓ.law] at h
    cases hd : opD P Γ ops o (st.base + c) st with
    | none => simp [hd] at h
    | some s1 =>
      simp only [hd, Option.bind_some] at h
      have hs := opD_step hΓ.law hd
      obtain ⟨hc1, _, hb1⟩ := step_closed hΓ hcl hs
      obtain ⟨st', h1, h2, h3⟩ := opsK_chain hΓ os _ s1 K r hc1 h
      refine ⟨st', by simp [chain, hs, h1], by rw [h2, hb1], ?_⟩
      rw [hb1] at h3
      rw [show c + rkL Γ (o :: os) = c + isAl Γ o + rkL Γ os by simp [rkL]; omega]
      exact h3

/-- the text's order serves every order -/
theorem AnyA_chain {P : Program} {Γ : Env} (hΓ : Γ.Good) {ops : List Oper} {G : St → Prop} (hchk : chk Γ ops = true) : ∀ (l : List Oper) (k : Nat) (listed : Array Bool) (st st' : St),
    (∀ j, l[j]? = ops[k + j]?) → listed.size = ops.length → (∀ j, j < k → listed.getD j true = true) → (∀ j, k ≤ j → j < ops.length → listed.getD j true = false) → k + l.length = ops.length → Closed st →
    chain P Γ ops l (rkL Γ (ops.take k)) st = some st' → G st' → AnyA P Γ ops G l.length listed st
  | [], k, listed, st, st', _, hsz, hlow, _, hk, _, h, hG => by
    simp only [chain, Option.some.injEq] at h
    subst h
    refine ⟨?_, hG⟩
    rw [List.eq_nil_iff_forall_not_mem]
    intro j hj
    obtain ⟨h0, o, ho, _⟩ := mem_ready.1 hj
    have hlt : j < ops.length := by simpa using (Array.getElem?_eq_some_iff.1 ho).1
    simp at hk
    rw [hlow j (by omega)] at h0
    cases h0
  | o :: l, k, listed, st, st', hl, hsz, hlow, hhigh, hk, hcl, h, hG => by
    simp only [chain] at h
    cases hs : stepD P Γ ops o (st.base + rkL Γ (ops.take k)) st with
    | none => simp [hs] at h
    | some s1 =>
      simp only [hs, Option.bind_some] at h
      have ho : ops[k]? = some o := by have := hl 0; simp at this; exact this.symm
      have hlt : k < ops.length := (List.getElem?_eq_some_iff.1 ho).1
      obtain ⟨he, hpair⟩ := chkFrom_spec hchk (fun j => by simp) k o (Nat.zero_le _) ho
      have hrk : rkL Γ (ops.take k) + isAl Γ o = rkL Γ (ops.take (k + 1)) := by
        rw [List.take_add_one, ho]; simp [rkL]
      obtain ⟨hc1, _, _⟩ := step_closed hΓ hcl hs
      have hready : k ∈ Region.ready .any ops.toArray listed := by
        refine mem_ready.2 ⟨hhigh k (Nat.le_refl _) hlt, o, by simpa using ho, fun e hm hb => ?_⟩
        have := hlow e.on (he e hm hb)
        have hlt' : e.on < listed.size := by have := he e hm hb; omega
        simpa [hlt'] using this
      refine AnyA_first hΓ ho hpair l.length listed st s1 hcl hlow hready (by unfold stepI; simp only [ho]; exact hs) ?_
      refine AnyA_chain hΓ hchk l (k + 1) (listed.setIfInBounds k true) s1 st' (fun j => by have := hl (j + 1); rw [List.getElem?_cons_succ] at this; rw [this]; congr 1; omega) (by simp [hsz])
        (fun j hj => ?_) (fun j hj hj2 => ?_) (by simp at hk; omega) hc1 (by rw [← hrk]; exact h) hG
      · by_cases hjk : j = k
        · subst hjk; simp [hsz, hlt]
        · rw [getD_set_ne true (by omega)]; exact hlow j (by omega)
      · rw [getD_set_ne true (by omega)]; exact hhigh j (by omega) hj2
end Go.Sim
