/- Two operations that do not wait for one another, in either order; a region in any order. -/
import Derived.Test.YtllfkflclhnmgaaSimI
namespace Go.Sim

def Cls.still : Cls → Bool
  | .val | .pure _ => true
  | _ => false
def Cls.looks : Cls → Bool
  | .val | .pure _ | .load | .read _ => true
  | _ => false

def pairOk (c d : Cls) : Bool :=
  c.still || d.still || (c.looks && d.looks) ||
  match c, d with
  | .load, .alloc | .alloc, .load | .alloc, .alloc | .alloc, .store | .store, .alloc => true
  | _, _ => false

/-- a guard decides as it does, whatever memory holds -/
theorem geff_cases {P : Program} {Γ : Env} {ops : List Oper} {o : Oper} {nm : Nat} {tm : Tm} {hp : Hp} {x : Option AV × Hp} (h : geff P Γ ops o nm tm hp = some x) :
    (effD P Γ o nm tm hp = some x ∧ ∀ hp2, geff P Γ ops o nm tm hp2 = effD P Γ o nm tm hp2) ∨ (x = (none, hp) ∧ ∀ hp2, geff P Γ ops o nm tm hp2 = some (none, hp2)) := by
  unfold geff at h
  split at h
  · rename_i hg
    exact .inl ⟨h, fun hp2 => by simp [geff, hg]⟩
  · rename_i j want hg
    split at h
    · rename_i t ht
      split at h
      · rename_i b hb
        split at h
        · rename_i e
          exact .inl ⟨h, fun hp2 => by simp [geff, hg, ht, hb, e, -List.getD_eq_getElem?_getD]⟩
        · rename_i e
          cases h
          exact .inr ⟨rfl, fun hp2 => by simp [geff, hg, ht, hb, e, -List.getD_eq_getElem?_getD]⟩
      · cases h
    · cases h

/-- how an effect turns memory, by its class -/
theorem geff_still {P : Program} {Γ : Env} {ops : List Oper} {o : Oper} {nm : Nat} {tm : Tm} {hp hp2 : Hp} {x : Option AV × Hp} (hc : (cls Γ o.op).still = true)
    (h : geff P Γ ops o nm tm hp = some x) : x.2 = hp ∧ geff P Γ ops o nm tm hp2 = some (x.1, hp2) := by
  have key : ∀ y, effD P Γ o nm tm hp = some y → y.2 = hp ∧ effD P Γ o nm tm hp2 = some (y.1, hp2) := by
    intro y hy
    unfold effD at hy ⊢
    cases hcl : cls Γ o.op <;> simp only [hcl, Cls.still, Bool.false_eq_true] at hc hy ⊢
    · cases hv : val P tm o with
      | none => simp [hv] at hy
      | some v => simp only [hv, Option.map_some, Option.some.injEq] at hy; subst hy; simp
    · rename_i s
      cases hv : callArgs tm o.op with
      | none => simp [hv] at hy
      | some vs =>
        simp only [hv] at hy ⊢
        cases hr : s.run vs some with
        | none => simp [hr] at hy
        | some v => simp only [hr, Option.map_some, Option.some.injEq] at hy; subst hy; simp
  rcases geff_cases h with ⟨f, f'⟩ | ⟨rfl, f'⟩
  · obtain ⟨e1, e2⟩ := key x f
    exact ⟨e1, by rw [f' hp2]; exact e2⟩
  · exact ⟨rfl, f' hp2⟩

theorem geff_looks {P : Program} {Γ : Env} {ops : List Oper} {o : Oper} {nm : Nat} {tm : Tm} {hp : Hp} {x : Option AV × Hp} (hc : (cls Γ o.op).looks = true)
    (h : geff P Γ ops o nm tm hp = some x) : x.2 = hp := by
  have key : ∀ y, effD P Γ o nm tm hp = some y → y.2 = hp := by
    intro y hy
    unfold effD at hy
    cases hcl : cls Γ o.op <;> simp only [hcl, Cls.looks, Bool.false_eq_true] at hc hy
    · cases hv : val P tm o with
      | none => simp [hv] at hy
      | some v => simp only [hv, Option.map_some, Option.some.injEq] at hy; subst hy; rfl
    · split at hy
      · rename_i t x' _
        cases hv : loadK P tm hp t x' some with
        | none => simp [hv] at hy
        | some v => simp only [hv, Option.map_some, Option.some.injEq] at hy; subst hy; rfl
      · cases hy
    · rename_i s
      cases hv : callArgs tm o.op with
      | none => simp [hv] at hy
      | some vs =>
        simp only [hv] at hy
        cases hr : s.run vs some with
        | none => simp [hr] at hy
        | some v => simp only [hr, Option.map_some, Option.some.injEq] at hy; subst hy; rfl
    · rename_i s
      cases hv : callArgs tm o.op with
      | none => simp [hv] at hy
      | some vs =>
        simp only [hv] at hy
        cases hr : s.run vs hp some with
        | none => simp [hr] at hy
        | some v => simp only [hr, Option.map_some, Option.some.injEq] at hy; subst hy; rfl
  rcases geff_cases h with ⟨f, _⟩ | ⟨rfl, _⟩
  · exact key x f
  · rfl

theorem opv_closed {tm : Tm} {hp : Hp} (hc : ClosedT tm hp) {x : Operand} {v : AV} (h : opv tm x = some v) : ClosedV hp v := by
  cases x with
  | tmp t => exact hc t v h
  | const c => intro m hm; exact absurd hm ((constA_enc (ρ := fun n => (n, 0)) h).2 m)
  | global g => cases h
  | func f => cases h; intro m hm; simp [AV.has] at hm

theorem getD_setP_ne {hp : Hp} {n m : Nat} {v : Option AV} (h : n ≠ m) : (setP none hp n v).getD m none = hp.getD m none := by
  rw [getD_setP, if_neg h]

/-- a load, seen over another block -/
theorem loadK_other {P : Program} {tm : Tm} {hp : Hp} {t : TypeId} {x : Operand} {n : Nat} {v : Option AV} (hx : ∀ m p, opv tm x = some (.ptr m p) → n ≠ m) :
    loadK P tm (setP none hp n v) t x some = loadK P tm hp t x some := by
  unfold loadK
  split
  · rename_i m p hm
    rw [getD_setP_ne (hx m p hm)]
  · rfl

theorem eff_comm {P : Program} {Γ : Env} {oi oj : Oper} {ni nj : Nat} {tm : Tm} {hp : Hp} {xi xj : Option AV × Hp} (hcl : ClosedT tm hp)
    (hn : (cls Γ oi.op matches .alloc) → (cls Γ oj.op matches .alloc) → ni ≠ nj)
    (hp' : pairOk (cls Γ oi.op) (cls Γ oj.op) = true)
    (hsi : (cls Γ oi.op).still = false) (hsj : (cls Γ oj.op).still = false) (hl : ((cls Γ oi.op).looks && (cls Γ oj.op).looks) = false)
    (h1 : effD P Γ oi ni tm hp = some xi) (h2 : effD P Γ oj nj tm xi.2 = some xj) :
    ∃ yj yi, effD P Γ oj nj tm hp = some yj ∧ effD P Γ oi ni tm yj.2 = some yi ∧ yj.1 = xj.1 ∧ yi.1 = xi.1 ∧ yi.2 = xj.2 := by
  simp only [pairOk, hsi, hsj, hl, Bool.false_or] at hp'
  have al : ∀ {o : Oper} {n : Nat} {h x}, cls Γ o.op = .alloc → effD P Γ o n tm h = some x → ∃ v, allocA P tm o.op = some v ∧ h.getD n none = none ∧ x = (some (.ptr n []), setP none h n (some v)) := by
    intro o n h x hc he
    unfold effD at he
    simp only [hc] at he
    cases ha : allocA P tm o.op with
    | none => simp [ha] at he
    | some v =>
      cases hg : h.getD n none with
      | some _ => simp only [ha, hg] at he; cases he
      | none => simp only [ha, hg, Option.some.injEq] at he; exact ⟨v, rfl, rfl, he.symm⟩
  have al' : ∀ {o : Oper} {n : Nat} {h v}, cls Γ o.op = .alloc → allocA P tm o.op = some v → h.getD n none = none → effD P Γ o n tm h = some (some (.ptr n []), setP none h n (some v)) := by
    intro o n h v hc ha hg
    unfold effD
    simp only [hc, ha, hg]
  have ne_of : ∀ {n m : Nat} {h : Hp} {v : AV}, h.getD n none = none → h.getD m none = some v → n ≠ m := by
    intro n m h v a b e; subst e; rw [a] at b; cases b
  cases hci : cls Γ oi.op <;> cases hcj : cls Γ oj.op <;> simp only [hci, hcj, Cls.still, Cls.looks, Bool.false_eq_true, Bool.and_self] at hp' hsi hsj hl
  · -- load, alloc
    obtain ⟨v, ha, hg, rfl⟩ := al hcj h2
    unfold effD at h1
    simp only [hci] at h1
    split at h1
    · rename_i t x ho
      cases hld : loadK P tm hp t x some with
      | none => simp [hld] at h1
      | some u =>
        simp only [hld, Option.map_some, Option.some.injEq] at h1
        subst h1
        refine ⟨_, (some u, setP none hp nj (some v)), al' hcj ha hg, ?_, rfl, rfl, rfl⟩
        unfold effD
        simp only [hci, ho]
        rw [loadK_other, hld]
        · rfl
        · intro m p hm
          obtain ⟨t, ht⟩ := opv_closed hcl hm m (by simp [AV.has])
          exact ne_of hg ht
    · cases h1
  · -- store, alloc
    obtain ⟨v, ha, hg, rfl⟩ := al hcj h2
    unfold effD at h1
    simp only [hci] at h1
    split at h1
    · rename_i t x y ho
      unfold storeK at h1
      split at h1
      · rename_i m p hx
        split at h1
        · rename_i u hy
          split at h1
          · rename_i tree htree
            cases hb : (u.oneA && fits P t u) with
            | false => simp [hb] at h1
            | true =>
              simp only [hb, cond_true] at h1
              rw [putK_eq'] at h1
              cases hput : put p tree u with
              | none => simp [hput] at h1
              | some tree' =>
                simp only [hput, Option.bind_some, Option.map_some, Option.some.injEq] at h1
                subst h1
                simp only at hg
                have hne : nj ≠ m := by
                  intro e; subst e; rw [getD_setP] at hg; simp at hg
                rw [getD_setP_ne (Ne.symm hne)] at hg
                refine ⟨_, (none, setP none (setP none hp nj (some v)) m (some tree')), al' hcj ha hg, ?_, rfl, rfl, by rw [setP_comm _ _ _ _ _ _ hne]⟩
                unfold effD
                simp only [hci, ho, storeK, hx, hy, getD_setP_ne hne, htree, hb, cond_true]
                rw [putK_eq', hput]
                rfl
          · cases h1
        · cases h1
      · cases h1
    · cases h1
  · -- alloc, load
    obtain ⟨v, ha, hg, rfl⟩ := al hci h1
    unfold effD at h2
    simp only [hcj] at h2
    split at h2
    · rename_i t x ho
      have hother : loadK P tm (setP none hp ni (some v)) t x some = loadK P tm hp t x some := loadK_other (fun m p hm => by
        obtain ⟨t, ht⟩ := opv_closed hcl hm m (by simp [AV.has])
        exact ne_of hg ht)
      rw [hother] at h2
      cases hld : loadK P tm hp t x some with
      | none => simp [hld] at h2
      | some u =>
        simp only [hld, Option.map_some, Option.some.injEq] at h2
        subst h2
        refine ⟨(some u, hp), _, ?_, al' hci ha hg, rfl, rfl, rfl⟩
        unfold effD
        rw [hcj]
        simp only [ho, hld, Option.map_some]
    · cases h2
  · -- alloc, store
    obtain ⟨v, ha, hg, rfl⟩ := al hci h1
    unfold effD at h2
    simp only [hcj] at h2
    split at h2
    · rename_i t x y ho
      unfold storeK at h2
      split at h2
      · rename_i m p hx
        have hne : ni ≠ m := by
          obtain ⟨t, ht⟩ := opv_closed hcl hx m (by simp [AV.has])
          exact ne_of hg ht
        split at h2
        · rename_i u hy
          split at h2
          · rename_i tree htree
            rw [getD_setP_ne hne] at htree
            cases hb : (u.oneA && fits P t u) with
            | false => simp [hb] at h2
            | true =>
              simp only [hb, cond_true] at h2
              rw [putK_eq'] at h2
              cases hput : put p tree u with
              | none => simp [hput] at h2
              | some tree' =>
                simp only [hput, Option.bind_some, Option.map_some, Option.some.injEq] at h2
                subst h2
                refine ⟨(none, setP none hp m (some tree')), _, ?_, al' hci ha ?_, rfl, rfl, by simp only; rw [setP_comm _ _ _ _ _ _ hne]⟩
                · unfold effD
                  simp only [hcj, ho, storeK, hx, hy, htree, hb, cond_true]
                  rw [putK_eq', hput]
                  rfl
                · simp only; rw [getD_setP_ne (Ne.symm hne)]; exact hg
          · cases h2
        · cases h2
      · cases h2
    · cases h2
  · -- alloc, alloc
    obtain ⟨v, ha, hg, rfl⟩ := al hci h1
    obtain ⟨u, hb, hg2, rfl⟩ := al hcj h2
    have hne : ni ≠ nj := hn (by simp [hci]) (by simp [hcj])
    rw [getD_setP_ne hne] at hg2
    refine ⟨_, _, al' hcj hb hg2, al' hci ha (by simp only; rw [getD_setP_ne (Ne.symm hne)]; exact hg), rfl, rfl, by simp only; rw [setP_comm _ _ _ _ _ _ (Ne.symm hne)]⟩

theorem setT_comm {tm : Tm} {x y : Option Tmp} {v u : Option AV} (h : ∀ d, x = some d → y ≠ some d) : setT (setT tm x v) y u = setT (setT tm y u) x v := by
  cases x with
  | none => rfl
  | some d =>
    cases y with
    | none => rfl
    | some e =>
      have hne : d ≠ e := fun he => h d rfl (he ▸ rfl)
      simp [setT, List.set_comm _ _ hne]

/-- two operations in the other order -/
theorem step_comm {P : Program} {Γ : Env} {ops : List Oper} {oi oj : Oper} {ni nj : Nat} {st s1 s2 : St} (hcl : Closed st)
    (hap : oi.apart ops.toArray oj = true) (hp' : pairOk (cls Γ oi.op) (cls Γ oj.op) = true)
    (hn : (cls Γ oi.op matches .alloc) → (cls Γ oj.op matches .alloc) → ni ≠ nj)
    (h1 : stepD P Γ ops oi ni st = some s1) (h2 : stepD P Γ ops oj nj s1 = some s2) :
    ∃ t1, stepD P Γ ops oj nj st = some t1 ∧ stepD P Γ ops oi ni t1 = some s2 := by
  obtain ⟨a1, a2, a3⟩ := Oper.apart_spec hap
  unfold stepD at h1 h2 ⊢
  cases g1 : geff P Γ ops oi ni st.tm st.hp with
  | none => simp [g1] at h1
  | some xi =>
    simp only [g1, Option.map_some, Option.some.injEq] at h1
    subst h1
    simp only at h2
    rw [geff_set (fun t ht => a1 t ht)] at h2
    cases g2 : geff P Γ ops oj nj st.tm xi.2 with
    | none => simp [g2] at h2
    | some xj =>
      simp only [g2, Option.map_some, Option.some.injEq] at h2
      subst h2
      suffices hs : ∃ yj yi, geff P Γ ops oj nj st.tm st.hp = some yj ∧ geff P Γ ops oi ni st.tm yj.2 = some yi ∧ yj.1 = xj.1 ∧ yi.1 = xi.1 ∧ yi.2 = xj.2 by
        obtain ⟨yj, yi, e1, e2, e3, e4, e5⟩ := hs
        refine ⟨⟨setT st.tm oj.dst yj.1, yj.2, st.base⟩, by simp [e1], ?_⟩
        simp only
        rw [geff_set (fun t ht => a3 t ht), e2]
        simp only [Option.map_some, Option.some.injEq, St.mk.injEq, and_true]
        exact ⟨by rw [e3, e4, setT_comm a2], e5⟩
      cases hsi : (cls Γ oi.op).still with
      | true =>
        obtain ⟨e1, e2⟩ := geff_still (hp2 := xj.2) hsi g1
        rw [e1] at g2
        exact ⟨xj, _, g2, e2, rfl, rfl, rfl⟩
      | false =>
        cases hsj : (cls Γ oj.op).still with
        | true =>
          obtain ⟨e1, _⟩ := geff_still (hp2 := st.hp) hsj g2
          obtain ⟨_, e2⟩ := geff_still (hp2 := st.hp) hsj g2
          exact ⟨_, xi, e2, g1, rfl, rfl, e1.symm⟩
        | false =>
          cases hl : ((cls Γ oi.op).looks && (cls Γ oj.op).looks) with
          | true =>
            simp only [Bool.and_eq_true] at hl
            have e1 := geff_looks hl.1 g1
            rw [e1] at g2
            have e2 := geff_looks hl.2 g2
            exact ⟨xj, xi, g2, by rw [e2]; exact g1, rfl, rfl, by rw [e1, e2]⟩
          | false =>
            rcases geff_cases g1 with ⟨f1, f1'⟩ | ⟨rfl, f1'⟩
            · rcases geff_cases g2 with ⟨f2, f2'⟩ | ⟨rfl, f2'⟩
              · obtain ⟨yj, yi, e1, e2, e3, e4, e5⟩ := eff_comm hcl.tm hn hp' hsi hsj hl f1 f2
                exact ⟨yj, yi, by rw [f2' st.hp]; exact e1, by rw [f1' yj.2]; exact e2, e3, e4, e5⟩
              · exact ⟨_, xi, f2' st.hp, g1, rfl, rfl, rfl⟩
            · exact ⟨xj, _, g2, f1' xj.2, rfl, rfl, rfl⟩
end Go.Sim
