/- Code: the evaluator, and that what it tells the model's code comes to. -/
import Derived.Test.YtllfkflclhnmgaaSimM
namespace Go.Sim

/-- a block whose course is told ahead -/
structure BSem where
  run : {β : Type} → St → (Exit → St → Option β) → Option β

abbrev Blks := Nat → Option BSem

variable {β : Type}

def iterK (F : St → (Exit → St → Option β) → Option β) : Nat → St → (Exit → St → Option β) → Option β
  | 0, _, _ => none
  | n + 1, st, K => F st fun e st' =>
      match e with
      | .normal => iterK F n st' K
      | e => K e st'

def evalC (P : Program) (Γ : Env) (Λ : Blks) (u : Nat) : Code → St → (Exit → St → Option β) → Option β
  | .skip, st, K => K .normal st
  | .region _ ops draw, st, K =>
    bif draw then bif chk Γ ops.toList then opsK P Γ ops.toList ops.toList 0 st (K .normal) else none
    else opsK P Γ ops.toList ops.toList 0 st (K .normal)
  | .seq a b, st, K => evalC P Γ Λ u a st fun e st' =>
      match e with
      | .normal => evalC P Γ Λ u b st' K
      | e => K e st'
  | .cond c a b, st, K =>
    match c with
    | .tmp t =>
      match st.tm.getD t none with
      | some (.bool v) =>
        bif v then evalC P Γ Λ u a ⟨st.tm.set t (some (.bool true)), st.hp, st.base⟩ K
        else evalC P Γ Λ u b ⟨st.tm.set t (some (.bool false)), st.hp, st.base⟩ K
      | _ => none
    | .const (.bool v) => bif v then evalC P Γ Λ u a st K else evalC P Γ Λ u b st K
    | _ => none
  | .block id c, st, K =>
    match Λ id with
    | some s => s.run st K
    | none => evalC P Γ Λ u c st fun e st' =>
      match e with
      | .exit i => bif Nat.beq i id then K .normal st' else K (.exit i) st'
      | e => K e st'
  | .loop c, st, K => iterK (fun st K => evalC P Γ Λ u c st K) u st K
  | .exit id, st, K => K (.exit id) st
  | .ret, st, K => K .ret st
  | _, _, _ => none

/- the blocks in a code -/
def blocks : Code → List (Nat × Code)
  | .seq a b => blocks a ++ blocks b
  | .cond _ a b => blocks a ++ blocks b
  | .block id c => (id, c) :: blocks c
  | .loop c => blocks c
  | .scope c => blocks c
  | _ => []

def BlkSound (P : Program) (id : Nat) (c : Code) (s : BSem) : Prop :=
  ∀ (β : Type) (st : St) (K : Exit → St → Option β) (r : β), s.run st K = some r → ∀ (own : Own) (w0 : World) (ρ : Ren) (a : Act) (w : World), Inv own w0 ρ st a w →
    ∀ Q : Exit → Act → World → Prop, (∀ e ρ' st' a' w', Inv own w0 ρ' st' a' w' → K e st' = some r → Q e a' w') → (Code.block id c).wp P Q a w

theorem set_bool {tm : Tm} {t : Nat} {b : Bool} (hb : tm.getD t none = some (.bool b)) : tm.set t (some (.bool b)) = tm := by
  have hlt : t < tm.length := by
    rcases Nat.lt_or_ge t tm.length with h' | h'
    · exact h'
    · simp [List.getElem?_eq_none h'] at hb
  apply List.ext_getElem?
  intro i
  rw [List.getElem?_set]
  split
  · rename_i hi
    subst hi
    simp only [List.getD_eq_getElem?_getD] at hb
    cases hq : tm[t]? with
    | none => simp [hq] at hb
    | some x => simp [hq] at hb; simp [hlt, hb]
  · rfl

theorem Inv.rebase {own : Own} {w0 w : World} {ρ : Ren} {st : St} {a : Act} (h : Inv own w0 ρ st a w) (n : Nat) (hn : st.base ≤ n) : Inv own w0 ρ ⟨st.tm, st.hp, n⟩ a w :=
  ⟨h.rep, h.tm, ⟨h.closed.tm, h.closed.hp⟩, ⟨h.wf.tm, h.wf.hp⟩, h.kept, h.mine, h.defers, h.low, Nat.le_trans h.base hn⟩

theorem Inv.drew {own : Own} {w0 w : World} {ρ : Ren} {st : St} {a : Act} (h : Inv own w0 ρ st a w) : Inv own w0 ρ st a { w with drawn := w.drawn + 1 } :=
  ⟨h.rep.drew, h.tm, h.closed, h.wf, h.kept.drew, h.mine, h.defers, h.low, h.base⟩

/-- in the text's order -/
theorem ops_sound {P : Program} {Γ : Env} (hE : EnvOk P Γ) {ops : List Oper} {own : Own} {w0 : World} {Q : Exit → Act → World → Prop} : ∀ (l : List Oper) (k c : Nat) (st st' : St) (ρ : Ren) (a : Act) (w : World),
    (∀ j, l[j]? = ops[k + j]?) → chain P Γ ops l c st = some st' → Inv own w0 ρ st a w → (∀ ρ' a' w', Inv own w0 ρ' st' a' w' → Q .normal a' w') →
    wpOps P ops.toArray Q (List.range' k l.length) a w
  | [], k, c, st, st', ρ, a, w, _, h, hI, hQ => by
    simp only [chain, Option.some.injEq] at h
    subst h
    exact hQ ρ a w hI
  | o :: l, k, c, st, st', ρ, a, w, hl, h, hI, hQ => by
    simp only [chain] at h
    cases hs : stepD P Γ ops o (st.base + c) st with
    | none => simp [hs] at h
    | some s1 =>
      simp only [hs, Option.bind_some] at h
      have ho : ops[k]? = some o := by have := hl 0; simp at this; exact this.symm
      simp only [List.length_cons, List.range'_succ]
      rw [wpOps_cons]
      refine step_sound hE ho hI (Nat.le_trans hI.base (Nat.le_add_right _ _)) hs fun ρ' a' w' hI' => ?_
      exact ops_sound hE l (k + 1) _ s1 st' ρ' a' w' (fun j => by have := hl (j + 1); rw [List.getElem?_cons_succ] at this; rw [this]; congr 1; omega) h hI' hQ

/-- in whatever order -/
theorem any_sound {P : Program} {Γ : Env} (hE : EnvOk P Γ) {ops : List Oper} {own : Own} {w0 : World} {Q : Exit → Act → World → Prop} {G : St → Prop}
    (hQ : ∀ st ρ' a' w', G st → Inv own w0 ρ' st a' w' → Q .normal a' w') : ∀ (fuel : Nat) (listed : Array Bool) (st : St) (ρ : Ren) (a : Act) (w : World),
    AnyA P Γ ops G fuel listed st → Inv own w0 ρ st a w → wpAny P .any ops.toArray Q fuel listed a w
  | 0, _, st, ρ, a, w, h, hI => ⟨h.1, hQ st ρ a w h.2 hI⟩
  | n + 1, listed, st, ρ, a, w, h, hI => by
    refine ⟨fun h0 => hQ st ρ a w (h.1 h0) hI, fun i hi => ?_⟩
    obtain ⟨st', hs, hA⟩ := h.2 i hi
    obtain ⟨_, o, ho, _⟩ := mem_ready.1 hi
    have ho' : ops[i]? = some o := by simpa using ho
    unfold stepI at hs
    simp only [ho'] at hs
    exact step_sound hE ho' hI (Nat.le_trans hI.base (Nat.le_add_right _ _)) hs fun ρ' a' w' hI' => any_sound hE hQ n _ st' ρ' a' w' hA hI'

theorem region_sound {P : Program} {Γ : Env} (hE : EnvOk P Γ) (hm : P.follows .mixedOrders = true) {id : Nat} {ops : Array Oper} {draw : Bool} {own : Own} {w0 w : World} {ρ : Ren} {st : St} {a : Act}
    {K : St → Option β} {r : β} (hI : Inv own w0 ρ st a w)
    (h : (bif draw then bif chk Γ ops.toList then opsK P Γ ops.toList ops.toList 0 st K else none else opsK P Γ ops.toList ops.toList 0 st K) = some r)
    {Q : Exit → Act → World → Prop} (hQ : ∀ ρ' st' a' w', Inv own w0 ρ' st' a' w' → K st' = some r → Q .normal a' w') : (Code.region id ops draw).wp P Q a w := by
  cases draw with
  | false =>
    simp only [cond_false] at h
    obtain ⟨st', h1, hb', h3⟩ := opsK_chain hE.good _ _ _ _ _ hI.closed h
    refine wp_region ?_
    have := ops_sound (Q := Q) hE ops.toList 0 0 st st' ρ a w (fun j => by simp) h1 hI (fun ρ' a' w' hI' => hQ ρ' _ a' w' (hI'.rebase _ (by rw [hb']; omega)) h3)
    simpa [List.range_eq_range'] using this
  | true =>
    simp only [cond_true] at h
    cases hc : chk Γ ops.toList with
    | false => simp [hc] at h
    | true =>
      simp only [hc, cond_true] at h
      obtain ⟨st', h1, hb', h3⟩ := opsK_chain hE.good _ _ _ _ _ hI.closed h
      refine wp_region_any hm ?_
      have hA := AnyA_chain (G := fun s => s = st') hE.good hc ops.toList 0 (Array.replicate ops.size false) st st' (fun j => by simp) (by simp) (fun j hj => by omega) (fun j _ hj => by simp at hj; simp [hj]) (by simp) hI.closed (by simpa [rkL] using h1) rfl
      have := any_sound (Q := Q) hE (fun s ρ' a' w' hs hI' => by subst hs; exact hQ ρ' _ a' w' (hI'.rebase _ (by rw [hb']; omega)) h3) ops.toList.length (Array.replicate ops.size false) st ρ a _ hA hI.drew
      simpa using this

theorem iter_sound {P : Program} {c : Code} {own : Own} {w0 : World} {F : St → (Exit → St → Option β) → Option β} {r : β}
    (hF : ∀ (st : St) (K : Exit → St → Option β) (ρ : Ren) (a : Act) (w : World), F st K = some r → Inv own w0 ρ st a w →
      ∀ Q : Exit → Act → World → Prop, (∀ e ρ' st' a' w', Inv own w0 ρ' st' a' w' → K e st' = some r → Q e a' w') → c.wp P Q a w) :
    ∀ (n : Nat) (st : St) (K : Exit → St → Option β) (ρ : Ren) (a : Act) (w : World), iterK F n st K = some r → Inv own w0 ρ st a w →
      ∀ Q : Exit → Act → World → Prop, (∀ e ρ' st' a' w', Inv own w0 ρ' st' a' w' → K e st' = some r → Q e a' w') →
        (∀ e a w, Q e a w → ∀ e', e = e' → Q e' a w) → ∀ (b : Frame) (k : List Item) (cs : List Frame), ∃ e a' w', Q e a' w' ∧ Arrives P (lone (b.at a (.code c :: .inLoop c :: k)) cs w) b k cs e a' w'
  | 0, _, _, _, _, _, h, _, _, _, _ => by simp [iterK] at h
  | n + 1, st, K, ρ, a, w, h, hI, Q, hQ, hid => by
    intro b k cs
    simp only [iterK] at h
    have hb := hF st _ ρ a w h hI (fun e a' w' => ∃ ρ' st', Inv own w0 ρ' st' a' w' ∧ (match e with | .normal => iterK F n st' K | e => K e st') = some r) (fun e ρ' st' a' w' hI' hK => ⟨ρ', st', hI', hK⟩)
    obtain ⟨e, a₁, w₁, ⟨ρ', st', hI', hK⟩, harr⟩ := hb b (.inLoop c :: k) cs
    cases e with
    | normal =>
      obtain ⟨e₂, a₂, w₂, hq₂, harr₂⟩ := iter_sound hF n st' K ρ' a₁ w₁ hK hI' Q hQ hid b k cs
      exact ⟨e₂, a₂, w₂, hq₂, .of_steps (Steps.trans harr (.one step_inLoop)) harr₂⟩
    | exit id => exact ⟨_, a₁, w₁, hQ _ _ _ _ _ hI' hK, .pass (x := .inLoop c) rfl (fun _ _ => .inl (by simp)) harr⟩
    | goto l => exact ⟨_, a₁, w₁, hQ _ _ _ _ _ hI' hK, .pass (x := .inLoop c) rfl (fun _ _ => .inl (by simp)) harr⟩
    | ret => exact ⟨_, a₁, w₁, hQ _ _ _ _ _ hI' hK, .pass (x := .inLoop c) rfl (fun _ _ => .inl (by simp)) harr⟩
    | panic ch => exact ⟨_, a₁, w₁, hQ _ _ _ _ _ hI' hK, .pass (x := .inLoop c) rfl (fun _ _ => .inl (by simp)) harr⟩
    | outgrown => exact ⟨_, a₁, w₁, hQ _ _ _ _ _ hI' hK, .pass (x := .inLoop c) rfl (fun _ _ => .inl (by simp)) harr⟩

theorem iter_wp {P : Program} {c : Code} {own : Own} {w0 : World} {F : St → (Exit → St → Option β) → Option β} {r : β}
    (hF : ∀ (st : St) (K : Exit → St → Option β) (ρ : Ren) (a : Act) (w : World), F st K = some r → Inv own w0 ρ st a w →
      ∀ Q : Exit → Act → World → Prop, (∀ e ρ' st' a' w', Inv own w0 ρ' st' a' w' → K e st' = some r → Q e a' w') → c.wp P Q a w)
    (n : Nat) (st : St) (K : Exit → St → Option β) (ρ : Ren) (a : Act) (w : World) (h : iterK F n st K = some r) (hI : Inv own w0 ρ st a w)
    (Q : Exit → Act → World → Prop) (hQ : ∀ e ρ' st' a' w', Inv own w0 ρ' st' a' w' → K e st' = some r → Q e a' w') : (Code.loop c).wp P Q a w := by
  intro b k cs
  obtain ⟨e, a', w', hq, harr⟩ := iter_sound hF n st K ρ a w h hI Q hQ (fun e a w h e' he => he ▸ h) b k cs
  exact ⟨e, a', w', hq, .of_steps (.one step_loop) harr⟩

/-- **the evaluator is sound** -/
theorem evalC_sound {P : Program} {Γ : Env} {Λ : Blks} {u : Nat} (hE : EnvOk P Γ) (hm : P.follows .mixedOrders = true) {body : Code} (hΛ : ∀ id s, Λ id = some s → ∀ c, (id, c) ∈ blocks body → BlkSound P id c s)
    {own : Own} {w0 : World} {r : β} : ∀ (c : Code), (∀ p ∈ blocks c, p ∈ blocks body) → ∀ (st : St) (K : Exit → St → Option β) (ρ : Ren) (a : Act) (w : World),
      evalC P Γ Λ u c st K = some r → Inv own w0 ρ st a w → ∀ Q : Exit → Act → World → Prop, (∀ e ρ' st' a' w', Inv own w0 ρ' st' a' w' → K e st' = some r → Q e a' w') → c.wp P Q a w
  | .skip, _, st, K, ρ, a, w, h, hI, Q, hQ => wp_skip (hQ .normal ρ st a w hI h)
  | .region id ops draw, _, st, K, ρ, a, w, h, hI, Q, hQ => by
    simp only [evalC] at h
    exact region_sound hE hm hI h fun ρ' st' a' w' hI' hK => hQ .normal ρ' st' a' w' hI' hK
  | .seq x y, hs, st, K, ρ, a, w, h, hI, Q, hQ => by
    simp only [evalC] at h
    refine wp_seq (evalC_sound hE hm hΛ x (fun p hp => hs p (by simp [blocks, hp])) st _ ρ a w h hI _ fun e ρ' st' a' w' hI' hK => ?_)
    cases e with
    | normal => exact evalC_sound hE hm hΛ y (fun p hp => hs p (by simp [blocks, hp])) st' K ρ' a' w' hK hI' Q hQ
    | _ => exact hQ _ ρ' st' a' w' hI' hK
  | .cond c x y, hs, st, K, ρ, a, w, h, hI, Q, hQ => by
    simp only [evalC] at h
    split at h
    · rename_i t
      split at h
      · rename_i v hv
        have he : a.eval (.tmp t) = .bool v := hI.tm.eval (.tmp t) _ hv
        cases v with
        | true =>
          simp only [cond_true, set_bool hv] at h
          exact wp_cond_true he (evalC_sound hE hm hΛ x (fun p hp => hs p (by simp [blocks, hp])) st K ρ a w h hI Q hQ)
        | false =>
          simp only [cond_false, set_bool hv] at h
          exact wp_cond_false he (evalC_sound hE hm hΛ y (fun p hp => hs p (by simp [blocks, hp])) st K ρ a w h hI Q hQ)
      · cases h
    · rename_i v
      cases v with
      | true =>
        simp only [cond_true] at h
        exact wp_cond_true rfl (evalC_sound hE hm hΛ x (fun p hp => hs p (by simp [blocks, hp])) st K ρ a w h hI Q hQ)
      | false =>
        simp only [cond_false] at h
        exact wp_cond_false rfl (evalC_sound hE hm hΛ y (fun p hp => hs p (by simp [blocks, hp])) st K ρ a w h hI Q hQ)
    · cases h
  | .block id c, hs, st, K, ρ, a, w, h, hI, Q, hQ => by
    simp only [evalC] at h
    split at h
    · rename_i s hl
      exact hΛ id s hl c (hs _ (by simp [blocks])) β st K r h own w0 ρ a w hI Q hQ
    · refine wp_block (evalC_sound hE hm hΛ c (fun p hp => hs p (by simp [blocks, hp])) st _ ρ a w h hI _ fun e ρ' st' a' w' hI' hK => ?_)
      cases e with
      | exit i =>
        simp only [Exit.inBlock]
        by_cases hi : i = id
        · subst hi
          simp only [Nat.beq_refl, cond_true] at hK
          simp only [if_true]
          exact hQ _ ρ' st' a' w' hI' hK
        · have : Nat.beq i id = false := by
            cases hb : Nat.beq i id with
            | false => rfl
            | true => exact absurd (Nat.eq_of_beq_eq_true hb) hi
          simp only [this, cond_false] at hK
          simp only [hi, if_false]
          exact hQ _ ρ' st' a' w' hI' hK
      | _ => exact hQ _ ρ' st' a' w' hI' hK
  | .loop c, hs, st, K, ρ, a, w, h, hI, Q, hQ => by
    simp only [evalC] at h
    exact iter_wp (fun st K ρ a w h hI Q hQ => evalC_sound hE hm hΛ c (fun p hp => hs p (by simp [blocks, hp])) st K ρ a w h hI Q hQ) u st K ρ a w h hI Q hQ
  | .exit id, _, st, K, ρ, a, w, h, hI, Q, hQ => wp_exit (hQ (.exit id) ρ st a w hI h)
  | .ret, _, st, K, ρ, a, w, h, hI, Q, hQ => wp_ret (hQ .ret ρ st a w hI h)
  | .rangeFunc .., _, _, _, _, _, _, h, _, _, _ => by simp [evalC] at h
  | .scope _, _, _, _, _, _, _, h, _, _, _ => by simp [evalC] at h
  | .label _, _, _, _, _, _, _, h, _, _, _ => by simp [evalC] at h
  | .goto _, _, _, _, _, _, _, h, _, _, _ => by simp [evalC] at h
  | .refuse _, _, _, _, _, _, _, h, _, _, _ => by simp [evalC] at h
end Go.Sim
