/- Curried holes; loops of a function at hand. -/
import Derived.Test.YtllfkflclhnmgaaSimS
namespace Go.Sim

/-- a function of holes, one by one -/
def HFn : List HK → Type → Type
  | [], α => α
  | .i :: r, α => Int → HFn r α
  | .b :: r, α => Bool → HFn r α
  | .l :: r, α => List Int → HFn r α
  | .s :: r, α => List UInt8 → HFn r α

def apH {α : Type} : (ks : List HK) → HFn ks (Option α) → List Hv → Option α
  | [], f, [] => f
  | .i :: r, f, .i a :: hs => apH r (f a) hs
  | .b :: r, f, .b a :: hs => apH r (f a) hs
  | .l :: r, f, .l a :: hs => apH r (f a) hs
  | .s :: r, f, .s a :: hs => apH r (f a) hs
  | _, _, _ => none

theorem no_some {α : Type} {r : α} (h : (none : Option α) = some r) {p : Prop} : p := by cases h
theorem apH_kinds {α : Type} : ∀ {ks : List HK} {f : HFn ks (Option α)} {hs : List Hv} {r : α}, apH ks f hs = some r → hs.map Hv.kind = ks
  | [], _, [], _, _ => rfl
  | [], _, _ :: _, _, h => no_some h
  | .i :: _, _, [], _, h => no_some h
  | .i :: _, f, .i a :: _, _, h => congrArg (HK.i :: ·) (apH_kinds (f := f a) h)
  | .i :: _, _, .b _ :: _, _, h => no_some h
  | .i :: _, _, .l _ :: _, _, h => no_some h
  | .i :: _, _, .s _ :: _, _, h => no_some h
  | .b :: _, _, [], _, h => no_some h
  | .b :: _, _, .i _ :: _, _, h => no_some h
  | .b :: _, f, .b a :: _, _, h => congrArg (HK.b :: ·) (apH_kinds (f := f a) h)
  | .b :: _, _, .l _ :: _, _, h => no_some h
  | .b :: _, _, .s _ :: _, _, h => no_some h
  | .l :: _, _, [], _, h => no_some h
  | .l :: _, _, .i _ :: _, _, h => no_some h
  | .l :: _, _, .b _ :: _, _, h => no_some h
  | .l :: _, f, .l a :: _, _, h => congrArg (HK.l :: ·) (apH_kinds (f := f a) h)
  | .l :: _, _, .s _ :: _, _, h => no_some h
  | .s :: _, _, [], _, h => no_some h
  | .s :: _, _, .i _ :: _, _, h => no_some h
  | .s :: _, _, .b _ :: _, _, h => no_some h
  | .s :: _, _, .l _ :: _, _, h => no_some h
  | .s :: _, f, .s a :: _, _, h => congrArg (HK.s :: ·) (apH_kinds (f := f a) h)

theorem blkIn_loop : ∀ {l : List (Nat × Code)} {id : Nat} {b : Code}, blkIn l id = .loop b → (id, .loop b) ∈ l
  | [], id, b, h => by simp [blkIn] at h
  | (g, c) :: r, id, b, h => by
    simp only [blkIn] at h
    cases hb : Nat.beq g id with
    | true =>
      simp only [hb, cond_true] at h
      have := Nat.eq_of_beq_eq_true hb
      subst this; subst h
      simp
    | false =>
      simp only [hb, cond_false] at h
      exact List.mem_cons_of_mem _ (blkIn_loop h)

theorem blocks_sub : ∀ {c b : Code} {id : Nat}, (id, b) ∈ blocks c → ∀ p ∈ blocks b, p ∈ blocks c
  | .seq x y, b, id, h, p, hp => by
    simp only [blocks, List.mem_append] at h ⊢
    rcases h with h | h
    · exact .inl (blocks_sub h p hp)
    · exact .inr (blocks_sub h p hp)
  | .cond _ x y, b, id, h, p, hp => by
    simp only [blocks, List.mem_append] at h ⊢
    rcases h with h | h
    · exact .inl (blocks_sub h p hp)
    · exact .inr (blocks_sub h p hp)
  | .block i c, b, id, h, p, hp => by
    simp only [blocks, List.mem_cons] at h ⊢
    rcases h with h | h
    · cases h; exact .inr hp
    · exact .inr (blocks_sub h p hp)
  | .loop c, b, id, h, p, hp => by simp only [blocks] at h ⊢; exact blocks_sub h p hp
  | .scope c, b, id, h, p, hp => by simp only [blocks] at h ⊢; exact blocks_sub h p hp
  | .skip, _, _, h, _, _ | .region .., _, _, h, _, _ | .exit _, _, _, h, _, _ | .label _, _, _, h, _, _ | .goto _, _, _, h, _, _ | .ret, _, _, h, _, _ | .refuse _, _, _, h, _, _ | .rangeFunc .., _, _, h, _, _ => by simp [blocks] at h

def isLoop (c : Code) (id : Nat) : Bool := match blkOf c id with | .loop _ => true | _ => false

theorem isLoop_eq {c : Code} {id : Nat} (h : isLoop c id = true) : blkOf c id = .loop (loopOf c id) := by
  unfold isLoop at h
  unfold loopOf
  split at h
  · rename_i b hb; rw [hb]
  · cases h

theorem lam_loop {P : Program} {Λ : Blks} {c : Code} {id : Nat} (h : LamOk P Λ c) (hl : isLoop c id = true) : LamOk P Λ (loopOf c id) := by
  have hm := blkIn_loop (isLoop_eq hl)
  exact fun i s hs c' hc => h i s hs c' (blocks_sub hm _ (by simpa [blocks] using hc))

theorem loopE_at {P : Program} {Γ : Env} {Λ : Blks} {u : Nat} (hE : EnvOk P Γ) (hm : P.follows .mixedOrders = true) {code : Code} (id : Nat) (hl : isLoop code id = true) (hΛ : LamOk P Λ code) {H E : Tpl}
    (ks : List HK) (t : HFn ks (Option (Sum (List Hv) (Bool × List Hv))))
    (cH : ∀ v, closedB (mkSt H v) = true) (cE : ∀ v, closedB (mkSt E v) = true)
    (hG : AllH ks fun v => evalC P Γ Λ u (loopOf code id) (mkSt H v) (lkont id H E ⟨[], [], H.base⟩) = apH ks t v) : BlkSound P id (blkOf code id) (loopE H E (apH ks t)) := by
  rw [isLoop_eq hl]
  exact loopE_sound hE hm (lam_loop hΛ hl) (fun v r _ hr => (AllH.at hG v (apH_kinds hr)).trans hr) cH cE

theorem loopR_at {P : Program} {Γ : Env} {Λ : Blks} {u : Nat} (hE : EnvOk P Γ) (hm : P.follows .mixedOrders = true) {code : Code} (id : Nat) (hl : isLoop code id = true) (hΛ : LamOk P Λ code) {H E R : Tpl}
    (ks : List HK) (t : HFn ks (Option (Sum (List Hv) (Bool × List Hv))))
    (cH : ∀ v, closedB (mkSt H v) = true) (cE : ∀ v, closedB (mkSt E v) = true) (cR : ∀ v, closedB (mkSt R v) = true)
    (hG : AllH ks fun v => evalC P Γ Λ u (loopOf code id) (mkSt H v) (lkont id H E R) = apH ks t v) : BlkSound P id (blkOf code id) (loopR H E R (apH ks t)) := by
  rw [isLoop_eq hl]
  exact loopR_sound hE hm (lam_loop hΛ hl) (fun v r _ hr => (AllH.at hG v (apH_kinds hr)).trans hr) cH cE cR

theorem GRec.still_of {F : GRec} {ks : List HK} {f : HFn ks (Option (List Hv))} (hf : F.fn = apH ks f)
    (h : AllH ks fun hs => AllR (fun r => (buildP r F.rp (buildP r F.out 0).2).1 = F.tree hs) (apH ks f hs)) : ∀ hs, F.still hs := by
  intro hs r hr
  rw [hf] at hr
  exact AllH.at h hs (apH_kinds hr) r hr

/-- a loop, by what holds with 'j' rounds to come -/
theorem loopN_ok {G : StepG} {Q : Bool × List Hv → Prop} (I : Nat → List Hv → Prop)
    (h : ∀ j v, I j v → (∃ x, G v = some (.inr x) ∧ Q x) ∨ ∃ i v', j = i + 1 ∧ G v = some (.inl v') ∧ I i v') :
    ∀ j v n, I j v → j < n → ∃ x, loopN G n v = some x ∧ Q x
  | j, v, 0, _, hn => absurd hn (Nat.not_lt_zero _)
  | 0, v, n + 1, hI, hn => by
    rcases h 0 v hI with ⟨x, hx, hq⟩ | ⟨i, v', hi, _⟩
    · exact ⟨x, by simp only [loopN, hx], hq⟩
    · omega
  | j + 1, v, n + 1, hI, hn => by
    rcases h (j + 1) v hI with ⟨x, hx, hq⟩ | ⟨i, v', hi, hg, hI'⟩
    · exact ⟨x, by simp only [loopN, hx], hq⟩
    · obtain rfl : i = j := by omega
      obtain ⟨x, hx, hq⟩ := loopN_ok I h i v' n hI' (by omega)
      exact ⟨x, by simp only [loopN, hg, hx], hq⟩

theorem lt_bigN {n : Nat} (h : n ≤ 18446744073709551616) : n < bigN := Nat.lt_of_le_of_lt h (by unfold bigN; decide)

theorem wr_i64 {n : Int} (h : -9223372036854775808 ≤ n) (h' : n < 9223372036854775808) : wr .i64 n = n := by simp only [wr]; omega

theorem lit_in {k : IntKind} {n : Int} (h : (Lit.int k n).wf = true) : inK k n := by
  simp only [Lit.wf, Bool.and_eq_true, decide_eq_true_eq] at h
  cases k <;> simp only [IntKind.min, IntKind.max, IntKind.signed, IntKind.bits] at h <;> simp only [inK] <;> simp at h <;> omega

/-- a law of plain values answers true -/
theorem law_true {P : Program} {Γ : Env} {Λ : Blks} {u : Nat} (hE : EnvOk P Γ) (hm : P.follows .mixedOrders = true) {f : FuncId} {fn : Func} {c : Code} (hf : P.funcs[f]? = some fn) (hb : fn.body = some c)
    (hΛ : LamOk P Λ c) {ps : List Pat} {hs : List Hv} (hpl : Pat.plainL ps = true) {args : List AV} (hargs : matchPs ps args = some hs) (hwa : ∀ v ∈ args, v.wf)
    (h : evalF P Γ Λ u fn c args [] 0 (fun v _ => matchP .bool v) = some [.b true]) (ρ : Ren) (w : World) :
    Calls P f (args.map (AV.enc ρ)).toArray w fun e w' => e = .returned (.bool true) ∧ RowKit.Grown w w' := by
  have hnn : ∀ u ∈ args, ∀ m, ¬ u.has m := fun u hu m hmm => plainL_has ps args hs hpl hargs (hasL_mem hu hmm)
  refine (evalF_sound hE hm hf hb hΛ h (ρ := ρ) (w := w) ⟨fun n v hv => by simp at hv, fun m n vm vn hv => by simp at hv⟩ (fun n v hv => by simp at hv) (fun v hv m hmm => absurd hmm (hnn v hv m)) hwa (fun n v hv => by simp at hv) 0 (Nat.le_refl _)).mono ?_
  intro e w' ⟨ρ', st, a, x, he, hx, hI⟩
  refine ⟨?_, Same.grown ?_⟩
  · cases x <;> simp only [matchP] at hx <;> cases hx
    rw [he]; simp [AV.enc]
  · have hk := hI.kept
    exact ⟨hk.os, hk.tape, hk.output, hk.size, fun b hb _ => hk.old b hb (fun o ⟨n, v, hv, _⟩ => by simp at hv), fun b c e fz hb => by
      obtain ⟨c', h1, h2, h3⟩ := hk.cells b c e fz hb
      exact ⟨c', h1, h2, fun o _ => h3 o (fun ⟨n, v, hv, _⟩ => by simp at hv)⟩, hk.frz⟩
end Go.Sim
