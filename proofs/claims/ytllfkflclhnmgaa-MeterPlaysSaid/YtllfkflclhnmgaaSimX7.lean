/- Functions. Functions with a receiver in memory, that read it or write it; functions that make a block. What a printed text of a seat uses: environments as lists, blocks as lists, functions by what they answer. Functions by the holes of what they take and of what they answer. Curried holes; loops of a function at hand. Arguments that are rows of integers: read ahead of the call, and behind it. Functions of slices, from their bodies. Functions of slices that hand back a new slice that may be written. Functions of slices by their holes; clean ones. Arguments that are slices: what the call finds. -/
import Derived.Test.YtllfkflclhnmgaaSimX6
import Derived.Laws.Externs
import Derived.KernelRfl
import Derived.Below
import Derived.OpenShut
import Derived.ChangeArms
import Derived.WalkKit
import Derived.ProofKit
import Derived.Carry
namespace Go.Sim
variable {β : Type}

def resK (P : Program) (tm : Tm) (hp : Hp) : List ResultVar → (List AV → Option β) → Option β
  | [], K => K []
  | .tmp t :: rs, K =>
    match tm.getD t none with
    | some v => resK P tm hp rs fun vs => K (v :: vs)
    | none => none
  | .cell a t :: rs, K => loadK P tm hp t (.tmp a) fun v => resK P tm hp rs fun vs => K (v :: vs)

def packA : List AV → AV
  | [v] => v
  | vs => .tup vs

def retK (P : Program) (fn : Func) (K : AV → Hp → Option β) : Exit → St → Option β
  | .normal, st => resK P st.tm st.hp fn.results.toList fun vs => K (packA vs) st.hp
  | .ret, st => resK P st.tm st.hp fn.results.toList fun vs => K (packA vs) st.hp
  | _, _ => none

def initSt (n : Nat) (args : List AV) (hp : Hp) (base : Nat) : St := ⟨args.map some ++ List.replicate (n - args.length) none, hp, base⟩

theorem mapM_toList_run {P : Program} {α γ : Type} (f : α → Sem γ) (xs : Array α) (l : List γ) (w : World) (h : (xs.toList.mapM f).run P w = .ok l w) : (xs.mapM f).run P w = .ok l.toArray w := by
  rw [Array.mapM_eq_mapM_toList, Sem.run_map, h]
  rfl

def resF (tmps : Array Value) : ResultVar → Sem Value
  | .tmp t => pure (tmps.getD t undef)
  | .cell a t => do loadVar t (← asAddr (tmps.getD a undef))

theorem results_eq (fn : Func) (tmps : Array Value) : results fn tmps = (fn.results.mapM (resF tmps)) >>= fun vs => pure (if h : vs.size = 1 then vs[0] else .tuple vs) := by
  have : (fun x : ResultVar => match x with | .tmp t => (pure (tmps.getD t undef) : Sem Value) | .cell a t => do loadVar t (← asAddr (tmps.getD a undef))) = resF tmps := by
    funext r; cases r <;> rfl
  unfold results
  rw [← this]
  rfl

theorem resK_run {P : Program} {ρ : Ren} {st : St} {a : Act} {w : World} (hr : RepW ρ st.hp w) (ht : TmOk ρ st.tm a) (hw : WfSt st) (hc : Closed st) :
    ∀ (rs : List ResultVar) (K : List AV → Option β) (r : β), resK P st.tm st.hp rs K = some r → ∃ vs, K vs = some r ∧
      (rs.mapM (resF a.tmps)).run P w = .ok (vs.map (AV.enc ρ)) w ∧ (∀ v ∈ vs, v.wf) ∧ ∀ v ∈ vs, ClosedV st.hp v
  | [], K, r, h => ⟨[], h, by simp, (fun v hv => by cases hv), fun v hv => by cases hv⟩
  | .tmp t :: rs, K, r, h => by
    simp only [resK] at h
    cases hv : st.tm.getD t none with
    | none => simp only [hv] at h; cases h
    | some v =>
      simp only [hv] at h
      obtain ⟨vs, h1, h2, h3, h4⟩ := resK_run hr ht hw hc rs _ r h
      refine ⟨v :: vs, h1, ?_, fun u hu => ?_, fun u hu => ?_⟩
      · simp only [List.mapM_cons, resF, Sem.run_bind, Sem.run_pure, Result.andThen_ok, h2, ht.val t v hv, List.map_cons]
      · rcases List.mem_cons.1 hu with rfl | hu
        · exact hw.tm t u hv
        · exact h3 u hu
      · rcases List.mem_cons.1 hu with rfl | hu
        · exact hc.tm t u hv
        · exact h4 u hu
  | .cell c t :: rs, K, r, h => by
    simp only [resK] at h
    rw [loadK_eq] at h
    cases hv : loadK P st.tm st.hp t (.tmp c) some with
    | none => simp [hv] at h
    | some v =>
      simp only [hv, Option.bind_some] at h
      obtain ⟨vs, h1, h2, h3, h4⟩ := resK_run hr ht hw hc rs _ r h
      obtain ⟨u, hu, hl⟩ := loadK_some hv
      have hcu : ClosedV st.hp u := opv_closed hc.tm hu
      have hwu : u.wf := opv_wf hw.tm hu
      have hlk : lookV P (fun _ => none) (.load t (.tmp c)) [u] st.hp 0 (fun v n => some (v, n)) = some (v, []) := hl
      have hcv := (look_closed hlk hc.hp (fun x hx => by simp only [List.mem_singleton] at hx; subst hx; exact hcu) (fun i hi => by simp at hi)).1
      have hwv := (look_wf (fun _ _ q => by cases q) hlk hw.hp (fun x hx => by simp only [List.mem_singleton] at hx; subst hx; exact hwu) (fun x hx => by simp only [List.mem_singleton] at hx; subst hx; exact hcu)).1
      obtain ⟨ρ', g1, _, g3⟩ := ldV_adv (k := 0) (w := w) hl hr hc.hp hcu (fun i hi => by simp at hi) (Nat.le_refl _)
      have he : a.tmps.getD c undef = u.enc ρ := ht.val c _ hu
      have hve : v.enc ρ' = v.enc ρ := (enc_congr v (fun m hm => g3 m (hcv _ hm))).symm
      rw [hve] at g1
      have hptr : ∃ ad, u.enc ρ = .pointer (some ad) := by
        unfold ldV at hl
        split at hl
        · exact ⟨_, by simp only [AV.enc]; rfl⟩
        · exact ⟨_, by simp only [AV.enc, XV.enc]; rfl⟩
        · exact ⟨_, by simp only [AV.enc, XV.enc]; rfl⟩
        · cases hl
      obtain ⟨ad, had⟩ := hptr
      rw [had] at g1 he
      simp only [Instr.loadAt, Instr.sureAddr, Sem.run_bind, Sem.run_pure, Result.andThen_ok] at g1
      refine ⟨v :: vs, h1, by simp only [List.mapM_cons, resF, Sem.run_bind, Sem.run_pure, Result.andThen_ok, he, asAddr, g1, h2, List.map_cons], fun y hy => ?_, fun y hy => ?_⟩
      · rcases List.mem_cons.1 hy with rfl | hy
        · exact hwv
        · exact h3 y hy
      · rcases List.mem_cons.1 hy with rfl | hy
        · exact hcv
        · exact h4 y hy

theorem packA_enc (ρ : Ren) (vs : List AV) (w : World) (P : Program) :
    ((fun (xs : Array Value) => (pure (if h : xs.size = 1 then xs[0] else .tuple xs) : Sem Value)) (vs.map (AV.enc ρ)).toArray).run P w = .ok ((packA vs).enc ρ) w := by
  match vs with
  | [] => simp [packA, AV.enc, encL_eq]
  | [v] => simp [packA]
  | v :: u :: vs => simp [packA, AV.enc, encL_eq]

theorem packA_wf {vs : List AV} (h : ∀ v ∈ vs, v.wf) : (packA vs).wf := by
  match vs with
  | [] => simp [packA, AV.wf, AV.wfL]
  | [v] => simpa [packA] using h v (by simp)
  | v :: u :: vs => simp only [packA, AV.wf]; exact wfL_of h

theorem packA_closed {hp : Hp} {vs : List AV} (h : ∀ v ∈ vs, ClosedV hp v) : ClosedV hp (packA vs) := by
  have key : ∀ (vs : List AV) (m : Tok), AV.hasL m vs → ∃ v ∈ vs, v.has m := by
    intro vs m
    induction vs with
    | nil => intro h; simp [AV.hasL] at h
    | cons v vs ih =>
      intro h
      simp only [AV.hasL] at h
      rcases h with h | h
      · exact ⟨v, by simp, h⟩
      · obtain ⟨u, hu, hm⟩ := ih h
        exact ⟨u, by simp [hu], hm⟩
  have tup : ClosedV hp (.tup vs) := fun m hm => by
    simp only [AV.has] at hm
    obtain ⟨v, hv, hm⟩ := key vs m hm
    exact h v hv m hm
  match vs with
  | [] => exact tup
  | [v] => exact h v (by simp)
  | v :: u :: vs => exact tup

theorem results_run {P : Program} {fn : Func} {ρ : Ren} {st : St} {a : Act} {w : World} (hr : RepW ρ st.hp w) (ht : TmOk ρ st.tm a) (hw : WfSt st) (hc : Closed st) {K : AV → Hp → Option β} {r : β}
    (h : resK P st.tm st.hp fn.results.toList (fun vs => K (packA vs) st.hp) = some r) : ∃ v, K v st.hp = some r ∧ (results fn a.tmps).run P w = .ok (v.enc ρ) w ∧ v.wf ∧ ClosedV st.hp v := by
  obtain ⟨vs, h1, h2, h3, h4⟩ := resK_run hr ht hw hc _ _ _ h
  refine ⟨packA vs, h1, ?_, packA_wf h3, packA_closed h4⟩
  have := mapM_toList_run _ fn.results _ w h2
  rw [results_eq]
  simp only [Sem.run_bind]
  rw [this]
  simp only [Result.andThen_ok]
  exact packA_enc ρ vs w P

/-- the evaluator over a function's body, from its arguments on -/
def evalF (P : Program) (Γ : Env) (Λ : Blks) (u : Nat) (fn : Func) (c : Code) (args : List AV) (hp : Hp) (base : Nat) (K : AV → Hp → Option β) : Option β :=
  evalC P Γ Λ u c (initSt fn.ntmps args hp base) (retK P fn K)

def LamOk (P : Program) (Λ : Blks) (body : Code) : Prop := ∀ id s, Λ id = some s → ∀ c, (id, c) ∈ blocks body → BlkSound P id c s

theorem evalF_sound_wf {P : Program} {Γ : Env} {Λ : Blks} {u : Nat} (hE : EnvOk P Γ) (hm : P.follows .mixedOrders = true) {f : FuncId} {fn : Func} {c : Code} (hf : P.funcs[f]? = some fn) (hb : fn.body = some c)
    (hΛ : LamOk P Λ c) {args : List AV} {hp : Hp} {base : Nat} {K : AV → Hp → Option β} {r : β} (h : evalF P Γ Λ u fn c args hp base K = some r)
    {ρ : Ren} {w : World} (hr : RepW ρ hp w) (hcl : ClosedH hp) (hca : ∀ v ∈ args, ClosedV hp v) (hwa : ∀ v ∈ args, v.wf) (hwh : WfH hp) (fb : Nat) (hfb : fb ≤ base) (hf1 : fb ≤ 1 := by omega) :
    Calls P f (args.map (AV.enc ρ)).toArray w fun e w' => ∃ ρ' st a v, e = .returned (v.enc ρ') ∧ K v st.hp = some r ∧ Inv ⟨OwnR ρ hp, fb, ρ⟩ w ρ' st a w' ∧ v.wf ∧ ClosedV st.hp v := by
  refine calls_of_wp hf hb ?_
  have hI : Inv ⟨OwnR ρ hp, fb, ρ⟩ w ρ (initSt fn.ntmps args hp base) { tmps := (args.map (AV.enc ρ)).toArray ++ Array.replicate (fn.ntmps - (args.map (AV.enc ρ)).toArray.size) undef, defers := [] } w := by
    refine ⟨hr, ⟨by simp [initSt], fun i v hv => ?_⟩, ⟨fun i v hv => ?_, hcl⟩, ⟨fun i v hv => ?_, hwh⟩, Kept.refl _ _, fun n v hv b o hr => .inr ⟨n, v, hv, hr⟩, rfl, fun _ _ => rfl, hfb, fun _ _ _ h => h, fun _ _ h => .inl h⟩
    · simp only [initSt, List.getD_eq_getElem?_getD] at hv
      by_cases hi : i < args.length
      · rw [List.getElem?_append_left (by simpa using hi)] at hv
        simp [hi] at hv
        simp only [Array.getD_eq_getD_getElem?]
        rw [Array.getElem?_append_left (by simpa using hi)]
        simp [hi, hv]
      · rw [List.getElem?_append_right (by simp; omega)] at hv
        simp [List.getElem?_replicate] at hv
        split at hv <;> simp at hv
    · simp only [initSt, List.getD_eq_getElem?_getD] at hv
      by_cases hi : i < args.length
      · rw [List.getElem?_append_left (by simpa using hi)] at hv
        simp [hi] at hv
        exact hca v (hv ▸ List.getElem_mem hi)
      · rw [List.getElem?_append_right (by simp; omega)] at hv
        simp [List.getElem?_replicate] at hv
        split at hv <;> simp at hv
    · simp only [initSt, List.getD_eq_getElem?_getD] at hv
      by_cases hi : i < args.length
      · rw [List.getElem?_append_left (by simpa using hi)] at hv
        simp [hi] at hv
        exact hwa v (hv ▸ List.getElem_mem hi)
      · rw [List.getElem?_append_right (by simp; omega)] at hv
        simp [List.getElem?_replicate] at hv
        split at hv <;> simp at hv
  refine evalC_sound (own := ⟨OwnR ρ hp, fb, ρ⟩) hE hm hΛ hf1 c (fun p hp => hp) _ _ ρ _ w h hI _ fun e ρ' st a w' hI' hK => ?_
  have key : resK P st.tm st.hp fn.results.toList (fun vs => K (packA vs) st.hp) = some r →
      a.defers = [] ∧ ∃ v, (results fn a.tmps).run P w' = .ok v w' ∧ ∃ ρ' st a x, Ending.returned v = .returned (x.enc ρ') ∧ K x st.hp = some r ∧ Inv ⟨OwnR ρ hp, fb, ρ⟩ w ρ' st a w' ∧ x.wf ∧ ClosedV st.hp x := by
    intro hk
    obtain ⟨v, h1, h2, h3, h4⟩ := results_run (K := K) hI'.rep hI'.tm hI'.wf hI'.closed hk
    exact ⟨hI'.defers, _, h2, ρ', st, a, v, rfl, h1, hI', h3, h4⟩
  cases e with
  | normal => exact key hK
  | ret => exact key hK
  | exit i => simp [retK] at hK
  | goto l => simp [retK] at hK
  | panic ch => simp [retK] at hK
  | outgrown => simp [retK] at hK

theorem evalF_sound {P : Program} {Γ : Env} {Λ : Blks} {u : Nat} (hE : EnvOk P Γ) (hm : P.follows .mixedOrders = true) {f : FuncId} {fn : Func} {c : Code} (hf : P.funcs[f]? = some fn) (hb : fn.body = some c)
    (hΛ : LamOk P Λ c) {args : List AV} {hp : Hp} {base : Nat} {K : AV → Hp → Option β} {r : β} (h : evalF P Γ Λ u fn c args hp base K = some r)
    {ρ : Ren} {w : World} (hr : RepW ρ hp w) (hcl : ClosedH hp) (hca : ∀ v ∈ args, ClosedV hp v) (hwa : ∀ v ∈ args, v.wf) (hwh : WfH hp) (fb : Nat) (hfb : fb ≤ base) (hf1 : fb ≤ 1 := by omega) :
    Calls P f (args.map (AV.enc ρ)).toArray w fun e w' => ∃ ρ' st a v, e = .returned (v.enc ρ') ∧ K v st.hp = some r ∧ Inv ⟨OwnR ρ hp, fb, ρ⟩ w ρ' st a w' :=
  (evalF_sound_wf hE hm hf hb hΛ h hr hcl hca hwa hwh fb hfb hf1).mono fun _ _ ⟨ρ', st, a, v, h1, h2, h3, _⟩ => ⟨ρ', st, a, v, h1, h2, h3⟩

/-! a function of values -/
mutual
def Pat.plain : Pat → Bool
  | .ptr .. => false
  | .sl .. => false
  | .pr .. => false
  | .oi .. => false
  | .orow .. => false
  | .oit => false
  | .fz _ => false
  | .agg ps => Pat.plainL ps
  | .tup ps => Pat.plainL ps
  | _ => true
def Pat.plainL : List Pat → Bool
  | [] => true
  | p :: ps => p.plain && Pat.plainL ps
end

mutual
theorem plain_has {m : Tok} : ∀ (p : Pat) (v : AV) (l : List Hv), p.plain = true → matchP p v = some l → ¬ v.has m
  | .agg ps, v, l, hp, h => by
    cases v <;> simp only [matchP] at h <;> try (cases h; done)
    simp only [AV.has]; exact plainL_has ps _ l (by simpa [Pat.plain] using hp) h
  | .tup ps, v, l, hp, h => by
    cases v <;> simp only [matchP] at h <;> try (cases h; done)
    simp only [AV.has]; exact plainL_has ps _ l (by simpa [Pat.plain] using hp) h
  | .ptr .., _, _, hp, _ | .sl .., _, _, hp, _ | .pr .., _, _, hp, _ | .oi .., _, _, hp, _ | .orow .., _, _, hp, _ | .oit, _, _, hp, _ | .fz _, _, _, hp, _ => by simp [Pat.plain] at hp
  | .int _, v, _, _, h | .bool, v, _, _, h | .str, v, _, _, h | .arr .., v, _, _, h | .nil, v, _, _, h | .fn _, v, _, _, h | .ci .., v, _, _, h | .niS, v, _, _, h => by cases v <;> first | (simp [matchP] at h; done) | simp [AV.has]
theorem plainL_has {m : Tok} : ∀ (ps : List Pat) (vs : List AV) (l : List Hv), Pat.plainL ps = true → matchPs ps vs = some l → ¬ AV.hasL m vs
  | [], [], _, _, _ => by simp [AV.hasL]
  | [], _ :: _, _, _, h => by simp [matchPs] at h
  | _ :: _, [], _, _, h => by simp [matchPs] at h
  | p :: ps, v :: vs, l, hp, h => by
    simp only [Pat.plainL, Bool.and_eq_true] at hp
    simp only [matchPs] at h
    cases h1 : matchP p v with
    | none => simp [h1] at h
    | some a =>
      cases h2 : matchPs ps vs with
      | none => simp [h1, h2] at h
      | some b =>
        simp only [AV.hasL, not_or]
        exact ⟨plain_has p v a hp.1 h1, plainL_has ps vs b hp.2 h2⟩
end

/-- names alone -/
def Ren.bare (ρ : Ren) : Ren := ⟨ρ.loc, fun _ _ => none⟩
theorem bare_enc {ρ : Ren} (v : AV) : v.enc ρ.bare = v.enc ρ := enc_congr v (fun _ _ => rfl)
theorem bare_map {ρ : Ren} (vs : List AV) : vs.map (AV.enc ρ.bare) = vs.map (AV.enc ρ) := List.map_congr_left fun v _ => bare_enc v
theorem rep_nil {ρ : Ren} {w : World} : RepW ρ.bare [] w := ⟨fun n v hv => by simp at hv, fun m n vm vn hv => by simp at hv, (fun b o x hx => by cases hx), fun n v b o hv => by simp at hv⟩
theorem same_nil {ρ : Ren} {w w' : World} (hk : Kept (OwnR ρ []) w w') : Same w w' := by
  have no : ∀ b o, ¬ OwnR ρ [] b o := fun b o ⟨n, v, hv, _⟩ => by simp at hv
  exact ⟨hk.os, hk.tape, hk.output, hk.size, fun b hb _ => hk.old b hb (fun o => no b o), fun b c e fz hb => by
    obtain ⟨c', h1, h2, h3⟩ := hk.cells b c e fz hb
    exact ⟨c', h1, h2, fun o _ => h3 o (no b o)⟩, hk.frz⟩

/-- a function of values: the patterns of its arguments, and what it answers -/
structure PFn where
  pats : List Pat
  run : {β : Type} → List Hv → (AV → Option β) → Option β

def PFn.sem (F : PFn) : PSem where
  run args K := match matchPs F.pats args with
    | some hs => F.run hs K
    | none => none

theorem fn_pure {P : Program} {Γ : Env} {Λ : Blks} {u : Nat} (hE : EnvOk P Γ) (hm : P.follows .mixedOrders = true) {f : FuncId} {fn : Func} {c : Code} (hf : P.funcs[f]? = some fn)
    (hn : (fn.name == "runtime.NumGoroutine") = false) (hb : fn.body = some c) (hΛ : LamOk P Λ c) (F : PFn) (hpl : Pat.plainL F.pats = true)
    (hlaw : ∀ (β : Type) hs (K : AV → Option β), F.run hs K = (F.run hs some).bind K) (hnames : ∀ hs v, F.run hs some = some v → ∀ m, ¬ v.has m) (hwf : ∀ hs v, F.run hs some = some v → (∀ u ∈ (buildPs hs F.pats 0).1, u.wf) → v.wf)
    (hmain : ∀ hs v, F.run hs some = some v → (∀ u ∈ (buildPs hs F.pats 0).1, u.wf) → evalF P Γ Λ u fn c (buildPs hs F.pats 0).1 [] 0 (fun v _ => some v) = some v) : EntryOk P f (.pure F.sem) := by
  refine ⟨⟨fun β args K => ?_, fun args v h => ?_, fun args v h hw => ?_⟩, fun args v h hw ρ w => .inl ⟨⟨fn, c, hf, hn, hb⟩, ?_⟩⟩
  · simp only [PFn.sem]
    cases matchPs F.pats args with
    | none => rfl
    | some hs => exact hlaw β hs K
  · simp only [PFn.sem] at h
    cases hm' : matchPs F.pats args with
    | none => simp [hm'] at h
    | some hs => simp only [hm'] at h; exact hnames hs v h
  · simp only [PFn.sem] at h
    cases hm' : matchPs F.pats args with
    | none => simp [hm'] at h
    | some hs =>
      simp only [hm'] at h
      have hba := build_matchs F.pats args hs [] [] hm'
      simp only [List.nil_append, List.append_nil, List.length_nil] at hba
      exact hwf hs v h (by rw [hba]; exact hw)
  · simp only [PFn.sem] at h
    cases hm' : matchPs F.pats args with
    | none => simp [hm'] at h
    | some hs =>
      simp only [hm'] at h
      have hba := build_matchs F.pats args hs [] [] hm'
      simp only [List.nil_append, List.append_nil, List.length_nil] at hba
      have hmn := hmain hs v h (by rw [hba]; exact hw)
      rw [hba] at hmn
      have hnn : ∀ u ∈ args, ∀ m, ¬ u.has m := fun u hu m hmm => plainL_has F.pats args hs hpl hm' (hasL_mem hu hmm)
      have hcalls := evalF_sound hE hm hf hb hΛ hmn (ρ := ρ.bare) (w := w) rep_nil (fun n v hv => by simp at hv) (fun v hv m hmm => absurd hmm (hnn v hv m)) hw (fun n v hv => by simp at hv) 0 (Nat.le_refl _)
      rw [bare_map] at hcalls
      refine hcalls.mono fun e w' ⟨ρ', st, a, x, he, hx, hI⟩ => ⟨?_, same_nil hI.kept⟩
      cases hx
      rw [he]
      rw [enc_congr v (fun m hmm => absurd hmm (hnames hs v h _))]

/-- a function that the model stands in for -/
theorem fn_ext {P : Program} {f : FuncId} (F : PFn)
    (hlaw : ∀ (β : Type) hs (K : AV → Option β), F.run hs K = (F.run hs some).bind K) (hnames : ∀ hs v, F.run hs some = some v → ∀ m, ¬ v.has m) (hwf : ∀ hs v, F.run hs some = some v → (∀ u ∈ (buildPs hs F.pats 0).1, u.wf) → v.wf)
    (hmain : ∀ hs v, F.run hs some = some v → ∀ (ρ : Ren) (w : World), (callFunc f ((buildPs hs F.pats 0).1.map (AV.enc ρ)).toArray).run P w = .ok (.value (v.enc ρ)) w) : EntryOk P f (.pure F.sem) := by
  refine ⟨⟨fun β args K => ?_, fun args v h => ?_, fun args v h hw => ?_⟩, fun args v h hw ρ w => .inr ?_⟩
  · simp only [PFn.sem]
    cases matchPs F.pats args with
    | none => rfl
    | some hs => exact hlaw β hs K
  · simp only [PFn.sem] at h
    cases hm' : matchPs F.pats args with
    | none => simp [hm'] at h
    | some hs => simp only [hm'] at h; exact hnames hs v h
  · simp only [PFn.sem] at h
    cases hm' : matchPs F.pats args with
    | none => simp [hm'] at h
    | some hs =>
      simp only [hm'] at h
      have hba := build_matchs F.pats args hs [] [] hm'
      simp only [List.nil_append, List.append_nil, List.length_nil] at hba
      exact hwf hs v h (by rw [hba]; exact hw)
  · simp only [PFn.sem] at h
    cases hm' : matchPs F.pats args with
    | none => simp [hm'] at h
    | some hs =>
      simp only [hm'] at h
      have := hmain hs v h ρ w
      have hba := build_matchs F.pats args hs [] [] hm'
      simp only [List.nil_append, List.append_nil, List.length_nil] at hba
      rwa [hba] at this

/-! math/bits, as the model stands in for it -/
def add64S (x y c : Int) : Int := ((x.toNat + y.toNat + c.toNat) % 18446744073709551616 : Nat)
def add64C (x y c : Int) : Int := ((x.toNat + y.toNat + c.toNat) / 18446744073709551616 : Nat)
def sub64D (x y c : Int) : Int := ((x.toNat + 18446744073709551616 - y.toNat - c.toNat) % 18446744073709551616 : Nat)
def sub64B (x y c : Int) : Int := if x.toNat < y.toNat + c.toNat then 1 else 0
def bit01 (c : Int) : Bool := Nat.ble c.toNat 1

def add64F : PFn where
  pats := [.int .u64, .int .u64, .int .u64]
  run hs K := match hs with
    | [.i x, .i y, .i c] => bif bit01 c then K (.tup [.int .u64 (add64S x y c), .int .u64 (add64C x y c)]) else none
    | _ => none
def sub64F : PFn where
  pats := [.int .u64, .int .u64, .int .u64]
  run hs K := match hs with
    | [.i x, .i y, .i c] => bif bit01 c then K (.tup [.int .u64 (sub64D x y c), .int .u64 (sub64B x y c)]) else none
    | _ => none

def add64E : Array Value → Sem Value := fun args => do
  let (x, y, c) ← Extern.MathBitsCarry.three "Add64" args
  pure (Extern.MathBitsCarry.pair ((x + y + c) % Extern.MathBitsCarry.m64) ((x + y + c) / Extern.MathBitsCarry.m64))
def sub64E : Array Value → Sem Value := fun args => do
  let (x, y, b) ← Extern.MathBitsCarry.three "Sub64" args
  pure (Extern.MathBitsCarry.pair ((x + Extern.MathBitsCarry.m64 - y - b) % Extern.MathBitsCarry.m64) (if x < y + b then 1 else 0))

theorem three_run {P : Program} (n : String) (x y c : Int) (hc : bit01 c = true) (w : World) :
    (Extern.MathBitsCarry.three n #[.int .u64 x, .int .u64 y, .int .u64 c]).run P w = .ok (x.toNat, y.toNat, c.toNat) w := by
  have hle : c.toNat ≤ 1 := Nat.le_of_ble_eq_true hc
  cases c with
  | ofNat k =>
    have : k = 0 ∨ k = 1 := by simp at hle; omega
    rcases this with rfl | rfl <;> rfl
  | negSucc k => rfl

theorem add64_ok {P : Program} {f : FuncId} {fn : Func} (hf : P.funcs[f]? = some fn) (hname : (fn.name == "runtime.NumGoroutine") = false)
    (hb : fn.body.isNone = true) (hn : Extern.findNext fn = none) (he : Extern.find fn = some add64E) : EntryOk P f (.pure add64F.sem) := by
  refine fn_ext add64F (fun β hs K => ?_) (fun hs v h m => ?_) (fun hs v h hw => ?_) (fun hs v h ρ w => ?_)
  · simp only [add64F]; split
    · cases bit01 _ <;> rfl
    · rfl
  · simp only [add64F] at h; split at h
    · rename_i x y c
      cases hc : bit01 c with
      | false => simp [hc] at h
      | true => simp only [hc, cond_true, Option.some.injEq] at h; subst h; simp [AV.has, AV.hasL]
    · cases h
  · simp only [add64F] at h; split at h
    · rename_i x y c
      cases hc : bit01 c with
      | false => simp [hc] at h
      | true =>
        simp only [hc, cond_true, Option.some.injEq] at h
        subst h
        simp only [AV.wf, AV.wfL, and_true]
        exact ⟨by unfold add64S; simp only [inK]; omega, by
          unfold add64C
          have h1 := hw (.int .u64 (hi [.i x, .i y, .i c] 0)) (by simp [add64F, buildPs, buildP])
          have h2 := hw (.int .u64 (hi [.i x, .i y, .i c] 1)) (by simp [add64F, buildPs, buildP])
          have h3 := Nat.le_of_ble_eq_true hc
          simp only [AV.wf, inK, hi, List.getElem?_cons_zero, List.getElem?_cons_succ] at h1 h2 ⊢
          omega⟩
    · cases h
  · simp only [add64F] at h ⊢; split at h
    · rename_i x y c
      cases hc : bit01 c with
      | false => simp [hc] at h
      | true =>
        simp only [hc, cond_true, Option.some.injEq] at h; subst h
        rw [run_callFunc_extern hf hname hb hn he]
        simp [buildPs, buildP, hi, AV.enc, AV.encL, add64E, three_run _ x y c hc, Extern.MathBitsCarry.pair, Extern.MathBitsCarry.m64, add64S, add64C]
    · cases h

theorem sub64_ok {P : Program} {f : FuncId} {fn : Func} (hf : P.funcs[f]? = some fn) (hname : (fn.name == "runtime.NumGoroutine") = false)
    (hb : fn.body.isNone = true) (hn : Extern.findNext fn = none) (he : Extern.find fn = some sub64E) : EntryOk P f (.pure sub64F.sem) := by
  refine fn_ext sub64F (fun β hs K => ?_) (fun hs v h m => ?_) (fun hs v h hw => ?_) (fun hs v h ρ w => ?_)
  · simp only [sub64F]; split
    · cases bit01 _ <;> rfl
    · rfl
  · simp only [sub64F] at h; split at h
    · rename_i x y c
      cases hc : bit01 c with
      | false => simp [hc] at h
      | true => simp only [hc, cond_true, Option.some.injEq] at h; subst h; simp [AV.has, AV.hasL]
    · cases h
  · simp only [sub64F] at h; split at h
    · rename_i x y c
      cases hc : bit01 c with
      | false => simp [hc] at h
      | true =>
        simp only [hc, cond_true, Option.some.injEq] at h
        subst h
        simp only [AV.wf, AV.wfL, and_true]
        exact ⟨by unfold sub64D; simp only [inK]; omega, by unfold sub64B; simp only [inK]; split <;> omega⟩
    · cases h
  · simp only [sub64F] at h ⊢; split at h
    · rename_i x y c
      cases hc : bit01 c with
      | false => simp [hc] at h
      | true =>
        simp only [hc, cond_true, Option.some.injEq] at h; subst h
        rw [run_callFunc_extern hf hname hb hn he]
        simp [buildPs, buildP, hi, AV.enc, AV.encL, sub64E, three_run _ x y c hc, Extern.MathBitsCarry.pair, Extern.MathBitsCarry.m64, sub64D, sub64B]
        split <;> rfl
    · cases h
end Go.Sim
namespace Go.Sim
variable {β : Type}

/-- a function whose first argument points to a tree: what it answers, and what becomes of the tree -/
structure RFn where
  rp : Pat
  pats : List Pat
  run : {β : Type} → List Hv → (AV → AV → Option β) → Option β

def RFn.full (F : RFn) : FSem where
  run args hp _ K :=
    match args with
    | .ptr n p :: rest =>
      match hp.getD n none with
      | some tree => subK p tree fun t =>
        match matchP F.rp t with
        | some a =>
          match matchPs F.pats rest with
          | some b => F.run (a ++ b) fun v t' => putK p tree t' fun tree' => K v (setP none hp n (some tree'))
          | none => none
        | none => none
      | none => none
    | _ => none

def RFn.read (F : RFn) : RSem where
  run args hp K :=
    match args with
    | .ptr n p :: rest =>
      match hp.getD n none with
      | some tree => subK p tree fun t =>
        match matchP F.rp t with
        | some a =>
          match matchPs F.pats rest with
          | some b => F.run (a ++ b) fun v _ => K v
          | none => none
        | none => none
      | none => none
    | _ => none

def RFn.Law (F : RFn) : Prop := ∀ (β : Type) hs (K : AV → AV → Option β), F.run hs K = (F.run hs fun v t => some (v, t)).bind fun x => K x.1 x.2

/-- the arguments, from the holes -/
def RFn.args (F : RFn) (hs : List Hv) : List AV := .ptr 0 [] :: (buildPs hs F.pats (buildP hs F.rp 0).2).1
def RFn.tree (F : RFn) (hs : List Hv) : AV := (buildP hs F.rp 0).1

structure RFn.Ok (P : Program) (Γ : Env) (Λ : Blks) (u : Nat) (fn : Func) (c : Code) (F : RFn) : Prop where
  plain : F.rp.plain = true
  plains : Pat.plainL F.pats = true
  law : F.Law
  names : ∀ hs v t, F.run hs (fun v t => some (v, t)) = some (v, t) → (∀ m, ¬ v.has m) ∧ ∀ m, ¬ t.has m
  trees : ∀ hs v t, F.run hs (fun v t => some (v, t)) = some (v, t) → t.isTree = true
  main : ∀ t a r b v' t', matchP F.rp t = some a → matchPs F.pats r = some b → F.run (a ++ b) (fun v t => some (v, t)) = some (v', t') → t.wf → (∀ u ∈ r, u.wf) →
    ∃ (γ : Type) (K : AV → Hp → Option γ) (x : γ), evalF P Γ Λ u fn c (.ptr 0 [] :: r) [some t] 1 K = some x ∧ ∀ y h, K y h = some x → y = v' ∧ h.getD 0 none = some t'

theorem ptr_wf {n : Nat} {p : List Sel} {rest : List AV} (h : ∀ u ∈ rest, u.wf) : ∀ u ∈ AV.ptr n p :: rest, u.wf := by
  intro u hu
  rcases List.mem_cons.1 hu with rfl | hu
  · simp only [AV.wf]
  · exact h u hu

theorem match_tree {p : Pat} {v : AV} {l : List Hv} (h : matchP p v = some l) : v.isTree = true := by
  refine isTree_iff.2 ⟨?_, ?_⟩
  · cases v <;> first | rfl | (cases p <;> simp [matchP] at h)
  · cases v <;> first | rfl | (cases p <;> simp [matchP] at h)
theorem sub_tree {p : List Sel} {v t : AV} (h : sub p v = some t) (ht : t.isTree = true) : v.isTree = true := by
  cases p with
  | nil => simp only [sub, subK, Option.some.injEq] at h; rw [h]; exact ht
  | cons s p => cases s <;> cases v <;> first | rfl | (simp [sub, subK] at h; done) | (cases p <;> simp [sub, subK] at h)
theorem build_tree {hs : List Hv} {p : Pat} {j : Nat} (h : p.plain = true) : (buildP hs p j).1.isTree = true := by
  cases p <;> first | rfl | simp [Pat.plain] at h
theorem sub_rep {ρ : Ren} {hp : Hp} {w : World} (hr : RepW ρ hp w) {n : Nat} {p : List Sel} {tree t : AV} (hn : hp.getD n none = some tree) (hs : sub p tree = some t) (ht : t.isTree = true) :
    ∃ c e, w.heap[(ρ n).1]? = some (.cells c e (0, 0)) ∧ (ρ n).2 + tree.size ≤ c.size ∧ pOff p + t.size ≤ tree.size ∧ ∀ j, j < t.size → c[(ρ n).2 + pOff p + j]? = (t.cells ρ)[j]? := by
  have hb := hr.blk n tree hn
  rw [blkRep_tree (sub_tree hs ht)] at hb
  obtain ⟨c, e, hc, hcs, hcells⟩ := hb
  obtain ⟨p1, p2, h1, h2⟩ := sub_cells ρ p tree t hs
  have hlen : tree.size = p1.length + t.size + p2.length := by
    rw [← cells_length ρ tree, h1]; simp [cells_length]; omega
  refine ⟨c, e, hc, hcs, by omega, fun j hj => ?_⟩
  have := hcells (pOff p + j) (by omega)
  rw [show (ρ n).2 + pOff p + j = (ρ n).2 + (pOff p + j) by omega, this, ← h2]
  exact seg_at h1 (by rw [cells_length]; exact hj)

/-- memory that is kept but for one name's own -/
theorem BlkRep.kept {ρ : Ren} {w w' : World} {own : Nat → Nat → Prop} {m : Nat} {v : AV} (h : BlkRep ρ w m v) (hk : Kept own w w') (hno : ∀ b o, rgn (ρ m) v b o → ¬ own b o) : BlkRep ρ w' m v := by
  have tree : v.isTree = true → BlkRep ρ w' m v := by
    intro ht
    rw [blkRep_tree ht] at h ⊢
    obtain ⟨c, e, h1, h2, h3⟩ := h
    obtain ⟨c', k1, k2, k3⟩ := hk.cells _ _ _ _ h1
    refine ⟨c', e, k1, by rw [k2]; exact h2, fun j hj => ?_⟩
    rw [k3 _ (hno _ _ (by rw [rgn_tree ht]; exact ⟨rfl, by omega, by omega⟩)), h3 j hj]
  have rows : ∀ es len c, RowRw w (ρ m) es len c → (∀ o, (ρ m).nl = false → (ρ m).2 ≤ o → o < (ρ m).2 + (ρ m).cap * es → ¬ own (ρ m).1 o) → RowRw w' (ρ m) es len c := fun es len c r hn =>
    ⟨r.cap, r.nil, fun q => by
      obtain ⟨cs, el, lo, hi, h1, h2, h3, h4⟩ := r.at_ q
      obtain ⟨c', k1, k2, k3⟩ := hk.cells _ _ _ _ h1
      refine ⟨c', el, lo, hi, k1, by rw [k2]; exact h2, h3, fun i hi j hj => ?_⟩
      have := le_rows (es := es) (show i < (ρ m).cap by have := r.cap; omega)
      rw [k3 _ (hn _ q (by omega) (by omega)), h4 i hi j hj]⟩
  cases v with
  | fz v => exact h
  | x u =>
    cases u with
    | obj o =>
      cases o with
      | dead k => exact h
      | iter s pos =>
        simp only [BlkRep] at h ⊢
        refine ⟨?_, h.2⟩
        rw [hk.old _ (Array.getElem?_eq_some_iff.1 h.1).1 (fun o ho => hno _ o (by simp only [rgn]) ho)]
        exact h.1
      | ints k l rw =>
        cases rw with
        | true => simp only [BlkRep] at h ⊢; exact rows _ _ _ h (fun o q1 q2 q3 => hno _ _ (rgn_ints.2 ⟨q1, rfl, q2, q3⟩))
        | false => exact h
      | row e l rw =>
        cases rw with
        | true => simp only [BlkRep] at h ⊢; obtain ⟨c, h1, h2⟩ := h; exact ⟨c, h1, rows _ _ _ h2 (fun o q1 q2 q3 => hno _ _ (rgn_row.2 ⟨q1, rfl, q2, q3⟩))⟩
        | false => exact h
    | _ => exact tree rfl
  | _ => exact tree rfl
theorem Adv.kept_one {nm k n : Nat} {ρ : Ren} {hp : Hp} {w w' : World} {t t' : AV} {own : Nat → Nat → Prop} (h : RepW ρ hp w) (hn : hp.getD n none = some t) (hk : Kept own w w') (hown : ∀ b o, own b o → rgn (ρ n) t b o)
    (hnew : BlkRep ρ w' n t') (hr : ∀ b o, rgn (ρ n) t' b o → rgn (ρ n) t b o) : Adv nm k ρ hp w ρ (setP none hp n (some t')) w' := by
  refine ⟨(Kept.refl _ w).trans hk fun b o ho => .inl ⟨n, t, hn, hown b o ho⟩, ⟨fun m v hv => ?_, fun m m' vm vn hm hm' hmn b o q1 q2 => ?_, fun b o x hx => ?_, fun m v b o hv q => ?_⟩, fun _ _ => rfl, fun _ _ _ q => q, fun _ _ q => .inl q, fun b o ⟨m, v, hv, q⟩ => ?_⟩
  · rw [getD_setP] at hv
    by_cases e : n = m
    · rw [if_pos e] at hv; cases hv; subst e; exact hnew
    · rw [if_neg e] at hv
      exact (h.blk m v hv).kept hk (fun b o q ho => h.sep m n v t hv hn (Ne.symm e) b o q (hown b o ho))
  · rw [getD_setP] at hm hm'
    by_cases e : n = m
    · subst e
      rw [if_pos rfl] at hm; cases hm
      rw [if_neg hmn] at hm'
      exact h.sep n m' t vn hn hm' hmn b o (hr b o q1) q2
    · rw [if_neg e] at hm
      by_cases e2 : n = m'
      · subst e2
        rw [if_pos rfl] at hm'; cases hm'
        exact h.sep m n vm t hm hn hmn b o q1 (hr b o q2)
      · rw [if_neg e2] at hm'
        exact h.sep m m' vm vn hm hm' hmn b o q1 q2
  · have hx' := h.fz b o x hx
    have hno : ¬ own b o := fun ho => by
      have := h.fzs n t b o hn (hown b o ho)
      rw [hx] at this; cases this
    unfold World.cell? at hx'
    simp only at hx'
    split at hx'
    · rename_i c e f hb
      obtain ⟨c', k1, k2, k3⟩ := hk.cells _ _ _ _ hb
      rw [cell_at k1, k3 o hno]
      exact hx'
    · cases hx'
  · rw [getD_setP] at hv
    by_cases e : n = m
    · subst e; rw [if_pos rfl] at hv; cases hv; exact h.fzs n t b o hn (hr b o q)
    · rw [if_neg e] at hv; exact h.fzs m v b o hv q
  · rw [getD_setP] at hv
    by_cases e : n = m
    · subst e; rw [if_pos rfl] at hv; cases hv; exact .inl ⟨n, t, hn, hr b o q⟩
    · rw [if_neg e] at hv; exact .inl ⟨m, v, hv, q⟩

/-- a world with one row -/
def oneRow (c : Array Value) : World := { heap := #[.cells c 0 (0, 0)], tape := fun _ _ => 0, drawn := 0, os := default, output := #[] }

theorem one_get {t : AV} : ∀ m x, ([some t] : Hp).getD m none = some x → m = 0 ∧ x = t := by
  intro m x hx
  cases m with
  | zero => simp at hx; exact ⟨rfl, hx.symm⟩
  | succ m => simp at hx

theorem recv_wf {P : Program} {Γ : Env} {Λ : Blks} {u : Nat} (hE : EnvOk P Γ) (hm : P.follows .mixedOrders = true) {f : FuncId} {fn : Func} {c : Code} (hf : P.funcs[f]? = some fn)
    (hb : fn.body = some c) (hΛ : LamOk P Λ c) {F : RFn} (hF : F.Ok P Γ Λ u fn c) {t : AV} {a b : List Hv} {rest : List AV} {v t' : AV}
    (ha : matchP F.rp t = some a) (hb' : matchPs F.pats rest = some b) (hrun : F.run (a ++ b) (fun v t => some (v, t)) = some (v, t')) (hwt : t.wf) (hwa : ∀ u ∈ rest, u.wf) : v.wf ∧ t'.wf := by
  have hnt : ∀ m, ¬ t.has m := fun m => plain_has F.rp t a hF.plain ha
  have hnr : ∀ u ∈ rest, ∀ m, ¬ u.has m := fun u hu m hmm => plainL_has F.pats rest b hF.plains hb' (hasL_mem hu hmm)
  obtain ⟨γ, K, x, hev, hK⟩ := hF.main t a rest b v t' ha hb' hrun hwt hwa
  have htr := match_tree ha
  have hrl : RepW ⟨fun _ => ⟨0, 0, 0, false⟩, fun _ _ => none⟩ [some t] (oneRow (t.cells ⟨fun _ => ⟨0, 0, 0, false⟩, fun _ _ => none⟩).toArray) := by
    refine ⟨fun m y hy => ?_, fun m k vm vk h1 h2 h3 => ?_, (fun b o x hx => by cases hx), fun _ _ _ _ _ _ => rfl⟩
    · obtain ⟨rfl, rfl⟩ := one_get m y hy
      rw [blkRep_tree htr]
      exact ⟨_, 0, rfl, by simp [cells_length], fun j hj => by simp⟩
    · obtain ⟨rfl, _⟩ := one_get m vm h1
      obtain ⟨rfl, _⟩ := one_get k vk h2
      exact absurd rfl h3
  obtain ⟨e, w', fr, ⟨ρ', st, ac, y, _, hx, hI, hw, _⟩, _⟩ := evalF_sound_wf hE hm hf hb hΛ hev hrl (fun m x hx => by obtain ⟨_, rfl⟩ := one_get m x hx; intro k hk; exact absurd hk (hnt k))
    (fun x hx => by
      rcases List.mem_cons.1 hx with rfl | hx
      · intro k hk; simp only [AV.has] at hk; subst hk; exact ⟨t, rfl⟩
      · intro k hk; exact absurd hk (hnr x hx k))
    (ptr_wf hwa) (fun m x hx => by obtain ⟨_, rfl⟩ := one_get m x hx; exact hwt) 0 (Nat.zero_le _) (by omega) []
  obtain ⟨rfl, h0⟩ := hK y st.hp hx
  exact ⟨hw, hI.wf.hp 0 t' h0⟩

/-- the core: the call, in the caller's memory -/
theorem recv_core {P : Program} {Γ : Env} {Λ : Blks} {u : Nat} (hE : EnvOk P Γ) (hm : P.follows .mixedOrders = true) {f : FuncId} {fn : Func} {c : Code} (hf : P.funcs[f]? = some fn)
    (hb : fn.body = some c) (hΛ : LamOk P Λ c) {F : RFn} (hF : F.Ok P Γ Λ u fn c) {n : Nat} {p : List Sel} {rest : List AV} {hp : Hp} {tree t : AV} {a b : List Hv}
    (hn : hp.getD n none = some tree) (hs : sub p tree = some t) (ha : matchP F.rp t = some a) (hb' : matchPs F.pats rest = some b) {v t' : AV}
    (hrun : F.run (a ++ b) (fun v t => some (v, t)) = some (v, t')) (hwa : ∀ u ∈ rest, u.wf) (hwt : t.wf) {ρ : Ren} {w : World} (hr : RepW ρ hp w) :
    Calls P f ((AV.ptr n p :: rest).map (AV.enc ρ)).toArray w fun e w' => e = .returned (v.enc ρ) ∧
      Kept (fun b o => b = (ρ n).1 ∧ (ρ n).2 + pOff p ≤ o ∧ o < (ρ n).2 + pOff p + t.size) w w' ∧
      ∃ c' e, w'.heap[(ρ n).1]? = some (.cells c' e (0, 0)) ∧ ∀ j, j < t'.size → c'[(ρ n).2 + pOff p + j]? = (t'.cells ρ)[j]? := by
  have hnt : ∀ m, ¬ t.has m := fun m => plain_has F.rp t a hF.plain ha
  have hnr : ∀ u ∈ rest, ∀ m, ¬ u.has m := fun u hu m hmm => plainL_has F.pats rest b hF.plains hb' (hasL_mem hu hmm)
  obtain ⟨γ, KK, xx, hev, hKK⟩ := hF.main t a rest b v t' ha hb' hrun hwt hwa
  obtain ⟨hnv, hnt'⟩ := hF.names _ _ _ hrun
  have htr := match_tree ha
  have htr' := hF.trees _ _ _ hrun
  obtain ⟨cc, ee, hc, hcs, hps, hcells⟩ := sub_rep hr hn hs htr
  let ρl : Ren := ⟨fun m => if m = 0 then ⟨(ρ n).1, (ρ n).2 + pOff p, 0, false⟩ else ρ m, fun _ _ => none⟩
  have hget : ∀ m x, ([some t] : Hp).getD m none = some x → m = 0 ∧ x = t := by
    intro m x hx
    cases m with
    | zero => simp at hx; exact ⟨rfl, hx.symm⟩
    | succ m => simp at hx
  have hrl : RepW ρl [some t] w := by
    refine ⟨fun m x hx => ?_, fun m k vm vk h1 h2 h3 => ?_, (fun b o x hx => by cases hx), fun _ _ _ _ _ _ => rfl⟩
    · obtain ⟨rfl, rfl⟩ := hget m x hx
      rw [blkRep_tree htr]
      refine ⟨cc, ee, by simpa [ρl] using hc, by simp [ρl]; omega, fun j hj => ?_⟩
      have e1 : x.cells ρl = x.cells ρ := cells_congr x (fun m hmm => absurd hmm (hnt _))
      rw [e1]
      simpa [ρl] using hcells j hj
    · obtain ⟨rfl, _⟩ := hget m vm h1
      obtain ⟨rfl, _⟩ := hget k vk h2
      exact absurd rfl h3
  have hcalls := evalF_sound hE hm hf hb hΛ hev hrl (fun m x hx => by obtain ⟨_, rfl⟩ := hget m x hx; intro k hk; exact absurd hk (hnt k))
    (fun x hx => by
      rcases List.mem_cons.1 hx with rfl | hx
      · intro k hk; simp only [AV.has] at hk; subst hk; exact ⟨t, rfl⟩
      · intro k hk; exact absurd hk (hnr x hx k))
    (ptr_wf hwa) (fun m x hx => by obtain ⟨_, rfl⟩ := hget m x hx; exact hwt) 1 (Nat.le_refl _)
  have earr : ((AV.ptr 0 [] :: rest).map (AV.enc ρl)) = ((AV.ptr n p :: rest).map (AV.enc ρ)) := by
    simp only [List.map_cons, List.cons.injEq]
    refine ⟨by simp [AV.enc, ρl, pOff], List.map_congr_left fun x hx => enc_congr x fun m hmm => absurd hmm (hnr x hx _)⟩
  rw [earr] at hcalls
  refine hcalls.mono fun e w' ⟨ρ', st, ac, x, he, hx, hI⟩ => ?_
  obtain ⟨rfl, hg⟩ := hKK x st.hp hx
  · have hρ0 : ρ' 0 = ⟨(ρ n).1, (ρ n).2 + pOff p, 0, false⟩ := by have := hI.low 0 (by show 0 < 1; omega); simpa [ρl] using this
    refine ⟨by rw [he, enc_congr x (fun m hmm => absurd hmm (hnv _))], ?_, ?_⟩
    · have hk := hI.kept
      have hown : ∀ b o, OwnR ρl [some t] b o → b = (ρ n).1 ∧ (ρ n).2 + pOff p ≤ o ∧ o < (ρ n).2 + pOff p + t.size := by
        rintro b o ⟨m, z, hz, h1⟩
        obtain ⟨rfl, rfl⟩ := hget m z hz
        rw [rgn_tree htr] at h1
        simpa [ρl] using h1
      exact (Kept.refl _ w).trans hk fun b o ho => .inl (hown b o ho)
    · have hb0 := hI.rep.blk 0 t' hg
      rw [blkRep_tree htr'] at hb0
      obtain ⟨c', e', h1, h2, h3⟩ := hb0
      rw [hρ0] at h1 h2 h3
      refine ⟨c', e', h1, fun j hj => ?_⟩
      rw [h3 j hj, cells_congr t' (fun m hmm => absurd hmm (hnt' _))]

theorem fn_full {P : Program} {Γ : Env} {Λ : Blks} {u : Nat} (hE : EnvOk P Γ) (hm : P.follows .mixedOrders = true) {f : FuncId} {fn : Func} {c : Code} (hf : P.funcs[f]? = some fn)
    (hn' : (fn.name == "runtime.NumGoroutine") = false) (hb : fn.body = some c) (hΛ : LamOk P Λ c) {F : RFn} (hF : F.Ok P Γ Λ u fn c) : EntryOk P f (.full F.full) := by
  have core : ∀ args hp nm v hp', F.full.run args hp nm (fun v h => some (v, h)) = some (v, hp') →
      ∃ n p rest tree t a b t' tree', args = .ptr n p :: rest ∧ hp.getD n none = some tree ∧ sub p tree = some t ∧ matchP F.rp t = some a ∧ matchPs F.pats rest = some b ∧
        F.run (a ++ b) (fun v t => some (v, t)) = some (v, t') ∧ put p tree t' = some tree' ∧ hp' = setP none hp n (some tree') := by
    intro args hp nm v hp' h
    simp only [RFn.full] at h
    split at h
    · rename_i n p rest
      split at h
      · rename_i tree htree
        rw [subK_eq] at h
        cases hs : sub p tree with
        | none => simp [hs] at h
        | some t =>
          simp only [hs, Option.bind_some] at h
          cases ha : matchP F.rp t with
          | none => simp [ha] at h
          | some a =>
            cases hb' : matchPs F.pats rest with
            | none => simp [ha, hb'] at h
            | some b =>
              simp only [ha, hb'] at h
              rw [hF.law] at h
              cases hr : F.run (a ++ b) (fun v t => some (v, t)) with
              | none => simp [hr] at h
              | some x =>
                obtain ⟨v', t'⟩ := x
                simp only [hr, Option.bind_some] at h
                rw [putK_eq'] at h
                cases hput : put p tree t' with
                | none => simp [hput] at h
                | some tree' =>
                  simp only [hput, Option.bind_some, Option.some.injEq, Prod.mk.injEq] at h
                  obtain ⟨rfl, rfl⟩ := h
                  exact ⟨n, p, rest, tree, t, a, b, t', tree', rfl, htree, hs, ha, hb', hr, hput, rfl⟩
      · cases h
    · cases h
  refine ⟨⟨fn, c, hf, hn', hb⟩, ⟨fun β args hp nm K => ?_, fun args hp nm v hp' h hcl hca => ?_, fun args hp nm v hp' h hwa hwh => ?_⟩, fun args hp nm v hp' h hwa hwh ρ w hr hcl hca hg => ?_⟩
  · simp only [RFn.full]
    split
    · rename_i n p rest
      cases htree : hp.getD n none with
      | none => rfl
      | some tree =>
        simp only
        rw [subK_eq, subK_eq]
        cases hs : sub p tree with
        | none => rfl
        | some t =>
          simp only [Option.bind_some]
          cases ha : matchP F.rp t with
          | none => rfl
          | some a =>
            simp only
            cases hb' : matchPs F.pats rest with
            | none => rfl
            | some b =>
              simp only
              rw [hF.law β, hF.law (AV × Hp)]
              cases hr : F.run (a ++ b) (fun v t => some (v, t)) with
              | none => rfl
              | some x =>
                simp only [Option.bind_some]
                rw [putK_eq' (β := β), putK_eq' (β := AV × Hp)]
                cases put p tree x.2 <;> rfl
    · rfl
  · obtain ⟨n, p, rest, tree, t, a, b, t', tree', rfl, htree, hs, ha, hb', hrun, hput, rfl⟩ := core args hp nm v hp' h
    obtain ⟨hnv, hnt'⟩ := hF.names _ _ _ hrun
    have hg := grows_put htree (leq_tree (isTree_iff.1 (sub_tree hs (match_tree ha))).1) (fun m hmm => (put_has _ _ _ _ hput m hmm).elim id (fun h' => absurd h' (hnt' m)))
    exact ⟨fun m hmm => absurd hmm (hnv m), hg.closed hcl, hg.pres⟩
  · obtain ⟨n, p, rest, tree, t, a, b, t', tree', rfl, htree, hs, ha, hb', hrun, hput, rfl⟩ := core args hp nm v hp' h
    obtain ⟨h1, h2⟩ := recv_wf hE hm hf hb hΛ hF ha hb' hrun (sub_wf _ _ _ hs (hwh _ _ htree)) (fun u hu => hwa u (by simp [hu]))
    exact ⟨h1, wf_put hwh (put_wf _ _ _ _ hput (hwh _ _ htree) h2)⟩
  · obtain ⟨n, p, rest, tree, t, a, b, t', tree', rfl, htree, hs, ha, hb', hrun, hput, rfl⟩ := core args hp nm v hp' h
    have hcalls := recv_core hE hm hf hb hΛ hF htree hs ha hb' hrun (fun u hu => hwa u (by simp [hu])) (sub_wf _ _ _ hs (hwh _ _ htree)) hr
    have htt := match_tree ha
    have htt' := hF.trees _ _ _ hrun
    have htree' := sub_tree hs htt
    refine hcalls.mono fun e w' ⟨he, hk, c', e', hc', hcells'⟩ => ⟨ρ, he, ?_⟩
    obtain ⟨cc, ee, hc, hcs, hps, _⟩ := sub_rep hr htree hs htt
    have hsz := put_size hput
    have hput' := put_isTree _ _ _ _ hput htt'
    refine Adv.kept_one hr htree hk (fun b o ho => by rw [rgn_tree htree']; omega) ?_ (fun b o q => by rw [rgn_tree htree']; rw [rgn_tree hput', hsz] at q; exact q)
    rw [blkRep_tree hput']
    obtain ⟨c2, k1, k2, k3⟩ := hk.cells _ _ _ _ hc
    rw [k1] at hc'
    cases hc'
    obtain ⟨A, U, B, p1, p2, p3, p4⟩ := put_cells ρ p tree t' tree' hput
    have hlenT : tree.size = A.length + U.length + B.length := by rw [← cells_length ρ tree, p1]; simp; omega
    refine ⟨c', _, k1, by rw [k2, hsz]; exact hcs, fun j hj => ?_⟩
    rw [hsz] at hj
    have hb0 := hr.blk n tree htree
    rw [blkRep_tree htree'] at hb0
    obtain ⟨c0, e0, z1, z2, z3⟩ := hb0
    rw [hc] at z1
    cases z1
    rw [p2]
    by_cases hA : j < A.length
    · have := z3 j hj
      rw [k3 _ (by omega), this, p1, List.append_assoc, List.append_assoc, List.getElem?_append_left hA, List.getElem?_append_left hA]
    · by_cases hB : j < A.length + t'.size
      · have := hcells' (j - A.length) (by omega)
        rw [show (ρ n).2 + pOff p + (j - A.length) = (ρ n).2 + j by omega] at this
        rw [this, List.append_assoc, List.getElem?_append_right (by omega), List.getElem?_append_left (by rw [cells_length]; omega)]
      · have := z3 j hj
        have hts : t.size = t'.size := sub_put_size hs hput
        rw [k3 _ (by omega), this, p1, List.getElem?_append_right (by simp; omega), List.getElem?_append_right (by simp [cells_length]; omega)]
        simp [p4, cells_length]

theorem fn_read {P : Program} {Γ : Env} {Λ : Blks} {u : Nat} (hE : EnvOk P Γ) (hm : P.follows .mixedOrders = true) {f : FuncId} {fn : Func} {c : Code} (hf : P.funcs[f]? = some fn)
    (hn' : (fn.name == "runtime.NumGoroutine") = false) (hb : fn.body = some c) (hΛ : LamOk P Λ c) {F : RFn} (hF : F.Ok P Γ Λ u fn c)
    (hstill : ∀ hs v t, F.run hs (fun v t => some (v, t)) = some (v, t) → t = F.tree hs) : EntryOk P f (.read F.read) := by
  have core : ∀ args hp v, F.read.run args hp some = some v →
      ∃ n p rest tree t a b t', args = .ptr n p :: rest ∧ hp.getD n none = some tree ∧ sub p tree = some t ∧ matchP F.rp t = some a ∧ matchPs F.pats rest = some b ∧
        F.run (a ++ b) (fun v t => some (v, t)) = some (v, t') := by
    intro args hp v h
    simp only [RFn.read] at h
    split at h
    · rename_i n p rest
      split at h
      · rename_i tree htree
        rw [subK_eq] at h
        cases hs : sub p tree with
        | none => simp [hs] at h
        | some t =>
          simp only [hs, Option.bind_some] at h
          cases ha : matchP F.rp t with
          | none => simp [ha] at h
          | some a =>
            cases hb' : matchPs F.pats rest with
            | none => simp [ha, hb'] at h
            | some b =>
              simp only [ha, hb'] at h
              rw [hF.law] at h
              cases hr : F.run (a ++ b) (fun v t => some (v, t)) with
              | none => simp [hr] at h
              | some x =>
                obtain ⟨v', t'⟩ := x
                simp only [hr, Option.bind_some, Option.some.injEq] at h
                subst h
                exact ⟨n, p, rest, tree, t, a, b, t', rfl, htree, hs, ha, hb', hr⟩
      · cases h
    · cases h
  refine ⟨⟨fn, c, hf, hn', hb⟩, ⟨fun β args hp K => ?_, fun args hp v h hcl hca => ?_, fun args hp v h hwa hwh => ?_⟩, fun args hp v h hwa hwh ρ w hr hcl hca => ?_⟩
  · simp only [RFn.read]
    split
    · rename_i n p rest
      cases htree : hp.getD n none with
      | none => rfl
      | some tree =>
        simp only
        rw [subK_eq, subK_eq]
        cases hs : sub p tree with
        | none => rfl
        | some t =>
          simp only [Option.bind_some]
          cases ha : matchP F.rp t with
          | none => rfl
          | some a =>
            simp only
            cases hb' : matchPs F.pats rest with
            | none => rfl
            | some b =>
              simp only
              rw [hF.law β, hF.law AV]
              cases hr : F.run (a ++ b) (fun v t => some (v, t)) <;> rfl
    · rfl
  · obtain ⟨n, p, rest, tree, t, a, b, t', rfl, htree, hs, ha, hb', hrun⟩ := core args hp v h
    exact fun m hmm => absurd hmm ((hF.names _ _ _ hrun).1 m)
  · obtain ⟨n, p, rest, tree, t, a, b, t', rfl, htree, hs, ha, hb', hrun⟩ := core args hp v h
    exact (recv_wf hE hm hf hb hΛ hF ha hb' hrun (sub_wf _ _ _ hs (hwh _ _ htree)) (fun u hu => hwa u (by simp [hu]))).1
  · obtain ⟨n, p, rest, tree, t, a, b, t', rfl, htree, hs, ha, hb', hrun⟩ := core args hp v h
    have hcalls := recv_core hE hm hf hb hΛ hF htree hs ha hb' hrun (fun u hu => hwa u (by simp [hu])) (sub_wf _ _ _ hs (hwh _ _ htree)) hr
    have hbt := build_match F.rp t a [] b ha
    simp only [List.nil_append, List.length_nil, Nat.zero_add] at hbt
    have et : t' = t := by rw [hstill _ _ _ hrun]; unfold RFn.tree; rw [hbt]
    subst et
    refine hcalls.mono fun e w' ⟨he, hk, c', e', hc', hcells'⟩ => ⟨he, ?_⟩
    obtain ⟨cc, ee, hc, hcs, hps, hcells⟩ := sub_rep hr htree hs (match_tree ha)
    have hsame : w'.heap[(ρ n).1]? = w.heap[(ρ n).1]? := by
      obtain ⟨c2, k1, k2, k3⟩ := hk.cells _ _ _ _ hc
      rw [k1] at hc'
      cases hc'
      rw [k1, hc]
      congr 2
      apply Array.ext_getElem?
      intro o
      by_cases ho : (ρ n).2 + pOff p ≤ o ∧ o < (ρ n).2 + pOff p + t'.size
      · have h1 := hcells' (o - ((ρ n).2 + pOff p)) (by omega)
        have h2 := hcells (o - ((ρ n).2 + pOff p)) (by omega)
        rw [show (ρ n).2 + pOff p + (o - ((ρ n).2 + pOff p)) = o by omega] at h1 h2
        rw [h1, h2]
      · exact k3 o (fun hh => ho hh.2)
    refine ⟨hk.os, hk.tape, hk.output, hk.size, fun b hbl _ => ?_, fun b c3 e3 fz hb3 => ?_, hk.frz⟩
    · by_cases hbn : b = (ρ n).1
      · rw [hbn]; exact hsame
      · exact hk.old b hbl (fun o ho => hbn ho.1)
    · refine ⟨c3, ?_, rfl, fun _ _ => rfl⟩
      by_cases hbn : b = (ρ n).1
      · rw [hbn, hsame, ← hbn]; exact hb3
      · rw [hk.old b (Array.getElem?_eq_some_iff.1 hb3).1 (fun o ho => hbn ho.1)]; exact hb3

/-- a function that makes a block, and answers its address -/
structure NFn where
  pats : List Pat
  run : {β : Type} → List Hv → (AV → Option β) → Option β

def NFn.sem (F : NFn) : FSem where
  run args hp nm K :=
    match matchPs F.pats args with
    | some hs => match hp.getD nm none with
      | none => F.run hs fun t => K (.ptr nm []) (setP none hp nm (some t))
      | some _ => none
    | none => none

theorem fn_new {P : Program} {Γ : Env} {Λ : Blks} {u : Nat} (hE : EnvOk P Γ) (hm : P.follows .mixedOrders = true) {f : FuncId} {fn : Func} {c : Code} (hf : P.funcs[f]? = some fn)
    (hn' : (fn.name == "runtime.NumGoroutine") = false) (hb : fn.body = some c) (hΛ : LamOk P Λ c) (F : NFn) (hpl : Pat.plainL F.pats = true)
    (hlaw : ∀ (β : Type) hs (K : AV → Option β), F.run hs K = (F.run hs some).bind K) (hnames : ∀ hs t, F.run hs some = some t → ∀ m, ¬ t.has m)
    (hsize : ∀ hs t, F.run hs some = some t → t.isTree = true ∧ 0 < t.size)
    (hmain : ∀ args hs t, matchPs F.pats args = some hs → F.run hs some = some t → (∀ u ∈ args, u.wf) →
      ∃ (γ : Type) (K : AV → Hp → Option γ) (x : γ), evalF P Γ Λ u fn c args [] 0 K = some x ∧ ∀ y h, K y h = some x → ∃ m, y = .ptr m [] ∧ h.getD m none = some t) : EntryOk P f (.full F.sem) := by
  have core : ∀ args hp nm v hp', F.sem.run args hp nm (fun v h => some (v, h)) = some (v, hp') → ∃ hs t, matchPs F.pats args = some hs ∧ F.run hs some = some t ∧ v = .ptr nm [] ∧ hp' = setP none hp nm (some t) ∧ hp.getD nm none = none := by
    intro args hp nm v hp' h
    simp only [NFn.sem] at h
    cases hm' : matchPs F.pats args with
    | none => simp [hm'] at h
    | some hs =>
      simp only [hm'] at h
      cases hg : hp.getD nm none with
      | some _ => rw [hg] at h; cases h
      | none =>
        rw [hg] at h
        simp only at h
        rw [hlaw] at h
        cases hr : F.run hs some with
        | none => simp [hr] at h
        | some t =>
          simp only [hr, Option.bind_some, Option.some.injEq, Prod.mk.injEq] at h
          obtain ⟨rfl, rfl⟩ := h
          exact ⟨hs, t, rfl, hr, rfl, rfl, rfl⟩
  refine ⟨⟨fn, c, hf, hn', hb⟩, ⟨fun β args hp nm K => ?_, fun args hp nm v hp' h hcl hca => ?_, fun args hp nm v hp' h hwa hwh => ?_⟩, fun args hp nm v hp' h hwa hwh ρ w hr hcl hca hg => ?_⟩
  · simp only [NFn.sem]
    cases hm' : matchPs F.pats args with
    | none => rfl
    | some hs =>
      simp only
      cases hp.getD nm none with
      | some _ => rfl
      | none =>
        simp only
        rw [hlaw β, hlaw (AV × Hp)]
        cases F.run hs some <;> rfl
  · obtain ⟨hs, t, hm', hr, rfl, rfl, hfree⟩ := core args hp nm v hp' h
    have hg := grows_add (t := t) hfree (hnames hs t hr)
    exact ⟨fun m hmm => by simp only [AV.has] at hmm; subst hmm; exact ⟨t, by rw [getD_setP, if_pos rfl]⟩, hg.closed hcl, hg.pres⟩
  · obtain ⟨hs, t, hm', hr, rfl, rfl, _⟩ := core args hp nm v hp' h
    refine ⟨by simp only [AV.wf], wf_put hwh ?_⟩
    obtain ⟨γ, K, x, hev, hK⟩ := hmain args hs t hm' hr hwa
    have hnn : ∀ u ∈ args, ∀ m, ¬ u.has m := fun u hu m hmm => plainL_has F.pats args hs hpl hm' (hasL_mem hu hmm)
    obtain ⟨e, w', fr, ⟨ρ', st, ac, y, _, hx, hI, hw, _⟩, _⟩ := evalF_sound_wf hE hm hf hb hΛ hev (ρ := ren0.bare) (w := oneRow #[]) rep_nil (fun n v hv => by simp at hv) (fun v hv m hmm => absurd hmm (hnn v hv m)) hwa (fun n v hv => by simp at hv) 0 (Nat.le_refl _) (by omega) []
    obtain ⟨m, rfl, hg⟩ := hK y st.hp hx
    exact hI.wf.hp m t hg
  · obtain ⟨hs, t, hm', hrun, rfl, rfl, _⟩ := core args hp nm v hp' h
    obtain ⟨γ, K, x, hmn, hK⟩ := hmain args hs t hm' hrun hwa
    have hnn : ∀ u ∈ args, ∀ m, ¬ u.has m := fun u hu m hmm => plainL_has F.pats args hs hpl hm' (hasL_mem hu hmm)
    have hcalls := evalF_sound hE hm hf hb hΛ hmn (ρ := ρ.bare) (w := w) rep_nil (fun n v hv => by simp at hv) (fun v hv m hmm => absurd hmm (hnn v hv m)) hwa (fun n v hv => by simp at hv) 0 (Nat.le_refl _)
    rw [bare_map] at hcalls
    refine hcalls.mono fun e w' ⟨ρ', st, a, x, he, hx, hI⟩ => ?_
    obtain ⟨m, rfl, hgx⟩ := hK x st.hp hx
    obtain ⟨htr, hpos⟩ := hsize hs t hrun
    have hkept : Same w w' := same_nil hI.kept
    have hbt := hI.rep.blk m t hgx
    rw [blkRep_tree htr] at hbt
    obtain ⟨c', e', h1, h2, h3⟩ := hbt
    have hbig : w.heap.size ≤ (ρ' m).1 := by
      rcases hI.mine m t hgx (ρ' m).1 (ρ' m).2 (by rw [rgn_tree htr]; exact ⟨rfl, Nat.le_refl _, by omega⟩) with h | ⟨n, v, hv, _⟩
      · exact h
      · simp at hv
    refine ⟨ρ.upd nm (ρ' m), by rw [he]; simp [AV.enc, upd_self], Adv.add_new hr hg hcl ⟨Nat.le_refl _, by omega⟩ hkept ?_ (fun b o q => by rw [rgn_tree htr] at q; rw [q.1]; exact hbig)⟩
    rw [blkRep_tree htr, upd_self]
    refine ⟨c', e', h1, h2, fun j hj => ?_⟩
    rw [h3 j hj, cells_congr t (fun m hmm => absurd hmm (hnames hs t hrun _))]
end Go.Sim
namespace Go.Sim
variable {β : Type}

def fnOf : List (FuncId × Entry) → FuncId → Option Entry
  | [], _ => none
  | (g, e) :: r, f => bif Nat.beq g f then some e else fnOf r f
def envOf (l : List (FuncId × Entry)) : Env := ⟨fnOf l, fun _ => false, fun _ => 0⟩
def isIn : List Nat → Nat → Bool
  | [], _ => false
  | x :: r, n => Nat.beq x n || isIn r n
def numIn : List (Nat × Nat) → Nat → Nat
  | [], _ => 0
  | (x, k) :: r, n => bif Nat.beq x n then k else numIn r n
/-- with the types of slices, and how many slices a type's values hold -/
def envS (sl : List Nat) (nest : List (Nat × Nat)) (l : List (FuncId × Entry)) : Env := ⟨fnOf l, isIn sl, numIn nest⟩

theorem fnOf_ok {P : Program} : ∀ {l : List (FuncId × Entry)}, (∀ p ∈ l, EntryOk P p.1 p.2) → ∀ f e, fnOf l f = some e → EntryOk P f e
  | [], _, f, e, he => by cases he
  | (g, x) :: r, h, f, e, he => by
    simp only [fnOf] at he
    cases hb : Nat.beq g f with
    | true =>
      simp only [hb, cond_true, Option.some.injEq] at he
      have := Nat.eq_of_beq_eq_true hb
      subst this; subst he
      exact h (g, x) (by simp)
    | false =>
      simp only [hb, cond_false] at he
      exact fnOf_ok (fun p hp => h p (by simp [hp])) f e he
theorem envOf_ok {P : Program} {l : List (FuncId × Entry)} (h : ∀ p ∈ l, EntryOk P p.1 p.2) : EnvOk P (envOf l) := fnOf_ok h
theorem envS_ok {P : Program} {sl : List Nat} {nest : List (Nat × Nat)} {l : List (FuncId × Entry)} (h : ∀ p ∈ l, EntryOk P p.1 p.2) : EnvOk P (envS sl nest l) := fnOf_ok h

theorem envOk_nil {P : Program} : EnvOk P (envOf []) := envOf_ok (fun p hp => by cases hp)
theorem all_nil {P : Program} : ∀ p ∈ ([] : List (FuncId × Entry)), EntryOk P p.1 p.2 := fun p hp => by cases hp
theorem all_cons {P : Program} {f : FuncId} {e : Entry} {l : List (FuncId × Entry)} (h : EntryOk P f e) (hl : ∀ p ∈ l, EntryOk P p.1 p.2) : ∀ p ∈ (f, e) :: l, EntryOk P p.1 p.2 := by
  intro p hp
  rcases List.mem_cons.1 hp with rfl | hp
  · exact h
  · exact hl p hp

def lamOf : List (Nat × BSem) → Blks
  | [], _ => none
  | (g, e) :: r, f => bif Nat.beq g f then some e else lamOf r f

def blkIn : List (Nat × Code) → Nat → Code
  | [], _ => .skip
  | (g, c) :: r, f => bif Nat.beq g f then c else blkIn r f

def blkOf (c : Code) (id : Nat) : Code := blkIn (blocks c) id

def idsOk : List Nat → Bool
  | [] => true
  | x :: r => !(r.any (Nat.beq x)) && idsOk r

theorem blkIn_mem : ∀ {l : List (Nat × Code)} {id : Nat} {c : Code}, idsOk (l.map (·.1)) = true → (id, c) ∈ l → blkIn l id = c
  | (g, x) :: r, id, c, h, hm => by
    simp only [List.map_cons, idsOk, Bool.and_eq_true, Bool.not_eq_true'] at h
    simp only [blkIn]
    rcases List.mem_cons.1 hm with e | hm
    · cases e; simp
    · have hne : Nat.beq g id = false := by
        cases hb : Nat.beq g id with
        | false => rfl
        | true =>
          have := h.1
          rw [List.any_eq_false] at this
          exact absurd hb (this id (List.mem_map.2 ⟨(id, c), hm, rfl⟩))
      simp only [hne, cond_false]
      exact blkIn_mem h.2 hm

theorem lamOk_of {P : Program} {c : Code} (hid : idsOk ((blocks c).map (·.1)) = true) : ∀ {l : List (Nat × BSem)}, (∀ p ∈ l, BlkSound P p.1 (blkOf c p.1) p.2) → LamOk P (lamOf l) c
  | [], _, id, s, hs, _, _ => by cases hs
  | (g, x) :: r, h, id, s, hs, c', hc => by
    simp only [lamOf] at hs
    cases hb : Nat.beq g id with
    | true =>
      simp only [hb, cond_true, Option.some.injEq] at hs
      have := Nat.eq_of_beq_eq_true hb
      subst this; subst hs
      have := h (g, x) (by simp)
      rwa [show blkOf c g = c' from blkIn_mem hid hc] at this
    | false =>
      simp only [hb, cond_false] at hs
      exact lamOk_of hid (fun p hp => h p (by simp [hp])) id s hs c' hc

theorem lamOk_nil {P : Program} {c : Code} : LamOk P (lamOf []) c := fun _ _ h => by cases h

theorem blk_nil {P : Program} {c : Code} : ∀ p ∈ ([] : List (Nat × BSem)), BlkSound P p.1 (blkOf c p.1) p.2 := fun p hp => by cases hp
theorem blk_cons {P : Program} {c : Code} {id : Nat} {s : BSem} {l : List (Nat × BSem)} (h : BlkSound P id (blkOf c id) s) (hl : ∀ p ∈ l, BlkSound P p.1 (blkOf c p.1) p.2) :
    ∀ p ∈ (id, s) :: l, BlkSound P p.1 (blkOf c p.1) p.2 := by
  intro p hp
  rcases List.mem_cons.1 hp with rfl | hp
  · exact h
  · exact hl p hp

def codeOf (f : Func) : Code := match f.body with | some c => c | none => .skip
def loopOf (c : Code) (id : Nat) : Code := match blkOf c id with | .loop b => b | _ => .skip

/-- the inner blocks of a loop's body are blocks of the function's -/
theorem lam_sub {P : Program} {Λ : Blks} {c b : Code} {_id : Nat} (h : LamOk P Λ c) (hb : ∀ p ∈ blocks b, p ∈ blocks c) : LamOk P Λ b := fun id s hs c' hc => h id s hs c' (hb _ hc)

/-- a function of values, by what it answers: patterns of its arguments, of its result -/
theorem fn_pure' {P : Program} {Γ : Env} {Λ : Blks} {u : Nat} (hE : EnvOk P Γ) (hm : P.follows .mixedOrders = true) {f : FuncId} {fn : Func} {c : Code} (hf : P.funcs[f]? = some fn)
    (hn : (fn.name == "runtime.NumGoroutine") = false) (hb : fn.body = some c) (hΛ : LamOk P Λ c) (F : PFn) (rp : Pat) (hpl : Pat.plainL F.pats = true) (hrp : rp.plain = true)
    (hlaw : ∀ (β : Type) hs (K : AV → Option β), F.run hs K = (F.run hs some).bind K)
    (hres : ∀ hs v, F.run hs some = some v → ∃ l, matchP rp v = some l)
    (hwf : ∀ hs v, F.run hs some = some v → (∀ u ∈ (buildPs hs F.pats 0).1, u.wf) → v.wf)
    (hmain : ∀ hs v, F.run hs some = some v → (∀ u ∈ (buildPs hs F.pats 0).1, u.wf) → evalF P Γ Λ u fn c (buildPs hs F.pats 0).1 [] 0 (fun v _ => matchP rp v) = matchP rp v) : EntryOk P f (.pure F.sem) := by
  have hnames : ∀ hs v, F.run hs some = some v → ∀ m, ¬ v.has m := fun hs v h m => by
    obtain ⟨l, hl⟩ := hres hs v h
    exact plain_has rp v l hrp hl
  refine ⟨⟨fun β args K => ?_, fun args v h => ?_, fun args v h hw => ?_⟩, fun args v h hw ρ w => .inl ⟨⟨fn, c, hf, hn, hb⟩, ?_⟩⟩
  · simp only [PFn.sem]
    cases matchPs F.pats args with
    | none => rfl
    | some hs => exact hlaw β hs K
  · simp only [PFn.sem] at h
    cases hm' : matchPs F.pats args with
    | none => simp [hm'] at h
    | some hs => simp only [hm'] at h; exact hnames hs v h
  · simp only [PFn.sem] at h
    cases hm' : matchPs F.pats args with
    | none => simp [hm'] at h
    | some hs =>
      simp only [hm'] at h
      have hba := build_matchs F.pats args hs [] [] hm'
      simp only [List.nil_append, List.append_nil, List.length_nil] at hba
      exact hwf hs v h (by rw [hba]; exact hw)
  · simp only [PFn.sem] at h
    cases hm' : matchPs F.pats args with
    | none => simp [hm'] at h
    | some hs =>
      simp only [hm'] at h
      have hba := build_matchs F.pats args hs [] [] hm'
      simp only [List.nil_append, List.append_nil, List.length_nil] at hba
      obtain ⟨l, hl⟩ := hres hs v h
      have hmn := hmain hs v h (by rw [hba]; exact hw)
      rw [hba, hl] at hmn
      have hnn : ∀ u ∈ args, ∀ m, ¬ u.has m := fun u hu m hmm => plainL_has F.pats args hs hpl hm' (hasL_mem hu hmm)
      have hcalls := evalF_sound hE hm hf hb hΛ hmn (ρ := ρ.bare) (w := w) rep_nil (fun n v hv => by simp at hv) (fun v hv m hmm => absurd hmm (hnn v hv m)) hw (fun n v hv => by simp at hv) 0 (Nat.le_refl _)
      rw [bare_map] at hcalls
      refine hcalls.mono fun e w' ⟨ρ', st, a, x, he, hx, hI⟩ => ⟨?_, same_nil hI.kept⟩
      · have e1 := build_match rp v l [] [] hl
        have e2 := build_match rp x l [] [] hx
        rw [e1] at e2
        simp only [Prod.mk.injEq, and_true] at e2
        subst e2
        rw [he, enc_congr v (fun m hmm => absurd hmm (hnames hs v h _))]

/-! all that a printed tree may answer -/
def AllR {α : Type} (Q : α → Prop) (t : Option α) : Prop := ∀ v, t = some v → Q v
theorem AllR.none {α : Type} {Q : α → Prop} : AllR Q none := fun v h => by cases h
theorem AllR.some {α : Type} {Q : α → Prop} {v : α} (h : Q v) : AllR Q (some v) := fun u hu => by cases hu; exact h
theorem AllR.cond {α : Type} {Q : α → Prop} {c : Bool} {x y : Option α} (hx : c = true → AllR Q x) (hy : c = false → AllR Q y) : AllR Q (bif c then x else y) := by
  cases c
  · exact hy rfl
  · exact hx rfl
theorem AllR.bind {α γ : Type} {Q : α → Prop} {o : Option γ} {f : γ → Option α} (h : ∀ r, o = Option.some r → AllR Q (f r)) : AllR Q (o.bind f) := by
  cases o with
  | none => exact AllR.none
  | some r => exact h r rfl

theorem bind_cond {α γ : Type} (c : Bool) (x y : Option α) (f : α → Option γ) : (bif c then x else y).bind f = bif c then x.bind f else y.bind f := by cases c <;> rfl

/-- no names -/
def noNames (v : AV) : Prop := ∀ m, ¬ v.has m

theorem RFn.law_of {F : RFn} (h : F.Law) : F.Law := h

theorem Same.below {w w' : World} (h : Same w w') : RowKit.Below w.heap.size w w' := ⟨h.os, h.tape, h.output, h.size, fun k hk => h.old k hk (fun _ => id)⟩

end Go.Sim
namespace Go.Sim
variable {β : Type}

inductive HK where
  | i | b | l | s | r
  /-- a list of just so many -/
  | x (n : Nat)

def Shape : List HK → List Hv → Prop
  | [], [] => True
  | .i :: ks, .i _ :: hs => Shape ks hs
  | .b :: ks, .b _ :: hs => Shape ks hs
  | .l :: ks, .l _ :: hs => Shape ks hs
  | .s :: ks, .s _ :: hs => Shape ks hs
  | .r :: ks, .r _ :: hs => Shape ks hs
  | .x n :: ks, .l l :: hs => l.length = n ∧ Shape ks hs
  | _, _ => False

def AllI : Nat → (List Int → Prop) → Prop
  | 0, Q => Q []
  | n + 1, Q => ∀ a : Int, AllI n fun l => Q (a :: l)

/-- for all holes of these kinds -/
def AllH : List HK → (List Hv → Prop) → Prop
  | [], Q => Q []
  | .i :: r, Q => ∀ a : Int, AllH r fun hs => Q (.i a :: hs)
  | .b :: r, Q => ∀ a : Bool, AllH r fun hs => Q (.b a :: hs)
  | .l :: r, Q => ∀ a : List Int, AllH r fun hs => Q (.l a :: hs)
  | .s :: r, Q => ∀ a : List UInt8, AllH r fun hs => Q (.s a :: hs)
  | .r :: r, Q => ∀ a : List (List Hv), AllH r fun hs => Q (.r a :: hs)
  | .x n :: r, Q => AllI n fun a => AllH r fun hs => Q (.l a :: hs)

theorem AllI.at : ∀ {n : Nat} {Q : List Int → Prop}, AllI n Q → ∀ l, l.length = n → Q l
  | 0, _, h, [], _ => h
  | 0, _, _, _ :: _, e => by simp at e
  | _ + 1, _, _, [], e => by simp at e
  | n + 1, _, h, a :: l, e => AllI.at (n := n) (h a) l (by simpa using e)

theorem AllI.mono : ∀ {n : Nat} {Q R : List Int → Prop}, (∀ l, Q l → R l) → AllI n Q → AllI n R
  | 0, _, _, h, hq => h _ hq
  | _ + 1, _, _, h, hq => fun a => AllI.mono (fun _ => h _) (hq a)

theorem AllH.at : ∀ {ks : List HK} {Q : List Hv → Prop}, AllH ks Q → ∀ hs, Shape ks hs → Q hs
  | [], _, h, [], _ => h
  | .i :: ks, _, h, .i a :: r, e => AllH.at (ks := ks) (h a) r e
  | .b :: ks, _, h, .b a :: r, e => AllH.at (ks := ks) (h a) r e
  | .l :: ks, _, h, .l a :: r, e => AllH.at (ks := ks) (h a) r e
  | .s :: ks, _, h, .s a :: r, e => AllH.at (ks := ks) (h a) r e
  | .r :: ks, _, h, .r a :: r, e => AllH.at (ks := ks) (h a) r e
  | .x n :: ks, _, h, .l a :: r, e => AllH.at (ks := ks) (AllI.at (n := n) h a e.1) r e.2

theorem AllH.mono : ∀ {ks : List HK} {Q R : List Hv → Prop}, (∀ hs, Q hs → R hs) → AllH ks Q → AllH ks R
  | [], _, _, h, hq => h _ hq
  | .i :: _, _, _, h, hq => fun a => AllH.mono (fun _ => h _) (hq a)
  | .b :: _, _, _, h, hq => fun a => AllH.mono (fun _ => h _) (hq a)
  | .l :: _, _, _, h, hq => fun a => AllH.mono (fun _ => h _) (hq a)
  | .s :: _, _, _, h, hq => fun a => AllH.mono (fun _ => h _) (hq a)
  | .r :: _, _, _, h, hq => fun a => AllH.mono (fun _ => h _) (hq a)
  | .x n :: ks, _, _, h, hq => AllI.mono (n := n) (fun _ hq => AllH.mono (ks := ks) (fun _ => h _) hq) hq

mutual
theorem build_names : ∀ (p : Pat) (_ : p.plain = true) (hs : List Hv) (j : Nat) (m : Tok), ¬ (buildP hs p j).1.has m
  | .int _, _, _, _, _ | .bool, _, _, _, _ | .str, _, _, _, _ | .arr .., _, _, _, _ | .nil, _, _, _, _ | .fn _, _, _, _, _ | .ci .., _, _, _, _ | .niS, _, _, _, _ => by simp [buildP, AV.has]
  | .ptr .., h, _, _, _ | .sl .., h, _, _, _ | .pr .., h, _, _, _ | .oi .., h, _, _, _ | .orow .., h, _, _, _ | .oit, h, _, _, _ | .fz _, h, _, _, _ => by simp [Pat.plain] at h
  | .agg ps, h, hs, j, m => by simp only [buildP, AV.has]; exact build_namesL ps (by simpa [Pat.plain] using h) hs j m
  | .tup ps, h, hs, j, m => by simp only [buildP, AV.has]; exact build_namesL ps (by simpa [Pat.plain] using h) hs j m
theorem build_namesL : ∀ (ps : List Pat) (_ : Pat.plainL ps = true) (hs : List Hv) (j : Nat) (m : Tok), ¬ AV.hasL m (buildPs hs ps j).1
  | [], _, _, _, _ => by simp [buildPs, AV.hasL]
  | p :: ps, h, hs, j, m => by
    simp only [Pat.plainL, Bool.and_eq_true] at h
    simp only [buildPs, AV.hasL, not_or]
    exact ⟨build_names p h.1 hs j m, build_namesL ps h.2 hs _ m⟩
end

mutual
def Pat.psize : Pat → Nat
  | .arr _ n => n
  | .agg ps => Pat.psizeL ps
  | .fz p => p.psize
  | _ => 1
def Pat.psizeL : List Pat → Nat
  | [] => 0
  | p :: ps => p.psize + Pat.psizeL ps
end

mutual
theorem build_size : ∀ (p : Pat) (hs : List Hv) (j : Nat), (buildP hs p j).1.size = p.psize
  | .int _, _, _ | .bool, _, _ | .str, _, _ | .arr .., _, _ | .nil, _, _ | .fn _, _, _ | .ci .., _, _ | .ptr .., _, _ | .niS, _, _ | .sl .., _, _ | .pr .., _, _ | .oi .., _, _ | .orow .., _, _ | .oit, _, _ => by simp [buildP, AV.size, Pat.psize]
  | .agg ps, hs, j => by simp only [buildP, AV.size, Pat.psize]; exact build_sizeL ps hs j
  | .tup ps, hs, j => by simp only [buildP, AV.size, Pat.psize]
  | .fz p, hs, j => by simp only [buildP, AV.size, Pat.psize]; exact build_size p hs j
theorem build_sizeL : ∀ (ps : List Pat) (hs : List Hv) (j : Nat), AV.sizeL (buildPs hs ps j).1 = Pat.psizeL ps
  | [], _, _ => by simp [buildPs, AV.sizeL, Pat.psizeL]
  | p :: ps, hs, j => by simp only [buildPs, AV.sizeL, Pat.psizeL, build_size p, build_sizeL ps]
end

def IFn : Nat → Type → Type
  | 0, α => α
  | n + 1, α => Int → IFn n α

/-- a function of holes, one by one -/
def HFn : List HK → Type → Type
  | [], α => α
  | .i :: r, α => Int → HFn r α
  | .b :: r, α => Bool → HFn r α
  | .l :: r, α => List Int → HFn r α
  | .s :: r, α => List UInt8 → HFn r α
  | .r :: r, α => List (List Hv) → HFn r α
  | .x n :: r, α => IFn n (HFn r α)

def apI {α : Type} : (n : Nat) → IFn n α → List Int → Option α
  | 0, f, [] => some f
  | n + 1, f, a :: l => apI n (f a) l
  | _, _, _ => none

def apH {α : Type} : (ks : List HK) → HFn ks (Option α) → List Hv → Option α
  | [], f, [] => f
  | .i :: r, f, .i a :: hs => apH r (f a) hs
  | .b :: r, f, .b a :: hs => apH r (f a) hs
  | .l :: r, f, .l a :: hs => apH r (f a) hs
  | .s :: r, f, .s a :: hs => apH r (f a) hs
  | .r :: r, f, .r a :: hs => apH r (f a) hs
  | .x n :: r, f, .l a :: hs => match apI n f a with
    | some g => apH r g hs
    | none => none
  | _, _, _ => none

theorem no_some {α : Type} {r : α} (h : (none : Option α) = some r) {p : Prop} : p := by cases h

theorem apI_len {α : Type} : ∀ {n : Nat} {f : IFn n α} {l : List Int} {g : α}, apI n f l = some g → l.length = n
  | 0, _, [], _, _ => rfl
  | 0, _, _ :: _, _, h => no_some h
  | _ + 1, _, [], _, h => no_some h
  | n + 1, f, a :: _, _, h => congrArg (· + 1) (apI_len (n := n) (f := f a) h)

theorem apH_shape {α : Type} : ∀ {ks : List HK} {f : HFn ks (Option α)} {hs : List Hv} {r : α}, apH ks f hs = some r → Shape ks hs
  | [], _, [], _, _ => trivial
  | [], _, _ :: _, _, h => no_some h
  | .i :: _, _, [], _, h => no_some h
  | .i :: _, f, .i a :: _, _, h => apH_shape (f := f a) h
  | .i :: _, _, .b _ :: _, _, h => no_some h
  | .i :: _, _, .l _ :: _, _, h => no_some h
  | .i :: _, _, .s _ :: _, _, h => no_some h
  | .i :: _, _, .r _ :: _, _, h => no_some h
  | .b :: _, _, [], _, h => no_some h
  | .b :: _, _, .i _ :: _, _, h => no_some h
  | .b :: _, f, .b a :: _, _, h => apH_shape (f := f a) h
  | .b :: _, _, .l _ :: _, _, h => no_some h
  | .b :: _, _, .s _ :: _, _, h => no_some h
  | .b :: _, _, .r _ :: _, _, h => no_some h
  | .l :: _, _, [], _, h => no_some h
  | .l :: _, _, .i _ :: _, _, h => no_some h
  | .l :: _, _, .b _ :: _, _, h => no_some h
  | .l :: _, f, .l a :: _, _, h => apH_shape (f := f a) h
  | .l :: _, _, .s _ :: _, _, h => no_some h
  | .l :: _, _, .r _ :: _, _, h => no_some h
  | .s :: _, _, [], _, h => no_some h
  | .s :: _, _, .i _ :: _, _, h => no_some h
  | .s :: _, _, .b _ :: _, _, h => no_some h
  | .s :: _, _, .l _ :: _, _, h => no_some h
  | .s :: _, f, .s a :: _, _, h => apH_shape (f := f a) h
  | .s :: _, _, .r _ :: _, _, h => no_some h
  | .r :: _, _, [], _, h => no_some h
  | .r :: _, _, .i _ :: _, _, h => no_some h
  | .r :: _, _, .b _ :: _, _, h => no_some h
  | .r :: _, _, .l _ :: _, _, h => no_some h
  | .r :: _, _, .s _ :: _, _, h => no_some h
  | .r :: _, f, .r a :: _, _, h => apH_shape (f := f a) h
  | .x _ :: _, _, [], _, h => no_some h
  | .x _ :: _, _, .i _ :: _, _, h => no_some h
  | .x _ :: _, _, .b _ :: _, _, h => no_some h
  | .x _ :: _, _, .s _ :: _, _, h => no_some h
  | .x _ :: _, _, .r _ :: _, _, h => no_some h
  | .x n :: r, f, .l a :: hs, y, h => by
    have h' : (match apI n f a with | some g => apH r g hs | none => none) = some y := h
    cases hq : apI n f a with
    | none => rw [hq] at h'; exact no_some h'
    | some g => rw [hq] at h'; exact ⟨apI_len hq, apH_shape h'⟩

/-- a function of values -/
structure GFn where
  ins : List Pat
  out : Pat
  fn : List Hv → Option (List Hv)

def GFn.sem (F : GFn) : PSem where
  run args K := match matchPs F.ins args with
    | some hs => (F.fn hs).bind fun r => K (buildP r F.out 0).1
    | none => none

def GFn.pfn (F : GFn) : PFn where
  pats := F.ins
  run hs K := (F.fn hs).bind fun r => K (buildP r F.out 0).1

theorem build_out {p : Pat} {v : AV} {l : List Hv} (h : matchP p v = some l) : buildP l p 0 = (v, l.length) := by
  have := build_match p v l [] [] h
  simpa using this

theorem gfn_le {P : Program} {Γ : Env} {Λ : Blks} {u : Nat} (hE : EnvOk P Γ) (hm : P.follows .mixedOrders = true) {f : FuncId} {fn : Func} {c : Code} (hf : P.funcs[f]? = some fn)
    (hn : (fn.name == "runtime.NumGoroutine") = false) (hb : fn.body = some c) (hΛ : LamOk P Λ c) (F : GFn) (hpl : Pat.plainL F.ins = true) (hrp : F.out.plain = true)
    (hmain : ∀ hs r, F.fn hs = some r → (∀ u ∈ (buildPs hs F.ins 0).1, u.wf) → evalF P Γ Λ u fn c (buildPs hs F.ins 0).1 [] 0 (fun v _ => matchP F.out v) = some r) : EntryOk P f (.pure F.sem) := by
  have core : ∀ args hs r, matchPs F.ins args = some hs → F.fn hs = some r → (∀ u ∈ args, u.wf) → ∀ (ρ : Ren) (w : World), Calls P f (args.map (AV.enc ρ)).toArray w fun e w' =>
      (e = .returned ((buildP r F.out 0).1.enc ρ) ∧ Same w w') ∧ (∀ m, ¬ (buildP r F.out 0).1.has m) ∧ (buildP r F.out 0).1.wf := by
    intro args hs r hm' hr hw ρ w
    have hba := build_matchs F.ins args hs [] [] hm'
    simp only [List.nil_append, List.append_nil, List.length_nil] at hba
    have hmn := hmain hs r hr (by rw [hba]; exact hw)
    rw [hba] at hmn
    have hnn : ∀ u ∈ args, ∀ m, ¬ u.has m := fun u hu m hmm => plainL_has F.ins args hs hpl hm' (hasL_mem hu hmm)
    refine (bare_map (ρ := ρ) args ▸ evalF_sound_wf hE hm hf hb hΛ hmn (ρ := ρ.bare) (w := w) rep_nil (fun n v hv => by simp at hv) (fun v hv m hmm => absurd hmm (hnn v hv m)) hw (fun n v hv => by simp at hv) 0 (Nat.le_refl _)).mono ?_
    intro e w' ⟨ρ', st, a, x, he, hx, hI, hwx, _⟩
    have hbx := build_out hx
    have hno := fun m => plain_has (m := m) F.out x r hrp hx
    rw [hbx]
    exact ⟨⟨by rw [he, enc_congr x (fun m hmm => absurd hmm (hno _))], same_nil hI.kept⟩, hno, hwx⟩
  have core2 : ∀ args v, F.sem.run args some = some v → ∃ hs r, matchPs F.ins args = some hs ∧ F.fn hs = some r ∧ v = (buildP r F.out 0).1 := by
    intro args v h
    simp only [GFn.sem] at h
    cases hm' : matchPs F.ins args with
    | none => simp [hm'] at h
    | some hs =>
      simp only [hm'] at h
      cases hr : F.fn hs with
      | none => simp [hr] at h
      | some r => simp only [hr, Option.bind_some, Option.some.injEq] at h; exact ⟨hs, r, rfl, hr, h.symm⟩
  have wfx : ∀ args v, F.sem.run args some = some v → (∀ u ∈ args, u.wf) → (∀ m, ¬ v.has m) ∧ v.wf := by
    intro args v h hw
    obtain ⟨hs, r, h1, h2, rfl⟩ := core2 args v h
    obtain ⟨e, w', fr, ⟨_, k1, k2⟩, _⟩ := core args hs r h1 h2 hw ren0 (oneRow #[]) []
    exact ⟨k1, k2⟩
  refine ⟨⟨fun β args K => ?_, fun args v h => ?_, fun args v h hw => (wfx args v h hw).2⟩, fun args v h hw ρ w => .inl ⟨⟨fn, c, hf, hn, hb⟩, ?_⟩⟩
  · simp only [GFn.sem]
    cases matchPs F.ins args with
    | none => rfl
    | some hs => simp only; cases F.fn hs <;> rfl
  · obtain ⟨hs, r, h1, h2, rfl⟩ := core2 args v h
    exact fun m => build_names F.out hrp r 0 m
  · obtain ⟨hs, r, h1, h2, rfl⟩ := core2 args v h
    exact (core args hs r h1 h2 hw ρ w).mono fun e w' h => h.1

theorem gfn_pure {P : Program} {Γ : Env} {Λ : Blks} {u : Nat} (hE : EnvOk P Γ) (hm : P.follows .mixedOrders = true) {f : FuncId} {fn : Func} {c : Code} (hf : P.funcs[f]? = some fn)
    (hn : (fn.name == "runtime.NumGoroutine") = false) (hb : fn.body = some c) (hΛ : LamOk P Λ c) (F : GFn) (hpl : Pat.plainL F.ins = true) (hrp : F.out.plain = true)
    (ks : List HK) {raw : HFn ks (Option (List Hv))} (hfn : F.fn = apH ks raw)
    (hmain : AllH ks fun hs => evalF P Γ Λ u fn c (buildPs hs F.ins 0).1 [] 0 (fun v _ => matchP F.out v) = F.fn hs) : EntryOk P f (.pure F.sem) :=
  gfn_le hE hm hf hn hb hΛ F hpl hrp fun hs r hr _ => (AllH.at hmain hs (apH_shape (f := raw) (by rw [← hfn]; exact hr))).trans hr

/-- a function by what it tells, where a test holds -/
structure CFn where
  ins : List Pat
  out : Pat
  guard : List Hv → Bool
  fn : List Hv → List Hv

def CFn.sem (F : CFn) : PSem where
  run args K := match matchPs F.ins args with
    | some hs => bif F.guard hs then K (buildP (F.fn hs) F.out 0).1 else none
    | none => none

theorem cfn_of {P : Program} {f : FuncId} {F : GFn} {G : CFn} (hrp : G.out.plain = true) (hi : G.ins = F.ins) (ho : G.out = F.out)
    (hG : ∀ args hs, matchPs F.ins args = some hs → (∀ u ∈ args, u.wf) → G.guard hs = true → F.fn hs = some (G.fn hs)) (h : EntryOk P f (.pure F.sem)) : EntryOk P f (.pure G.sem) := by
  obtain ⟨⟨_, _, h3⟩, h4⟩ := h
  have core : ∀ args v, G.sem.run args some = some v → ∃ hs, matchPs G.ins args = some hs ∧ G.guard hs = true ∧ v = (buildP (G.fn hs) G.out 0).1 := by
    intro args v hv
    simp only [CFn.sem] at hv
    cases hm' : matchPs G.ins args with
    | none => simp [hm'] at hv
    | some hs =>
      simp only [hm'] at hv
      cases hg : G.guard hs with
      | false => simp [hg] at hv
      | true => simp only [hg, cond_true, Option.some.injEq] at hv; exact ⟨hs, rfl, hg, hv.symm⟩
  have key : ∀ args v, (∀ u ∈ args, u.wf) → G.sem.run args some = some v → F.sem.run args some = some v := by
    intro args v hw hv
    obtain ⟨hs, hm', hg, rfl⟩ := core args v hv
    rw [hi] at hm'
    simp only [GFn.sem, hm', hG args hs hm' hw hg, Option.bind_some, ho]
  refine ⟨⟨fun β args K => ?_, fun args v hv => ?_, fun args v hv hw => h3 args v (key args v hw hv) hw⟩, fun args v hv hw => h4 args v (key args v hw hv) hw⟩
  · simp only [CFn.sem]
    cases matchPs G.ins args with
    | none => rfl
    | some hs => simp only; cases G.guard hs <;> rfl
  · obtain ⟨hs, _, _, rfl⟩ := core args v hv
    exact fun m => build_names G.out hrp _ 0 m

/-- the like function that says less -/
theorem gfn_weaken {P : Program} {f : FuncId} {F G : GFn} (hrp : G.out.plain = true) (hi : G.ins = F.ins) (ho : G.out = F.out) (hG : ∀ hs r, (∀ u ∈ (buildPs hs F.ins 0).1, u.wf) → G.fn hs = some r → F.fn hs = some r) (h : EntryOk P f (.pure F.sem)) : EntryOk P f (.pure G.sem) := by
  obtain ⟨⟨_, _, h3⟩, h4⟩ := h
  have key : ∀ args v, (∀ u ∈ args, u.wf) → G.sem.run args some = some v → F.sem.run args some = some v := by
    intro args v hw hv
    simp only [GFn.sem, hi, ho] at hv ⊢
    cases hm' : matchPs F.ins args with
    | none => simp [hm'] at hv
    | some hs =>
      simp only [hm'] at hv ⊢
      have hba := build_matchs F.ins args hs [] [] hm'
      simp only [List.nil_append, List.append_nil, List.length_nil] at hba
      cases hr : G.fn hs with
      | none => simp [hr] at hv
      | some r => rw [hG hs r (by rw [hba]; exact hw) hr]; simpa [hr] using hv
  have hpl : ∀ args v, G.sem.run args some = some v → ∃ r, v = (buildP r G.out 0).1 := by
    intro args v hv
    simp only [GFn.sem] at hv
    cases hm' : matchPs G.ins args with
    | none => simp [hm'] at hv
    | some hs =>
      simp only [hm'] at hv
      cases hr : G.fn hs with
      | none => simp [hr] at hv
      | some r => simp only [hr, Option.bind_some, Option.some.injEq] at hv; exact ⟨r, hv.symm⟩
  refine ⟨⟨fun β args K => ?_, fun args v hv => ?_, fun args v hv hw => h3 args v (key args v hw hv) hw⟩, fun args v hv hw => h4 args v (key args v hw hv) hw⟩
  · simp only [GFn.sem]
    cases matchPs G.ins args with
    | none => rfl
    | some hs => simp only; cases G.fn hs <;> rfl
  · obtain ⟨r, rfl⟩ := hpl args v hv
    exact fun m => build_names G.out hrp r 0 m

/-- a function with a receiver: what it answers, and the receiver behind -/
structure GRec where
  rp : Pat
  ins : List Pat
  out : Pat
  fn : List Hv → Option (List Hv)

def GRec.rfn (F : GRec) : RFn where
  rp := F.rp
  pats := F.ins
  run hs K := (F.fn hs).bind fun r => K (buildP r F.out 0).1 (buildP r F.rp (buildP r F.out 0).2).1

/-- how the evaluator reads the end of such a function -/
def GRec.endK (F : GRec) (v : AV) (h : Hp) : Option (List Hv) :=
  match h.getD 0 none with
  | some t => match matchP F.out v with
    | some a => match matchP F.rp t with
      | some b => some (a ++ b)
      | none => none
    | none => none
  | none => none

def GRec.args (F : GRec) (hs : List Hv) : List AV := .ptr 0 [] :: (buildPs hs F.ins (buildP hs F.rp 0).2).1
def GRec.tree (F : GRec) (hs : List Hv) : AV := (buildP hs F.rp 0).1

theorem grec_ok {P : Program} {Γ : Env} {Λ : Blks} {u : Nat} {fn : Func} {c : Code} (F : GRec) (h1 : F.rp.plain = true) (h2 : Pat.plainL F.ins = true) (h3 : F.out.plain = true)
    (hmain : ∀ hs r, F.fn hs = some r → (F.tree hs).wf → (∀ v ∈ F.args hs, v.wf) → evalF P Γ Λ u fn c (F.args hs) [some (F.tree hs)] 1 F.endK = some r) : F.rfn.Ok P Γ Λ u fn c where
  plain := h1
  plains := h2
  law β hs K := by
    simp only [GRec.rfn]
    cases F.fn hs <;> rfl
  names hs v t h := by
    simp only [GRec.rfn] at h
    cases hr : F.fn hs with
    | none => simp [hr] at h
    | some r =>
      simp only [hr, Option.bind_some, Option.some.injEq, Prod.mk.injEq] at h
      obtain ⟨rfl, rfl⟩ := h
      exact ⟨build_names _ h3 _ _, build_names _ h1 _ _⟩
  trees hs v t h := by
    simp only [GRec.rfn] at h
    cases hr : F.fn hs with
    | none => simp [hr] at h
    | some r =>
      simp only [hr, Option.bind_some, Option.some.injEq, Prod.mk.injEq] at h
      obtain ⟨_, rfl⟩ := h
      exact build_tree h1
  main t a r b v' t' ha hb hrun hwt hwr := by
    have hbt := build_match F.rp t a [] b ha
    have hbr := build_matchs F.ins r b a [] hb
    simp only [List.nil_append, List.length_nil, Nat.zero_add] at hbt
    simp only [List.append_nil] at hbr
    have etree : F.tree (a ++ b) = t := by unfold GRec.tree; rw [hbt]
    have eargs : F.args (a ++ b) = .ptr 0 [] :: r := by unfold GRec.args; rw [hbt]; simp only; rw [hbr]
    simp only [GRec.rfn] at hrun
    cases hr : F.fn (a ++ b) with
    | none => simp [hr] at hrun
    | some x =>
      simp only [hr, Option.bind_some, Option.some.injEq, Prod.mk.injEq] at hrun
      obtain ⟨rfl, rfl⟩ := hrun
      have := hmain (a ++ b) x hr (by rw [etree]; exact hwt) (by rw [eargs]; exact ptr_wf hwr)
      rw [eargs, etree] at this
      refine ⟨List Hv, F.endK, x, this, fun y h hy => ?_⟩
      unfold GRec.endK at hy
      cases hg : h.getD 0 none with
      | none => simp only [hg] at hy; cases hy
      | some t2 =>
        simp only [hg] at hy
        cases h4 : matchP F.out y with
        | none => simp [h4] at hy
        | some a2 =>
          cases h5 : matchP F.rp t2 with
          | none => simp [h4, h5] at hy
          | some b2 =>
            simp only [h4, h5, Option.some.injEq] at hy
            subst hy
            have e1 := build_match F.out y a2 [] b2 h4
            have e2 := build_match F.rp t2 b2 a2 [] h5
            simp only [List.nil_append, List.length_nil, Nat.zero_add] at e1
            simp only [List.append_nil] at e2
            exact ⟨by rw [e1], by rw [e1, e2]⟩

theorem grec_okx {P : Program} {Γ : Env} {Λ : Blks} {u : Nat} {fn : Func} {c : Code} (F : GRec) (h1 : F.rp.plain = true) (h2 : Pat.plainL F.ins = true) (h3 : F.out.plain = true)
    (ks : List HK) {raw : HFn ks (Option (List Hv))} (hfn : F.fn = apH ks raw)
    (hmain : AllH ks fun hs => evalF P Γ Λ u fn c (F.args hs) [some (F.tree hs)] 1 F.endK = F.fn hs) : F.rfn.Ok P Γ Λ u fn c :=
  grec_ok F h1 h2 h3 fun hs r hr _ _ => (AllH.at hmain hs (apH_shape (f := raw) (by rw [← hfn]; exact hr))).trans hr

/-- a function with a receiver, by what it tells, where a test holds -/
structure CRec where
  rp : Pat
  ins : List Pat
  out : Pat
  guard : List Hv → Bool
  fn : List Hv → List Hv

def CRec.rfn (F : CRec) : RFn where
  rp := F.rp
  pats := F.ins
  run hs K := bif F.guard hs then K (buildP (F.fn hs) F.out 0).1 (buildP (F.fn hs) F.rp (buildP (F.fn hs) F.out 0).2).1 else none

theorem crec_ok {P : Program} {Γ : Env} {Λ : Blks} {u : Nat} {fn : Func} {c : Code} {F : GRec} {G : CRec} (hF : F.rfn.Ok P Γ Λ u fn c) (hr : G.rp = F.rp) (hi : G.ins = F.ins) (ho : G.out = F.out) (h3 : F.out.plain = true)
    (hG : ∀ t a r b, matchP F.rp t = some a → matchPs F.ins r = some b → t.wf → (∀ u ∈ r, u.wf) → G.guard (a ++ b) = true → F.fn (a ++ b) = some (G.fn (a ++ b))) : G.rfn.Ok P Γ Λ u fn c where
  plain := by have := hF.plain; simpa [CRec.rfn, GRec.rfn, hr] using this
  plains := by have := hF.plains; simpa [CRec.rfn, GRec.rfn, hi] using this
  law β hs K := by
    simp only [CRec.rfn]
    cases G.guard hs <;> rfl
  names hs v t h := by
    simp only [CRec.rfn] at h
    cases hg : G.guard hs with
    | false => simp [hg] at h
    | true =>
      simp only [hg, cond_true, Option.some.injEq, Prod.mk.injEq] at h
      obtain ⟨rfl, rfl⟩ := h
      exact ⟨build_names _ (by rw [ho]; exact h3) _ _, build_names _ (by rw [hr]; exact hF.plain) _ _⟩
  trees hs v t h := by
    simp only [CRec.rfn] at h
    cases hg : G.guard hs with
    | false => simp [hg] at h
    | true =>
      simp only [hg, cond_true, Option.some.injEq, Prod.mk.injEq] at h
      obtain ⟨_, rfl⟩ := h
      exact build_tree (by rw [hr]; exact hF.plain)
  main t a r b v' t' ha hb hrun hwt hwr := by
    have ha' : matchP F.rp t = some a := by rw [← hr]; exact ha
    have hb' : matchPs F.ins r = some b := by rw [← hi]; exact hb
    simp only [CRec.rfn] at hrun
    cases hg : G.guard (a ++ b) with
    | false => simp [hg] at hrun
    | true =>
      simp only [hg, cond_true, Option.some.injEq, Prod.mk.injEq] at hrun
      refine hF.main t a r b v' t' ha' hb' ?_ hwt hwr
      simp only [GRec.rfn, hG t a r b ha' hb' hwt hwr hg, Option.bind_some]
      rw [← ho, ← hr, hrun.1, hrun.2]

/-- one that leaves its receiver: the holes behind are those ahead -/
def GRec.still (F : GRec) (hs : List Hv) : Prop := ∀ r, F.fn hs = some r → (buildP r F.rp (buildP r F.out 0).2).1 = F.tree hs

theorem GRec.still_run {F : GRec} (hs : ∀ hs, F.still hs) : ∀ l v t, F.rfn.run l (fun v t => some (v, t)) = some (v, t) → t = F.rfn.tree l := by
  intro l v t h
  simp only [GRec.rfn] at h
  cases hr : F.fn l with
  | none => simp [hr] at h
  | some r =>
    simp only [hr, Option.bind_some, Option.some.injEq, Prod.mk.injEq] at h
    obtain ⟨_, rfl⟩ := h
    exact hs l r hr

/-- a function that makes a block: the block's holes -/
structure GNew where
  ins : List Pat
  tp : Pat
  fn : List Hv → Option (List Hv)

def GNew.nfn (F : GNew) : NFn where
  pats := F.ins
  run hs K := (F.fn hs).bind fun r => K (buildP r F.tp 0).1

def GNew.endK (F : GNew) (v : AV) (h : Hp) : Option (List Hv) :=
  match v with
  | .ptr m [] => match h.getD m none with
    | some t => matchP F.tp t
    | none => none
  | _ => none

theorem gnew_full {P : Program} {Γ : Env} {Λ : Blks} {u : Nat} (hE : EnvOk P Γ) (hm : P.follows .mixedOrders = true) {f : FuncId} {fn : Func} {c : Code} (hf : P.funcs[f]? = some fn)
    (hn : (fn.name == "runtime.NumGoroutine") = false) (hb : fn.body = some c) (hΛ : LamOk P Λ c) (F : GNew) (h1 : Pat.plainL F.ins = true) (h2 : F.tp.plain = true) (h3 : Nat.blt 0 F.tp.psize = true)
    (ks : List HK) {raw : HFn ks (Option (List Hv))} (hfn : F.fn = apH ks raw)
    (hmain : AllH ks fun hs => evalF P Γ Λ u fn c (buildPs hs F.ins 0).1 [] 0 F.endK = F.fn hs) : EntryOk P f (.full F.nfn.sem) := by
  refine fn_new (u := u) hE hm hf hn hb hΛ F.nfn h1 (fun β hs K => ?_) (fun hs t h => ?_) (fun hs t h => ?_) (fun args hs t hm' h _ => ?_)
  · simp only [GNew.nfn]; cases F.fn hs <;> rfl
  · simp only [GNew.nfn] at h
    cases hr : F.fn hs with
    | none => simp [hr] at h
    | some r => simp only [hr, Option.bind_some, Option.some.injEq] at h; subst h; exact build_names _ h2 _ _
  · simp only [GNew.nfn] at h
    cases hr : F.fn hs with
    | none => simp [hr] at h
    | some r => simp only [hr, Option.bind_some, Option.some.injEq] at h; subst h; exact ⟨build_tree h2, by rw [build_size]; simpa using h3⟩
  · simp only [GNew.nfn] at h
    cases hr : F.fn hs with
    | none => simp [hr] at h
    | some r =>
      simp only [hr, Option.bind_some, Option.some.injEq] at h
      have hba := build_matchs F.ins args hs [] [] hm'
      simp only [List.nil_append, List.append_nil, List.length_nil] at hba
      have := AllH.at hmain hs (apH_shape (f := raw) (by rw [← hfn]; exact hr))
      rw [hba, hr] at this
      refine ⟨_, F.endK, r, this, fun y g hy => ?_⟩
      unfold GNew.endK at hy
      split at hy
      · rename_i m
        split at hy
        · rename_i t2 hg
          refine ⟨m, rfl, ?_⟩
          rw [hg, ← h, build_out hy]
        · cases hy
      · cases hy
end Go.Sim
namespace Go.Sim

theorem blkIn_loop : ∀ {l : List (Nat × Code)} {id : Nat} {b : Code}, blkIn l id = .loop b → (id, .loop b) ∈ l
  | [], id, b, h => by simp [blkIn] at h
  | (g, c) :: r, id, b, h => by
    simp only [blkIn] at h
    cases hb : Nat.beq g id with
    | true =>
      simp only [hb, cond_true] at h
      have := Nat.eq_of_beq_eq_true hb
      subst this; subst h
      simp
    | false =>
      simp only [hb, cond_false] at h
      exact List.mem_cons_of_mem _ (blkIn_loop h)

theorem blocks_sub : ∀ {c b : Code} {id : Nat}, (id, b) ∈ blocks c → ∀ p ∈ blocks b, p ∈ blocks c
  | .seq x y, b, id, h, p, hp => by
    simp only [blocks, List.mem_append] at h ⊢
    rcases h with h | h
    · exact .inl (blocks_sub h p hp)
    · exact .inr (blocks_sub h p hp)
  | .cond _ x y, b, id, h, p, hp => by
    simp only [blocks, List.mem_append] at h ⊢
    rcases h with h | h
    · exact .inl (blocks_sub h p hp)
    · exact .inr (blocks_sub h p hp)
  | .block i c, b, id, h, p, hp => by
    simp only [blocks, List.mem_cons] at h ⊢
    rcases h with h | h
    · cases h; exact .inr hp
    · exact .inr (blocks_sub h p hp)
  | .loop c, b, id, h, p, hp => by simp only [blocks] at h ⊢; exact blocks_sub h p hp
  | .scope c, b, id, h, p, hp => by simp only [blocks] at h ⊢; exact blocks_sub h p hp
  | .skip, _, _, h, _, _ | .region .., _, _, h, _, _ | .exit _, _, _, h, _, _ | .label _, _, _, h, _, _ | .goto _, _, _, h, _, _ | .ret, _, _, h, _, _ | .refuse _, _, _, h, _, _ | .rangeFunc .., _, _, h, _, _ => by simp [blocks] at h

def isLoop (c : Code) (id : Nat) : Bool := match blkOf c id with | .loop _ => true | _ => false

theorem isLoop_eq {c : Code} {id : Nat} (h : isLoop c id = true) : blkOf c id = .loop (loopOf c id) := by
  unfold isLoop at h
  unfold loopOf
  split at h
  · rename_i b hb; rw [hb]
  · cases h

theorem lam_loop {P : Program} {Λ : Blks} {c : Code} {id : Nat} (h : LamOk P Λ c) (hl : isLoop c id = true) : LamOk P Λ (loopOf c id) := by
  have hm := blkIn_loop (isLoop_eq hl)
  exact fun i s hs c' hc => h i s hs c' (blocks_sub hm _ (by simpa [blocks] using hc))

theorem loopE_at {P : Program} {Γ : Env} {Λ : Blks} {u : Nat} (hE : EnvOk P Γ) (hm : P.follows .mixedOrders = true) {code : Code} (id : Nat) (hl : isLoop code id = true) (hΛ : LamOk P Λ code) {H E : Tpl}
    (ks : List HK) (t : HFn ks (Option (Sum (List Hv) (Bool × List Hv))))
    (cH : ∀ v, closedB (mkSt H v) = true) (cE : ∀ v, closedB (mkSt E v) = true)
    (hG : AllH ks fun v => evalC P Γ Λ u (loopOf code id) (mkSt H v) (lkont id H E ⟨[], [], H.base⟩) = apH ks t v) (tH : tplOk H = true := by rfl) (tE : tplOk E = true := by rfl) : BlkSound P id (blkOf code id) (loopE H E (apH ks t)) := by
  rw [isLoop_eq hl]
  exact loopE_sound hE hm (lam_loop hΛ hl) (fun v r _ hr => (AllH.at hG v (apH_shape hr)).trans hr) cH cE tH tE

theorem loopR_at {P : Program} {Γ : Env} {Λ : Blks} {u : Nat} (hE : EnvOk P Γ) (hm : P.follows .mixedOrders = true) {code : Code} (id : Nat) (hl : isLoop code id = true) (hΛ : LamOk P Λ code) {H E R : Tpl}
    (ks : List HK) (t : HFn ks (Option (Sum (List Hv) (Bool × List Hv))))
    (cH : ∀ v, closedB (mkSt H v) = true) (cE : ∀ v, closedB (mkSt E v) = true) (cR : ∀ v, closedB (mkSt R v) = true)
    (hG : AllH ks fun v => evalC P Γ Λ u (loopOf code id) (mkSt H v) (lkont id H E R) = apH ks t v) (tH : tplOk H = true := by rfl) (tE : tplOk E = true := by rfl) (tR : tplOk R = true := by rfl) : BlkSound P id (blkOf code id) (loopR H E R (apH ks t)) := by
  rw [isLoop_eq hl]
  exact loopR_sound hE hm (lam_loop hΛ hl) (fun v r _ hr => (AllH.at hG v (apH_shape hr)).trans hr) cH cE cR tH tE tR

theorem GRec.still_of {F : GRec} {ks : List HK} {f : HFn ks (Option (List Hv))} (hf : F.fn = apH ks f)
    (h : AllH ks fun hs => AllR (fun r => (buildP r F.rp (buildP r F.out 0).2).1 = F.tree hs) (apH ks f hs)) : ∀ hs, F.still hs := by
  intro hs r hr
  rw [hf] at hr
  exact AllH.at h hs (apH_shape hr) r hr

/-- a loop, by what holds with 'j' rounds to come -/
theorem loopN_ok {G : StepG} {Q : Bool × List Hv → Prop} (I : Nat → List Hv → Prop)
    (h : ∀ j v, I j v → (∃ x, G v = some (.inr x) ∧ Q x) ∨ ∃ i v', j = i + 1 ∧ G v = some (.inl v') ∧ I i v') :
    ∀ j v n, I j v → j < n → ∃ x, loopN G n v = some x ∧ Q x
  | j, v, 0, _, hn => absurd hn (Nat.not_lt_zero _)
  | 0, v, n + 1, hI, hn => by
    rcases h 0 v hI with ⟨x, hx, hq⟩ | ⟨i, v', hi, _⟩
    · exact ⟨x, by simp only [loopN, hx], hq⟩
    · omega
  | j + 1, v, n + 1, hI, hn => by
    rcases h (j + 1) v hI with ⟨x, hx, hq⟩ | ⟨i, v', hi, hg, hI'⟩
    · exact ⟨x, by simp only [loopN, hx], hq⟩
    · obtain rfl : i = j := by omega
      obtain ⟨x, hx, hq⟩ := loopN_ok I h i v' n hI' (by omega)
      exact ⟨x, by simp only [loopN, hg, hx], hq⟩

theorem lt_bigN {n : Nat} (h : n ≤ 18446744073709551616) : n < bigN := Nat.lt_of_le_of_lt h (by unfold bigN; decide)

theorem wr_i64 {n : Int} (h : -9223372036854775808 ≤ n) (h' : n < 9223372036854775808) : wr .i64 n = n := by simp only [wr]; omega

/-- a loop that ends within so many rounds -/
def EndsIn (j : Nat) (G : StepG) (v : List Hv) (x : Bool × List Hv) : Prop := ∀ n, j < n → loopN G n v = some x
theorem ends_done {G : StepG} {v : List Hv} {x : Bool × List Hv} (h : G v = some (.inr x)) : EndsIn 0 G v x := fun n hn => by
  cases n with
  | zero => omega
  | succ n => simp only [loopN, h]
theorem ends_step {G : StepG} {v v' : List Hv} {x : Bool × List Hv} {j : Nat} (h : G v = some (.inl v')) (k : EndsIn j G v' x) : EndsIn (j + 1) G v x := fun n hn => by
  cases n with
  | zero => omega
  | succ n => simp only [loopN, h]; exact k n (by omega)
theorem EndsIn.big {G : StepG} {v : List Hv} {x : Bool × List Hv} {j : Nat} (h : EndsIn j G v x) (hj : j ≤ 18446744073709551616) : loopN G bigN v = some x := h bigN (lt_bigN hj)

theorem lit_in {k : IntKind} {n : Int} (h : (Lit.int k n).wf = true) : inK k n := by
  simp only [Lit.wf, Bool.and_eq_true, decide_eq_true_eq] at h
  cases k <;> simp only [IntKind.min, IntKind.max, IntKind.signed, IntKind.bits] at h <;> simp only [inK] <;> simp at h <;> omega

/-- a law answers true; its arguments' rows are rows that stay -/
theorem law_mem {P : Program} {Γ : Env} {Λ : Blks} {u : Nat} (hE : EnvOk P Γ) (hm : P.follows .mixedOrders = true) {f : FuncId} {fn : Func} {c : Code} (hf : P.funcs[f]? = some fn) (hb : fn.body = some c)
    (hΛ : LamOk P Λ c) {args : List AV} {hp : Hp} {base : Nat} (hwa : ∀ v ∈ args, v.wf) (hwh : WfH hp) (hcl : ClosedH hp) (hca : ∀ v ∈ args, ClosedV hp v)
    (h : evalF P Γ Λ u fn c args hp base (fun v _ => matchP .bool v) = some [.b true]) {ρ : Ren} {w : World} (hr : RepW ρ hp w) (hro : ∀ b o, ¬ OwnR ρ hp b o) :
    Calls P f (args.map (AV.enc ρ)).toArray w fun e w' => e = .returned (.bool true) ∧ RowKit.Below w.heap.size w w' := by
  refine (evalF_sound hE hm hf hb hΛ h hr hcl hca hwa hwh 0 (Nat.zero_le _)).mono ?_
  intro e w' ⟨ρ', st, a, x, he, hx, hI⟩
  have hk := hI.kept
  refine ⟨?_, ⟨hk.os, hk.tape, hk.output, hk.size, fun k hl => hk.old k hl (fun o => hro k o)⟩⟩
  cases x <;> simp only [matchP] at hx <;> cases hx
  rw [he]; simp [AV.enc]
/-- a law of plain values answers true -/
theorem law_true {P : Program} {Γ : Env} {Λ : Blks} {u : Nat} (hE : EnvOk P Γ) (hm : P.follows .mixedOrders = true) {f : FuncId} {fn : Func} {c : Code} (hf : P.funcs[f]? = some fn) (hb : fn.body = some c)
    (hΛ : LamOk P Λ c) {ps : List Pat} {hs : List Hv} (hpl : Pat.plainL ps = true) {args : List AV} (hargs : matchPs ps args = some hs) (hwa : ∀ v ∈ args, v.wf)
    (h : evalF P Γ Λ u fn c args [] 0 (fun v _ => matchP .bool v) = some [.b true]) (ρ : Ren) (w : World) :
    Calls P f (args.map (AV.enc ρ)).toArray w fun e w' => e = .returned (.bool true) ∧ RowKit.Below w.heap.size w w' := by
  have hnn : ∀ u ∈ args, ∀ m, ¬ u.has m := fun u hu m hmm => plainL_has ps args hs hpl hargs (hasL_mem hu hmm)
  have := law_mem hE hm hf hb hΛ hwa (fun n v hv => by simp at hv) (fun n v hv => by simp at hv) (fun v hv m hmm => absurd hmm (hnn v hv m)) h (ρ := ρ.bare) (w := w) rep_nil (fun b o ⟨n, v, hv, _⟩ => by simp at hv)
  rwa [bare_map] at this

/-! the ranges of holes -/
inductive HR where
  | i (k : IntKind)
  | b
  | l (k : IntKind) (n : Nat)
  | s
  /-- of whatever length -/
  | v (k : IntKind)
  | w (e : Ep)
  | p

mutual
def Pat.ranges : Pat → List HR
  | .int k => [.i k]
  | .bool => [.b]
  | .str => [.s]
  | .arr k n => [.l k n]
  | .agg ps => Pat.rangesL ps
  | .tup ps => Pat.rangesL ps
  | .oi k _ => [.v k]
  | .orow e _ => [.w e]
  | .oit => [.s, .p]
  | .fz p => p.ranges
  | .ptr .. => [] | .nil => [] | .fn _ => [] | .ci .. => [] | .sl .. => [] | .pr .. => [] | .niS => []
def Pat.rangesL : List Pat → List HR
  | [] => []
  | p :: ps => p.ranges ++ Pat.rangesL ps
end

def Ranged : List HR → List Hv → Prop
  | [], [] => True
  | .i k :: r, .i n :: hs => inK k n ∧ Ranged r hs
  | .b :: r, .b _ :: hs => Ranged r hs
  | .l k n :: r, .l x :: hs => (x.length = n ∧ ∀ y ∈ x, inK k y) ∧ Ranged r hs
  | .s :: r, .s x :: hs => x.length < 9223372036854775808 ∧ Ranged r hs
  | .v k :: r, .l x :: hs => (x.length < 9223372036854775808 ∧ ∀ y ∈ x, inK k y) ∧ Ranged r hs
  | .w e :: r, .r x :: hs => (x.length < 9223372036854775808 ∧ ∀ h ∈ x, e.wf h 0) ∧ Ranged r hs
  | .p :: r, .i _ :: hs => Ranged r hs
  | _, _ => False

theorem Ranged.append : ∀ {r1 r2 : List HR} {h1 h2 : List Hv}, Ranged r1 h1 → Ranged r2 h2 → Ranged (r1 ++ r2) (h1 ++ h2)
  | [], _, [], _, _, h => h
  | .i _ :: _, _, .i _ :: _, _, h, k => ⟨h.1, Ranged.append h.2 k⟩
  | .b :: r1, r2, .b _ :: h1, h2, h, k => Ranged.append (r1 := r1) (r2 := r2) (h1 := h1) (h2 := h2) h k
  | .l _ _ :: _, _, .l _ :: _, _, h, k => ⟨h.1, Ranged.append h.2 k⟩
  | .s :: _, _, .s _ :: _, _, h, k => ⟨h.1, Ranged.append h.2 k⟩
  | .v _ :: _, _, .l _ :: _, _, h, k => ⟨h.1, Ranged.append h.2 k⟩
  | .w _ :: _, _, .r _ :: _, _, h, k => ⟨h.1, Ranged.append h.2 k⟩
  | .p :: r1, r2, .i _ :: h1, h2, h, k => Ranged.append (r1 := r1) (r2 := r2) (h1 := h1) (h2 := h2) h k

theorem getD_mem {k : IntKind} {n : Nat} {l : List Int} (h : l.length = n ∧ ∀ j, j < n → inK k (l.getD j 0)) : l.length = n ∧ ∀ y ∈ l, inK k y :=
  ⟨h.1, fun y hy => by
    obtain ⟨j, hj, rfl⟩ := List.getElem_of_mem hy
    have := h.2 j (by rw [← h.1]; exact hj)
    simpa [List.getD_eq_getElem?_getD, hj] using this⟩

mutual
theorem match_ranged : ∀ (p : Pat) (v : AV) (l : List Hv), matchP p v = some l → v.wf → Ranged p.ranges l
  | .int k, v, l, h, hw => by
    cases v <;> simp only [matchP] at h <;> try (cases h; done)
    rename_i k' n
    cases hk : decide (k' = k) <;> rw [hk] at h <;> cases h
    have := of_decide_eq_true hk
    subst this
    exact ⟨by simpa [AV.wf] using hw, trivial⟩
  | .bool, v, l, h, _ => by cases v <;> simp only [matchP] at h <;> cases h; exact trivial
  | .str, v, l, h, hw => by cases v <;> simp only [matchP] at h <;> cases h; exact ⟨by simpa [AV.wf] using hw, trivial⟩
  | .arr k n, v, l, h, hw => by
    cases v <;> simp only [matchP] at h <;> try (cases h; done)
    rename_i k' n' x
    cases hk : (decide (k' = k) && Nat.beq n' n) <;> rw [hk] at h <;> cases h
    simp only [Bool.and_eq_true] at hk
    have := of_decide_eq_true hk.1
    subst this
    have := Nat.eq_of_beq_eq_true hk.2
    subst this
    exact ⟨getD_mem (by simpa [AV.wf] using hw), trivial⟩
  | .ptr n p, v, l, h, hw => by
    cases v <;> simp only [matchP] at h <;> try (cases h; done)
    rename_i n' p'
    cases hk : (Nat.beq n' n && decide (p' = p)) <;> rw [hk] at h <;> cases h
    exact trivial
  | .nil, v, l, h, _ => by cases v <;> simp only [matchP] at h <;> cases h; exact trivial
  | .fn f, v, l, h, hw => by
    cases v <;> simp only [matchP] at h <;> try (cases h; done)
    rename_i f'
    cases hk : Nat.beq f' f <;> rw [hk] at h <;> cases h
    exact trivial
  | .ci k n, v, l, h, hw => by
    cases v <;> simp only [matchP] at h <;> try (cases h; done)
    rename_i k' n'
    cases hk : (decide (k' = k) && decide (n' = n)) <;> rw [hk] at h <;> cases h
    exact trivial
  | .niS, v, l, h, _ => by
    cases v <;> try (simp [matchP] at h; done)
    rename_i c _
    cases c <;> simp [matchP] at h
    subst h; exact trivial
  | .sl .., v, l, h, _ | .pr .., v, l, h, _ | .oi .., v, l, h, _ | .orow .., v, l, h, _ | .oit, v, l, h, _ | .fz _, v, l, h, _ => by cases v <;> simp [matchP] at h
  | .agg ps, v, l, h, hw => by
    cases v <;> simp only [matchP] at h <;> try (cases h; done)
    simp only [Pat.ranges]; exact match_rangedL ps _ l h (by simpa [AV.wf] using hw)
  | .tup ps, v, l, h, hw => by
    cases v <;> simp only [matchP] at h <;> try (cases h; done)
    simp only [Pat.ranges]; exact match_rangedL ps _ l h (by simpa [AV.wf] using hw)
theorem match_rangedL : ∀ (ps : List Pat) (vs : List AV) (l : List Hv), matchPs ps vs = some l → AV.wfL vs → Ranged (Pat.rangesL ps) l
  | [], vs, l, h, _ => by
    cases vs <;> simp only [matchPs] at h <;> cases h
    exact trivial
  | p :: ps, vs, l, h, hw => by
    cases vs with
    | nil => simp [matchPs] at h
    | cons v vs =>
      simp only [matchPs] at h
      simp only [AV.wfL] at hw
      cases h1 : matchP p v with
      | none => simp [h1] at h
      | some a =>
        cases h2 : matchPs ps vs with
        | none => simp [h1, h2] at h
        | some b =>
          simp only [h1, h2, Option.some.injEq] at h
          subst h
          simp only [Pat.rangesL]
          exact (match_ranged p v a h1 hw.1).append (match_rangedL ps vs b h2 hw.2)
end

/-- for all holes in these ranges -/
def AllG : List HR → (List Hv → Prop) → Prop
  | [], Q => Q []
  | .i k :: r, Q => ∀ n : Int, inK k n → AllG r fun hs => Q (.i n :: hs)
  | .b :: r, Q => ∀ x : Bool, AllG r fun hs => Q (.b x :: hs)
  | .l k n :: r, Q => ∀ x : List Int, x.length = n → (∀ y ∈ x, inK k y) → AllG r fun hs => Q (.l x :: hs)
  | .s :: r, Q => ∀ x : List UInt8, x.length < 9223372036854775808 → AllG r fun hs => Q (.s x :: hs)
  | .v k :: r, Q => ∀ x : List Int, x.length < 9223372036854775808 → (∀ y ∈ x, inK k y) → AllG r fun hs => Q (.l x :: hs)
  | .w e :: r, Q => ∀ x : List (List Hv), x.length < 9223372036854775808 → (∀ h ∈ x, e.wf h 0) → AllG r fun hs => Q (.r x :: hs)
  | .p :: r, Q => ∀ n : Int, AllG r fun hs => Q (.i n :: hs)

theorem AllG.at : ∀ {rs : List HR} {Q : List Hv → Prop}, AllG rs Q → ∀ hs, Ranged rs hs → Q hs
  | [], _, h, [], _ => h
  | .i _ :: rs, _, h, .i n :: r, e => AllG.at (rs := rs) (h n e.1) r e.2
  | .b :: rs, _, h, .b x :: r, e => AllG.at (rs := rs) (h x) r e
  | .l _ _ :: rs, _, h, .l x :: r, e => AllG.at (rs := rs) (h x e.1.1 e.1.2) r e.2
  | .s :: rs, _, h, .s x :: r, e => AllG.at (rs := rs) (h x e.1) r e.2
  | .v _ :: rs, _, h, .l x :: r, e => AllG.at (rs := rs) (h x e.1.1 e.1.2) r e.2
  | .w _ :: rs, _, h, .r x :: r, e => AllG.at (rs := rs) (h x e.1.1 e.1.2) r e.2
  | .p :: rs, _, h, .i n :: r, e => AllG.at (rs := rs) (h n) r e

theorem cfn_at {P : Program} {f : FuncId} {F : GFn} {G : CFn} (hrp : G.out.plain = true) (hi : G.ins = F.ins) (ho : G.out = F.out) (h : EntryOk P f (.pure F.sem))
    (hG : AllG (Pat.rangesL F.ins) fun hs => G.guard hs = true → F.fn hs = some (G.fn hs)) : EntryOk P f (.pure G.sem) :=
  cfn_of hrp hi ho (fun _ hs hm hw hg => AllG.at hG hs (match_rangedL _ _ _ hm (wfL_of hw)) hg) h

theorem crec_at {P : Program} {Γ : Env} {Λ : Blks} {u : Nat} {fn : Func} {c : Code} {F : GRec} {G : CRec} (hF : F.rfn.Ok P Γ Λ u fn c) (hr : G.rp = F.rp) (hi : G.ins = F.ins) (ho : G.out = F.out) (h3 : F.out.plain = true)
    (hG : AllG (F.rp.ranges ++ Pat.rangesL F.ins) fun hs => G.guard hs = true → F.fn hs = some (G.fn hs)) : G.rfn.Ok P Γ Λ u fn c :=
  crec_ok hF hr hi ho h3 fun _ _ _ _ ha hb hwt hwr hg => AllG.at hG _ ((match_ranged _ _ _ ha hwt).append (match_rangedL _ _ _ hb (wfL_of hwr))) hg
end Go.Sim
namespace Go.Sim
open Go.ChangeShapes Go.WideShapes
variable {H : Type} {enc : TypeId × Value → H} {P : Program} {w : World} {base : Nat} {spare : Nat → Bool} {held : Bool}

theorem mapM_ints {e : TypeId} {k : IntKind} {m : Nat} (he : P.underlying e = some (.int k)) {f : Nat → List Value} : ∀ (L : List Nat) (xs : List (DataW H × List MemPlace)),
    L.mapM (fun i => DataW.trod enc P w base spare held m e (f i)) = some xs → ∃ l : List Int, xs = l.map (fun n => (.lit (.int k n), [])) ∧ L.map f = l.map (fun n => [.int k n]) ∧ ∀ n ∈ l, inK k n
  | [], xs, h => by simp at h; subst h; exact ⟨[], rfl, rfl, by simp⟩
  | i :: L, xs, h => by
    rw [List.mapM_cons] at h
    simp only [bind, Option.bind_eq_some_iff, pure, Option.some.injEq] at h
    obtain ⟨y, hy, ys, hys, rfl⟩ := h
    obtain ⟨l, rfl, h2, h3⟩ := mapM_ints he L ys hys
    obtain ⟨n, e1, rfl, e3⟩ := DataW.trod_int he hy
    exact ⟨n :: l, rfl, by simp [h2, e1], fun x hx => by rcases List.mem_cons.1 hx with rfl | hx; exact lit_in e3; exact h3 x hx⟩

theorem lit_of {k : IntKind} {n : Int} (h : inK k n) : (Lit.int k n).wf = true := by
  simp only [Lit.wf, Bool.and_eq_true, decide_eq_true_eq]
  cases k <;> simp only [inK] at h <;> simp only [IntKind.min, IntKind.max, IntKind.signed, IntKind.bits] <;> simp <;> omega

theorem map_take1 {α : Type} : ∀ (cs : List α) (l : List α), (List.range cs.length).map (fun i => (cs.drop (i * 1)).take 1) = l.map (fun x => [x]) → cs = l := by
  intro cs l h
  apply List.ext_getElem?
  intro i
  have hlen := congrArg List.length h
  simp only [List.length_map, List.length_range] at hlen
  by_cases hi : i < cs.length
  · have := congrArg (·[i]?) h
    simp only [List.getElem?_map, List.getElem?_range hi, Option.map_some, Nat.mul_one] at this
    have hi2 : i < l.length := by omega
    rw [List.getElem?_eq_getElem hi2] at this
    simp only [Option.map_some, Option.some.injEq] at this
    rw [List.drop_eq_getElem_cons hi, List.take_succ_cons, List.take_zero, List.cons.injEq] at this
    rw [List.getElem?_eq_getElem hi, List.getElem?_eq_getElem hi2, this.1]
  · rw [List.getElem?_eq_none (by omega), List.getElem?_eq_none (by omega)]

theorem open_arr {r : Reach} {b0 : Nat} {t e : TypeId} {k : IntKind} {n : Nat} {v : Value} {d : DataW H} {ps : List MemPlace} (ht : P.underlying t = some (.array n e)) (he : P.underlying e = some (.int k))
    (hc : P.cellsOf t = n) (hce : P.cellsOf e = 1) (hval : Value.okWide P w r b0 t v) (hd : DataW.Trod enc P w base spare held t v d ps) :
    ∃ l : List Int, v = .agg (arrCells k n l).toArray ∧ d = .agg (l.map fun y => .lit (.int k y)) ∧ ps = [] ∧ l.length = n ∧ (∀ y ∈ l, inK k y) := by
  simp only [Value.okWide, ht] at hval
  obtain ⟨cs, rfl, hsz, _⟩ := hval
  obtain ⟨fuel, hf⟩ := hd
  cases fuel with
  | zero => simp [DataW.trod] at hf
  | succ m =>
    rw [DataW.trod_step] at hf
    unfold DataW.trodStep at hf
    simp only [ht, Value.cells, hc, hce] at hf
    rw [if_pos (by rw [← hc, ← hsz]; simp)] at hf
    simp only [Option.map_eq_some_iff] at hf
    obtain ⟨xs, hxs, hx⟩ := hf
    obtain ⟨l, rfl, h2, h3⟩ := mapM_ints he _ _ hxs
    have hn : cs.toList.length = n := by rw [← hc, ← hsz]; simp
    have hcs : cs.toList = l.map (Value.int k) := by
      apply map_take1
      rw [hn, h2, List.map_map]
      rfl
    have hl : l.length = n := by rw [← hn, hcs]; simp
    refine ⟨l, ?_, ?_, ?_, hl, h3⟩
    · rw [← hl, map_range_getD, ← hcs]
    · simp only [Prod.mk.injEq] at hx
      rw [← hx.1, List.map_map]; rfl
    · simp only [Prod.mk.injEq] at hx
      rw [← hx.2]
      simp [List.flatMap_map]

theorem shut_arr {t e : TypeId} {k : IntKind} {n : Nat} {l : List Int} (ht : P.underlying t = some (.array n e)) (he : P.underlying e = some (.int k))
    (hc : P.cellsOf t = n) (hce : P.cellsOf e = 1) (hl : l.length = n) (hr : ∀ y ∈ l, inK k y) :
    DataW.Trod enc P w base spare held t (.agg (arrCells k n l).toArray) (.agg (l.map fun y => .lit (.int k y))) [] := by
  refine ⟨2, ?_⟩
  rw [DataW.trod_step]
  unfold DataW.trodStep
  simp only [ht, Value.cells, hc, hce]
  rw [if_pos (by simp [arrCells])]
  have key : ∀ (L : List Nat), (∀ i ∈ L, i < n) → L.mapM (fun i => DataW.trod enc P w base spare held 1 e (((arrCells k n l).drop (i * 1)).take 1)) = some (L.map fun i => (.lit (.int k (l.getD i 0)), [])) := by
    intro L hL
    induction L with
    | nil => rfl
    | cons i L ih =>
      rw [List.mapM_cons, ih fun j hj => hL j (by simp [hj])]
      have hi := hL i (by simp)
      have hin : i < l.length := by omega
      have e1 : ((arrCells k n l).drop (i * 1)).take 1 = [.int k (l.getD i 0)] := by
        have hlen : i * 1 < (arrCells k n l).length := by simp [arrCells]; omega
        rw [List.drop_eq_getElem_cons hlen, List.take_succ_cons, List.take_zero]
        simp [arrCells]
      have hw : (Lit.int k (l.getD i 0)).wf = true := lit_of (hr _ (by rw [List.getD_eq_getElem?_getD, List.getElem?_eq_getElem hin]; simp))
      rw [e1]
      have ht1 : DataW.trod enc P w base spare held 1 e [.int k (l.getD i 0)] = some (.lit (.int k (l.getD i 0)), []) := by
        unfold DataW.trod
        simp only [he]
        rw [if_pos ⟨trivial, hw⟩]
      rw [ht1]
      rfl
  have := key (List.range n) (fun i hi => by simpa using hi)
  rw [this]
  simp only [Option.map_some, List.map_map, Option.some.injEq, Prod.mk.injEq, DataW.agg.injEq]
  refine ⟨?_, by simp⟩
  apply List.ext_getElem?
  intro i
  by_cases hi : i < n
  · have : i < l.length := by omega
    simp [hi, this]
  · have : ¬ i < l.length := by omega
    simp [hi, this]
theorem arr_wf {k : IntKind} {n : Nat} {l : List Int} (hl : l.length = n) (hr : ∀ y ∈ l, inK k y) : (AV.arr k n l).wf := by
  refine ⟨hl, fun j hj => hr _ ?_⟩
  rw [List.getD_eq_getElem?_getD, List.getElem?_eq_getElem (by omega)]
  simp
end Go.Sim
namespace Go.Sim
variable {β : Type}

/-! memory for whatever arguments -/
def fzOk (fz : Nat → Nat → Option Value) (w : World) : Prop := ∀ b o x, fz b o = some x → w.cell? ⟨b, o, none⟩ = some x
/-- a new row that stays -/
theorem row_exists (w : World) (fz : Nat → Nat → Option Value) (hfz : fzOk fz w) (es len : Nat) (c : Nat → List Value) (hc : ∀ i, i < len → (c i).length = es) :
    ∃ w' fz', (∀ b o x, fz b o = some x → fz' b o = some x) ∧ fzOk fz' w' ∧ ∃ L : Loc, L.nl = false ∧ RowRo fz' L es len c := by
  have get : ∀ q, q < len * es → ((List.range (len * es)).map fun q => ((c (q / es))[q % es]?).getD undef)[q]? = (c (q / es))[q % es]? := fun q hq => by
    have hes : 0 < es := by
      rcases Nat.eq_zero_or_pos es with h | h
      · rw [h] at hq; simp at hq
      · exact h
    have h1 : q / es < len := (Nat.div_lt_iff_lt_mul hes).2 hq
    have h2 : q % es < es := Nat.mod_lt _ hes
    rw [List.getElem?_map, List.getElem?_range hq, Option.map_some, List.getElem?_eq_getElem (by rw [hc _ h1]; exact h2)]; rfl
  generalize hcs : ((List.range (len * es)).map fun q => ((c (q / es))[q % es]?).getD undef) = cs at get
  have hlen : cs.length = len * es := by rw [← hcs]; simp
  have hat := alloc_at w (.cells cs.toArray 0)
  have hold : ∀ b o x, fz b o = some x → b < w.heap.size := fun b o x hx => by
    have := hfz b o x hx
    unfold World.cell? at this
    simp only at this
    split at this
    · rename_i hb; exact (Array.getElem?_eq_some_iff.1 hb).1
    · cases this
  refine ⟨w.alloc (.cells cs.toArray 0), fun b o => if b = w.heap.size then cs[o]? else fz b o, fun b o x hx => ?_, fun b o x hx => ?_, ⟨w.heap.size, 0, len, false⟩, rfl, Nat.le_refl _, (fun q => by cases q), fun _ i hi j hj => ?_⟩
  · have := hold b o x hx
    simp only [if_neg (show b ≠ w.heap.size by omega)]
    exact hx
  · by_cases hb : b = w.heap.size
    · subst hb
      simp only [if_true] at hx
      rw [cell_at hat]
      simpa using hx
    · simp only [if_neg hb] at hx
      exact cell_same (fun b y hy => push_old (o := .cells cs.toArray 0) rfl b y hy) (hfz b o x hx)
  · have e0 := le_rows (es := es) hi
    simp only [if_true, Nat.zero_add]
    rw [get _ (by omega)]
    have d1 : (i * es + j) / es = i := by rw [Nat.mul_comm, Nat.mul_add_div (by omega), Nat.div_eq_of_lt hj, Nat.add_zero]
    have d2 : (i * es + j) % es = j := by rw [Nat.mul_comm, Nat.mul_add_mod, Nat.mod_eq_of_lt hj]
    rw [d1, d2]
theorem list_exists {e : Ep} (ih : ∀ (h : List Hv) (w : World) (fz : Nat → Nat → Option Value), fzOk fz w → ∃ w' fz' cs, (∀ b o x, fz b o = some x → fz' b o = some x) ∧ fzOk fz' w' ∧ RepE fz' e h 0 cs) :
    ∀ (l : List (List Hv)) (w : World) (fz : Nat → Nat → Option Value), fzOk fz w → ∃ w' fz', (∀ b o x, fz b o = some x → fz' b o = some x) ∧ fzOk fz' w' ∧ ∃ c : Nat → List Value, ∀ i, i < l.length → RepE fz' e (l.getD i []) 0 (c i)
  | [], w, fz, h => ⟨w, fz, fun _ _ _ q => q, h, fun _ => [], fun i hi => by simp at hi⟩
  | x :: l, w, fz, h => by
    obtain ⟨w1, fz1, cs, m1, o1, r1⟩ := ih x w fz h
    obtain ⟨w2, fz2, m2, o2, c, r2⟩ := list_exists ih l w1 fz1 o1
    refine ⟨w2, fz2, fun b o x q => m2 b o x (m1 b o x q), o2, fun i => match i with | 0 => cs | i + 1 => c i, fun i hi => ?_⟩
    cases i with
    | zero => simpa using r1.mono m2
    | succ i => simpa using r2 i (by simpa using hi)
mutual
theorem repE_exists : ∀ (e : Ep) (h : List Hv) (j : Nat) (w : World) (fz : Nat → Nat → Option Value), fzOk fz w → ∃ w' fz' cs, (∀ b o x, fz b o = some x → fz' b o = some x) ∧ fzOk fz' w' ∧ RepE fz' e h j cs
  | .int k, h, j, w, fz, hf => ⟨w, fz, [.int k (hi h j)], fun _ _ _ q => q, hf, by simp only [RepE]⟩
  | .bool, h, j, w, fz, hf => ⟨w, fz, [.bool (hb h j)], fun _ _ _ q => q, hf, by simp only [RepE]⟩
  | .str, h, j, w, fz, hf => ⟨w, fz, [.string ⟨(hst h j).toArray⟩], fun _ _ _ q => q, hf, by simp only [RepE]⟩
  | .arr k n, h, j, w, fz, hf => ⟨w, fz, arrCells k n (hl h j), fun _ _ _ q => q, hf, by simp only [RepE]⟩
  | .agg es, h, j, w, fz, hf => by
    obtain ⟨w', fz', cs, m, o, r⟩ := repEL_exists es h j w fz hf
    exact ⟨w', fz', cs, m, o, by simp only [RepE]; exact r⟩
  | .sl e, h, j, w, fz, hf => by
    have rows : (∀ k, e ≠ .int k) → ∃ w' fz' cs, (∀ b o x, fz b o = some x → fz' b o = some x) ∧ fzOk fz' w' ∧ ∃ L : Loc, cs = [sliceV L (hr h j).length] ∧ ∃ c : Nat → List Value, (∀ i, i < (hr h j).length → RepE fz' e ((hr h j).getD i []) 0 (c i)) ∧ RowRo fz' L e.size (hr h j).length c := fun _ => by
      obtain ⟨w1, fz1, m1, o1, c, r1⟩ := list_exists (fun h w fz hf => repE_exists e h 0 w fz hf) (hr h j) w fz hf
      obtain ⟨w2, fz2, m2, o2, L, hnl, r2⟩ := row_exists w1 fz1 o1 e.size (hr h j).length c (fun i hi => (r1 i hi).len)
      exact ⟨w2, fz2, _, fun b o x q => m2 b o x (m1 b o x q), o2, L, rfl, c, fun i hi => (r1 i hi).mono m2, r2⟩
    cases e with
    | int k =>
      obtain ⟨w2, fz2, m2, o2, L, hnl, r2⟩ := row_exists w fz hf 1 (hl h j).length (fun i => [.int k ((hl h j).getD i 0)]) (fun _ _ => rfl)
      exact ⟨w2, fz2, _, m2, o2, by simp only [RepE]; exact ⟨L, rfl, r2⟩⟩
    | _ =>
      obtain ⟨w2, fz2, cs, m2, o2, r⟩ := rows (fun k h => by cases h)
      exact ⟨w2, fz2, cs, m2, o2, by simp only [RepE]; exact r⟩
theorem repEL_exists : ∀ (es : List Ep) (h : List Hv) (j : Nat) (w : World) (fz : Nat → Nat → Option Value), fzOk fz w → ∃ w' fz' cs, (∀ b o x, fz b o = some x → fz' b o = some x) ∧ fzOk fz' w' ∧ RepEL fz' es h j cs
  | [], h, j, w, fz, hf => ⟨w, fz, [], fun _ _ _ q => q, hf, by simp only [RepEL]⟩
  | e :: es, h, j, w, fz, hf => by
    obtain ⟨w1, fz1, a, m1, o1, r1⟩ := repE_exists e h j w fz hf
    obtain ⟨w2, fz2, b, m2, o2, r2⟩ := repEL_exists es h (j + e.n) w1 fz1 o1
    exact ⟨w2, fz2, a ++ b, fun b o x q => m2 b o x (m1 b o x q), o2, by simp only [RepEL]; exact ⟨a, b, rfl, r1.mono m2, r2⟩⟩
end
theorem rep_ro {locs : Nat → Loc} {fz : Nat → Nat → Option Value} {w : World} (hf : fzOk fz w) {objs : List AV} (hb : ∀ i t, objs[i]? = some t → BlkRep ⟨locs, fz⟩ w i t) (hro : ∀ t ∈ objs, ∀ L b o, ¬ rgn L t b o) : RepW ⟨locs, fz⟩ (addL [] 0 objs) w := by
  have hnone : ∀ n t b o, (addL [] 0 objs).getD n none = some t → ¬ rgn (locs n) t b o := fun n t b o hn => by
    rw [addL_nil_get] at hn
    exact hro t (List.mem_of_getElem? hn) _ b o
  refine ⟨fun n t hn => ?_, fun m n vm vn hm' _ _ b o q => absurd q (hnone m vm b o hm'), hf, fun n t b o hn q => absurd q (hnone n t b o hn)⟩
  rw [addL_nil_get] at hn
  exact hb n t hn
theorem rep_exists (ins : List Ep) (hs : List Hv) : ∃ (ρ : Ren) (w : World), RepW ρ (addL [] 0 (Ep.objsL false ins hs 0)) w := by
  obtain ⟨w, fz, cs, _, ok, r⟩ := repEL_exists ins hs 0 (oneRow #[]) (fun _ _ => none) (fun b o x h => by cases h)
  obtain ⟨locs, hl⟩ := repE_mkL (w := w) ins hs 0 cs r
  obtain ⟨_, g2⟩ := hl ⟨locs, fz⟩ 0 rfl (fun i _ => by rw [Nat.zero_add])
  exact ⟨⟨locs, fz⟩, w, rep_ro ok (fun i t ht => by have := g2 i t ht; rwa [Nat.zero_add] at this) (objsL_ro ins hs 0)⟩

/-! how the evaluator reads such a function's end -/
def LFn.args (F : LFn) (hs : List Hv) : List AV := Ep.mkL F.ins hs 0 0
def LFn.mem (F : LFn) (hs : List Hv) : Hp := addL [] 0 (Ep.objsL false F.ins hs 0)
def LOut.res (O : LOut) (h : Hp) (v : AV) : Option (List Hv) :=
  match O with
  | .blk _ => none
  | .one e => match e.res h v with
    | some (a, _) => some a
    | none => none
  | .tup es => match v with
    | .tup vs => match Ep.resL h es vs with
      | some (a, _) => some a
      | none => none
    | _ => none
theorem args_ok (F : LFn) {hs : List Hv} (hw : Ep.wfL F.ins hs 0) : ClosedH (F.mem hs) ∧ (∀ v ∈ F.args hs, ClosedV (F.mem hs) v) ∧ (∀ v ∈ F.args hs, v.wf) ∧ WfH (F.mem hs) := by
  obtain ⟨w1, w2⟩ := mkL_wf F.ins false hs 0 0 hw
  have hc := mkL_closed (hp := []) (nm := 0) (rw := false) F.ins hs 0
  have ent : ∀ n t, (F.mem hs).getD n none = some t → t ∈ Ep.objsL false F.ins hs 0 := fun n t ht => by
    unfold LFn.mem at ht
    rw [addL_nil_get] at ht
    exact List.mem_of_getElem? ht
  have wfm : ∀ (vs : List AV), AV.wfL vs → ∀ v ∈ vs, v.wf := by
    intro vs
    induction vs with
    | nil => intro _ v hv; cases hv
    | cons u vs ih =>
      intro h v hv
      simp only [AV.wfL] at h
      rcases List.mem_cons.1 hv with rfl | hv
      · exact h.1
      · exact ih h.2 v hv
  refine ⟨fun n t ht m hm => absurd hm (isObj_has (objsL_isObj _ _ _ _ t (ent n t ht)) m), fun v hv m hm => hc m (by simp only [AV.has]; exact hasL_mem hv hm), wfm _ w1, fun n t ht => w2 t (ent n t ht)⟩
theorem run_lfn {P : Program} {Γ : Env} {Λ : Blks} {u : Nat} (hE : EnvOk P Γ) (hm : P.follows .mixedOrders = true) {f : FuncId} {fn : Func} {c : Code} (hf : P.funcs[f]? = some fn) (hb : fn.body = some c) (hΛ : LamOk P Λ c) (F : LFn) {hs r : List Hv}
    {K : AV → Hp → Option (List Hv)} (h : evalF P Γ Λ u fn c (F.args hs) (F.mem hs) (Ep.nsL F.ins) K = some r) (hw : Ep.wfL F.ins hs 0) {ρ0 : Ren} {w : World} (hr : RepW ρ0 (F.mem hs) w) :
    Calls P f ((F.args hs).map (AV.enc ρ0)).toArray w fun e w' => ∃ (ρ' : Ren) (st : St) (v : AV), e = .returned (v.enc ρ') ∧ K v st.hp = some r ∧ Same w w' ∧ RepW ρ' st.hp w' ∧ WfH st.hp ∧ ClosedV st.hp v ∧ v.wf ∧ (∀ b o, ρ'.fz b o ≠ none → ρ0.fz b o ≠ none ∨ w.heap.size ≤ b) ∧
      (∀ b o, OwnR ρ' st.hp b o → w.heap.size ≤ b) ∧ ClosedH st.hp := by
  obtain ⟨h1, h2, h3, h4⟩ := args_ok F hw
  have no : ∀ b o, ¬ OwnR ρ0 (F.mem hs) b o := fun b o ⟨n, t, hn, hrg⟩ => by
    unfold LFn.mem at hn
    rw [addL_nil_get] at hn
    exact objsL_ro F.ins hs 0 t (List.mem_of_getElem? hn) _ b o hrg
  refine (evalF_sound_wf hE hm hf hb hΛ h hr h1 h2 h3 h4 0 (Nat.zero_le _)).mono fun e w' ⟨ρ', st, a, v, he, hk, hI, hwv, hcv⟩ => ⟨ρ', st, v, he, hk, ?_, hI.rep, hI.wf.hp, hcv, hwv, fun b o q => ?_, fun b o ⟨n, t, hn, q⟩ => ?_, hI.closed.hp⟩
  · have k := hI.kept
    exact ⟨k.os, k.tape, k.output, k.size, fun b hb _ => k.old b hb (fun o => no b o), fun b c e fz hb => by
      obtain ⟨c', g1, g2, g3⟩ := k.cells b c e fz hb
      exact ⟨c', g1, g2, fun o _ => g3 o (no b o)⟩, k.frz⟩
  · rcases hI.fzN b o q with h | h | h
    · exact .inl h
    · exact .inr h
    · exact absurd h (no b o)
  · rcases hI.mine n t hn b o q with h | h
    · exact h
    · exact absurd h (no b o)
theorem lout_wf {O : LOut} {h : Hp} {v : AV} {r : List Hv} (hr : O.res h v = some r) (hh : WfH h) (hv : v.wf) : match O with
    | .blk e => e.wf r 0
    | .one e => e.wf r 0
    | .tup es => Ep.wfL es r 0 := by
  unfold LOut.res at hr
  cases O with
  | blk e => cases hr
  | one e =>
    simp only at hr ⊢
    split at hr
    · rename_i a ro hq
      cases hr
      have := (res_wf hh e v r ro hq hv).2 [] []
      simpa using this
    · cases hr
  | tup es =>
    simp only at hr ⊢
    split at hr
    · rename_i vs
      split at hr
      · rename_i a ro hq
        cases hr
        simp only [AV.wf] at hv
        have := (resL_wf hh es vs r ro hq hv).2 [] []
        simpa using this
      · cases hr
    · cases hr
/-- a function that hands back values, or slices that are only read -/
theorem lfn_ok {P : Program} {Γ : Env} {Λ : Blks} {u : Nat} (hE : EnvOk P Γ) (hm : P.follows .mixedOrders = true) {f : FuncId} {fn : Func} {c : Code} (hf : P.funcs[f]? = some fn)
    (hn : (fn.name == "runtime.NumGoroutine") = false) (hb : fn.body = some c) (hΛ : LamOk P Λ c) (F : LFn) (hown : F.own = false) (hfr : F.fresh = true → F.out.ns = 0)
    (hmain : ∀ hs r, F.fn hs = some r → Ep.wfL F.ins hs 0 → evalF P Γ Λ u fn c (F.args hs) (F.mem hs) (Ep.nsL F.ins) (fun v h => F.out.res h v) = some r) : EntryOk P f (.look F) := by
  refine ⟨fun hs r hr hw => ?_, fun hs r hr hw ρ0 w hrep => .inl ⟨⟨fn, c, hf, hn, hb⟩, ?_⟩⟩
  · obtain ⟨ρ0, w, hrep⟩ := rep_exists F.ins hs
    obtain ⟨e, w', fr, ⟨ρ', st, v, _, hk, _, _, hwh, _, hwv, _⟩, _⟩ := run_lfn hE hm hf hb hΛ F (hmain hs r hr hw) hw hrep []
    generalize F.out = O at hk ⊢
    cases O with
    | blk e => cases hk
    | one e => exact lout_wf (O := .one e) hk hwh hwv
    | tup es => exact lout_wf (O := .tup es) hk hwh hwv
  · refine (run_lfn hE hm hf hb hΛ F (hmain hs r hr hw) hw hrep).mono fun e w' ⟨ρ', st, v, he, hk, hsame, hr', hwh, hcv, hwv, hz, hmine, _⟩ => ⟨_, he, ?_⟩
    rw [hown]
    -- what the answer's slices read as, in memory that stays
    have hm1 : ∀ b o x, ρ'.fz b o = some x → fzWith ρ'.fz w' (OwnR ρ' st.hp) b o = some x := fun b o x hx => by
      rw [fzWith_out (fun ⟨n, t, hn, q⟩ => by have := hr'.fzs n t b o hn q; rw [hx] at this; cases this)]; exact hx
    have hok : fzOk (fzWith ρ'.fz w' (OwnR ρ' st.hp)) w' := fun b o x hx => by
      by_cases q : OwnR ρ' st.hp b o
      · rw [fzWith_in q] at hx; exact hx
      · rw [fzWith_out q] at hx; exact hr'.fz b o x hx
    have hnew : ∀ b o, fzWith ρ'.fz w' (OwnR ρ' st.hp) b o ≠ none → ρ0.fz b o ≠ none ∨ w.heap.size ≤ b := fun b o hx => by
      by_cases q : OwnR ρ' st.hp b o
      · exact .inr (hmine b o q)
      · rw [fzWith_out q] at hx; exact hz b o hx
    have key : ∃ locs : Nat → Loc, ∀ ρ1 : Ren, ρ1.fz = fzWith ρ'.fz w' (OwnR ρ' st.hp) → (∀ i, i < F.out.ns → ρ1 i = locs i) → v.enc ρ' = (F.out.mk r 0).enc ρ1 ∧ ∀ i t, (F.out.objs false r)[i]? = some t → BlkRep ρ1 w' i t := by
      unfold LOut.res at hk
      cases hO : F.out with
      | blk e => rw [hO] at hk; cases hk
      | one e =>
        rw [hO] at hk
        simp only at hk
        split at hk
        · rename_i a ro hq
          cases hk
          have g := res_rep (fz' := fzWith ρ'.fz w' (OwnR ρ' st.hp)) hr' hwh hm1 e v r ro hq hwv hcv (.inr fun b o q => fzWith_in q) [] []
          simp only [List.nil_append, List.append_nil, List.length_nil] at g
          obtain ⟨locs, hl⟩ := repE_mk (w := w') e r 0 _ g
          refine ⟨locs, fun ρ1 h1 h2 => ?_⟩
          obtain ⟨c1, o1⟩ := hl ρ1 0 h1 (fun i hi => by rw [Nat.zero_add]; exact h2 i hi)
          refine ⟨?_, fun i t ht => by have := o1 i t ht; rwa [Nat.zero_add] at this⟩
          have hag := mk_isAgg (nm := 0) e v r ro hq r 0
          simp only [LOut.mk]
          cases hq : v.isAgg with
          | true => rw [enc_of_agg hq, enc_of_agg (hag.trans hq), c1]
          | false =>
            have e1 := cells_of_not (ρ := ρ1) (hag.trans hq)
            have e2 := cells_of_not (ρ := ρ') hq
            rw [e1, e2] at c1
            simpa using c1.symm
        · cases hk
      | tup es =>
        rw [hO] at hk
        simp only at hk
        split at hk
        · rename_i vs
          split at hk
          · rename_i a ro hq
            cases hk
            obtain ⟨locs, hl⟩ := argL hr' hwh hm1 es vs r ro hq (fun u hu => by
                simp only [AV.wf] at hwv
                have : ∀ (vs : List AV), AV.wfL vs → ∀ v ∈ vs, v.wf := by
                  intro vs
                  induction vs with
                  | nil => intro _ v hv; cases hv
                  | cons u vs ih =>
                    intro h v hv
                    simp only [AV.wfL] at h
                    rcases List.mem_cons.1 hv with rfl | hv
                    · exact h.1
                    · exact ih h.2 v hv
                exact this vs hwv u hu) (fun u hu m hmm => hcv m (by simp only [AV.has]; exact hasL_mem hu hmm)) (.inr fun b o q => fzWith_in q) [] []
            simp only [List.nil_append, List.append_nil, List.length_nil] at hl
            refine ⟨locs, fun ρ1 h1 h2 => ?_⟩
            obtain ⟨c1, o1⟩ := hl ρ1 0 h1 (fun i hi => by rw [Nat.zero_add]; exact h2 i hi)
            refine ⟨?_, fun i t ht => by have := o1 i t ht; rwa [Nat.zero_add] at this⟩
            simp only [LOut.mk, AV.enc, encL_eq, c1]
          · cases hk
        · cases hk
    obtain ⟨locs, hl⟩ := key
    have hro : ∀ t ∈ F.out.objs false r, ∀ L b o, ¬ rgn L t b o := by
      cases hO : F.out with
      | blk e => rw [hO] at hk; cases hk
      | one e => exact objs_ro e r 0
      | tup es => exact objsL_ro es r 0
    by_cases hns : F.out.ns = 0
    · have hobj : F.out.objs false r = [] := List.length_eq_zero_iff.1 ((lout_len' _ _ _).trans hns)
      obtain ⟨g1, _⟩ := hl ⟨locs, fzWith ρ'.fz w' (OwnR ρ' st.hp)⟩ rfl (fun _ _ => rfl)
      refine ⟨ren0.bare, ?_, hsame, by rw [hobj]; exact rep_nil, (fun b o q => absurd rfl q), fun b o ⟨n, t, hn, _⟩ => by rw [hobj] at hn; simp [addL] at hn, fun _ b o q => absurd rfl q⟩
      rw [g1]
      exact lout_shift (nm := 0) (O := F.out) (fun i hi => by omega)
    · obtain ⟨g1, g2⟩ := hl ⟨locs, fzWith ρ'.fz w' (OwnR ρ' st.hp)⟩ rfl (fun _ _ => rfl)
      refine ⟨⟨locs, fzWith ρ'.fz w' (OwnR ρ' st.hp)⟩, g1, hsame, rep_ro hok g2 hro, hnew, fun b o ⟨n, t, hn, q⟩ => ?_, fun hq => absurd (hfr hq) hns⟩
      rw [addL_nil_get] at hn
      exact absurd q (hro t (List.mem_of_getElem? hn) _ b o)
end Go.Sim
namespace Go.Sim
variable {β : Type}

mutual
theorem repE_flat {fz fz' : Nat → Nat → Option Value} : ∀ {e : Ep} {h : List Hv} {j : Nat} {cs : List Value}, e.flat = true → RepE fz e h j cs → RepE fz' e h j cs
  | .int k, h, j, cs, _, r | .bool, h, j, cs, _, r | .str, h, j, cs, _, r | .arr k n, h, j, cs, _, r => by simp only [RepE] at r ⊢; exact r
  | .agg es, h, j, cs, hf, r => by simp only [RepE] at r ⊢; exact repEL_flat (by simpa only [Ep.flat] using hf) r
  | .sl _, h, j, cs, hf, r => by simp [Ep.flat] at hf
theorem repEL_flat {fz fz' : Nat → Nat → Option Value} : ∀ {es : List Ep} {h : List Hv} {j : Nat} {cs : List Value}, Ep.flatL es = true → RepEL fz es h j cs → RepEL fz' es h j cs
  | [], h, j, cs, _, r => by simp only [RepEL] at r ⊢; exact r
  | e :: es, h, j, cs, hf, r => by
    simp only [Ep.flatL, Bool.and_eq_true] at hf
    simp only [RepEL] at r ⊢
    obtain ⟨a, b, e1, ra, rb⟩ := r
    exact ⟨a, b, e1, repE_flat hf.1 ra, repEL_flat hf.2 rb⟩
end

/-- what a new slice, or a value without slices, reads as -/
def ownE (h : Hp) (e : Ep) (v : AV) : Option (List Hv) :=
  match e with
  | .sl (.int k) => match dstInts h k v with
    | some l => some [.l l]
    | none => none
  | .sl e => bif e.flat then
      match dstRows h e v with
      | some l => some [.r l]
      | none => none
    else none
  | e => bif e.flat then
      match e.res h v with
      | some (a, _) => some a
      | none => none
    else none
def ownL (h : Hp) : List Ep → List AV → Option (List Hv)
  | [], [] => some []
  | e :: es, v :: vs => match ownE h e v with
    | some a => match ownL h es vs with
      | some b => some (a ++ b)
      | none => none
    | none => none
  | _, _ => none
def LOut.own (O : LOut) (h : Hp) (v : AV) : Option (List Hv) :=
  match O with
  | .blk _ => none
  | .one e => ownE h e v
  | .tup es => match v with
    | .tup vs => ownL h es vs
    | _ => none

/-- one part of the answer -/
theorem ownE_ok {ρ' : Ren} {hp : Hp} {w' : World} (hr : RepW ρ' hp w') (hh : ClosedH hp) (hw : WfH hp) {e : Ep} {v : AV} {a : List Hv} (h : ownE hp e v = some a) (hc : ClosedV hp v) (hv : v.wf) :
    a.length = e.n ∧ ∀ pre suf, e.wf (pre ++ a ++ suf) pre.length ∧ e.ns ≤ 1 ∧ ∃ L : Loc, (∀ ρ1 : Ren, ∀ nm, (e.ns = 1 → ρ1 nm = L) → v.enc ρ' = (e.mk (pre ++ a ++ suf) pre.length nm).enc ρ1) ∧
      (e.ns = 1 → ∃ t, e.objs true (pre ++ a ++ suf) pre.length = [t] ∧ (∀ ρ1 : Ren, ∀ nm, ρ1 nm = L → BlkRep ρ1 w' nm t) ∧ ∀ b o, rgn L t b o → OwnR ρ' hp b o) := by
  have flat : ∀ e : Ep, (∀ e', e ≠ .sl e') → (bif e.flat then (match e.res hp v with | some (a, _) => some a | none => none) else none) = some a → a.length = e.n ∧ ∀ pre suf, e.wf (pre ++ a ++ suf) pre.length ∧ e.ns ≤ 1 ∧ ∃ L : Loc, (∀ ρ1 : Ren, ∀ nm, (e.ns = 1 → ρ1 nm = L) → v.enc ρ' = (e.mk (pre ++ a ++ suf) pre.length nm).enc ρ1) ∧
      (e.ns = 1 → ∃ t, e.objs true (pre ++ a ++ suf) pre.length = [t] ∧ (∀ ρ1 : Ren, ∀ nm, ρ1 nm = L → BlkRep ρ1 w' nm t) ∧ ∀ b o, rgn L t b o → OwnR ρ' hp b o) := by
    intro e _ h
    cases hf : e.flat with
    | false => rw [hf] at h; cases h
    | true =>
      rw [hf, cond_true] at h
      split at h
      · rename_i a' ro hq
        cases h
        obtain ⟨l1, w1⟩ := res_wf hw e v a ro hq hv
        have hns := flat_ns e hf
        refine ⟨l1, fun pre suf => ⟨w1 pre suf, by omega, ⟨0, 0, 0, false⟩, fun ρ1 nm _ => ?_, fun q => by omega⟩⟩
        have g := res_rep (fz' := fun b o => w'.cell? ⟨b, o, none⟩) hr hw hr.fz e v a ro hq hv hc (.inr fun _ _ _ => rfl) pre suf
        obtain ⟨locs, hl⟩ := repE_mk (w := w') e _ _ _ g
        obtain ⟨c1, _⟩ := hl ⟨ρ1.loc, fun b o => w'.cell? ⟨b, o, none⟩⟩ nm rfl (fun i hi => by omega)
        have c2 : (e.mk (pre ++ a ++ suf) pre.length nm).cells ρ1 = v.cells ρ' := by rw [← c1]; exact cells_congr _ (fun _ _ => rfl)
        have hag := mk_isAgg (nm := nm) e v a ro hq (pre ++ a ++ suf) pre.length
        cases hq : v.isAgg with
        | true => rw [enc_of_agg hq, enc_of_agg (hag.trans hq), c2]
        | false =>
          have e1 := cells_of_not (ρ := ρ1) (hag.trans hq)
          have e2 := cells_of_not (ρ := ρ') hq
          rw [e1, e2] at c2
          simpa using c2.symm
      · cases h
  have own : ∀ (L : Loc) es len c, Dst ρ' hp w' v L es len c → ∀ b o, L.nl = false → b = L.b → L.o ≤ o → o < L.o + L.cap * es → OwnR ρ' hp b o := fun L es len c hd b o q1 q2 q3 q4 => by
    rcases hd with ⟨_, rfl, _⟩ | ⟨n, t, _, rfl, hn, _, hrg, _⟩
    · cases q1
    · exact ⟨n, t, hn, hrg b o q1 q2 q3 q4⟩
  have rows : ∀ ep : Ep, (∀ k, ep ≠ .int k) → (bif ep.flat then (match dstRows hp ep v with | some l => some [Hv.r l] | none => none) else none) = some a → a.length = (Ep.sl ep).n ∧ ∀ pre suf, (Ep.sl ep).wf (pre ++ a ++ suf) pre.length ∧ (Ep.sl ep).ns ≤ 1 ∧
      ∃ L : Loc, (∀ ρ1 : Ren, ∀ nm, ((Ep.sl ep).ns = 1 → ρ1 nm = L) → v.enc ρ' = ((Ep.sl ep).mk (pre ++ a ++ suf) pre.length nm).enc ρ1) ∧
      ((Ep.sl ep).ns = 1 → ∃ t, (Ep.sl ep).objs true (pre ++ a ++ suf) pre.length = [t] ∧ (∀ ρ1 : Ren, ∀ nm, ρ1 nm = L → BlkRep ρ1 w' nm t) ∧ ∀ b o, rgn L t b o → OwnR ρ' hp b o) := by
    intro ep hne h
    cases hf : ep.flat with
    | false => rw [hf] at h; cases h
    | true =>
      rw [hf, cond_true] at h
      cases hd : dstRows hp ep v with
      | none => rw [hd] at h; cases h
      | some l =>
        rw [hd] at h
        cases h
        obtain ⟨L, c, hc1, hdst⟩ := dst_rows hd hr hh hc
        refine ⟨by simp [Ep.n], fun pre suf => ?_⟩
        have hg : (pre ++ [Hv.r l] ++ suf)[pre.length]? = some (.r l) := hget pre _ suf _ rfl
        have hlen : l.length < 9223372036854775808 := by
          rcases hdst with ⟨_, _, h0⟩ | ⟨n, t, rfl, _⟩
          · omega
          · simpa only [AV.wf, XV.wf] using hv
        have hwl := dstRows_wf hd hw
        have hgr : Go.Sim.hr (pre ++ [Hv.r l] ++ suf) pre.length = l := by simp only [Go.Sim.hr, hg]
        have e1 : ∀ nm, (Ep.sl ep).mk (pre ++ [Hv.r l] ++ suf) pre.length nm = .x (.sln nm l.length) := fun nm => by
          cases ep <;> first | exact absurd rfl (hne _) | simp only [Ep.mk, hgr]
        have e2 : (Ep.sl ep).objs true (pre ++ [Hv.r l] ++ suf) pre.length = [.x (.obj (.row ep l true))] := by
          cases ep <;> first | exact absurd rfl (hne _) | simp only [Ep.objs, hgr]
        have e3 : (Ep.sl ep).wf (pre ++ [Hv.r l] ++ suf) pre.length := by
          cases ep <;> first | exact absurd rfl (hne _) | (simp only [Ep.wf, hgr] at hwl ⊢; exact ⟨hlen, hwl⟩)
        refine ⟨e3, Nat.le_refl _, L, fun ρ1 nm h1 => ?_, fun _ => ⟨_, e2, fun ρ1 nm h1 => ?_, fun b o q => ?_⟩⟩
        · rw [e1, hdst.enc, sln_enc, h1 rfl]
        · simp only [BlkRep, h1]; exact ⟨c, fun i hi => repE_flat hf (hc1 i hi), hdst.rw⟩
        · rw [rgn_row] at q; exact own L _ _ _ hdst b o q.1 q.2.1 q.2.2.1 q.2.2.2
  cases e with
  | sl e =>
    cases e with
    | int k =>
      simp only [ownE] at h
      cases hd : dstInts hp k v with
      | none => rw [hd] at h; cases h
      | some l =>
        rw [hd] at h
        cases h
        obtain ⟨L, hdst⟩ := dst_ints hd hr hh hc
        refine ⟨rfl, fun pre suf => ?_⟩
        have hg : (pre ++ [Hv.l l] ++ suf)[pre.length]? = some (.l l) := hget pre _ suf _ rfl
        have hlen : l.length < 9223372036854775808 := by
          rcases hdst with ⟨_, _, h0⟩ | ⟨n, t, rfl, _⟩
          · omega
          · simpa only [AV.wf, XV.wf] using hv
        refine ⟨by simp only [Ep.wf, hl, hg]; exact ⟨hlen, dstInts_wf hd hw⟩, Nat.le_refl _, L, fun ρ1 nm h1 => ?_, fun _ => ⟨.x (.obj (.ints k l true)), by simp only [Ep.objs, hl, hg], fun ρ1 nm h1 => ?_, fun b o q => ?_⟩⟩
        · simp only [Ep.mk, hl, hg]
          rw [hdst.enc, sln_enc, h1 rfl]
        · simp only [BlkRep, h1]; exact hdst.rw
        · rw [rgn_ints] at q; exact own L _ _ _ hdst b o q.1 q.2.1 q.2.2.1 q.2.2.2
    | bool => exact rows _ (fun k h => by cases h) (by simpa only [ownE] using h)
    | str => exact rows _ (fun k h => by cases h) (by simpa only [ownE] using h)
    | arr k n => exact rows _ (fun k h => by cases h) (by simpa only [ownE] using h)
    | agg es => exact rows _ (fun k h => by cases h) (by simpa only [ownE] using h)
    | sl e => exact rows _ (fun k h => by cases h) (by simpa only [ownE] using h)
  | int k => exact flat _ (fun e' h => by cases h) (by simpa only [ownE] using h)
  | bool => exact flat _ (fun e' h => by cases h) (by simpa only [ownE] using h)
  | str => exact flat _ (fun e' h => by cases h) (by simpa only [ownE] using h)
  | arr k n => exact flat _ (fun e' h => by cases h) (by simpa only [ownE] using h)
  | agg es => exact flat _ (fun e' h => by cases h) (by simpa only [ownE] using h)
theorem ownL_ok {ρ' : Ren} {hp : Hp} {w' : World} (hr : RepW ρ' hp w') (hh : ClosedH hp) (hw : WfH hp) : ∀ (es : List Ep) (vs : List AV) (a : List Hv), ownL hp es vs = some a → Ep.nsL es ≤ 1 → (∀ v ∈ vs, ClosedV hp v) → (∀ v ∈ vs, v.wf) →
    a.length = Ep.nL es ∧ ∀ pre suf, Ep.wfL es (pre ++ a ++ suf) pre.length ∧ ∃ L : Loc, (∀ ρ1 : Ren, ∀ nm, (Ep.nsL es = 1 → ρ1 nm = L) → vs.map (AV.enc ρ') = (Ep.mkL es (pre ++ a ++ suf) pre.length nm).map (AV.enc ρ1)) ∧
      (Ep.nsL es = 1 → ∃ t, Ep.objsL true es (pre ++ a ++ suf) pre.length = [t] ∧ (∀ ρ1 : Ren, ∀ nm, ρ1 nm = L → BlkRep ρ1 w' nm t) ∧ ∀ b o, rgn L t b o → OwnR ρ' hp b o)
  | [], [], a, h, _, _, _ => by
    simp only [ownL, Option.some.injEq] at h
    subst h
    exact ⟨rfl, fun pre suf => ⟨by simp only [Ep.wfL], ⟨0, 0, 0, false⟩, fun _ _ _ => by simp [Ep.mkL], fun q => by simp [Ep.nsL] at q⟩⟩
  | [], _ :: _, a, h, _, _, _ => by simp [ownL] at h
  | _ :: _, [], a, h, _, _, _ => by simp [ownL] at h
  | e :: es, v :: vs, a, h, hns, hc, hv => by
    simp only [ownL] at h
    simp only [Ep.nsL] at hns
    cases h1 : ownE hp e v with
    | none => rw [h1] at h; cases h
    | some a1 =>
      rw [h1] at h
      simp only at h
      cases h2 : ownL hp es vs with
      | none => rw [h2] at h; cases h
      | some a2 =>
        rw [h2] at h
        cases h
        obtain ⟨l1, g1⟩ := ownE_ok hr hh hw h1 (hc v (by simp)) (hv v (by simp))
        obtain ⟨l2, g2⟩ := ownL_ok hr hh hw es vs a2 h2 (by omega) (fun u hu => hc u (List.mem_cons_of_mem _ hu)) (fun u hu => hv u (List.mem_cons_of_mem _ hu))
        refine ⟨by simp [Ep.nL, l1, l2], fun pre suf => ?_⟩
        obtain ⟨w1, n1, L1, f1, o1⟩ := g1 pre (a2 ++ suf)
        obtain ⟨w2, L2, f2, o2⟩ := g2 (pre ++ a1) suf
        rw [show pre ++ a1 ++ (a2 ++ suf) = pre ++ (a1 ++ a2) ++ suf by simp] at w1 f1 o1
        rw [show pre ++ a1 ++ a2 ++ suf = pre ++ (a1 ++ a2) ++ suf by simp, List.length_append, l1] at w2 f2 o2
        refine ⟨by simp only [Ep.wfL]; exact ⟨w1, w2⟩, ?_⟩
        by_cases hq : e.ns = 1
        · have hz : Ep.nsL es = 0 := by omega
          have hob : Ep.objsL true es (pre ++ (a1 ++ a2) ++ suf) (pre.length + e.n) = [] := List.length_eq_zero_iff.1 ((objsL_len _ _ _ _).trans hz)
          refine ⟨L1, fun ρ1 nm h1 => ?_, fun _ => ?_⟩
          · simp only [Ep.mkL, List.map_cons]
            rw [f1 ρ1 nm (fun _ => h1 (by simp only [Ep.nsL]; omega)), f2 ρ1 (nm + e.ns) (fun q => by omega)]
          · obtain ⟨t, t1, t2, t3⟩ := o1 hq
            exact ⟨t, by simp only [Ep.objsL, t1, hob, List.append_nil], t2, t3⟩
        · have hz : e.ns = 0 := by omega
          have hob : e.objs true (pre ++ (a1 ++ a2) ++ suf) pre.length = [] := List.length_eq_zero_iff.1 ((objs_len _ _ _ _).trans hz)
          refine ⟨L2, fun ρ1 nm h1 => ?_, fun q => ?_⟩
          · simp only [Ep.mkL, List.map_cons]
            rw [f1 ρ1 nm (fun q => by omega), f2 ρ1 (nm + e.ns) (fun q => by rw [hz, Nat.add_zero]; exact h1 (by simp only [Ep.nsL]; omega))]
          · simp only [Ep.nsL] at q
            obtain ⟨t, t1, t2, t3⟩ := o2 (by omega)
            exact ⟨t, by simp only [Ep.objsL, t1, hob, List.nil_append], t2, t3⟩

/-- a function that hands back one new slice, beside plain values -/
theorem lfn_own {P : Program} {Γ : Env} {Λ : Blks} {u : Nat} (hE : EnvOk P Γ) (hm : P.follows .mixedOrders = true) {f : FuncId} {fn : Func} {c : Code} (hf : P.funcs[f]? = some fn)
    (hn : (fn.name == "runtime.NumGoroutine") = false) (hb : fn.body = some c) (hΛ : LamOk P Λ c) (F : LFn) (hown : F.own = true) (hns : F.out.ns = 1)
    (hmain : ∀ hs r, F.fn hs = some r → Ep.wfL F.ins hs 0 → evalF P Γ Λ u fn c (F.args hs) (F.mem hs) (Ep.nsL F.ins) (fun v h => F.out.own h v) = some r) : EntryOk P f (.look F) := by
  have wfm : ∀ (vs : List AV), AV.wfL vs → ∀ v ∈ vs, v.wf := by
    intro vs
    induction vs with
    | nil => intro _ v hv; cases hv
    | cons u vs ih =>
      intro h v hv
      simp only [AV.wfL] at h
      rcases List.mem_cons.1 hv with rfl | hv
      · exact h.1
      · exact ih h.2 v hv
  have key : ∀ (r : List Hv) (ρ' : Ren) (h : Hp) (w' : World) (v : AV), F.out.own h v = some r → RepW ρ' h w' → ClosedH h → WfH h → ClosedV h v → v.wf →
      (match F.out with | .blk e => e.wf r 0 | .one e => e.wf r 0 | .tup es => Ep.wfL es r 0) ∧ ∃ L : Loc, (∀ ρ1 : Ren, ρ1 0 = L → v.enc ρ' = (F.out.mk r 0).enc ρ1) ∧ ∃ t, F.out.objs true r = [t] ∧ (∀ ρ1 : Ren, ρ1 0 = L → BlkRep ρ1 w' 0 t) ∧ ∀ b o, rgn L t b o → OwnR ρ' h b o := by
    intro r ρ' h w' v hk hr' hch hwh hcv hwv
    generalize F.out = O at hk hns ⊢
    cases O with
    | blk e => cases hk
    | one e =>
      simp only [LOut.own] at hk
      simp only [LOut.ns] at hns
      obtain ⟨_, g⟩ := ownE_ok hr' hch hwh hk hcv hwv
      obtain ⟨w1, _, L, f1, o1⟩ := g [] []
      simp only [List.nil_append, List.append_nil, List.length_nil] at w1 f1 o1
      obtain ⟨t, t1, t2, t3⟩ := o1 hns
      exact ⟨w1, L, fun ρ1 h1 => f1 ρ1 0 (fun _ => h1), t, t1, fun ρ1 h1 => t2 ρ1 0 h1, t3⟩
    | tup es =>
      simp only [LOut.ns] at hns
      unfold LOut.own at hk
      simp only at hk
      split at hk
      · rename_i vs
        simp only [AV.wf] at hwv
        obtain ⟨_, g⟩ := ownL_ok hr' hch hwh es vs r hk (by omega) (fun u hu m hmm => hcv m (by simp only [AV.has]; exact hasL_mem hu hmm)) (wfm vs hwv)
        obtain ⟨w1, L, f1, o1⟩ := g [] []
        simp only [List.nil_append, List.append_nil, List.length_nil] at w1 f1 o1
        obtain ⟨t, t1, t2, t3⟩ := o1 hns
        exact ⟨w1, L, fun ρ1 h1 => by simp only [LOut.mk, AV.enc, encL_eq, f1 ρ1 0 (fun _ => h1)], t, t1, fun ρ1 h1 => t2 ρ1 0 h1, t3⟩
      · cases hk
  refine ⟨fun hs r hr hw => ?_, fun hs r hr hw ρ0 w hrep => .inl ⟨⟨fn, c, hf, hn, hb⟩, ?_⟩⟩
  · obtain ⟨ρ0, w, hrep⟩ := rep_exists F.ins hs
    obtain ⟨e, w', fr, ⟨ρ', st, v, _, hk, _, hr', hwh, hcv, hwv, _, _, hch⟩, _⟩ := run_lfn hE hm hf hb hΛ F (hmain hs r hr hw) hw hrep []
    exact (key r ρ' st.hp w' v hk hr' hch hwh hcv hwv).1
  · refine (run_lfn hE hm hf hb hΛ F (hmain hs r hr hw) hw hrep).mono fun e w' ⟨ρ', st, v, he, hk, hsame, hr', hwh, hcv, hwv, _, hmine, hch⟩ => ⟨_, he, ?_⟩
    rw [hown]
    obtain ⟨_, L, f1, t, t1, t2, t3⟩ := key r ρ' st.hp w' v hk hr' hch hwh hcv hwv
    have get : ∀ n y, (addL [] 0 (F.out.objs true r)).getD n none = some y → n = 0 ∧ y = t := fun n y hy => by
      rw [addL_nil_get, t1] at hy
      cases n with
      | zero => simp at hy; exact ⟨rfl, hy.symm⟩
      | succ n => simp at hy
    have own : ∀ b o, OwnR ⟨fun _ => L, fun _ _ => none⟩ (addL [] 0 (F.out.objs true r)) b o → w.heap.size ≤ b := fun b o ⟨n, y, hy, q⟩ => by
      obtain ⟨rfl, rfl⟩ := get n y hy
      exact hmine b o (t3 b o q)
    refine ⟨⟨fun _ => L, fun _ _ => none⟩, f1 _ rfl, hsame, ⟨fun n y hy => ?_, fun m n vm vn h1 h2 h3 => ?_, (fun b o x hx => by cases hx), fun _ _ _ _ _ _ => rfl⟩, (fun b o q => absurd rfl q), own, fun _ b o q => absurd rfl q⟩
    · obtain ⟨rfl, rfl⟩ := get n y hy
      exact t2 _ rfl
    · obtain ⟨rfl, _⟩ := get m vm h1
      obtain ⟨rfl, _⟩ := get n vn h2
      exact absurd rfl h3
end Go.Sim
namespace Go.Sim

theorem lfn_okx {P : Program} {Γ : Env} {Λ : Blks} {u : Nat} (hE : EnvOk P Γ) (hm : P.follows .mixedOrders = true) {f : FuncId} {fn : Func} {c : Code} (hf : P.funcs[f]? = some fn)
    (hn : (fn.name == "runtime.NumGoroutine") = false) (hb : fn.body = some c) (hΛ : LamOk P Λ c) (F : LFn) (hown : F.own = false) (hfr : F.fresh = true → F.out.ns = 0)
    (ks : List HK) {raw : HFn ks (Option (List Hv))} (hfn : F.fn = apH ks raw)
    (hmain : AllH ks fun hs => evalF P Γ Λ u fn c (F.args hs) (F.mem hs) (Ep.nsL F.ins) (fun v h => F.out.res h v) = F.fn hs) : EntryOk P f (.look F) :=
  lfn_ok hE hm hf hn hb hΛ F hown hfr fun hs r hr _ => (AllH.at hmain hs (apH_shape (f := raw) (by rw [← hfn]; exact hr))).trans hr
theorem lfn_ownx {P : Program} {Γ : Env} {Λ : Blks} {u : Nat} (hE : EnvOk P Γ) (hm : P.follows .mixedOrders = true) {f : FuncId} {fn : Func} {c : Code} (hf : P.funcs[f]? = some fn)
    (hn : (fn.name == "runtime.NumGoroutine") = false) (hb : fn.body = some c) (hΛ : LamOk P Λ c) (F : LFn) (hown : F.own = true) (hns : F.out.ns = 1)
    (ks : List HK) {raw : HFn ks (Option (List Hv))} (hfn : F.fn = apH ks raw)
    (hmain : AllH ks fun hs => evalF P Γ Λ u fn c (F.args hs) (F.mem hs) (Ep.nsL F.ins) (fun v h => F.out.own h v) = F.fn hs) : EntryOk P f (.look F) :=
  lfn_own hE hm hf hn hb hΛ F hown hns fun hs r hr _ => (AllH.at hmain hs (apH_shape (f := raw) (by rw [← hfn]; exact hr))).trans hr

/-- the ranges of what such a function takes -/
def Ep.rg : Ep → List HR
  | .int k => [.i k]
  | .bool => [.b]
  | .str => [.s]
  | .arr k n => [.l k n]
  | .agg es => Ep.rgs es
  | .sl (.int k) => [.v k]
  | .sl e => [.w e]
where Ep.rgs : List Ep → List HR
  | [] => []
  | e :: es => e.rg ++ Ep.rgs es
/-- one that says less -/
theorem look_weaken {P : Program} {f : FuncId} {F G : LFn} (hi : G.ins = F.ins) (ho : G.out = F.out) (hw : G.own = F.own) (hr : G.fresh = F.fresh) (hG : ∀ hs r, Ep.wfL F.ins hs 0 → G.fn hs = some r → F.fn hs = some r) (h : EntryOk P f (.look F)) : EntryOk P f (.look G) := by
  obtain ⟨ins, out, own, fresh, fn⟩ := F
  obtain ⟨ins', out', own', fresh', fn'⟩ := G
  simp only at hi ho hw hr hG
  subst hi; subst ho; subst hw; subst hr
  exact ⟨fun hs r h1 h2 => h.1 hs r (hG hs r h2 h1) h2, fun hs r h1 h2 => h.2 hs r (hG hs r h2 h1) h2⟩

/-! a function that makes a block -/
theorem mk_tree {e : Ep} (hf : e.flat = true) (h : List Hv) (j nm : Nat) : (e.mk h j nm).isTree = true := by
  cases e <;> first | rfl | simp [Ep.flat] at hf
theorem res_tree {e : Ep} (hf : e.flat = true) {hp : Hp} {t : AV} {x : List Hv × Bool} (h : e.res hp t = some x) : t.isTree = true := by
  cases e with
  | sl e => simp [Ep.flat] at hf
  | _ => simp only [Ep.res] at h; split at h <;> first | rfl | cases h
def newK (e : Ep) (v : AV) (h : Hp) : Option (List Hv) :=
  match v with
  | .ptr m [] => match h.getD m none with
    | some t => match e.res [] t with
      | some (a, _) => some a
      | none => none
    | none => none
  | _ => none
theorem lfn_new {P : Program} {Γ : Env} {Λ : Blks} {u : Nat} (hE : EnvOk P Γ) (hm : P.follows .mixedOrders = true) {f : FuncId} {fn : Func} {c : Code} (hf : P.funcs[f]? = some fn)
    (hn : (fn.name == "runtime.NumGoroutine") = false) (hb : fn.body = some c) (hΛ : LamOk P Λ c) (F : LFn) {e : Ep} (hO : F.out = .blk e) (he : e.flat = true) (hsz : Nat.blt 0 e.size = true)
    (hmain : ∀ hs r, F.fn hs = some r → Ep.wfL F.ins hs 0 → evalF P Γ Λ u fn c (F.args hs) (F.mem hs) (Ep.nsL F.ins) (newK e) = some r) : EntryOk P f (.look F) := by
  have key : ∀ (r : List Hv) (ρ' : Ren) (h : Hp) (w' : World) (v : AV), newK e v h = some r → RepW ρ' h w' → WfH h → e.wf r 0 ∧ ∃ m t, v = .ptr m [] ∧ h.getD m none = some t ∧ t.isTree = true ∧ t.size = e.size ∧ ∀ ρ1 : Ren, (e.mk r 0 0).cells ρ1 = t.cells ρ' := by
    intro r ρ' h w' v hk hr' hwh
    unfold newK at hk
    split at hk
    · rename_i m
      split at hk
      · rename_i t ht
        split at hk
        · rename_i a ro hq
          cases hk
          have hwt := hwh m t ht
          have g := res_rep (ρ := ρ'.bare) (hp := []) (w := w') (fz' := fun _ _ => none) rep_nil (fun n v hv => by simp at hv) (fun b o x hx => by cases hx) e t r ro hq hwt (fun m hm => absurd hm (res_nil e t _ hq m)) (.inr fun b o ⟨n, v, hn, _⟩ => by simp at hn) [] []
          simp only [List.nil_append, List.append_nil, List.length_nil] at g
          have hw := (res_wf (hp := []) (fun n v hv => by simp at hv) e t r ro hq hwt).2 [] []
          simp only [List.nil_append, List.append_nil, List.length_nil] at hw
          obtain ⟨locs, hl⟩ := repE_mk (w := w') e r 0 _ g
          refine ⟨hw, m, t, rfl, ht, res_tree he hq, by rw [← cells_length ρ'.bare t, g.len], fun ρ1 => ?_⟩
          have c1 := (hl ⟨ρ1.loc, fun _ _ => none⟩ 0 rfl (fun i hi => by rw [flat_ns e he] at hi; omega)).1
          have c2 : (e.mk r 0 0).cells ρ1 = (e.mk r 0 0).cells ⟨ρ1.loc, fun _ _ => none⟩ := cells_congr _ (fun _ _ => rfl)
          have c3 : t.cells ρ'.bare = t.cells ρ' := cells_congr _ (fun _ _ => rfl)
          rw [c2, c1, c3]
        · cases hk
      · cases hk
    · cases hk
  have hpos := Nat.le_of_ble_eq_true hsz
  refine ⟨fun hs r hr hw => ?_, fun hs r hr hw ρ0 w hrep => .inl ⟨⟨fn, c, hf, hn, hb⟩, ?_⟩⟩
  · obtain ⟨ρ0, w, hrep⟩ := rep_exists F.ins hs
    obtain ⟨_, w', fr, ⟨ρ', st, v, _, hk, _, hr', hwh, _⟩, _⟩ := run_lfn hE hm hf hb hΛ F (hmain hs r hr hw) hw hrep []
    rw [hO]
    exact (key r ρ' st.hp w' v hk hr' hwh).1
  · refine (run_lfn hE hm hf hb hΛ F (hmain hs r hr hw) hw hrep).mono fun _ w' ⟨ρ', st, v, hret, hk, hsame, hr', hwh, hcv, hwv, _, hmine, hch⟩ => ⟨_, hret, ?_⟩
    obtain ⟨_, m, t, rfl, ht, htr, hts, hcells⟩ := key r ρ' st.hp w' v hk hr' hwh
    have hobj : F.out.objs F.own r = [e.mk r 0 0] := by rw [hO]; simp only [LOut.objs, he, cond_true]
    rw [hobj]
    have get : ∀ n y, (addL [] 0 [e.mk r 0 0]).getD n none = some y → n = 0 ∧ y = e.mk r 0 0 := fun n y hy => by
      rw [addL_nil_get] at hy
      cases n with
      | zero => simp at hy; exact ⟨rfl, hy.symm⟩
      | succ n => simp at hy
    have hmt := mk_tree he r 0 0
    have hms : (e.mk r 0 0).size = t.size := by rw [← cells_length ρ' (e.mk r 0 0), hcells ρ', cells_length]
    have hb0 := hr'.blk m t ht
    rw [blkRep_tree htr] at hb0
    obtain ⟨cs, el, h1, h2, h3⟩ := hb0
    refine ⟨⟨fun _ => ρ' m, fun _ _ => none⟩, by rw [hO]; simp [LOut.mk, AV.enc], hsame, ⟨fun n y hy => ?_, fun q n vm vn h1 h2 h3 => ?_, (fun b o x hx => by cases hx), fun _ _ _ _ _ _ => rfl⟩, (fun b o q => absurd rfl q), fun b o ⟨n, y, hy, q⟩ => ?_, fun _ b o q => absurd rfl q⟩
    · obtain ⟨rfl, rfl⟩ := get n y hy
      rw [blkRep_tree hmt]
      exact ⟨cs, el, h1, by rw [hms]; exact h2, fun j hj => by rw [hcells]; exact h3 j (by omega)⟩
    · obtain ⟨rfl, _⟩ := get q vm h1
      obtain ⟨rfl, _⟩ := get n vn h2
      exact absurd rfl h3
    · obtain ⟨rfl, rfl⟩ := get n y hy
      rw [rgn_tree hmt, hms] at q
      exact hmine b o ⟨m, t, ht, by rw [rgn_tree htr]; exact q⟩
theorem lfn_newx {P : Program} {Γ : Env} {Λ : Blks} {u : Nat} (hE : EnvOk P Γ) (hm : P.follows .mixedOrders = true) {f : FuncId} {fn : Func} {c : Code} (hf : P.funcs[f]? = some fn)
    (hn : (fn.name == "runtime.NumGoroutine") = false) (hb : fn.body = some c) (hΛ : LamOk P Λ c) (F : LFn) {e : Ep} (hO : F.out = .blk e) (he : e.flat = true) (hsz : Nat.blt 0 e.size = true)
    (ks : List HK) {raw : HFn ks (Option (List Hv))} (hfn : F.fn = apH ks raw)
    (hmain : AllH ks fun hs => evalF P Γ Λ u fn c (F.args hs) (F.mem hs) (Ep.nsL F.ins) (newK e) = F.fn hs) : EntryOk P f (.look F) :=
  lfn_new hE hm hf hn hb hΛ F hO he hsz fun hs r hr _ => (AllH.at hmain hs (apH_shape (f := raw) (by rw [← hfn]; exact hr))).trans hr
end Go.Sim
namespace Go.Sim
open Go.ChangeShapes Go.WideShapes
variable {H : Type} {enc : TypeId × Value → H} {P : Program} {w : World}

/-- all memory that is there -/
def allFz (w : World) : Nat → Nat → Option Value := fun b o => w.cell? ⟨b, o, none⟩

theorem cells_one {base : Nat} {a : Addr} {cs : List Value} (h : w.cells? base a 1 = some cs) : ∃ v, cs = [v] ∧ w.cell? (a.add 0) = some v := by
  unfold World.cells? at h
  split at h
  · cases hv : w.cell? (a.add 0) with
    | none => simp [hv] at h
    | some v => simp [hv] at h; exact ⟨v, h.symm, rfl⟩
  · cases h

theorem open_bools {r : Reach} {b0 : Nat} {t e : TypeId} {v : Value} {d : DataW H} {ps : List MemPlace} (ht : P.underlying t = some (.slice e)) (he : P.underlying e = some .bool) (hce : P.cellsOf e = 1)
    (hval : Value.okWide P w r b0 t v) (hd : DataW.Trod enc P w 0 (fun _ => true) true t v d ps) :
    ∃ (L : Loc) (l : List (List Hv)), v = sliceV L l.length ∧ l.length < 9223372036854775808 ∧ ∃ c : Nat → List Value, (∀ i, i < l.length → RepE (allFz w) .bool (l.getD i []) 0 (c i)) ∧ RowRo (allFz w) L 1 l.length c := by
  obtain ⟨fuel, hf⟩ := hd
  obtain ⟨ao, len0, cap0, rfl⟩ := okWide_slice ht hval
  rcases DataW.trod_slice ht hf with ⟨hcs, _⟩ | ⟨a, len, cap, elems, rest, n, _, hcs, _, _, hlc, hcm, hlen, hel, _⟩
  · simp only [Value.cells, List.cons.injEq, Value.slice.injEq, and_true] at hcs
    obtain ⟨rfl, rfl, rfl⟩ := hcs
    exact ⟨⟨0, 0, 0, true⟩, [], rfl, by simp, fun _ => [], fun i hi => by simp at hi, Nat.le_refl _, fun _ => ⟨rfl, rfl⟩, fun q => by cases q⟩
  · simp only [Value.cells, List.cons.injEq, Value.slice.injEq, and_true] at hcs
    obtain ⟨rfl, rfl, rfl⟩ := hcs
    have hsp : a.spot = none := by
      unfold Value.okWide at hval
      rw [ht] at hval
      simp only [Cell.okWide, ht] at hval
      unfold Cell.ok at hval
      rw [ht] at hval
      exact hval.2.2.2.1
    have hat : ∀ i, i < len0 → ∃ b, w.cell? ⟨a.block, a.off + i, none⟩ = some (.bool b) := fun i hi => by
      have h1 := hel i hi
      rw [hce, Nat.mul_one, List.getElem?_eq_getElem (by omega)] at h1
      simp only [Option.bind_eq_some_iff] at h1
      obtain ⟨cs, hc, hy⟩ := h1
      obtain ⟨u, rfl, hu⟩ := cells_one hc
      obtain ⟨b, hb⟩ : ∃ b, u = .bool b := by
        cases n with
        | zero => simp [DataW.trod] at hy
        | succ n =>
          unfold DataW.trod at hy
          rw [he] at hy
          split at hy <;> simp_all
      subst hb
      refine ⟨b, ?_⟩
      rw [← hu]
      congr 1
      obtain ⟨ab, ao, asp⟩ := a
      simp only at hsp
      subst hsp
      rw [addr_add, addr_add]
      rfl
    let f : Nat → List Hv := fun i => [.b (match w.cell? ⟨a.block, a.off + i, none⟩ with | some (.bool b) => b | _ => false)]
    have hget : ∀ i, i < len0 → ((List.range len0).map f).getD i [] = f i := fun i hi => by
      rw [List.getD_eq_getElem?_getD, List.getElem?_map, List.getElem?_range hi]; rfl
    refine ⟨⟨a.block, a.off, cap0, false⟩, (List.range len0).map f, ?_, by simp only [List.length_map, List.length_range]; simp only [maxLen] at hcm; omega, fun i => [.bool (match w.cell? ⟨a.block, a.off + i, none⟩ with | some (.bool b) => b | _ => false)], fun i hi => ?_, ?_⟩
    · obtain ⟨ab, ao, asp⟩ := a
      simp only at hsp
      subst hsp
      simp [sliceV]
    · simp only [List.length_map, List.length_range] at hi
      rw [hget i hi]
      simp [RepE, f, hb]
    · simp only [List.length_map, List.length_range]
      refine ⟨hlc, (fun q => by cases q), fun _ i hi j hj => ?_⟩
      have : j = 0 := by omega
      subst this
      obtain ⟨b, hb⟩ := hat i hi
      simp only [allFz, Nat.mul_one, Nat.add_zero, hb, List.getElem?_cons_zero]
end Go.Sim
