/- Functions. -/
import Derived.Test.YtllfkflclhnmgaaSimO
import Derived.Laws.Externs
namespace Go.Sim
variable {β : Type}

def resK (P : Program) (tm : Tm) (hp : Hp) : List ResultVar → (List AV → Option β) → Option β
  | [], K => K []
  | .tmp t :: rs, K =>
    match tm.getD t none with
    | some v => resK P tm hp rs fun vs => K (v :: vs)
    | none => none
  | .cell a t :: rs, K => loadK P tm hp t (.tmp a) fun v => resK P tm hp rs fun vs => K (v :: vs)

def packA : List AV → AV
  | [v] => v
  | vs => .tup vs

def retK (P : Program) (fn : Func) (K : AV → Hp → Option β) : Exit → St → Option β
  | .normal, st => resK P st.tm st.hp fn.results.toList fun vs => K (packA vs) st.hp
  | .ret, st => resK P st.tm st.hp fn.results.toList fun vs => K (packA vs) st.hp
  | _, _ => none

def initSt (n : Nat) (args : List AV) (hp : Hp) (base : Nat) : St := ⟨args.map some ++ List.replicate (n - args.length) none, hp, base⟩

theorem mapM_toList_run {P : Program} {α γ : Type} (f : α → Sem γ) (xs : Array α) (l : List γ) (w : World) (h : (xs.toList.mapM f).run P w = .ok l w) : (xs.mapM f).run P w = .ok l.toArray w := by
  rw [Array.mapM_eq_mapM_toList, Sem.run_map, h]
  rfl

def resF (tmps : Array Value) : ResultVar → Sem Value
  | .tmp t => pure (tmps.getD t undef)
  | .cell a t => do loadVar t (← asAddr (tmps.getD a undef))

theorem results_eq (fn : Func) (tmps : Array Value) : results fn tmps = (fn.results.mapM (resF tmps)) >>= fun vs => pure (if h : vs.size = 1 then vs[0] else .tuple vs) := by
  have : (fun x : ResultVar => match x with | .tmp t => (pure (tmps.getD t undef) : Sem Value) | .cell a t => do loadVar t (← asAddr (tmps.getD a undef))) = resF tmps := by
    funext r; cases r <;> rfl
  unfold results
  rw [← this]
  rfl

theorem resK_run {P : Program} {ρ : Ren} {st : St} {a : Act} {w : World} (hr : RepW ρ st.hp w) (ht : TmOk ρ st.tm a) (hw : WfSt st) :
    ∀ (rs : List ResultVar) (K : List AV → Option β) (r : β), resK P st.tm st.hp rs K = some r → ∃ vs, K vs = some r ∧
      (rs.mapM (resF a.tmps)).run P w = .ok (vs.map (AV.enc ρ)) w ∧ ∀ v ∈ vs, v.wf
  | [], K, r, h => ⟨[], h, by simp, fun v hv => by cases hv⟩
  | .tmp t :: rs, K, r, h => by
    simp only [resK] at h
    cases hv : st.tm.getD t none with
    | none => simp only [hv] at h; cases h
    | some v =>
      simp only [hv] at h
      obtain ⟨vs, h1, h2, h3⟩ := resK_run hr ht hw rs _ r h
      refine ⟨v :: vs, h1, ?_, fun u hu => ?_⟩
      · simp only [List.mapM_cons, resF, Sem.run_bind, Sem.run_pure, Result.andThen_ok, h2, ht.val t v hv, List.map_cons]
      · rcases List.mem_cons.1 hu with rfl | hu
        · exact hw.tm t u hv
        · exact h3 u hu
  | .cell c t :: rs, K, r, h => by
    simp only [resK] at h
    rw [loadK_eq] at h
    cases hv : loadK P st.tm st.hp t (.tmp c) some with
    | none => simp [hv] at h
    | some v =>
      simp only [hv, Option.bind_some] at h
      obtain ⟨vs, h1, h2, h3⟩ := resK_run hr ht hw rs _ r h
      refine ⟨v :: vs, h1, ?_⟩
      unfold loadK at hv
      split at hv
      · rename_i n p hx
        split at hv
        · rename_i tree htree
          rw [subK_eq] at hv
          cases hs : sub p tree with
          | none => simp [hs] at hv
          | some u =>
            simp only [hs, Option.bind_some] at hv
            cases hf : fits P t u with
            | false => simp [hf] at hv
            | true =>
              simp only [hf, cond_true, Option.some.injEq] at hv
              subst hv
              obtain ⟨cc, e, hc, hcs, hcells⟩ := hr.blk n tree htree
              obtain ⟨p1, p2, k1, k2⟩ := sub_cells ρ p tree u hs
              have hlen : tree.size = p1.length + u.size + p2.length := by
                rw [← cells_length ρ tree, k1]; simp [cells_length]; omega
              have hrun := run_load_fits (P := P) (ρ := ρ) (w := w) (b := (ρ n).1) (o := (ρ n).2 + pOff p) hf (fun j hj => by
                have := hcells (pOff p + j) (by omega)
                simp only [World.cell?, hc]
                rw [show (ρ n).2 + pOff p + j = (ρ n).2 + (pOff p + j) by omega]
                simp only [Option.isSome_none, Bool.false_eq_true, if_false]
                rw [this, ← k2]
                exact seg_at k1 (by rw [cells_length]; exact hj))
              have he : a.tmps.getD c undef = _ := ht.val c _ hx
              simp only [Instr.loadAt, Instr.sureAddr, Sem.run_bind, Sem.run_pure, Result.andThen_ok] at hrun
              refine ⟨by simp only [List.mapM_cons, resF, Sem.run_bind, Sem.run_pure, Result.andThen_ok, he, AV.enc, asAddr, hrun, h2, List.map_cons], fun y hy => ?_⟩
              rcases List.mem_cons.1 hy with rfl | hy
              · exact sub_wf _ _ _ hs (hw.hp _ _ htree)
              · exact h3 y hy
        · cases hv
      · cases hv

theorem packA_enc (ρ : Ren) (vs : List AV) (w : World) (P : Program) :
    ((fun (xs : Array Value) => (pure (if h : xs.size = 1 then xs[0] else .tuple xs) : Sem Value)) (vs.map (AV.enc ρ)).toArray).run P w = .ok ((packA vs).enc ρ) w := by
  match vs with
  | [] => simp [packA, AV.enc, encL_eq]
  | [v] => simp [packA]
  | v :: u :: vs => simp [packA, AV.enc, encL_eq]

theorem packA_wf {vs : List AV} (h : ∀ v ∈ vs, v.wf) : (packA vs).wf := by
  match vs with
  | [] => simp [packA, AV.wf, AV.wfL]
  | [v] => simpa [packA] using h v (by simp)
  | v :: u :: vs => simp only [packA, AV.wf]; exact wfL_of h

theorem results_run {P : Program} {fn : Func} {ρ : Ren} {st : St} {a : Act} {w : World} (hr : RepW ρ st.hp w) (ht : TmOk ρ st.tm a) (hw : WfSt st) {K : AV → Hp → Option β} {r : β}
    (h : resK P st.tm st.hp fn.results.toList (fun vs => K (packA vs) st.hp) = some r) : ∃ v, K v st.hp = some r ∧ (results fn a.tmps).run P w = .ok (v.enc ρ) w ∧ v.wf := by
  obtain ⟨vs, h1, h2, h3⟩ := resK_run hr ht hw _ _ _ h
  refine ⟨packA vs, h1, ?_, packA_wf h3⟩
  have := mapM_toList_run _ fn.results _ w h2
  rw [results_eq]
  simp only [Sem.run_bind]
  rw [this]
  simp only [Result.andThen_ok]
  exact packA_enc ρ vs w P

/-- the evaluator over a function's body, from its arguments on -/
def evalF (P : Program) (Γ : Env) (Λ : Blks) (u : Nat) (fn : Func) (c : Code) (args : List AV) (hp : Hp) (base : Nat) (K : AV → Hp → Option β) : Option β :=
  evalC P Γ Λ u c (initSt fn.ntmps args hp base) (retK P fn K)

def LamOk (P : Program) (Λ : Blks) (body : Code) : Prop := ∀ id s, Λ id = some s → ∀ c, (id, c) ∈ blocks body → BlkSound P id c s

theorem evalF_sound_wf {P : Program} {Γ : Env} {Λ : Blks} {u : Nat} (hE : EnvOk P Γ) (hm : P.follows .mixedOrders = true) {f : FuncId} {fn : Func} {c : Code} (hf : P.funcs[f]? = some fn) (hb : fn.body = some c)
    (hΛ : LamOk P Λ c) {args : List AV} {hp : Hp} {base : Nat} {K : AV → Hp → Option β} {r : β} (h : evalF P Γ Λ u fn c args hp base K = some r)
    {ρ : Ren} {w : World} (hr : RepW ρ hp w) (hcl : ClosedH hp) (hca : ∀ v ∈ args, ClosedV hp v) (hwa : ∀ v ∈ args, v.wf) (hwh : WfH hp) (fb : Nat) (hfb : fb ≤ base) :
    Calls P f (args.map (AV.enc ρ)).toArray w fun e w' => ∃ ρ' st a v, e = .returned (v.enc ρ') ∧ K v st.hp = some r ∧ Inv ⟨ownOf ρ hp, fb, ρ⟩ w ρ' st a w' ∧ v.wf := by
  refine calls_of_wp hf hb ?_
  have hI : Inv ⟨ownOf ρ hp, fb, ρ⟩ w ρ (initSt fn.ntmps args hp base) { tmps := (args.map (AV.enc ρ)).toArray ++ Array.replicate (fn.ntmps - (args.map (AV.enc ρ)).toArray.size) undef, defers := [] } w := by
    refine ⟨hr, ⟨by simp [initSt], fun i v hv => ?_⟩, ⟨fun i v hv => ?_, hcl⟩, ⟨fun i v hv => ?_, hwh⟩, Kept.refl _ _, fun n v hv => .inr fun j hj => ⟨n, v, hv, rfl, by omega, by omega⟩, rfl, fun _ _ => rfl, hfb⟩
    · simp only [initSt, List.getD_eq_getElem?_getD] at hv
      by_cases hi : i < args.length
      · rw [List.getElem?_append_left (by simpa using hi)] at hv
        simp [hi] at hv
        simp only [Array.getD_eq_getD_getElem?]
        rw [Array.getElem?_append_left (by simpa using hi)]
        simp [hi, hv]
      · rw [List.getElem?_append_right (by simp; omega)] at hv
        simp [List.getElem?_replicate] at hv
        split at hv <;> simp at hv
    · simp only [initSt, List.getD_eq_getElem?_getD] at hv
      by_cases hi : i < args.length
      · rw [List.getElem?_append_left (by simpa using hi)] at hv
        simp [hi] at hv
        exact hca v (hv ▸ List.getElem_mem hi)
      · rw [List.getElem?_append_right (by simp; omega)] at hv
        simp [List.getElem?_replicate] at hv
        split at hv <;> simp at hv
    · simp only [initSt, List.getD_eq_getElem?_getD] at hv
      by_cases hi : i < args.length
      · rw [List.getElem?_append_left (by simpa using hi)] at hv
        simp [hi] at hv
        exact hwa v (hv ▸ List.getElem_mem hi)
      · rw [List.getElem?_append_right (by simp; omega)] at hv
        simp [List.getElem?_replicate] at hv
        split at hv <;> simp at hv
  refine evalC_sound hE hm hΛ c (fun p hp => hp) _ _ ρ _ w h hI _ fun e ρ' st a w' hI' hK => ?_
  have key : resK P st.tm st.hp fn.results.toList (fun vs => K (packA vs) st.hp) = some r →
      a.defers = [] ∧ ∃ v, (results fn a.tmps).run P w' = .ok v w' ∧ ∃ ρ' st a x, Ending.returned v = .returned (x.enc ρ') ∧ K x st.hp = some r ∧ Inv ⟨ownOf ρ hp, fb, ρ⟩ w ρ' st a w' ∧ x.wf := by
    intro hk
    obtain ⟨v, h1, h2, h3⟩ := results_run (K := K) hI'.rep hI'.tm hI'.wf hk
    exact ⟨hI'.defers, _, h2, ρ', st, a, v, rfl, h1, hI', h3⟩
  cases e with
  | normal => exact key hK
  | ret => exact key hK
  | exit i => simp [retK] at hK
  | goto l => simp [retK] at hK
  | panic ch => simp [retK] at hK
  | outgrown => simp [retK] at hK

theorem evalF_sound {P : Program} {Γ : Env} {Λ : Blks} {u : Nat} (hE : EnvOk P Γ) (hm : P.follows .mixedOrders = true) {f : FuncId} {fn : Func} {c : Code} (hf : P.funcs[f]? = some fn) (hb : fn.body = some c)
    (hΛ : LamOk P Λ c) {args : List AV} {hp : Hp} {base : Nat} {K : AV → Hp → Option β} {r : β} (h : evalF P Γ Λ u fn c args hp base K = some r)
    {ρ : Ren} {w : World} (hr : RepW ρ hp w) (hcl : ClosedH hp) (hca : ∀ v ∈ args, ClosedV hp v) (hwa : ∀ v ∈ args, v.wf) (hwh : WfH hp) (fb : Nat) (hfb : fb ≤ base) :
    Calls P f (args.map (AV.enc ρ)).toArray w fun e w' => ∃ ρ' st a v, e = .returned (v.enc ρ') ∧ K v st.hp = some r ∧ Inv ⟨ownOf ρ hp, fb, ρ⟩ w ρ' st a w' :=
  (evalF_sound_wf hE hm hf hb hΛ h hr hcl hca hwa hwh fb hfb).mono fun e w' ⟨ρ', st, a, v, h1, h2, h3, _⟩ => ⟨ρ', st, a, v, h1, h2, h3⟩

/-! a function of values -/
mutual
def Pat.plain : Pat → Bool
  | .ptr .. => false
  | .agg ps => Pat.plainL ps
  | .tup ps => Pat.plainL ps
  | _ => true
def Pat.plainL : List Pat → Bool
  | [] => true
  | p :: ps => p.plain && Pat.plainL ps
end

mutual
theorem plain_has {m : Nat} : ∀ (p : Pat) (v : AV) (l : List Hv), p.plain = true → matchP p v = some l → ¬ v.has m
  | .agg ps, .agg vs, l, hp, h => by
    simp only [AV.has]; exact plainL_has ps vs l (by simpa [Pat.plain] using hp) (by simpa [matchP] using h)
  | .tup ps, .tup vs, l, hp, h => by
    simp only [AV.has]; exact plainL_has ps vs l (by simpa [Pat.plain] using hp) (by simpa [matchP] using h)
  | .ci .., v, _, _, h => by cases v <;> simp [matchP, AV.has] at h ⊢
  | .ptr .., _, _, hp, _ => by simp [Pat.plain] at hp
  | .int _, v, _, _, h => by cases v <;> simp [matchP, AV.has] at h ⊢
  | .bool, v, _, _, h => by cases v <;> simp [matchP, AV.has] at h ⊢
  | .str, v, _, _, h => by cases v <;> simp [matchP, AV.has] at h ⊢
  | .arr .., v, _, _, h => by cases v <;> simp [matchP, AV.has] at h ⊢
  | .nil, v, _, _, h => by cases v <;> simp [matchP, AV.has] at h ⊢
  | .fn _, v, _, _, h => by cases v <;> simp [matchP, AV.has] at h ⊢
  | .agg _, .int .., _, _, h | .agg _, .bool _, _, _, h | .agg _, .str _, _, _, h | .agg _, .nil, _, _, h | .agg _, .ptr .., _, _, h | .agg _, .arr .., _, _, h | .agg _, .tup _, _, _, h | .agg _, .fn _, _, _, h | .agg _, .lit _, _, _, h => by simp [matchP] at h
  | .tup _, .int .., _, _, h | .tup _, .bool _, _, _, h | .tup _, .str _, _, _, h | .tup _, .nil, _, _, h | .tup _, .ptr .., _, _, h | .tup _, .arr .., _, _, h | .tup _, .agg _, _, _, h | .tup _, .fn _, _, _, h | .tup _, .lit _, _, _, h => by simp [matchP] at h
theorem plainL_has {m : Nat} : ∀ (ps : List Pat) (vs : List AV) (l : List Hv), Pat.plainL ps = true → matchPs ps vs = some l → ¬ AV.hasL m vs
  | [], [], _, _, _ => by simp [AV.hasL]
  | [], _ :: _, _, _, h => by simp [matchPs] at h
  | _ :: _, [], _, _, h => by simp [matchPs] at h
  | p :: ps, v :: vs, l, hp, h => by
    simp only [Pat.plainL, Bool.and_eq_true] at hp
    simp only [matchPs] at h
    cases h1 : matchP p v with
    | none => simp [h1] at h
    | some a =>
      cases h2 : matchPs ps vs with
      | none => simp [h1, h2] at h
      | some b =>
        simp only [AV.hasL, not_or]
        exact ⟨plain_has p v a hp.1 h1, plainL_has ps vs b hp.2 h2⟩
end

/-- a function of values: the patterns of its arguments, and what it answers -/
structure PFn where
  pats : List Pat
  run : {β : Type} → List Hv → (AV → Option β) → Option β

def PFn.sem (F : PFn) : PSem where
  run args K := match matchPs F.pats args with
    | some hs => F.run hs K
    | none => none

theorem fn_pure {P : Program} {Γ : Env} {Λ : Blks} {u : Nat} (hE : EnvOk P Γ) (hm : P.follows .mixedOrders = true) {f : FuncId} {fn : Func} {c : Code} (hf : P.funcs[f]? = some fn)
    (hn : (fn.name == "runtime.NumGoroutine") = false) (hb : fn.body = some c) (hΛ : LamOk P Λ c) (F : PFn) (hpl : Pat.plainL F.pats = true)
    (hlaw : ∀ (β : Type) hs (K : AV → Option β), F.run hs K = (F.run hs some).bind K) (hnames : ∀ hs v, F.run hs some = some v → ∀ m, ¬ v.has m) (hwf : ∀ hs v, F.run hs some = some v → (∀ u ∈ (buildPs hs F.pats 0).1, u.wf) → v.wf)
    (hmain : ∀ hs v, F.run hs some = some v → (∀ u ∈ (buildPs hs F.pats 0).1, u.wf) → evalF P Γ Λ u fn c (buildPs hs F.pats 0).1 [] 0 (fun v _ => some v) = some v) : EntryOk P f (.pure F.sem) := by
  refine ⟨trivial, ⟨fun β args K => ?_, fun args v h => ?_, fun args v h hw => ?_⟩, fun args v h hw ρ w => .inl ⟨⟨fn, c, hf, hn, hb⟩, ?_⟩⟩
  · simp only [PFn.sem]
    cases matchPs F.pats args with
    | none => rfl
    | some hs => exact hlaw β hs K
  · simp only [PFn.sem] at h
    cases hm' : matchPs F.pats args with
    | none => simp [hm'] at h
    | some hs => simp only [hm'] at h; exact hnames hs v h
  · simp only [PFn.sem] at h
    cases hm' : matchPs F.pats args with
    | none => simp [hm'] at h
    | some hs =>
      simp only [hm'] at h
      have hba := build_matchs F.pats args hs [] [] hm'
      simp only [List.nil_append, List.append_nil, List.length_nil] at hba
      exact hwf hs v h (by rw [hba]; exact hw)
  · simp only [PFn.sem] at h
    cases hm' : matchPs F.pats args with
    | none => simp [hm'] at h
    | some hs =>
      simp only [hm'] at h
      have hba := build_matchs F.pats args hs [] [] hm'
      simp only [List.nil_append, List.append_nil, List.length_nil] at hba
      have hmn := hmain hs v h (by rw [hba]; exact hw)
      rw [hba] at hmn
      have hnn : ∀ u ∈ args, ∀ m, ¬ u.has m := fun u hu m hmm => plainL_has F.pats args hs hpl hm' (hasL_mem hu hmm)
      have hcalls := evalF_sound hE hm hf hb hΛ hmn (ρ := ρ) (w := w) ⟨fun n v hv => by simp at hv, fun m n vm vn hv => by simp at hv⟩ (fun n v hv => by simp at hv) (fun v hv m hmm => absurd hmm (hnn v hv m)) hw (fun n v hv => by simp at hv) 0 (Nat.le_refl _)
      refine hcalls.mono fun e w' ⟨ρ', st, a, x, he, hx, hI⟩ => ⟨?_, ?_⟩
      · cases hx
        rw [he]
        rw [enc_congr v (fun m hmm => absurd hmm (hnames hs v h m))]
      · have hk := hI.kept
        exact ⟨hk.os, hk.tape, hk.output, hk.size, fun b hb _ => hk.old b hb (fun o ⟨n, v, hv, _⟩ => by simp at hv), fun b c e fz hb => by
          obtain ⟨c', h1, h2, h3⟩ := hk.cells b c e fz hb
          exact ⟨c', h1, h2, fun o _ => h3 o (fun ⟨n, v, hv, _⟩ => by simp at hv)⟩, hk.frz⟩

/-- a function that the model stands in for -/
theorem fn_ext {P : Program} {f : FuncId} (F : PFn)
    (hlaw : ∀ (β : Type) hs (K : AV → Option β), F.run hs K = (F.run hs some).bind K) (hnames : ∀ hs v, F.run hs some = some v → ∀ m, ¬ v.has m) (hwf : ∀ hs v, F.run hs some = some v → (∀ u ∈ (buildPs hs F.pats 0).1, u.wf) → v.wf)
    (hmain : ∀ hs v, F.run hs some = some v → ∀ (ρ : Ren) (w : World), (callFunc f ((buildPs hs F.pats 0).1.map (AV.enc ρ)).toArray).run P w = .ok (.value (v.enc ρ)) w) : EntryOk P f (.pure F.sem) := by
  refine ⟨trivial, ⟨fun β args K => ?_, fun args v h => ?_, fun args v h hw => ?_⟩, fun args v h hw ρ w => .inr ?_⟩
  · simp only [PFn.sem]
    cases matchPs F.pats args with
    | none => rfl
    | some hs => exact hlaw β hs K
  · simp only [PFn.sem] at h
    cases hm' : matchPs F.pats args with
    | none => simp [hm'] at h
    | some hs => simp only [hm'] at h; exact hnames hs v h
  · simp only [PFn.sem] at h
    cases hm' : matchPs F.pats args with
    | none => simp [hm'] at h
    | some hs =>
      simp only [hm'] at h
      have hba := build_matchs F.pats args hs [] [] hm'
      simp only [List.nil_append, List.append_nil, List.length_nil] at hba
      exact hwf hs v h (by rw [hba]; exact hw)
  · simp only [PFn.sem] at h
    cases hm' : matchPs F.pats args with
    | none => simp [hm'] at h
    | some hs =>
      simp only [hm'] at h
      have := hmain hs v h ρ w
      have hba := build_matchs F.pats args hs [] [] hm'
      simp only [List.nil_append, List.append_nil, List.length_nil] at hba
      rwa [hba] at this

/-! math/bits, as the model stands in for it -/
def add64S (x y c : Int) : Int := ((x.toNat + y.toNat + c.toNat) % 18446744073709551616 : Nat)
def add64C (x y c : Int) : Int := ((x.toNat + y.toNat + c.toNat) / 18446744073709551616 : Nat)
def sub64D (x y c : Int) : Int := ((x.toNat + 18446744073709551616 - y.toNat - c.toNat) % 18446744073709551616 : Nat)
def sub64B (x y c : Int) : Int := if x.toNat < y.toNat + c.toNat then 1 else 0
def bit01 (c : Int) : Bool := Nat.ble c.toNat 1

def add64F : PFn where
  pats := [.int .u64, .int .u64, .int .u64]
  run hs K := match hs with
    | [.i x, .i y, .i c] => bif bit01 c then K (.tup [.int .u64 (add64S x y c), .int .u64 (add64C x y c)]) else none
    | _ => none
def sub64F : PFn where
  pats := [.int .u64, .int .u64, .int .u64]
  run hs K := match hs with
    | [.i x, .i y, .i c] => bif bit01 c then K (.tup [.int .u64 (sub64D x y c), .int .u64 (sub64B x y c)]) else none
    | _ => none

def add64E : Array Value → Sem Value := fun args => do
  let (x, y, c) ← Extern.MathBitsCarry.three "Add64" args
  pure (Extern.MathBitsCarry.pair ((x + y + c) % Extern.MathBitsCarry.m64) ((x + y + c) / Extern.MathBitsCarry.m64))
def sub64E : Array Value → Sem Value := fun args => do
  let (x, y, b) ← Extern.MathBitsCarry.three "Sub64" args
  pure (Extern.MathBitsCarry.pair ((x + Extern.MathBitsCarry.m64 - y - b) % Extern.MathBitsCarry.m64) (if x < y + b then 1 else 0))

theorem three_run {P : Program} (n : String) (x y c : Int) (hc : bit01 c = true) (w : World) :
    (Extern.MathBitsCarry.three n #[.int .u64 x, .int .u64 y, .int .u64 c]).run P w = .ok (x.toNat, y.toNat, c.toNat) w := by
  have hle : c.toNat ≤ 1 := Nat.le_of_ble_eq_true hc
  cases c with
  | ofNat k =>
    have : k = 0 ∨ k = 1 := by simp at hle; omega
    rcases this with rfl | rfl <;> rfl
  | negSucc k => rfl

theorem add64_ok {P : Program} {f : FuncId} {fn : Func} (hf : P.funcs[f]? = some fn) (hname : (fn.name == "runtime.NumGoroutine") = false)
    (hb : fn.body.isNone = true) (hn : Extern.findNext fn = none) (he : Extern.find fn = some add64E) : EntryOk P f (.pure add64F.sem) := by
  refine fn_ext add64F (fun β hs K => ?_) (fun hs v h m => ?_) (fun hs v h hw => ?_) (fun hs v h ρ w => ?_)
  · simp only [add64F]; split
    · cases bit01 _ <;> rfl
    · rfl
  · simp only [add64F] at h; split at h
    · rename_i x y c
      cases hc : bit01 c with
      | false => simp [hc] at h
      | true => simp only [hc, cond_true, Option.some.injEq] at h; subst h; simp [AV.has, AV.hasL]
    · cases h
  · simp only [add64F] at h; split at h
    · rename_i x y c
      cases hc : bit01 c with
      | false => simp [hc] at h
      | true =>
        simp only [hc, cond_true, Option.some.injEq] at h
        subst h
        simp only [AV.wf, AV.wfL, and_true]
        exact ⟨by unfold add64S; simp only [inK]; omega, by
          unfold add64C
          have h1 := hw (.int .u64 (hi [.i x, .i y, .i c] 0)) (by simp [add64F, buildPs, buildP])
          have h2 := hw (.int .u64 (hi [.i x, .i y, .i c] 1)) (by simp [add64F, buildPs, buildP])
          have h3 := Nat.le_of_ble_eq_true hc
          simp only [AV.wf, inK, hi, List.getElem?_cons_zero, List.getElem?_cons_succ] at h1 h2 ⊢
          omega⟩
    · cases h
  · simp only [add64F] at h ⊢; split at h
    · rename_i x y c
      cases hc : bit01 c with
      | false => simp [hc] at h
      | true =>
        simp only [hc, cond_true, Option.some.injEq] at h; subst h
        rw [run_callFunc_extern hf hname hb hn he]
        simp [buildPs, buildP, hi, AV.enc, AV.encL, add64E, three_run _ x y c hc, Extern.MathBitsCarry.pair, Extern.MathBitsCarry.m64, add64S, add64C]
    · cases h

theorem sub64_ok {P : Program} {f : FuncId} {fn : Func} (hf : P.funcs[f]? = some fn) (hname : (fn.name == "runtime.NumGoroutine") = false)
    (hb : fn.body.isNone = true) (hn : Extern.findNext fn = none) (he : Extern.find fn = some sub64E) : EntryOk P f (.pure sub64F.sem) := by
  refine fn_ext sub64F (fun β hs K => ?_) (fun hs v h m => ?_) (fun hs v h hw => ?_) (fun hs v h ρ w => ?_)
  · simp only [sub64F]; split
    · cases bit01 _ <;> rfl
    · rfl
  · simp only [sub64F] at h; split at h
    · rename_i x y c
      cases hc : bit01 c with
      | false => simp [hc] at h
      | true => simp only [hc, cond_true, Option.some.injEq] at h; subst h; simp [AV.has, AV.hasL]
    · cases h
  · simp only [sub64F] at h; split at h
    · rename_i x y c
      cases hc : bit01 c with
      | false => simp [hc] at h
      | true =>
        simp only [hc, cond_true, Option.some.injEq] at h
        subst h
        simp only [AV.wf, AV.wfL, and_true]
        exact ⟨by unfold sub64D; simp only [inK]; omega, by unfold sub64B; simp only [inK]; split <;> omega⟩
    · cases h
  · simp only [sub64F] at h ⊢; split at h
    · rename_i x y c
      cases hc : bit01 c with
      | false => simp [hc] at h
      | true =>
        simp only [hc, cond_true, Option.some.injEq] at h; subst h
        rw [run_callFunc_extern hf hname hb hn he]
        simp [buildPs, buildP, hi, AV.enc, AV.encL, sub64E, three_run _ x y c hc, Extern.MathBitsCarry.pair, Extern.MathBitsCarry.m64, sub64D, sub64B]
        split <;> rfl
    · cases h
end Go.Sim
