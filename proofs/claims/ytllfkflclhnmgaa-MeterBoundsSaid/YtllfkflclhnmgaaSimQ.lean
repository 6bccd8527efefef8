/- Functions with a receiver in memory, that read it or write it; functions that make a block. -/
import Derived.Test.YtllfkflclhnmgaaSimP
namespace Go.Sim
variable {β : Type}

/-- a function whose first argument points to a tree: what it answers, and what becomes of the tree -/
structure RFn where
  rp : Pat
  pats : List Pat
  run : {β : Type} → List Hv → (AV → AV → Option β) → Option β

def RFn.full (F : RFn) : FSem where
  run args hp _ K :=
    match args with
    | .ptr n p :: rest =>
      match hp.getD n none with
      | some tree => subK p tree fun t =>
        match matchP F.rp t with
        | some a =>
          match matchPs F.pats rest with
          | some b => F.run (a ++ b) fun v t' => putK p tree t' fun tree' => K v (setP none hp n (some tree'))
          | none => none
        | none => none
      | none => none
    | _ => none

def RFn.read (F : RFn) : RSem where
  run args hp K :=
    match args with
    | .ptr n p :: rest =>
      match hp.getD n none with
      | some tree => subK p tree fun t =>
        match matchP F.rp t with
        | some a =>
          match matchPs F.pats rest with
          | some b => F.run (a ++ b) fun v _ => K v
          | none => none
        | none => none
      | none => none
    | _ => none

def RFn.Law (F : RFn) : Prop := ∀ (β : Type) hs (K : AV → AV → Option β), F.run hs K = (F.run hs fun v t => some (v, t)).bind fun x => K x.1 x.2

/-- the arguments, from the holes -/
def RFn.args (F : RFn) (hs : List Hv) : List AV := .ptr 0 [] :: (buildPs hs F.pats (buildP hs F.rp 0).2).1
def RFn.tree (F : RFn) (hs : List Hv) : AV := (buildP hs F.rp 0).1

structure RFn.Ok (P : Program) (Γ : Env) (Λ : Blks) (u : Nat) (fn : Func) (c : Code) (F : RFn) : Prop where
  plain : F.rp.plain = true
  plains : Pat.plainL F.pats = true
  law : F.Law
  names : ∀ hs v t, F.run hs (fun v t => some (v, t)) = some (v, t) → (∀ m, ¬ v.has m) ∧ ∀ m, ¬ t.has m
  main : ∀ t a r b v' t', matchP F.rp t = some a → matchPs F.pats r = some b → F.run (a ++ b) (fun v t => some (v, t)) = some (v', t') → t.wf → (∀ u ∈ r, u.wf) →
    ∃ (γ : Type) (K : AV → Hp → Option γ) (x : γ), evalF P Γ Λ u fn c (.ptr 0 [] :: r) [some t] 1 K = some x ∧ ∀ y h, K y h = some x → y = v' ∧ h.getD 0 none = some t'

theorem ptr_wf {n : Nat} {p : List Sel} {rest : List AV} (h : ∀ u ∈ rest, u.wf) : ∀ u ∈ AV.ptr n p :: rest, u.wf := by
  intro u hu
  rcases List.mem_cons.1 hu with rfl | hu
  · simp only [AV.wf]
  · exact h u hu

theorem sub_rep {ρ : Ren} {hp : Hp} {w : World} (hr : RepW ρ hp w) {n : Nat} {p : List Sel} {tree t : AV} (hn : hp.getD n none = some tree) (hs : sub p tree = some t) (k : Nat) :
    ∃ c e, w.heap[(ρ n).1]? = some (.cells c e (0, 0)) ∧ (ρ n).2 + tree.size ≤ c.size ∧ pOff p + t.size ≤ tree.size ∧ ∀ j, j < t.size → c[(ρ n).2 + pOff p + j]? = (t.cells ρ)[j]? := by
  obtain ⟨c, e, hc, hcs, hcells⟩ := hr.blk n tree hn
  obtain ⟨p1, p2, h1, h2⟩ := sub_cells ρ p tree t hs
  have hlen : tree.size = p1.length + t.size + p2.length := by
    rw [← cells_length ρ tree, h1]; simp [cells_length]; omega
  refine ⟨c, e, hc, hcs, by omega, fun j hj => ?_⟩
  have := hcells (pOff p + j) (by omega)
  rw [show (ρ n).2 + pOff p + j = (ρ n).2 + (pOff p + j) by omega, this, ← h2]
  exact seg_at h1 (by rw [cells_length]; exact hj)

/-- a world with one row -/
def oneRow (c : Array Value) : World := { heap := #[.cells c 0 (0, 0)], tape := fun _ _ => 0, drawn := 0, os := default, output := #[] }

theorem one_get {t : AV} : ∀ m x, ([some t] : Hp).getD m none = some x → m = 0 ∧ x = t := by
  intro m x hx
  cases m with
  | zero => simp at hx; exact ⟨rfl, hx.symm⟩
  | succ m => simp at hx

theorem recv_wf {P : Program} {Γ : Env} {Λ : Blks} {u : Nat} (hE : EnvOk P Γ) (hm : P.follows .mixedOrders = true) {f : FuncId} {fn : Func} {c : Code} (hf : P.funcs[f]? = some fn)
    (hb : fn.body = some c) (hΛ : LamOk P Λ c) {F : RFn} (hF : F.Ok P Γ Λ u fn c) {t : AV} {a b : List Hv} {rest : List AV} {v t' : AV}
    (ha : matchP F.rp t = some a) (hb' : matchPs F.pats rest = some b) (hrun : F.run (a ++ b) (fun v t => some (v, t)) = some (v, t')) (hwt : t.wf) (hwa : ∀ u ∈ rest, u.wf) : v.wf ∧ t'.wf := by
  have hnt : ∀ m, ¬ t.has m := fun m => plain_has F.rp t a hF.plain ha
  have hnr : ∀ u ∈ rest, ∀ m, ¬ u.has m := fun u hu m hmm => plainL_has F.pats rest b hF.plains hb' (hasL_mem hu hmm)
  obtain ⟨γ, K, x, hev, hK⟩ := hF.main t a rest b v t' ha hb' hrun hwt hwa
  have hrl : RepW (fun _ => (0, 0)) [some t] (oneRow (t.cells fun _ => (0, 0)).toArray) := by
    refine ⟨fun m y hy => ?_, fun m k vm vk h1 h2 h3 => ?_⟩
    · obtain ⟨rfl, rfl⟩ := one_get m y hy
      exact ⟨_, 0, rfl, by simp [cells_length], fun j hj => by simp⟩
    · obtain ⟨rfl, _⟩ := one_get m vm h1
      obtain ⟨rfl, _⟩ := one_get k vk h2
      exact absurd rfl h3
  obtain ⟨e, w', fr, ⟨ρ', st, ac, y, _, hx, hI, hw⟩, _⟩ := evalF_sound_wf hE hm hf hb hΛ hev hrl (fun m x hx => by obtain ⟨_, rfl⟩ := one_get m x hx; intro k hk; exact absurd hk (hnt k))
    (fun x hx => by
      rcases List.mem_cons.1 hx with rfl | hx
      · intro k hk; simp only [AV.has] at hk; subst hk; exact ⟨t, rfl⟩
      · intro k hk; exact absurd hk (hnr x hx k))
    (ptr_wf hwa) (fun m x hx => by obtain ⟨_, rfl⟩ := one_get m x hx; exact hwt) 0 (Nat.zero_le _) []
  obtain ⟨rfl, h0⟩ := hK y st.hp hx
  exact ⟨hw, hI.wf.hp 0 t' h0⟩

/-- the core: the call, in the caller's memory -/
theorem recv_core {P : Program} {Γ : Env} {Λ : Blks} {u : Nat} (hE : EnvOk P Γ) (hm : P.follows .mixedOrders = true) {f : FuncId} {fn : Func} {c : Code} (hf : P.funcs[f]? = some fn)
    (hb : fn.body = some c) (hΛ : LamOk P Λ c) {F : RFn} (hF : F.Ok P Γ Λ u fn c) {n : Nat} {p : List Sel} {rest : List AV} {hp : Hp} {tree t : AV} {a b : List Hv}
    (hn : hp.getD n none = some tree) (hs : sub p tree = some t) (ha : matchP F.rp t = some a) (hb' : matchPs F.pats rest = some b) {v t' : AV}
    (hrun : F.run (a ++ b) (fun v t => some (v, t)) = some (v, t')) (hwa : ∀ u ∈ rest, u.wf) (hwt : t.wf) {ρ : Ren} {w : World} (hr : RepW ρ hp w) :
    Calls P f ((AV.ptr n p :: rest).map (AV.enc ρ)).toArray w fun e w' => e = .returned (v.enc ρ) ∧
      Kept (fun b o => b = (ρ n).1 ∧ (ρ n).2 + pOff p ≤ o ∧ o < (ρ n).2 + pOff p + t.size) w w' ∧
      ∃ c' e, w'.heap[(ρ n).1]? = some (.cells c' e (0, 0)) ∧ ∀ j, j < t'.size → c'[(ρ n).2 + pOff p + j]? = (t'.cells ρ)[j]? := by
  have hnt : ∀ m, ¬ t.has m := fun m => plain_has F.rp t a hF.plain ha
  have hnr : ∀ u ∈ rest, ∀ m, ¬ u.has m := fun u hu m hmm => plainL_has F.pats rest b hF.plains hb' (hasL_mem hu hmm)
  obtain ⟨γ, KK, xx, hev, hKK⟩ := hF.main t a rest b v t' ha hb' hrun hwt hwa
  obtain ⟨hnv, hnt'⟩ := hF.names _ _ _ hrun
  obtain ⟨cc, ee, hc, hcs, hps, hcells⟩ := sub_rep hr hn hs 0
  let ρl : Ren := fun m => if m = 0 then ((ρ n).1, (ρ n).2 + pOff p) else ρ m
  have hget : ∀ m x, ([some t] : Hp).getD m none = some x → m = 0 ∧ x = t := by
    intro m x hx
    cases m with
    | zero => simp at hx; exact ⟨rfl, hx.symm⟩
    | succ m => simp at hx
  have hrl : RepW ρl [some t] w := by
    refine ⟨fun m x hx => ?_, fun m k vm vk h1 h2 h3 => ?_⟩
    · obtain ⟨rfl, rfl⟩ := hget m x hx
      refine ⟨cc, ee, by simpa [ρl] using hc, by simp [ρl]; omega, fun j hj => ?_⟩
      have e1 : x.cells ρl = x.cells ρ := cells_congr x (fun m hmm => absurd hmm (hnt m))
      rw [e1]
      simpa [ρl] using hcells j hj
    · obtain ⟨rfl, _⟩ := hget m vm h1
      obtain ⟨rfl, _⟩ := hget k vk h2
      exact absurd rfl h3
  have hcalls := evalF_sound hE hm hf hb hΛ hev hrl (fun m x hx => by obtain ⟨_, rfl⟩ := hget m x hx; intro k hk; exact absurd hk (hnt k))
    (fun x hx => by
      rcases List.mem_cons.1 hx with rfl | hx
      · intro k hk; simp only [AV.has] at hk; subst hk; exact ⟨t, rfl⟩
      · intro k hk; exact absurd hk (hnr x hx k))
    (ptr_wf hwa) (fun m x hx => by obtain ⟨_, rfl⟩ := hget m x hx; exact hwt) 1 (Nat.le_refl _)
  have earr : ((AV.ptr 0 [] :: rest).map (AV.enc ρl)) = ((AV.ptr n p :: rest).map (AV.enc ρ)) := by
    simp only [List.map_cons, List.cons.injEq]
    refine ⟨by simp [AV.enc, ρl, pOff], List.map_congr_left fun x hx => enc_congr x fun m hmm => absurd hmm (hnr x hx m)⟩
  rw [earr] at hcalls
  refine hcalls.mono fun e w' ⟨ρ', st, ac, x, he, hx, hI⟩ => ?_
  obtain ⟨rfl, hg⟩ := hKK x st.hp hx
  · have hρ0 : ρ' 0 = ((ρ n).1, (ρ n).2 + pOff p) := by have := hI.low 0 (by show 0 < 1; omega); simpa [ρl] using this
    refine ⟨by rw [he, enc_congr x (fun m hmm => absurd hmm (hnv m))], ?_, ?_⟩
    · have hk := hI.kept
      have hown : ∀ b o, ownOf ρl [some t] b o → b = (ρ n).1 ∧ (ρ n).2 + pOff p ≤ o ∧ o < (ρ n).2 + pOff p + t.size := by
        rintro b o ⟨m, z, hz, h1, h2, h3⟩
        obtain ⟨rfl, rfl⟩ := hget m z hz
        simp [ρl] at h1 h2 h3
        exact ⟨h1, h2, h3⟩
      exact (Kept.refl _ w).trans hk fun b o ho => .inl (hown b o ho)
    · obtain ⟨c', e', h1, h2, h3⟩ := hI.rep.blk 0 t' hg
      rw [hρ0] at h1 h2 h3
      refine ⟨c', e', h1, fun j hj => ?_⟩
      rw [h3 j hj, cells_congr t' (fun m hmm => absurd hmm (hnt' m))]

theorem fn_full {P : Program} {Γ : Env} {Λ : Blks} {u : Nat} (hE : EnvOk P Γ) (hm : P.follows .mixedOrders = true) {f : FuncId} {fn : Func} {c : Code} (hf : P.funcs[f]? = some fn)
    (hn' : (fn.name == "runtime.NumGoroutine") = false) (hb : fn.body = some c) (hΛ : LamOk P Λ c) {F : RFn} (hF : F.Ok P Γ Λ u fn c) : EntryOk P f (.full F.full) := by
  have core : ∀ args hp nm v hp', F.full.run args hp nm (fun v h => some (v, h)) = some (v, hp') →
      ∃ n p rest tree t a b t' tree', args = .ptr n p :: rest ∧ hp.getD n none = some tree ∧ sub p tree = some t ∧ matchP F.rp t = some a ∧ matchPs F.pats rest = some b ∧
        F.run (a ++ b) (fun v t => some (v, t)) = some (v, t') ∧ put p tree t' = some tree' ∧ hp' = setP none hp n (some tree') := by
    intro args hp nm v hp' h
    simp only [RFn.full] at h
    split at h
    · rename_i n p rest
      split at h
      · rename_i tree htree
        rw [subK_eq] at h
        cases hs : sub p tree with
        | none => simp [hs] at h
        | some t =>
          simp only [hs, Option.bind_some] at h
          cases ha : matchP F.rp t with
          | none => simp [ha] at h
          | some a =>
            cases hb' : matchPs F.pats rest with
            | none => simp [ha, hb'] at h
            | some b =>
              simp only [ha, hb'] at h
              rw [hF.law] at h
              cases hr : F.run (a ++ b) (fun v t => some (v, t)) with
              | none => simp [hr] at h
              | some x =>
                obtain ⟨v', t'⟩ := x
                simp only [hr, Option.bind_some] at h
                rw [putK_eq'] at h
                cases hput : put p tree t' with
                | none => simp [hput] at h
                | some tree' =>
                  simp only [hput, Option.bind_some, Option.some.injEq, Prod.mk.injEq] at h
                  obtain ⟨rfl, rfl⟩ := h
                  exact ⟨n, p, rest, tree, t, a, b, t', tree', rfl, htree, hs, ha, hb', hr, hput, rfl⟩
      · cases h
    · cases h
  refine ⟨⟨fn, c, hf, hn', hb⟩, ⟨fun β args hp nm K => ?_, fun args hp nm v hp' h hcl hca => ?_, fun args hp nm v hp' h hwa hwh => ?_⟩, fun args hp nm v hp' h hwa hwh ρ w hr hcl hca hg => ?_⟩
  · simp only [RFn.full]
    split
    · rename_i n p rest
      cases htree : hp.getD n none with
      | none => rfl
      | some tree =>
        simp only
        rw [subK_eq, subK_eq]
        cases hs : sub p tree with
        | none => rfl
        | some t =>
          simp only [Option.bind_some]
          cases ha : matchP F.rp t with
          | none => rfl
          | some a =>
            simp only
            cases hb' : matchPs F.pats rest with
            | none => rfl
            | some b =>
              simp only
              rw [hF.law β, hF.law (AV × Hp)]
              cases hr : F.run (a ++ b) (fun v t => some (v, t)) with
              | none => rfl
              | some x =>
                simp only [Option.bind_some]
                rw [putK_eq' (β := β), putK_eq' (β := AV × Hp)]
                cases put p tree x.2 <;> rfl
    · rfl
  · obtain ⟨n, p, rest, tree, t, a, b, t', tree', rfl, htree, hs, ha, hb', hrun, hput, rfl⟩ := core args hp nm v hp' h
    obtain ⟨hnv, hnt'⟩ := hF.names _ _ _ hrun
    refine ⟨fun m hmm => absurd hmm (hnv m), setP_closed hcl (fun m hmm => ?_), fun m h => pres_setP h⟩
    rcases put_has _ _ _ _ hput m hmm with h' | h'
    · exact hcl _ _ htree m h'
    · exact absurd h' (hnt' m)
  · obtain ⟨n, p, rest, tree, t, a, b, t', tree', rfl, htree, hs, ha, hb', hrun, hput, rfl⟩ := core args hp nm v hp' h
    obtain ⟨h1, h2⟩ := recv_wf hE hm hf hb hΛ hF ha hb' hrun (sub_wf _ _ _ hs (hwh _ _ htree)) (fun u hu => hwa u (by simp [hu]))
    exact ⟨h1, setP_wf hwh (put_wf _ _ _ _ hput (hwh _ _ htree) h2)⟩
  · obtain ⟨n, p, rest, tree, t, a, b, t', tree', rfl, htree, hs, ha, hb', hrun, hput, rfl⟩ := core args hp nm v hp' h
    have hcalls := recv_core hE hm hf hb hΛ hF htree hs ha hb' hrun (fun u hu => hwa u (by simp [hu])) (sub_wf _ _ _ hs (hwh _ _ htree)) hr
    refine hcalls.mono fun e w' ⟨he, hk, c', e', hc', hcells'⟩ => ⟨ρ, fun _ _ => rfl, he, ⟨fun m x hx => ?_, fun m k vm vk h1 h2 h3 => ?_⟩, ?_, fun m x hx => ?_⟩
    · obtain ⟨cc, ee, hc, hcs, hps, _⟩ := sub_rep hr htree hs 0
      obtain ⟨c2, k1, k2, k3⟩ := hk.cells _ _ _ _ hc
      rw [k1] at hc'
      cases hc'
      rw [getD_setP] at hx
      obtain ⟨A, U, B, p1, p2, p3, p4⟩ := put_cells ρ p tree t' tree' hput
      have hsz := put_size hput
      obtain ⟨S1, S2, q1, q2⟩ := sub_cells ρ p tree t hs
      have hlenT : tree.size = A.length + U.length + B.length := by rw [← cells_length ρ tree, p1]; simp; omega
      split at hx
      · rename_i e; subst e; cases hx
        refine ⟨c', _, k1, by rw [k2, hsz]; exact hcs, fun j hj => ?_⟩
        rw [hsz] at hj
        obtain ⟨c0, e0, z1, z2, z3⟩ := hr.blk n tree htree
        rw [hc] at z1
        cases z1
        rw [p2]
        by_cases hA : j < A.length
        · have := z3 j hj
          rw [k3 _ (by omega), this, p1, List.append_assoc, List.append_assoc, List.getElem?_append_left hA, List.getElem?_append_left hA]
        · by_cases hB : j < A.length + t'.size
          · have := hcells' (j - A.length) (by omega)
            rw [show (ρ n).2 + pOff p + (j - A.length) = (ρ n).2 + j by omega] at this
            rw [this, List.append_assoc, List.getElem?_append_right (by omega), List.getElem?_append_left (by rw [cells_length]; omega)]
          · have := z3 j hj
            -- behind the place: unchanged
            have hts : t.size ≤ U.length ∨ U.length < t.size := by omega
            rcases hts with hts | hts
            · rw [k3 _ (by omega), this, p1, List.getElem?_append_right (by simp; omega), List.getElem?_append_right (by simp [cells_length]; omega)]
              simp [p4, cells_length]
            · exfalso
              -- the tree at p is t, and a put keeps its size
              have : t.size = t'.size := sub_put_size hs hput
              omega
      · rename_i e
        obtain ⟨c3, e3, z1, z2, z3⟩ := hr.blk m x hx
        by_cases hbk : (ρ m).1 = (ρ n).1
        · rw [hbk, hc] at z1
          cases z1
          refine ⟨c', _, by rw [hbk]; exact k1, by rw [k2]; exact z2, fun j hj => ?_⟩
          rw [k3, z3 j hj]
          intro ⟨_, h1, h2⟩
          have := hr.sep m n x tree hx htree (Ne.symm e)
          omega
        · refine ⟨c3, e3, ?_, z2, z3⟩
          rw [hk.old _ (Array.getElem?_eq_some_iff.1 z1).1 (fun o ho => hbk ho.1)]
          exact z1
    · have hsz := put_size hput
      rw [getD_setP] at h1 h2
      by_cases em : n = m
      · subst em
        rw [if_pos rfl] at h1
        cases h1
        rw [if_neg h3] at h2
        rw [hsz]
        exact hr.sep n k tree vk htree h2 h3
      · rw [if_neg em] at h1
        by_cases ek : n = k
        · subst ek
          rw [if_pos rfl] at h2
          cases h2
          rw [hsz]
          exact hr.sep m n vm tree h1 htree h3
        · rw [if_neg ek] at h2
          exact hr.sep m k vm vk h1 h2 h3
    · obtain ⟨_, _, _, _, hps, _⟩ := sub_rep hr htree hs 0
      refine (Kept.refl _ w).trans hk fun b o ⟨h1, h2, h3⟩ => .inl ⟨n, tree, htree, h1, by omega, by omega⟩
    · rw [getD_setP] at hx
      split at hx
      · rename_i e; subst e; cases hx; exact .inl ⟨tree, htree, (put_size hput).symm⟩
      · exact .inl ⟨x, hx, rfl⟩

theorem fn_read {P : Program} {Γ : Env} {Λ : Blks} {u : Nat} (hE : EnvOk P Γ) (hm : P.follows .mixedOrders = true) {f : FuncId} {fn : Func} {c : Code} (hf : P.funcs[f]? = some fn)
    (hn' : (fn.name == "runtime.NumGoroutine") = false) (hb : fn.body = some c) (hΛ : LamOk P Λ c) {F : RFn} (hF : F.Ok P Γ Λ u fn c)
    (hstill : ∀ hs v t, F.run hs (fun v t => some (v, t)) = some (v, t) → t = F.tree hs) : EntryOk P f (.read F.read) := by
  have core : ∀ args hp v, F.read.run args hp some = some v →
      ∃ n p rest tree t a b t', args = .ptr n p :: rest ∧ hp.getD n none = some tree ∧ sub p tree = some t ∧ matchP F.rp t = some a ∧ matchPs F.pats rest = some b ∧
        F.run (a ++ b) (fun v t => some (v, t)) = some (v, t') := by
    intro args hp v h
    simp only [RFn.read] at h
    split at h
    · rename_i n p rest
      split at h
      · rename_i tree htree
        rw [subK_eq] at h
        cases hs : sub p tree with
        | none => simp [hs] at h
        | some t =>
          simp only [hs, Option.bind_some] at h
          cases ha : matchP F.rp t with
          | none => simp [ha] at h
          | some a =>
            cases hb' : matchPs F.pats rest with
            | none => simp [ha, hb'] at h
            | some b =>
              simp only [ha, hb'] at h
              rw [hF.law] at h
              cases hr : F.run (a ++ b) (fun v t => some (v, t)) with
              | none => simp [hr] at h
              | some x =>
                obtain ⟨v', t'⟩ := x
                simp only [hr, Option.bind_some, Option.some.injEq] at h
                subst h
                exact ⟨n, p, rest, tree, t, a, b, t', rfl, htree, hs, ha, hb', hr⟩
      · cases h
    · cases h
  refine ⟨⟨fn, c, hf, hn', hb⟩, ⟨fun β args hp K => ?_, fun args hp v h hcl hca => ?_, fun args hp v h hwa hwh => ?_⟩, fun args hp v h hwa hwh ρ w hr hcl hca => ?_⟩
  · simp only [RFn.read]
    split
    · rename_i n p rest
      cases htree : hp.getD n none with
      | none => rfl
      | some tree =>
        simp only
        rw [subK_eq, subK_eq]
        cases hs : sub p tree with
        | none => rfl
        | some t =>
          simp only [Option.bind_some]
          cases ha : matchP F.rp t with
          | none => rfl
          | some a =>
            simp only
            cases hb' : matchPs F.pats rest with
            | none => rfl
            | some b =>
              simp only
              rw [hF.law β, hF.law AV]
              cases hr : F.run (a ++ b) (fun v t => some (v, t)) <;> rfl
    · rfl
  · obtain ⟨n, p, rest, tree, t, a, b, t', rfl, htree, hs, ha, hb', hrun⟩ := core args hp v h
    exact fun m hmm => absurd hmm ((hF.names _ _ _ hrun).1 m)
  · obtain ⟨n, p, rest, tree, t, a, b, t', rfl, htree, hs, ha, hb', hrun⟩ := core args hp v h
    exact (recv_wf hE hm hf hb hΛ hF ha hb' hrun (sub_wf _ _ _ hs (hwh _ _ htree)) (fun u hu => hwa u (by simp [hu]))).1
  · obtain ⟨n, p, rest, tree, t, a, b, t', rfl, htree, hs, ha, hb', hrun⟩ := core args hp v h
    have hcalls := recv_core hE hm hf hb hΛ hF htree hs ha hb' hrun (fun u hu => hwa u (by simp [hu])) (sub_wf _ _ _ hs (hwh _ _ htree)) hr
    have hbt := build_match F.rp t a [] b ha
    simp only [List.nil_append, List.length_nil, Nat.zero_add] at hbt
    have et : t' = t := by rw [hstill _ _ _ hrun]; unfold RFn.tree; rw [hbt]
    subst et
    refine hcalls.mono fun e w' ⟨he, hk, c', e', hc', hcells'⟩ => ⟨he, ?_⟩
    obtain ⟨cc, ee, hc, hcs, hps, hcells⟩ := sub_rep hr htree hs 0
    have hsame : w'.heap[(ρ n).1]? = w.heap[(ρ n).1]? := by
      obtain ⟨c2, k1, k2, k3⟩ := hk.cells _ _ _ _ hc
      rw [k1] at hc'
      cases hc'
      rw [k1, hc]
      congr 2
      apply Array.ext_getElem?
      intro o
      by_cases ho : (ρ n).2 + pOff p ≤ o ∧ o < (ρ n).2 + pOff p + t'.size
      · have h1 := hcells' (o - ((ρ n).2 + pOff p)) (by omega)
        have h2 := hcells (o - ((ρ n).2 + pOff p)) (by omega)
        rw [show (ρ n).2 + pOff p + (o - ((ρ n).2 + pOff p)) = o by omega] at h1 h2
        rw [h1, h2]
      · exact k3 o (fun hh => ho hh.2)
    refine ⟨hk.os, hk.tape, hk.output, hk.size, fun b hbl _ => ?_, fun b c3 e3 fz hb3 => ?_, hk.frz⟩
    · by_cases hbn : b = (ρ n).1
      · rw [hbn]; exact hsame
      · exact hk.old b hbl (fun o ho => hbn ho.1)
    · refine ⟨c3, ?_, rfl, fun _ _ => rfl⟩
      by_cases hbn : b = (ρ n).1
      · rw [hbn, hsame, ← hbn]; exact hb3
      · rw [hk.old b (Array.getElem?_eq_some_iff.1 hb3).1 (fun o ho => hbn ho.1)]; exact hb3

/-- a function that makes a block, and answers its address -/
structure NFn where
  pats : List Pat
  run : {β : Type} → List Hv → (AV → Option β) → Option β

def NFn.sem (F : NFn) : FSem where
  run args hp nm K :=
    match matchPs F.pats args with
    | some hs => F.run hs fun t => K (.ptr nm []) (setP none hp nm (some t))
    | none => none

theorem fn_new {P : Program} {Γ : Env} {Λ : Blks} {u : Nat} (hE : EnvOk P Γ) (hm : P.follows .mixedOrders = true) {f : FuncId} {fn : Func} {c : Code} (hf : P.funcs[f]? = some fn)
    (hn' : (fn.name == "runtime.NumGoroutine") = false) (hb : fn.body = some c) (hΛ : LamOk P Λ c) (F : NFn) (hpl : Pat.plainL F.pats = true)
    (hlaw : ∀ (β : Type) hs (K : AV → Option β), F.run hs K = (F.run hs some).bind K) (hnames : ∀ hs t, F.run hs some = some t → ∀ m, ¬ t.has m)
    (hsize : ∀ hs t, F.run hs some = some t → 0 < t.size)
    (hmain : ∀ args hs t, matchPs F.pats args = some hs → F.run hs some = some t → (∀ u ∈ args, u.wf) →
      ∃ (γ : Type) (K : AV → Hp → Option γ) (x : γ), evalF P Γ Λ u fn c args [] 0 K = some x ∧ ∀ y h, K y h = some x → ∃ m, y = .ptr m [] ∧ h.getD m none = some t) : EntryOk P f (.full F.sem) := by
  have core : ∀ args hp nm v hp', F.sem.run args hp nm (fun v h => some (v, h)) = some (v, hp') → ∃ hs t, matchPs F.pats args = some hs ∧ F.run hs some = some t ∧ v = .ptr nm [] ∧ hp' = setP none hp nm (some t) := by
    intro args hp nm v hp' h
    simp only [NFn.sem] at h
    cases hm' : matchPs F.pats args with
    | none => simp [hm'] at h
    | some hs =>
      simp only [hm'] at h
      rw [hlaw] at h
      cases hr : F.run hs some with
      | none => simp [hr] at h
      | some t =>
        simp only [hr, Option.bind_some, Option.some.injEq, Prod.mk.injEq] at h
        obtain ⟨rfl, rfl⟩ := h
        exact ⟨hs, t, rfl, hr, rfl, rfl⟩
  refine ⟨⟨fn, c, hf, hn', hb⟩, ⟨fun β args hp nm K => ?_, fun args hp nm v hp' h hcl hca => ?_, fun args hp nm v hp' h hwa hwh => ?_⟩, fun args hp nm v hp' h hwa hwh ρ w hr hcl hca hg => ?_⟩
  · simp only [NFn.sem]
    cases hm' : matchPs F.pats args with
    | none => rfl
    | some hs =>
      simp only
      rw [hlaw β, hlaw (AV × Hp)]
      cases F.run hs some <;> rfl
  · obtain ⟨hs, t, hm', hr, rfl, rfl⟩ := core args hp nm v hp' h
    exact ⟨fun m hmm => by simp only [AV.has] at hmm; subst hmm; exact pres_self, setP_closed hcl (fun m hmm => absurd hmm (hnames hs t hr m)), fun m h => pres_setP h⟩
  · obtain ⟨hs, t, hm', hr, rfl, rfl⟩ := core args hp nm v hp' h
    refine ⟨by simp only [AV.wf], setP_wf hwh ?_⟩
    obtain ⟨γ, K, x, hev, hK⟩ := hmain args hs t hm' hr hwa
    have hnn : ∀ u ∈ args, ∀ m, ¬ u.has m := fun u hu m hmm => plainL_has F.pats args hs hpl hm' (hasL_mem hu hmm)
    obtain ⟨e, w', fr, ⟨ρ', st, ac, y, _, hx, hI, hw⟩, _⟩ := evalF_sound_wf hE hm hf hb hΛ hev (ρ := fun _ => (0, 0)) (w := oneRow #[]) ⟨fun n v hv => by simp at hv, fun m n vm vn hv => by simp at hv⟩ (fun n v hv => by simp at hv) (fun v hv m hmm => absurd hmm (hnn v hv m)) hwa (fun n v hv => by simp at hv) 0 (Nat.le_refl _) []
    obtain ⟨m, rfl, hg⟩ := hK y st.hp hx
    exact hI.wf.hp m t hg
  · obtain ⟨hs, t, hm', hrun, rfl, rfl⟩ := core args hp nm v hp' h
    obtain ⟨γ, K, x, hmn, hK⟩ := hmain args hs t hm' hrun hwa
    have hnn : ∀ u ∈ args, ∀ m, ¬ u.has m := fun u hu m hmm => plainL_has F.pats args hs hpl hm' (hasL_mem hu hmm)
    have hcalls := evalF_sound hE hm hf hb hΛ hmn (ρ := ρ) (w := w) ⟨fun n v hv => by simp at hv, fun m n vm vn hv => by simp at hv⟩ (fun n v hv => by simp at hv) (fun v hv m hmm => absurd hmm (hnn v hv m)) hwa (fun n v hv => by simp at hv) 0 (Nat.le_refl _)
    refine hcalls.mono fun e w' ⟨ρ', st, a, x, he, hx, hI⟩ => ?_
    have hno : ∀ b o, ¬ ownOf ρ [] b o := fun b o ⟨n, v, hv, _⟩ => by simp at hv
    obtain ⟨m, rfl, hgx⟩ := hK x st.hp hx
    · have hkept : Same w w' := by
        have hk := hI.kept
        exact ⟨hk.os, hk.tape, hk.output, hk.size, fun b hb _ => hk.old b hb (fun o => hno b o), fun b c e fz hb => by
          obtain ⟨c', h1, h2, h3⟩ := hk.cells b c e fz hb
          exact ⟨c', h1, h2, fun o _ => h3 o (hno b o)⟩, hk.frz⟩
      obtain ⟨c', e', h1, h2, h3⟩ := hI.rep.blk m t hgx
      have hbig : w.heap.size ≤ (ρ' m).1 := by
        rcases hI.mine m t hgx with h | h
        · exact h
        · exact absurd (h 0 (hsize hs t hrun)) (hno _ _)
      refine ⟨fun k => if k = nm then ρ' m else ρ k, fun k hk => by simp [hk], by rw [he]; simp [AV.enc], ⟨fun k y hy => ?_, fun k l vk vl hk hl hkl => ?_⟩, ?_, fun k y hy => ?_⟩
      · rw [getD_setP] at hy
        split at hy
        · rename_i e1; subst e1; cases hy
          refine ⟨c', e', by simpa using h1, by simpa using h2, fun j hj => ?_⟩
          rw [cells_congr t (ρ' := ρ') (fun m hmm => absurd hmm (hnames hs t hrun m))]
          simpa using h3 j hj
        · rename_i e1
          obtain ⟨c2, e2, z1, z2, z3⟩ := hr.blk k y hy
          have hne : k ≠ nm := fun e => e1 e.symm
          refine ⟨c2, e2, by simp only [if_neg hne]; exact hkept.heap z1, by simp only [if_neg hne]; exact z2, fun j hj => ?_⟩
          simp only [if_neg hne]
          rw [z3 j hj, cells_congr y]
          intro q hq
          have hpq := hcl k y hy q hq
          have : q ≠ nm := fun e => by subst e; obtain ⟨t, ht⟩ := hpq; rw [hg] at ht; cases ht
          simp [this]
      · rw [getD_setP] at hk hl
        have hold : ∀ q y, hp.getD q none = some y → (ρ q).1 < w.heap.size := fun q y hy => by
          obtain ⟨c2, e2, z1, _⟩ := hr.blk q y hy
          exact (Array.getElem?_eq_some_iff.1 z1).1
        by_cases e1 : nm = k
        · subst e1
          rw [if_pos rfl] at hk
          cases hk
          rw [if_neg hkl] at hl
          simp only [if_true, if_neg (Ne.symm hkl)]
          have := hold l vl hl
          omega
        · rw [if_neg e1] at hk
          by_cases e2 : nm = l
          · subst e2
            rw [if_pos rfl] at hl
            cases hl
            simp only [if_true, if_neg (Ne.symm e1)]
            have := hold k vk hk
            omega
          · rw [if_neg e2] at hl
            simp only [if_neg (Ne.symm e1), if_neg (Ne.symm e2)]
            exact hr.sep k l vk vl hk hl hkl
      · exact (Kept.refl _ w).trans hkept fun b o h => h.elim
      · rw [getD_setP] at hy
        split at hy
        · rename_i e1; subst e1; cases hy
          exact .inr (by simpa using hbig)
        · exact .inl ⟨y, hy, rfl⟩
end Go.Sim
