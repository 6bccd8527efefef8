/- Functions by the holes of what they take and of what they answer. -/
import Derived.Test.YtllfkflclhnmgaaSimR
namespace Go.Sim
variable {β : Type}

inductive HK where
  | i | b | l | s
deriving DecidableEq

def Hv.kind : Hv → HK
  | .i _ => .i | .b _ => .b | .l _ => .l | .s _ => .s

mutual
def Pat.kinds : Pat → List HK
  | .int _ => [.i]
  | .bool => [.b]
  | .str => [.s]
  | .arr .. => [.l]
  | .agg ps => Pat.kindsL ps
  | .tup ps => Pat.kindsL ps
  | .ptr .. => [] | .nil => [] | .fn _ => [] | .ci .. => []
def Pat.kindsL : List Pat → List HK
  | [] => []
  | p :: ps => p.kinds ++ Pat.kindsL ps
end

mutual
theorem match_kinds : ∀ (p : Pat) (v : AV) (l : List Hv), matchP p v = some l → l.map Hv.kind = p.kinds
  | .int k, v, l, h => by
    cases v <;> simp only [matchP] at h <;> try (cases h; done)
    rename_i k' n
    cases hk : decide (k' = k) <;> rw [hk] at h <;> cases h
    rfl
  | .bool, v, l, h => by cases v <;> simp only [matchP] at h <;> cases h; rfl
  | .str, v, l, h => by cases v <;> simp only [matchP] at h <;> cases h; rfl
  | .arr k n, v, l, h => by
    cases v <;> simp only [matchP] at h <;> try (cases h; done)
    rename_i k' n' x
    cases hk : (decide (k' = k) && Nat.beq n' n) <;> rw [hk] at h <;> cases h
    rfl
  | .ptr n p, v, l, h => by
    cases v <;> simp only [matchP] at h <;> try (cases h; done)
    rename_i n' p'
    cases hk : (Nat.beq n' n && decide (p' = p)) <;> rw [hk] at h <;> cases h
    rfl
  | .nil, v, l, h => by cases v <;> simp only [matchP] at h <;> cases h; rfl
  | .fn f, v, l, h => by
    cases v <;> simp only [matchP] at h <;> try (cases h; done)
    rename_i f'
    cases hk : Nat.beq f' f <;> rw [hk] at h <;> cases h
    rfl
  | .ci k n, v, l, h => by
    cases v <;> simp only [matchP] at h <;> try (cases h; done)
    rename_i k' n'
    cases hk : (decide (k' = k) && decide (n' = n)) <;> rw [hk] at h <;> cases h
    rfl
  | .agg ps, v, l, h => by
    cases v <;> simp only [matchP] at h <;> try (cases h; done)
    simp only [Pat.kinds]; exact match_kindsL ps _ l h
  | .tup ps, v, l, h => by
    cases v <;> simp only [matchP] at h <;> try (cases h; done)
    simp only [Pat.kinds]; exact match_kindsL ps _ l h
theorem match_kindsL : ∀ (ps : List Pat) (vs : List AV) (l : List Hv), matchPs ps vs = some l → l.map Hv.kind = Pat.kindsL ps
  | [], vs, l, h => by
    cases vs <;> simp only [matchPs] at h <;> cases h
    rfl
  | p :: ps, vs, l, h => by
    cases vs with
    | nil => simp [matchPs] at h
    | cons v vs =>
      simp only [matchPs] at h
      cases h1 : matchP p v with
      | none => simp [h1] at h
      | some a =>
        cases h2 : matchPs ps vs with
        | none => simp [h1, h2] at h
        | some b =>
          simp only [h1, h2, Option.some.injEq] at h
          subst h
          simp [Pat.kindsL, match_kinds p v a h1, match_kindsL ps vs b h2]
end

/-- for all holes of these kinds -/
def AllH : List HK → (List Hv → Prop) → Prop
  | [], Q => Q []
  | .i :: r, Q => ∀ a : Int, AllH r fun hs => Q (.i a :: hs)
  | .b :: r, Q => ∀ a : Bool, AllH r fun hs => Q (.b a :: hs)
  | .l :: r, Q => ∀ a : List Int, AllH r fun hs => Q (.l a :: hs)
  | .s :: r, Q => ∀ a : List UInt8, AllH r fun hs => Q (.s a :: hs)

theorem AllH.at : ∀ {ks : List HK} {Q : List Hv → Prop}, AllH ks Q → ∀ hs, hs.map Hv.kind = ks → Q hs
  | [], Q, h, hs, e => by
    cases hs with
    | nil => exact h
    | cons a r => simp at e
  | k :: ks, Q, h, hs, e => by
    cases hs with
    | nil => simp at e
    | cons a r =>
      simp only [List.map_cons, List.cons.injEq] at e
      obtain ⟨e1, e2⟩ := e
      cases k <;> cases a <;> simp only [Hv.kind] at e1 <;> try (cases e1; done)
      all_goals
        rename_i x
        exact AllH.at (h x) r e2

theorem AllH.mono : ∀ {ks : List HK} {Q R : List Hv → Prop}, (∀ hs, Q hs → R hs) → AllH ks Q → AllH ks R
  | [], _, _, h, hq => h _ hq
  | .i :: _, _, _, h, hq => fun a => AllH.mono (fun hs => h _) (hq a)
  | .b :: _, _, _, h, hq => fun a => AllH.mono (fun hs => h _) (hq a)
  | .l :: _, _, _, h, hq => fun a => AllH.mono (fun hs => h _) (hq a)
  | .s :: _, _, _, h, hq => fun a => AllH.mono (fun hs => h _) (hq a)

/-- the range that a hole's integers lie in -/
inductive HR where
  | i (k : IntKind)
  | b
  | l (k : IntKind) (n : Nat)
  | s

def HR.ok : HR → Hv → Prop
  | .i k, .i n => inK k n
  | .b, .b _ => True
  | .l k n, .l x => x.length = n ∧ ∀ y ∈ x, inK k y
  | .s, .s _ => True
  | _, _ => False

mutual
theorem build_names : ∀ (p : Pat) (_ : p.plain = true) (hs : List Hv) (j m : Nat), ¬ (buildP hs p j).1.has m
  | .int _, _, _, _, _ | .bool, _, _, _, _ | .str, _, _, _, _ | .arr .., _, _, _, _ | .nil, _, _, _, _ | .fn _, _, _, _, _ | .ci .., _, _, _, _ => by simp [buildP, AV.has]
  | .ptr .., h, _, _, _ => by simp [Pat.plain] at h
  | .agg ps, h, hs, j, m => by simp only [buildP, AV.has]; exact build_namesL ps (by simpa [Pat.plain] using h) hs j m
  | .tup ps, h, hs, j, m => by simp only [buildP, AV.has]; exact build_namesL ps (by simpa [Pat.plain] using h) hs j m
theorem build_namesL : ∀ (ps : List Pat) (_ : Pat.plainL ps = true) (hs : List Hv) (j m : Nat), ¬ AV.hasL m (buildPs hs ps j).1
  | [], _, _, _, _ => by simp [buildPs, AV.hasL]
  | p :: ps, h, hs, j, m => by
    simp only [Pat.plainL, Bool.and_eq_true] at h
    simp only [buildPs, AV.hasL, not_or]
    exact ⟨build_names p h.1 hs j m, build_namesL ps h.2 hs _ m⟩
end

mutual
def Pat.psize : Pat → Nat
  | .arr _ n => n
  | .agg ps => Pat.psizeL ps
  | _ => 1
def Pat.psizeL : List Pat → Nat
  | [] => 0
  | p :: ps => p.psize + Pat.psizeL ps
end

mutual
theorem build_size : ∀ (p : Pat) (hs : List Hv) (j : Nat), (buildP hs p j).1.size = p.psize
  | .int _, _, _ | .bool, _, _ | .str, _, _ | .arr .., _, _ | .nil, _, _ | .fn _, _, _ | .ci .., _, _ | .ptr .., _, _ => by simp [buildP, AV.size, Pat.psize]
  | .agg ps, hs, j => by simp only [buildP, AV.size, Pat.psize]; exact build_sizeL ps hs j
  | .tup ps, hs, j => by simp only [buildP, AV.size, Pat.psize]
theorem build_sizeL : ∀ (ps : List Pat) (hs : List Hv) (j : Nat), AV.sizeL (buildPs hs ps j).1 = Pat.psizeL ps
  | [], _, _ => by simp [buildPs, AV.sizeL, Pat.psizeL]
  | p :: ps, hs, j => by simp only [buildPs, AV.sizeL, Pat.psizeL, build_size p, build_sizeL ps]
end

/-- a function of values -/
structure GFn where
  ins : List Pat
  out : Pat
  fn : List Hv → Option (List Hv)

def GFn.sem (F : GFn) : PSem where
  run args K := match matchPs F.ins args with
    | some hs => (F.fn hs).bind fun r => K (buildP r F.out 0).1
    | none => none

def GFn.pfn (F : GFn) : PFn where
  pats := F.ins
  run hs K := (F.fn hs).bind fun r => K (buildP r F.out 0).1

theorem build_out {p : Pat} {v : AV} {l : List Hv} (h : matchP p v = some l) : buildP l p 0 = (v, l.length) := by
  have := build_match p v l [] [] h
  simpa using this

theorem gfn_le {P : Program} {Γ : Env} {Λ : Blks} {u : Nat} (hE : EnvOk P Γ) (hm : P.follows .mixedOrders = true) {f : FuncId} {fn : Func} {c : Code} (hf : P.funcs[f]? = some fn)
    (hn : (fn.name == "runtime.NumGoroutine") = false) (hb : fn.body = some c) (hΛ : LamOk P Λ c) (F : GFn) (hpl : Pat.plainL F.ins = true) (hrp : F.out.plain = true)
    (hmain : AllH (Pat.kindsL F.ins) fun hs => ∀ r, F.fn hs = some r → (∀ u ∈ (buildPs hs F.ins 0).1, u.wf) → evalF P Γ Λ u fn c (buildPs hs F.ins 0).1 [] 0 (fun v _ => matchP F.out v) = some r) : EntryOk P f (.pure F.sem) := by
  have core : ∀ args hs r, matchPs F.ins args = some hs → F.fn hs = some r → (∀ u ∈ args, u.wf) → ∀ (ρ : Ren) (w : World), Calls P f (args.map (AV.enc ρ)).toArray w fun e w' =>
      (e = .returned ((buildP r F.out 0).1.enc ρ) ∧ Same w w') ∧ (∀ m, ¬ (buildP r F.out 0).1.has m) ∧ (buildP r F.out 0).1.wf := by
    intro args hs r hm' hr hw ρ w
    have hba := build_matchs F.ins args hs [] [] hm'
    simp only [List.nil_append, List.append_nil, List.length_nil] at hba
    have hmn := (AllH.at hmain hs (match_kindsL _ _ _ hm')) r hr (by rw [hba]; exact hw)
    rw [hba] at hmn
    have hnn : ∀ u ∈ args, ∀ m, ¬ u.has m := fun u hu m hmm => plainL_has F.ins args hs hpl hm' (hasL_mem hu hmm)
    refine (evalF_sound_wf hE hm hf hb hΛ hmn (ρ := ρ) (w := w) ⟨fun n v hv => by simp at hv, fun m n vm vn hv => by simp at hv⟩ (fun n v hv => by simp at hv) (fun v hv m hmm => absurd hmm (hnn v hv m)) hw (fun n v hv => by simp at hv) 0 (Nat.le_refl _)).mono ?_
    intro e w' ⟨ρ', st, a, x, he, hx, hI, hwx⟩
    have hbx := build_out hx
    have hno := fun m => plain_has (m := m) F.out x r hrp hx
    rw [hbx]
    refine ⟨⟨by rw [he, enc_congr x (fun m hmm => absurd hmm (hno m))], ?_⟩, hno, hwx⟩
    have hk := hI.kept
    exact ⟨hk.os, hk.tape, hk.output, hk.size, fun b hb _ => hk.old b hb (fun o ⟨n, v, hv, _⟩ => by simp at hv), fun b c e fz hb => by
      obtain ⟨c', h1, h2, h3⟩ := hk.cells b c e fz hb
      exact ⟨c', h1, h2, fun o _ => h3 o (fun ⟨n, v, hv, _⟩ => by simp at hv)⟩, hk.frz⟩
  have core2 : ∀ args v, F.sem.run args some = some v → ∃ hs r, matchPs F.ins args = some hs ∧ F.fn hs = some r ∧ v = (buildP r F.out 0).1 := by
    intro args v h
    simp only [GFn.sem] at h
    cases hm' : matchPs F.ins args with
    | none => simp [hm'] at h
    | some hs =>
      simp only [hm'] at h
      cases hr : F.fn hs with
      | none => simp [hr] at h
      | some r => simp only [hr, Option.bind_some, Option.some.injEq] at h; exact ⟨hs, r, rfl, hr, h.symm⟩
  have wfx : ∀ args v, F.sem.run args some = some v → (∀ u ∈ args, u.wf) → (∀ m, ¬ v.has m) ∧ v.wf := by
    intro args v h hw
    obtain ⟨hs, r, h1, h2, rfl⟩ := core2 args v h
    obtain ⟨e, w', fr, ⟨_, k1, k2⟩, _⟩ := core args hs r h1 h2 hw (fun _ => (0, 0)) (oneRow #[]) []
    exact ⟨k1, k2⟩
  refine ⟨trivial, ⟨fun β args K => ?_, fun args v h => ?_, fun args v h hw => (wfx args v h hw).2⟩, fun args v h hw ρ w => .inl ⟨⟨fn, c, hf, hn, hb⟩, ?_⟩⟩
  · simp only [GFn.sem]
    cases matchPs F.ins args with
    | none => rfl
    | some hs => simp only; cases F.fn hs <;> rfl
  · obtain ⟨hs, r, h1, h2, rfl⟩ := core2 args v h
    exact fun m => build_names F.out hrp r 0 m
  · obtain ⟨hs, r, h1, h2, rfl⟩ := core2 args v h
    exact (core args hs r h1 h2 hw ρ w).mono fun e w' h => h.1

theorem gfn_pure {P : Program} {Γ : Env} {Λ : Blks} {u : Nat} (hE : EnvOk P Γ) (hm : P.follows .mixedOrders = true) {f : FuncId} {fn : Func} {c : Code} (hf : P.funcs[f]? = some fn)
    (hn : (fn.name == "runtime.NumGoroutine") = false) (hb : fn.body = some c) (hΛ : LamOk P Λ c) (F : GFn) (hpl : Pat.plainL F.ins = true) (hrp : F.out.plain = true)
    (hmain : AllH (Pat.kindsL F.ins) fun hs => evalF P Γ Λ u fn c (buildPs hs F.ins 0).1 [] 0 (fun v _ => matchP F.out v) = F.fn hs) : EntryOk P f (.pure F.sem) :=
  gfn_le hE hm hf hn hb hΛ F hpl hrp (AllH.mono (fun hs h r hr _ => h.trans hr) hmain)

/-- the like function that says less -/
theorem gfn_weaken {P : Program} {f : FuncId} {F G : GFn} (hrp : G.out.plain = true) (hi : G.ins = F.ins) (ho : G.out = F.out) (hG : ∀ hs r, (∀ u ∈ (buildPs hs F.ins 0).1, u.wf) → G.fn hs = some r → F.fn hs = some r) (h : EntryOk P f (.pure F.sem)) : EntryOk P f (.pure G.sem) := by
  obtain ⟨_, ⟨h1, h2, h3⟩, h4⟩ := h
  have key : ∀ args v, (∀ u ∈ args, u.wf) → G.sem.run args some = some v → F.sem.run args some = some v := by
    intro args v hw hv
    simp only [GFn.sem, hi, ho] at hv ⊢
    cases hm' : matchPs F.ins args with
    | none => simp [hm'] at hv
    | some hs =>
      simp only [hm'] at hv ⊢
      have hba := build_matchs F.ins args hs [] [] hm'
      simp only [List.nil_append, List.append_nil, List.length_nil] at hba
      cases hr : G.fn hs with
      | none => simp [hr] at hv
      | some r => rw [hG hs r (by rw [hba]; exact hw) hr]; simpa [hr] using hv
  have hpl : ∀ args v, G.sem.run args some = some v → ∃ r, v = (buildP r G.out 0).1 := by
    intro args v hv
    simp only [GFn.sem] at hv
    cases hm' : matchPs G.ins args with
    | none => simp [hm'] at hv
    | some hs =>
      simp only [hm'] at hv
      cases hr : G.fn hs with
      | none => simp [hr] at hv
      | some r => simp only [hr, Option.bind_some, Option.some.injEq] at hv; exact ⟨r, hv.symm⟩
  refine ⟨trivial, ⟨fun β args K => ?_, fun args v hv => ?_, fun args v hv hw => h3 args v (key args v hw hv) hw⟩, fun args v hv hw => h4 args v (key args v hw hv) hw⟩
  · simp only [GFn.sem]
    cases matchPs G.ins args with
    | none => rfl
    | some hs => simp only; cases G.fn hs <;> rfl
  · obtain ⟨r, rfl⟩ := hpl args v hv
    exact fun m => build_names G.out hrp r 0 m

/-- a function with a receiver: what it answers, and the receiver behind -/
structure GRec where
  rp : Pat
  ins : List Pat
  out : Pat
  fn : List Hv → Option (List Hv)

def GRec.rfn (F : GRec) : RFn where
  rp := F.rp
  pats := F.ins
  run hs K := (F.fn hs).bind fun r => K (buildP r F.out 0).1 (buildP r F.rp (buildP r F.out 0).2).1

/-- how the evaluator reads the end of such a function -/
def GRec.endK (F : GRec) (v : AV) (h : Hp) : Option (List Hv) :=
  match h.getD 0 none with
  | some t => match matchP F.out v with
    | some a => match matchP F.rp t with
      | some b => some (a ++ b)
      | none => none
    | none => none
  | none => none

def GRec.args (F : GRec) (hs : List Hv) : List AV := .ptr 0 [] :: (buildPs hs F.ins (buildP hs F.rp 0).2).1
def GRec.tree (F : GRec) (hs : List Hv) : AV := (buildP hs F.rp 0).1

theorem grec_ok {P : Program} {Γ : Env} {Λ : Blks} {u : Nat} {fn : Func} {c : Code} (F : GRec) (h1 : F.rp.plain = true) (h2 : Pat.plainL F.ins = true) (h3 : F.out.plain = true)
    (hmain : AllH (F.rp.kinds ++ Pat.kindsL F.ins) fun hs => ∀ r, F.fn hs = some r → (F.tree hs).wf → (∀ v ∈ F.args hs, v.wf) → evalF P Γ Λ u fn c (F.args hs) [some (F.tree hs)] 1 F.endK = some r) : F.rfn.Ok P Γ Λ u fn c where
  plain := h1
  plains := h2
  law β hs K := by
    simp only [GRec.rfn]
    cases F.fn hs <;> rfl
  names hs v t h := by
    simp only [GRec.rfn] at h
    cases hr : F.fn hs with
    | none => simp [hr] at h
    | some r =>
      simp only [hr, Option.bind_some, Option.some.injEq, Prod.mk.injEq] at h
      obtain ⟨rfl, rfl⟩ := h
      exact ⟨build_names _ h3 _ _, build_names _ h1 _ _⟩
  main t a r b v' t' ha hb hrun hwt hwr := by
    have hbt := build_match F.rp t a [] b ha
    have hbr := build_matchs F.ins r b a [] hb
    simp only [List.nil_append, List.length_nil, Nat.zero_add] at hbt
    simp only [List.append_nil] at hbr
    have etree : F.tree (a ++ b) = t := by unfold GRec.tree; rw [hbt]
    have eargs : F.args (a ++ b) = .ptr 0 [] :: r := by unfold GRec.args; rw [hbt]; simp only; rw [hbr]
    simp only [GRec.rfn] at hrun
    cases hr : F.fn (a ++ b) with
    | none => simp [hr] at hrun
    | some x =>
      simp only [hr, Option.bind_some, Option.some.injEq, Prod.mk.injEq] at hrun
      obtain ⟨rfl, rfl⟩ := hrun
      have hk : (a ++ b).map Hv.kind = F.rp.kinds ++ Pat.kindsL F.ins := by
        rw [List.map_append, match_kinds _ _ _ ha, match_kindsL _ _ _ hb]; rfl
      have := AllH.at hmain (a ++ b) hk x hr (by rw [etree]; exact hwt) (by rw [eargs]; exact ptr_wf hwr)
      rw [eargs, etree] at this
      refine ⟨List Hv, F.endK, x, this, fun y h hy => ?_⟩
      unfold GRec.endK at hy
      cases hg : h.getD 0 none with
      | none => simp only [hg] at hy; cases hy
      | some t2 =>
        simp only [hg] at hy
        cases h4 : matchP F.out y with
        | none => simp [h4] at hy
        | some a2 =>
          cases h5 : matchP F.rp t2 with
          | none => simp [h4, h5] at hy
          | some b2 =>
            simp only [h4, h5, Option.some.injEq] at hy
            subst hy
            have e1 := build_match F.out y a2 [] b2 h4
            have e2 := build_match F.rp t2 b2 a2 [] h5
            simp only [List.nil_append, List.length_nil, Nat.zero_add] at e1
            simp only [List.append_nil] at e2
            exact ⟨by rw [e1], by rw [e1, e2]⟩

theorem grec_full {P : Program} {Γ : Env} {Λ : Blks} {u : Nat} (hE : EnvOk P Γ) (hm : P.follows .mixedOrders = true) {f : FuncId} {fn : Func} {c : Code} (hf : P.funcs[f]? = some fn)
    (hn : (fn.name == "runtime.NumGoroutine") = false) (hb : fn.body = some c) (hΛ : LamOk P Λ c) (F : GRec) (h1 : F.rp.plain = true) (h2 : Pat.plainL F.ins = true) (h3 : F.out.plain = true)
    (hmain : AllH (F.rp.kinds ++ Pat.kindsL F.ins) fun hs => evalF P Γ Λ u fn c (F.args hs) [some (F.tree hs)] 1 F.endK = F.fn hs) : EntryOk P f (.full F.rfn.full) :=
  fn_full hE hm hf hn hb hΛ (grec_ok F h1 h2 h3 (AllH.mono (fun _ h _ hr _ _ => h.trans hr) hmain))

/-- one that leaves its receiver: the holes behind are those ahead -/
def GRec.still (F : GRec) (hs : List Hv) : Prop := ∀ r, F.fn hs = some r → (buildP r F.rp (buildP r F.out 0).2).1 = F.tree hs

theorem grec_read {P : Program} {Γ : Env} {Λ : Blks} {u : Nat} (hE : EnvOk P Γ) (hm : P.follows .mixedOrders = true) {f : FuncId} {fn : Func} {c : Code} (hf : P.funcs[f]? = some fn)
    (hn : (fn.name == "runtime.NumGoroutine") = false) (hb : fn.body = some c) (hΛ : LamOk P Λ c) (F : GRec) (h1 : F.rp.plain = true) (h2 : Pat.plainL F.ins = true) (h3 : F.out.plain = true)
    (hs : ∀ hs, F.still hs)
    (hmain : AllH (F.rp.kinds ++ Pat.kindsL F.ins) fun hs => evalF P Γ Λ u fn c (F.args hs) [some (F.tree hs)] 1 F.endK = F.fn hs) : EntryOk P f (.read F.rfn.read) := by
  refine fn_read hE hm hf hn hb hΛ (grec_ok F h1 h2 h3 (AllH.mono (fun _ h _ hr _ _ => h.trans hr) hmain)) fun l v t h => ?_
  simp only [GRec.rfn] at h
  cases hr : F.fn l with
  | none => simp [hr] at h
  | some r =>
    simp only [hr, Option.bind_some, Option.some.injEq, Prod.mk.injEq] at h
    obtain ⟨_, rfl⟩ := h
    exact hs l r hr

/-- a function that makes a block: the block's holes -/
structure GNew where
  ins : List Pat
  tp : Pat
  fn : List Hv → Option (List Hv)

def GNew.nfn (F : GNew) : NFn where
  pats := F.ins
  run hs K := (F.fn hs).bind fun r => K (buildP r F.tp 0).1

def GNew.endK (F : GNew) (v : AV) (h : Hp) : Option (List Hv) :=
  match v with
  | .ptr m [] => match h.getD m none with
    | some t => matchP F.tp t
    | none => none
  | _ => none

theorem gnew_full {P : Program} {Γ : Env} {Λ : Blks} {u : Nat} (hE : EnvOk P Γ) (hm : P.follows .mixedOrders = true) {f : FuncId} {fn : Func} {c : Code} (hf : P.funcs[f]? = some fn)
    (hn : (fn.name == "runtime.NumGoroutine") = false) (hb : fn.body = some c) (hΛ : LamOk P Λ c) (F : GNew) (h1 : Pat.plainL F.ins = true) (h2 : F.tp.plain = true) (h3 : Nat.blt 0 F.tp.psize = true)
    (hmain : AllH (Pat.kindsL F.ins) fun hs => evalF P Γ Λ u fn c (buildPs hs F.ins 0).1 [] 0 F.endK = F.fn hs) : EntryOk P f (.full F.nfn.sem) := by
  refine fn_new (u := u) hE hm hf hn hb hΛ F.nfn h1 (fun β hs K => ?_) (fun hs t h => ?_) (fun hs t h => ?_) (fun args hs t hm' h _ => ?_)
  · simp only [GNew.nfn]; cases F.fn hs <;> rfl
  · simp only [GNew.nfn] at h
    cases hr : F.fn hs with
    | none => simp [hr] at h
    | some r => simp only [hr, Option.bind_some, Option.some.injEq] at h; subst h; exact build_names _ h2 _ _
  · simp only [GNew.nfn] at h
    cases hr : F.fn hs with
    | none => simp [hr] at h
    | some r => simp only [hr, Option.bind_some, Option.some.injEq] at h; subst h; rw [build_size]; simpa using h3
  · simp only [GNew.nfn] at h
    cases hr : F.fn hs with
    | none => simp [hr] at h
    | some r =>
      simp only [hr, Option.bind_some, Option.some.injEq] at h
      have hba := build_matchs F.ins args hs [] [] hm'
      simp only [List.nil_append, List.append_nil, List.length_nil] at hba
      have := AllH.at hmain hs (match_kindsL _ _ _ hm')
      rw [hba, hr] at this
      refine ⟨_, F.endK, r, this, fun y g hy => ?_⟩
      unfold GNew.endK at hy
      split at hy
      · rename_i m
        split at hy
        · rename_i t2 hg
          refine ⟨m, rfl, ?_⟩
          rw [hg, ← h, build_out hy]
        · cases hy
      · cases hy
end Go.Sim
