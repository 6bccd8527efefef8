/- What a printed text of a seat uses: environments as lists, blocks as lists, functions by what they answer. -/
import Derived.Test.YtllfkflclhnmgaaSimQ
import Derived.KernelRfl
import Derived.RowKit3
namespace Go.Sim
variable {β : Type}

def envOf : List (FuncId × Entry) → Env
  | [], _ => none
  | (g, e) :: r, f => bif Nat.beq g f then some e else envOf r f

theorem envOf_ok {P : Program} : ∀ {l : List (FuncId × Entry)}, (∀ p ∈ l, EntryOk P p.1 p.2) → EnvOk P (envOf l)
  | [], _, f, e, he => by cases he
  | (g, x) :: r, h, f, e, he => by
    simp only [envOf] at he
    cases hb : Nat.beq g f with
    | true =>
      simp only [hb, cond_true, Option.some.injEq] at he
      have := Nat.eq_of_beq_eq_true hb
      subst this; subst he
      exact h (g, x) (by simp)
    | false =>
      simp only [hb, cond_false] at he
      exact envOf_ok (fun p hp => h p (by simp [hp])) f e he

theorem envOk_nil {P : Program} : EnvOk P (envOf []) := envOf_ok (fun p hp => by cases hp)
theorem all_nil {P : Program} : ∀ p ∈ ([] : List (FuncId × Entry)), EntryOk P p.1 p.2 := fun p hp => by cases hp
theorem all_cons {P : Program} {f : FuncId} {e : Entry} {l : List (FuncId × Entry)} (h : EntryOk P f e) (hl : ∀ p ∈ l, EntryOk P p.1 p.2) : ∀ p ∈ (f, e) :: l, EntryOk P p.1 p.2 := by
  intro p hp
  rcases List.mem_cons.1 hp with rfl | hp
  · exact h
  · exact hl p hp

def lamOf : List (Nat × BSem) → Blks
  | [], _ => none
  | (g, e) :: r, f => bif Nat.beq g f then some e else lamOf r f

def blkIn : List (Nat × Code) → Nat → Code
  | [], _ => .skip
  | (g, c) :: r, f => bif Nat.beq g f then c else blkIn r f

def blkOf (c : Code) (id : Nat) : Code := blkIn (blocks c) id

def idsOk : List Nat → Bool
  | [] => true
  | x :: r => !(r.any (Nat.beq x)) && idsOk r

theorem blkIn_mem : ∀ {l : List (Nat × Code)} {id : Nat} {c : Code}, idsOk (l.map (·.1)) = true → (id, c) ∈ l → blkIn l id = c
  | (g, x) :: r, id, c, h, hm => by
    simp only [List.map_cons, idsOk, Bool.and_eq_true, Bool.not_eq_true'] at h
    simp only [blkIn]
    rcases List.mem_cons.1 hm with e | hm
    · cases e; simp
    · have hne : Nat.beq g id = false := by
        cases hb : Nat.beq g id with
        | false => rfl
        | true =>
          have := h.1
          rw [List.any_eq_false] at this
          exact absurd hb (this id (List.mem_map.2 ⟨(id, c), hm, rfl⟩))
      simp only [hne, cond_false]
      exact blkIn_mem h.2 hm

theorem lamOk_of {P : Program} {c : Code} (hid : idsOk ((blocks c).map (·.1)) = true) : ∀ {l : List (Nat × BSem)}, (∀ p ∈ l, BlkSound P p.1 (blkOf c p.1) p.2) → LamOk P (lamOf l) c
  | [], _, id, s, hs, _, _ => by cases hs
  | (g, x) :: r, h, id, s, hs, c', hc => by
    simp only [lamOf] at hs
    cases hb : Nat.beq g id with
    | true =>
      simp only [hb, cond_true, Option.some.injEq] at hs
      have := Nat.eq_of_beq_eq_true hb
      subst this; subst hs
      have := h (g, x) (by simp)
      rwa [show blkOf c g = c' from blkIn_mem hid hc] at this
    | false =>
      simp only [hb, cond_false] at hs
      exact lamOk_of hid (fun p hp => h p (by simp [hp])) id s hs c' hc

theorem lamOk_nil {P : Program} {c : Code} : LamOk P (lamOf []) c := fun _ _ h => by cases h

theorem blk_nil {P : Program} {c : Code} : ∀ p ∈ ([] : List (Nat × BSem)), BlkSound P p.1 (blkOf c p.1) p.2 := fun p hp => by cases hp
theorem blk_cons {P : Program} {c : Code} {id : Nat} {s : BSem} {l : List (Nat × BSem)} (h : BlkSound P id (blkOf c id) s) (hl : ∀ p ∈ l, BlkSound P p.1 (blkOf c p.1) p.2) :
    ∀ p ∈ (id, s) :: l, BlkSound P p.1 (blkOf c p.1) p.2 := by
  intro p hp
  rcases List.mem_cons.1 hp with rfl | hp
  · exact h
  · exact hl p hp

def codeOf (f : Func) : Code := match f.body with | some c => c | none => .skip
def loopOf (c : Code) (id : Nat) : Code := match blkOf c id with | .loop b => b | _ => .skip

/-- the inner blocks of a loop's body are blocks of the function's -/
theorem lam_sub {P : Program} {Λ : Blks} {c b : Code} {id : Nat} (h : LamOk P Λ c) (hb : ∀ p ∈ blocks b, p ∈ blocks c) : LamOk P Λ b := fun id s hs c' hc => h id s hs c' (hb _ hc)

/-- a function of values, by what it answers: patterns of its arguments, of its result -/
theorem fn_pure' {P : Program} {Γ : Env} {Λ : Blks} {u : Nat} (hE : EnvOk P Γ) (hm : P.follows .mixedOrders = true) {f : FuncId} {fn : Func} {c : Code} (hf : P.funcs[f]? = some fn)
    (hn : (fn.name == "runtime.NumGoroutine") = false) (hb : fn.body = some c) (hΛ : LamOk P Λ c) (F : PFn) (rp : Pat) (hpl : Pat.plainL F.pats = true) (hrp : rp.plain = true)
    (hlaw : ∀ (β : Type) hs (K : AV → Option β), F.run hs K = (F.run hs some).bind K)
    (hres : ∀ hs v, F.run hs some = some v → ∃ l, matchP rp v = some l)
    (hwf : ∀ hs v, F.run hs some = some v → (∀ u ∈ (buildPs hs F.pats 0).1, u.wf) → v.wf)
    (hmain : ∀ hs v, F.run hs some = some v → (∀ u ∈ (buildPs hs F.pats 0).1, u.wf) → evalF P Γ Λ u fn c (buildPs hs F.pats 0).1 [] 0 (fun v _ => matchP rp v) = matchP rp v) : EntryOk P f (.pure F.sem) := by
  have hnames : ∀ hs v, F.run hs some = some v → ∀ m, ¬ v.has m := fun hs v h m => by
    obtain ⟨l, hl⟩ := hres hs v h
    exact plain_has rp v l hrp hl
  refine ⟨trivial, ⟨fun β args K => ?_, fun args v h => ?_, fun args v h hw => ?_⟩, fun args v h hw ρ w => .inl ⟨⟨fn, c, hf, hn, hb⟩, ?_⟩⟩
  · simp only [PFn.sem]
    cases matchPs F.pats args with
    | none => rfl
    | some hs => exact hlaw β hs K
  · simp only [PFn.sem] at h
    cases hm' : matchPs F.pats args with
    | none => simp [hm'] at h
    | some hs => simp only [hm'] at h; exact hnames hs v h
  · simp only [PFn.sem] at h
    cases hm' : matchPs F.pats args with
    | none => simp [hm'] at h
    | some hs =>
      simp only [hm'] at h
      have hba := build_matchs F.pats args hs [] [] hm'
      simp only [List.nil_append, List.append_nil, List.length_nil] at hba
      exact hwf hs v h (by rw [hba]; exact hw)
  · simp only [PFn.sem] at h
    cases hm' : matchPs F.pats args with
    | none => simp [hm'] at h
    | some hs =>
      simp only [hm'] at h
      have hba := build_matchs F.pats args hs [] [] hm'
      simp only [List.nil_append, List.append_nil, List.length_nil] at hba
      obtain ⟨l, hl⟩ := hres hs v h
      have hmn := hmain hs v h (by rw [hba]; exact hw)
      rw [hba, hl] at hmn
      have hnn : ∀ u ∈ args, ∀ m, ¬ u.has m := fun u hu m hmm => plainL_has F.pats args hs hpl hm' (hasL_mem hu hmm)
      have hcalls := evalF_sound hE hm hf hb hΛ hmn (ρ := ρ) (w := w) ⟨fun n v hv => by simp at hv, fun m n vm vn hv => by simp at hv⟩ (fun n v hv => by simp at hv) (fun v hv m hmm => absurd hmm (hnn v hv m)) hw (fun n v hv => by simp at hv) 0 (Nat.le_refl _)
      refine hcalls.mono fun e w' ⟨ρ', st, a, x, he, hx, hI⟩ => ⟨?_, ?_⟩
      · have e1 := build_match rp v l [] [] hl
        have e2 := build_match rp x l [] [] hx
        rw [e1] at e2
        simp only [Prod.mk.injEq, and_true] at e2
        subst e2
        rw [he, enc_congr v (fun m hmm => absurd hmm (hnames hs v h m))]
      · have hk := hI.kept
        exact ⟨hk.os, hk.tape, hk.output, hk.size, fun b hb _ => hk.old b hb (fun o ⟨n, v, hv, _⟩ => by simp at hv), fun b c e fz hb => by
          obtain ⟨c', h1, h2, h3⟩ := hk.cells b c e fz hb
          exact ⟨c', h1, h2, fun o _ => h3 o (fun ⟨n, v, hv, _⟩ => by simp at hv)⟩, hk.frz⟩

/-! all that a printed tree may answer -/
def AllR {α : Type} (Q : α → Prop) (t : Option α) : Prop := ∀ v, t = some v → Q v
theorem AllR.none {α : Type} {Q : α → Prop} : AllR Q none := fun v h => by cases h
theorem AllR.some {α : Type} {Q : α → Prop} {v : α} (h : Q v) : AllR Q (some v) := fun u hu => by cases hu; exact h
theorem AllR.cond {α : Type} {Q : α → Prop} {c : Bool} {x y : Option α} (hx : c = true → AllR Q x) (hy : c = false → AllR Q y) : AllR Q (bif c then x else y) := by
  cases c
  · exact hy rfl
  · exact hx rfl
theorem AllR.bind {α γ : Type} {Q : α → Prop} {o : Option γ} {f : γ → Option α} (h : ∀ r, o = Option.some r → AllR Q (f r)) : AllR Q (o.bind f) := by
  cases o with
  | none => exact AllR.none
  | some r => exact h r rfl

theorem bind_cond {α γ : Type} (c : Bool) (x y : Option α) (f : α → Option γ) : (bif c then x else y).bind f = bif c then x.bind f else y.bind f := by cases c <;> rfl

/-- no names -/
def noNames (v : AV) : Prop := ∀ m, ¬ v.has m

theorem RFn.law_of {F : RFn} (h : F.Law) : F.Law := h

theorem Same.grown {w w' : World} (h : Same w w') : RowKit.Grown w w' := by
  refine ⟨⟨h.os, h.output, fun i hi => ?_⟩, h.frz, h.size⟩
  have := h.old i hi (fun _ => id)
  rw [this]
  cases hx : w.heap[i]? with
  | none => trivial
  | some x => cases x <;> simp

end Go.Sim
