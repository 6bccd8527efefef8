/- Templates of states; loops; functions. -/
import Derived.Test.YtllfkflclhnmgaaSimN
namespace Go.Sim
variable {β : Type}

/-- what a template leaves open -/
inductive Hv where
  | i (n : Int)
  | b (x : Bool)
  | l (x : List Int)
  | s (x : List UInt8)

def hi (hs : List Hv) (j : Nat) : Int := match hs[j]? with | some (.i n) => n | _ => 0
def hb (hs : List Hv) (j : Nat) : Bool := match hs[j]? with | some (.b n) => n | _ => false
def hl (hs : List Hv) (j : Nat) : List Int := match hs[j]? with | some (.l n) => n | _ => []
def hst (hs : List Hv) (j : Nat) : List UInt8 := match hs[j]? with | some (.s n) => n | _ => []

inductive Pat where
  | int (k : IntKind)
  | bool
  | str
  | arr (k : IntKind) (n : Nat)
  | ptr (n : Nat) (p : List Sel)
  | nil
  | fn (f : FuncId)
  | ci (k : IntKind) (n : Int)
  | agg (l : List Pat)
  | tup (l : List Pat)

mutual
def matchP : Pat → AV → Option (List Hv)
  | .int k, .int k' n => bif decide (k' = k) then some [.i n] else none
  | .bool, .bool x => some [.b x]
  | .str, .str x => some [.s x]
  | .arr k n, .arr k' n' l => bif decide (k' = k) && Nat.beq n' n then some [.l l] else none
  | .ptr n p, .ptr n' p' => bif Nat.beq n' n && decide (p' = p) then some [] else none
  | .nil, .nil => some []
  | .fn f, .fn f' => bif Nat.beq f' f then some [] else none
  | .ci k n, .int k' n' => bif decide (k' = k) && decide (n' = n) then some [] else none
  | .agg ps, .agg vs => matchPs ps vs
  | .tup ps, .tup vs => matchPs ps vs
  | _, _ => none
def matchPs : List Pat → List AV → Option (List Hv)
  | [], [] => some []
  | p :: ps, v :: vs =>
    match matchP p v with
    | some a => match matchPs ps vs with
      | some b => some (a ++ b)
      | none => none
    | none => none
  | _, _ => none
end

mutual
def buildP (hs : List Hv) : Pat → Nat → AV × Nat
  | .int k, j => (.int k (hi hs j), j + 1)
  | .bool, j => (.bool (hb hs j), j + 1)
  | .str, j => (.str (hst hs j), j + 1)
  | .arr k n, j => (.arr k n (hl hs j), j + 1)
  | .ptr n p, j => (.ptr n p, j)
  | .nil, j => (.nil, j)
  | .fn f, j => (.fn f, j)
  | .ci k n, j => (.int k n, j)
  | .agg ps, j => (.agg (buildPs hs ps j).1, (buildPs hs ps j).2)
  | .tup ps, j => (.tup (buildPs hs ps j).1, (buildPs hs ps j).2)
def buildPs (hs : List Hv) : List Pat → Nat → List AV × Nat
  | [], j => ([], j)
  | p :: ps, j => ((buildP hs p j).1 :: (buildPs hs ps (buildP hs p j).2).1, (buildPs hs ps (buildP hs p j).2).2)
end

theorem hget (pre l suf : List Hv) (x : Hv) (h : l = [x]) : (pre ++ l ++ suf)[pre.length]? = some x := by subst h; simp

mutual
theorem build_match : ∀ (p : Pat) (v : AV) (l pre suf : List Hv), matchP p v = some l → buildP (pre ++ l ++ suf) p pre.length = (v, pre.length + l.length)
  | .int k, .int k' n, l, pre, suf, h => by
    simp only [matchP] at h
    cases hk : decide (k' = k) with
    | false => simp [hk] at h
    | true => rw [hk, cond_true] at h; have := of_decide_eq_true hk; subst this; cases h; simp [buildP, hi]
  | .bool, .bool x, l, pre, suf, h => by simp only [matchP, Option.some.injEq] at h; subst h; simp [buildP, hb]
  | .str, .str x, l, pre, suf, h => by simp only [matchP, Option.some.injEq] at h; subst h; simp [buildP, hst]
  | .arr k n, .arr k' n' x, l, pre, suf, h => by
    simp only [matchP] at h
    cases hk : (decide (k' = k) && Nat.beq n' n) with
    | false => simp [hk] at h
    | true =>
      rw [hk, cond_true] at h
      simp only [Bool.and_eq_true] at hk
      have := of_decide_eq_true hk.1; subst this
      have := Nat.eq_of_beq_eq_true hk.2; subst this
      cases h; simp [buildP, hl]
  | .ptr n p, .ptr n' p', l, pre, suf, h => by
    simp only [matchP] at h
    cases hk : (Nat.beq n' n && decide (p' = p)) with
    | false => simp [hk] at h
    | true =>
      rw [hk, cond_true] at h
      simp only [Bool.and_eq_true] at hk
      have := of_decide_eq_true hk.2; subst this
      have := Nat.eq_of_beq_eq_true hk.1; subst this
      cases h; simp [buildP]
  | .nil, .nil, l, pre, suf, h => by simp only [matchP, Option.some.injEq] at h; subst h; simp [buildP]
  | .fn f, .fn f', l, pre, suf, h => by
    simp only [matchP] at h
    cases hk : Nat.beq f' f with
    | false => simp [hk] at h
    | true => rw [hk, cond_true] at h; have := Nat.eq_of_beq_eq_true hk; subst this; cases h; simp [buildP]
  | .ci k n, .int k' n', l, pre, suf, h => by
    simp only [matchP] at h
    cases hk : (decide (k' = k) && decide (n' = n)) with
    | false => simp [hk] at h
    | true =>
      rw [hk, cond_true] at h
      simp only [Bool.and_eq_true] at hk
      have := of_decide_eq_true hk.1; subst this
      have := of_decide_eq_true hk.2; subst this
      cases h; simp [buildP]
  | .agg ps, .agg vs, l, pre, suf, h => by
    simp only [matchP] at h
    have := build_matchs ps vs l pre suf h
    simp only [buildP, this]
  | .tup ps, .tup vs, l, pre, suf, h => by
    simp only [matchP] at h
    have := build_matchs ps vs l pre suf h
    simp only [buildP, this]
  | .int _, .bool _, _, _, _, h | .int _, .str _, _, _, _, h | .int _, .nil, _, _, _, h | .int _, .ptr .., _, _, _, h | .int _, .arr .., _, _, _, h | .int _, .agg _, _, _, _, h | .int _, .tup _, _, _, _, h | .int _, .fn _, _, _, _, h | .int _, .lit _, _, _, _, h => by simp [matchP] at h
  | .bool, .int .., _, _, _, h | .bool, .str _, _, _, _, h | .bool, .nil, _, _, _, h | .bool, .ptr .., _, _, _, h | .bool, .arr .., _, _, _, h | .bool, .agg _, _, _, _, h | .bool, .tup _, _, _, _, h | .bool, .fn _, _, _, _, h | .bool, .lit _, _, _, _, h => by simp [matchP] at h
  | .str, .int .., _, _, _, h | .str, .bool _, _, _, _, h | .str, .nil, _, _, _, h | .str, .ptr .., _, _, _, h | .str, .arr .., _, _, _, h | .str, .agg _, _, _, _, h | .str, .tup _, _, _, _, h | .str, .fn _, _, _, _, h | .str, .lit _, _, _, _, h => by simp [matchP] at h
  | .arr .., .int .., _, _, _, h | .arr .., .bool _, _, _, _, h | .arr .., .nil, _, _, _, h | .arr .., .ptr .., _, _, _, h | .arr .., .str .., _, _, _, h | .arr .., .agg _, _, _, _, h | .arr .., .tup _, _, _, _, h | .arr .., .fn _, _, _, _, h | .arr .., .lit _, _, _, _, h => by simp [matchP] at h
  | .ptr .., .int .., _, _, _, h | .ptr .., .bool _, _, _, _, h | .ptr .., .nil, _, _, _, h | .ptr .., .arr .., _, _, _, h | .ptr .., .str .., _, _, _, h | .ptr .., .agg _, _, _, _, h | .ptr .., .tup _, _, _, _, h | .ptr .., .fn _, _, _, _, h | .ptr .., .lit _, _, _, _, h => by simp [matchP] at h
  | .nil, .int .., _, _, _, h | .nil, .bool _, _, _, _, h | .nil, .ptr .., _, _, _, h | .nil, .arr .., _, _, _, h | .nil, .str .., _, _, _, h | .nil, .agg _, _, _, _, h | .nil, .tup _, _, _, _, h | .nil, .fn _, _, _, _, h | .nil, .lit _, _, _, _, h => by simp [matchP] at h
  | .fn _, .int .., _, _, _, h | .fn _, .bool _, _, _, _, h | .fn _, .ptr .., _, _, _, h | .fn _, .arr .., _, _, _, h | .fn _, .str .., _, _, _, h | .fn _, .agg _, _, _, _, h | .fn _, .tup _, _, _, _, h | .fn _, .nil, _, _, _, h | .fn _, .lit _, _, _, _, h => by simp [matchP] at h
  | .agg _, .int .., _, _, _, h | .agg _, .bool _, _, _, _, h | .agg _, .ptr .., _, _, _, h | .agg _, .arr .., _, _, _, h | .agg _, .str .., _, _, _, h | .agg _, .fn _, _, _, _, h | .agg _, .tup _, _, _, _, h | .agg _, .nil, _, _, _, h | .agg _, .lit _, _, _, _, h => by simp [matchP] at h
  | .ci .., .bool _, _, _, _, h | .ci .., .str _, _, _, _, h | .ci .., .nil, _, _, _, h | .ci .., .ptr .., _, _, _, h | .ci .., .arr .., _, _, _, h | .ci .., .agg _, _, _, _, h | .ci .., .tup _, _, _, _, h | .ci .., .fn _, _, _, _, h | .ci .., .lit _, _, _, _, h => by simp [matchP] at h
  | .tup _, .int .., _, _, _, h | .tup _, .bool _, _, _, _, h | .tup _, .str _, _, _, _, h | .tup _, .nil, _, _, _, h | .tup _, .ptr .., _, _, _, h | .tup _, .arr .., _, _, _, h | .tup _, .agg _, _, _, _, h | .tup _, .fn _, _, _, _, h | .tup _, .lit _, _, _, _, h => by simp [matchP] at h
theorem build_matchs : ∀ (ps : List Pat) (vs : List AV) (l pre suf : List Hv), matchPs ps vs = some l → buildPs (pre ++ l ++ suf) ps pre.length = (vs, pre.length + l.length)
  | [], [], l, pre, suf, h => by simp only [matchPs, Option.some.injEq] at h; subst h; simp [buildPs]
  | [], _ :: _, _, _, _, h => by simp [matchPs] at h
  | _ :: _, [], _, _, _, h => by simp [matchPs] at h
  | p :: ps, v :: vs, l, pre, suf, h => by
    simp only [matchPs] at h
    cases h1 : matchP p v with
    | none => simp [h1] at h
    | some a =>
      cases h2 : matchPs ps vs with
      | none => simp [h1, h2] at h
      | some b =>
        simp only [h1, h2, Option.some.injEq] at h
        subst h
        have e1 := build_match p v a pre (b ++ suf) h1
        have e2 := build_matchs ps vs b (pre ++ a) suf h2
        rw [show pre ++ (a ++ b) ++ suf = pre ++ a ++ (b ++ suf) by simp]
        simp only [buildPs, e1]
        rw [show pre ++ a ++ (b ++ suf) = (pre ++ a) ++ b ++ suf by simp, show pre.length + a.length = (pre ++ a).length by simp, e2]
        simp [Nat.add_assoc]
end

/- a row of places, some of which are told -/
def matchO : List (Option Pat) → List (Option AV) → Option (List Hv)
  | [], _ => some []
  | none :: ps, [] => matchO ps []
  | none :: ps, _ :: vs => matchO ps vs
  | some p :: ps, some v :: vs =>
    match matchP p v with
    | some a => match matchO ps vs with
      | some b => some (a ++ b)
      | none => none
    | none => none
  | _, _ => none

def buildO (hs : List Hv) : List (Option Pat) → Nat → List (Option AV) × Nat
  | [], j => ([], j)
  | none :: ps, j => (none :: (buildO hs ps j).1, (buildO hs ps j).2)
  | some p :: ps, j => (some (buildP hs p j).1 :: (buildO hs ps (buildP hs p j).2).1, (buildO hs ps (buildP hs p j).2).2)

def SubL (s t : List (Option AV)) : Prop := ∀ (i : Nat) v, s.getD i none = some v → t.getD i none = some v

theorem buildO_match : ∀ (ps : List (Option Pat)) (vs : List (Option AV)) (l pre suf : List Hv), matchO ps vs = some l →
    SubL (buildO (pre ++ l ++ suf) ps pre.length).1 vs ∧ (buildO (pre ++ l ++ suf) ps pre.length).2 = pre.length + l.length
  | [], vs, l, pre, suf, h => by
    simp only [matchO, Option.some.injEq] at h
    subst h
    refine ⟨fun i v hv => by simp [buildO] at hv, by simp [buildO]⟩
  | none :: ps, [], l, pre, suf, h => by
    simp only [matchO] at h
    obtain ⟨h1, h2⟩ := buildO_match ps [] l pre suf h
    refine ⟨fun i v hv => ?_, h2⟩
    cases i with
    | zero => simp [buildO] at hv
    | succ i => have := h1 i v (by simpa [buildO] using hv); simp at this
  | none :: ps, x :: vs, l, pre, suf, h => by
    simp only [matchO] at h
    obtain ⟨h1, h2⟩ := buildO_match ps vs l pre suf h
    refine ⟨fun i v hv => ?_, h2⟩
    cases i with
    | zero => simp [buildO] at hv
    | succ i => exact h1 i v (by simpa [buildO] using hv)
  | some p :: ps, [], l, pre, suf, h => by simp [matchO] at h
  | some p :: ps, none :: vs, l, pre, suf, h => by simp [matchO] at h
  | some p :: ps, some x :: vs, l, pre, suf, h => by
    simp only [matchO] at h
    cases h1 : matchP p x with
    | none => simp [h1] at h
    | some a =>
      cases h2 : matchO ps vs with
      | none => simp [h1, h2] at h
      | some b =>
        simp only [h1, h2, Option.some.injEq] at h
        subst h
        have e1 := build_match p x a pre (b ++ suf) h1
        obtain ⟨e2, e3⟩ := buildO_match ps vs b (pre ++ a) suf h2
        rw [show pre ++ (a ++ b) ++ suf = pre ++ a ++ (b ++ suf) by simp]
        rw [show (pre ++ a) ++ b ++ suf = pre ++ a ++ (b ++ suf) by simp, List.length_append] at e2 e3
        refine ⟨fun i v hv => ?_, ?_⟩
        · cases i with
          | zero => simp only [buildO, e1, List.getD_cons_zero] at hv ⊢; exact hv
          | succ i => simp only [buildO, e1, List.getD_cons_succ] at hv ⊢; exact e2 i v hv
        · simp only [buildO, e1, e3, List.length_append]; omega

theorem buildO_length (hs : List Hv) : ∀ (ps : List (Option Pat)) (j : Nat), (buildO hs ps j).1.length = ps.length
  | [], j => by simp [buildO]
  | none :: ps, j => by simp [buildO, buildO_length hs ps]
  | some p :: ps, j => by simp [buildO, buildO_length hs ps]

structure Tpl where
  tm : List (Option Pat)
  hp : List (Option Pat)
  base : Nat

def mkSt (T : Tpl) (hs : List Hv) : St := ⟨(buildO hs T.tm 0).1, (buildO hs T.hp (buildO hs T.tm 0).2).1, T.base⟩

def matchSt (T : Tpl) (st : St) : Option (List Hv) :=
  bif Nat.beq st.tm.length T.tm.length then
    match matchO T.tm st.tm with
    | some a => match matchO T.hp st.hp with
      | some b => some (a ++ b)
      | none => none
    | none => none
  else none

structure Sub (s t : St) : Prop where
  len : s.tm.length = t.tm.length
  tm : SubL s.tm t.tm
  hp : SubL s.hp t.hp

theorem matchSt_sub {T : Tpl} {st : St} {hs : List Hv} (h : matchSt T st = some hs) : Sub (mkSt T hs) st := by
  unfold matchSt at h
  cases hb : Nat.beq st.tm.length T.tm.length with
  | false => simp [hb] at h
  | true =>
    simp only [hb, cond_true] at h
    have hb := Nat.eq_of_beq_eq_true hb
    cases h1 : matchO T.tm st.tm with
    | none => simp [h1] at h
    | some a =>
      cases h2 : matchO T.hp st.hp with
      | none => simp [h1, h2] at h
      | some b =>
        simp only [h1, h2, Option.some.injEq] at h
        subst h
        obtain ⟨e1, e2⟩ := buildO_match T.tm st.tm a [] b h1
        obtain ⟨f1, f2⟩ := buildO_match T.hp st.hp b a [] h2
        simp only [List.nil_append, List.length_nil, Nat.zero_add] at e1 e2
        simp only [List.append_nil] at f1
        exact ⟨by simp [mkSt, buildO_length, hb], by simpa [mkSt] using e1, by simpa [mkSt, e2] using f1⟩

def closedB (st : St) : Bool :=
  (st.tm.all fun o => match o with | some v => v.names (fun m => (st.hp.getD m none).isSome) | none => true) &&
  (st.hp.all fun o => match o with | some v => v.names (fun m => (st.hp.getD m none).isSome) | none => true)

theorem mem_of_getD {α : Type} {l : List (Option α)} {i : Nat} {v : α} (h : l.getD i none = some v) : some v ∈ l := by
  rw [List.getD_eq_getElem?_getD] at h
  cases hq : l[i]? with
  | none => simp [hq] at h
  | some x => simp [hq] at h; subst h; exact List.mem_of_getElem? hq

theorem closedB_spec {st : St} (h : closedB st = true) : Closed st := by
  simp only [closedB, Bool.and_eq_true, List.all_eq_true] at h
  have key : ∀ v : AV, v.names (fun m => (st.hp.getD m none).isSome) = true → ClosedV st.hp v := fun v hv m hm => by
    have := names_has v hv hm
    exact Option.isSome_iff_exists.1 this
  exact ⟨fun i v hv => key v (h.1 _ (mem_of_getD hv)), fun n v hv => key v (h.2 _ (mem_of_getD hv))⟩

theorem Inv.sub {own : Own} {w0 w : World} {ρ : Ren} {s t : St} {a : Act} (h : Inv own w0 ρ t a w) (hs : Sub s t) (hc : Closed s) (hb : own.fb ≤ s.base) : Inv own w0 ρ s a w :=
  ⟨⟨fun n v hv => h.rep.blk n v (hs.hp n v hv), fun m n vm vn h1 h2 h3 => h.rep.sep m n vm vn (hs.hp m vm h1) (hs.hp n vn h2) h3⟩,
   ⟨by rw [hs.len, h.tm.len], fun i v hv => h.tm.val i v (hs.tm i v hv)⟩, hc, ⟨fun i v hv => h.wf.tm i v (hs.tm i v hv), fun n v hv => h.wf.hp n v (hs.hp n v hv)⟩, h.kept, fun n v hv => h.mine n v (hs.hp n v hv), h.defers, h.low, hb⟩

/-! loops -/
abbrev StepG := List Hv → Option (Sum (List Hv) (Bool × List Hv))

def loopN (G : StepG) : Nat → List Hv → Option (Bool × List Hv)
  | 0, _ => none
  | n + 1, v =>
    match G v with
    | some (.inl v') => loopN G n v'
    | some (.inr x) => some x
    | none => none

/-- rounds enough for every loop that a count of at most 64 bits bounds -/
def bigN : Nat := 2 ^ 70

def lkont (id : Nat) (H E R : Tpl) : Exit → St → Option (Sum (List Hv) (Bool × List Hv))
  | .normal, st => match matchSt H st with
    | some h => some (.inl h)
    | none => none
  | .exit i, st => bif Nat.beq i id then
      match matchSt E st with
      | some h => some (.inr (false, h))
      | none => none
    else none
  | .ret, st => match matchSt R st with
    | some h => some (.inr (true, h))
    | none => none
  | _, _ => none

/-- a loop that is left by its own end alone -/
def loopE (H E : Tpl) (G : StepG) : BSem where
  run st K := bif Nat.ble st.base H.base && Nat.ble H.base E.base then
    match matchSt H st with
    | some v => (loopN G bigN v).bind fun x => bif x.1 then none else K .normal (mkSt E x.2)
    | none => none
    else none

/-- a loop that is left by its own end or by a return -/
def loopR (H E R : Tpl) (G : StepG) : BSem where
  run st K := bif Nat.ble st.base H.base && Nat.ble H.base E.base && Nat.ble H.base R.base then
    match matchSt H st with
    | some v => (loopN G bigN v).bind fun x => bif x.1 then K .ret (mkSt R x.2) else K .normal (mkSt E x.2)
    | none => none
    else none

theorem loop_core {P : Program} {Γ : Env} {Λ : Blks} {u : Nat} (hE : EnvOk P Γ) (hm : P.follows .mixedOrders = true) {id : Nat} {body : Code}
    (hΛ : ∀ id s, Λ id = some s → ∀ c, (id, c) ∈ blocks body → BlkSound P id c s) {H E R : Tpl} {G : StepG}
    (hG : ∀ v r, WfSt (mkSt H v) → G v = some r → evalC P Γ Λ u body (mkSt H v) (lkont id H E R) = some r)
    (cH : ∀ v, closedB (mkSt H v) = true) (cE : ∀ v, closedB (mkSt E v) = true) (cR : ∀ v, closedB (mkSt R v) = true)
    {own : Own} {w0 : World} (fH : own.fb ≤ H.base) (fE : own.fb ≤ E.base) (fR : own.fb ≤ R.base) {x : Bool × List Hv} {Q : Exit → Act → World → Prop}
    (hQ : ∀ ρ a w, (x.1 = false → Inv own w0 ρ (mkSt E x.2) a w → Q (.exit id) a w) ∧ (x.1 = true → Inv own w0 ρ (mkSt R x.2) a w → Q .ret a w)) :
    ∀ (n : Nat) (v : List Hv) (ρ : Ren) (a : Act) (w : World), loopN G n v = some x → Inv own w0 ρ (mkSt H v) a w →
      ∀ (b : Frame) (k : List Item) (cs : List Frame), ∃ e a' w', Q e a' w' ∧ e ≠ .normal ∧ Arrives P (lone (b.at a (.code body :: .inLoop body :: k)) cs w) b k cs e a' w'
  | 0, v, ρ, a, w, h, _ => by simp [loopN] at h
  | n + 1, v, ρ, a, w, h, hI => by
    intro b k cs
    simp only [loopN] at h
    cases hg : G v with
    | none => simp [hg] at h
    | some r =>
      have hev := hG v r hI.wf hg
      have hw := evalC_sound hE hm hΛ body (fun p hp => hp) (mkSt H v) (lkont id H E R) ρ a w hev hI
        (fun e a' w' => ∃ ρ' st', Inv own w0 ρ' st' a' w' ∧ lkont id H E R e st' = some r) (fun e ρ' st' a' w' hI' hK => ⟨ρ', st', hI', hK⟩)
      obtain ⟨e, a₁, w₁, ⟨ρ', st', hI', hK⟩, harr⟩ := hw b (.inLoop body :: k) cs
      simp only [hg] at h
      cases e with
      | normal =>
        simp only [lkont] at hK
        cases hmt : matchSt H st' with
        | none => simp [hmt] at hK
        | some v' =>
          simp only [hmt, Option.some.injEq] at hK
          subst hK
          simp only at h
          obtain ⟨e₂, a₂, w₂, hq₂, hne, harr₂⟩ := loop_core hE hm hΛ hG cH cE cR fH fE fR hQ n v' ρ' a₁ w₁ h (hI'.sub (matchSt_sub hmt) (closedB_spec (cH v')) fH) b k cs
          exact ⟨e₂, a₂, w₂, hq₂, hne, .of_steps (Steps.trans harr (.one step_inLoop)) harr₂⟩
      | exit i =>
        simp only [lkont] at hK
        cases hb : Nat.beq i id with
        | false => simp [hb] at hK
        | true =>
          simp only [hb, cond_true] at hK
          have := Nat.eq_of_beq_eq_true hb
          subst this
          cases hmt : matchSt E st' with
          | none => simp [hmt] at hK
          | some v' =>
            simp only [hmt, Option.some.injEq] at hK
            subst hK
            simp only [Option.some.injEq] at h
            subst h
            exact ⟨_, a₁, w₁, (hQ ρ' a₁ w₁).1 rfl (hI'.sub (matchSt_sub hmt) (closedB_spec (cE v')) fE), by simp, .pass (x := .inLoop body) rfl (fun _ _ => .inl (by simp)) harr⟩
      | ret =>
        simp only [lkont] at hK
        cases hmt : matchSt R st' with
        | none => simp [hmt] at hK
        | some v' =>
          simp only [hmt, Option.some.injEq] at hK
          subst hK
          simp only [Option.some.injEq] at h
          subst h
          exact ⟨_, a₁, w₁, (hQ ρ' a₁ w₁).2 rfl (hI'.sub (matchSt_sub hmt) (closedB_spec (cR v')) fR), by simp, .pass (x := .inLoop body) rfl (fun _ _ => .inl (by simp)) harr⟩
      | goto l => simp [lkont] at hK
      | panic ch => simp [lkont] at hK
      | outgrown => simp [lkont] at hK

theorem loopR_sound {P : Program} {Γ : Env} {Λ : Blks} {u : Nat} (hE : EnvOk P Γ) (hm : P.follows .mixedOrders = true) {id : Nat} {body : Code}
    (hΛ : ∀ id s, Λ id = some s → ∀ c, (id, c) ∈ blocks body → BlkSound P id c s) {H E R : Tpl} {G : StepG}
    (hG : ∀ v r, WfSt (mkSt H v) → G v = some r → evalC P Γ Λ u body (mkSt H v) (lkont id H E R) = some r)
    (cH : ∀ v, closedB (mkSt H v) = true) (cE : ∀ v, closedB (mkSt E v) = true) (cR : ∀ v, closedB (mkSt R v) = true) : BlkSound P id (.loop body) (loopR H E R G) := by
  intro β st K r h own w0 ρ a w hI Q hQ
  simp only [loopR] at h
  cases hbs : (Nat.ble st.base H.base && Nat.ble H.base E.base && Nat.ble H.base R.base) with
  | false => simp [hbs] at h
  | true =>
  simp only [hbs, cond_true] at h
  simp only [Bool.and_eq_true] at hbs
  have b1 := Nat.le_of_ble_eq_true hbs.1.1
  have b2 := Nat.le_of_ble_eq_true hbs.1.2
  have b3 := Nat.le_of_ble_eq_true hbs.2
  have fH : own.fb ≤ H.base := Nat.le_trans hI.base b1
  cases hmt : matchSt H st with
  | none => simp [hmt] at h
  | some v =>
    simp only [hmt] at h
    cases hl : loopN G bigN v with
    | none => simp [hl] at h
    | some x =>
      simp only [hl, Option.bind_some] at h
      refine wp_block ?_
      intro b k cs
      have hcore := loop_core (Q := Exit.inBlock id Q) (own := own) (w0 := w0) hE hm hΛ hG cH cE cR fH (Nat.le_trans fH b2) (Nat.le_trans fH b3) (x := x) (fun ρ' a' w' => ⟨fun hx hI' => ?_, fun hx hI' => ?_⟩) bigN v ρ a w hl (hI.sub (matchSt_sub hmt) (closedB_spec (cH v)) fH)
      · obtain ⟨e, a', w', hq, _, harr⟩ := hcore b k cs
        exact ⟨e, a', w', hq, .of_steps (.one step_loop) harr⟩
      · simp only [Exit.inBlock, if_true]
        rw [hx] at h
        exact hQ .normal ρ' _ a' w' hI' h
      · simp only [Exit.inBlock]
        rw [hx] at h
        exact hQ .ret ρ' _ a' w' hI' h

theorem loopE_sound {P : Program} {Γ : Env} {Λ : Blks} {u : Nat} (hE : EnvOk P Γ) (hm : P.follows .mixedOrders = true) {id : Nat} {body : Code}
    (hΛ : ∀ id s, Λ id = some s → ∀ c, (id, c) ∈ blocks body → BlkSound P id c s) {H E : Tpl} {G : StepG}
    (hG : ∀ v r, WfSt (mkSt H v) → G v = some r → evalC P Γ Λ u body (mkSt H v) (lkont id H E ⟨[], [], H.base⟩) = some r)
    (cH : ∀ v, closedB (mkSt H v) = true) (cE : ∀ v, closedB (mkSt E v) = true) : BlkSound P id (.loop body) (loopE H E G) := by
  intro β st K r h own w0 ρ a w hI Q hQ
  have := loopR_sound (R := ⟨[], [], H.base⟩) hE hm hΛ hG cH cE (fun v => rfl)
  refine this β st (fun e s => match e with | .ret => none | e => K e s) r ?_ own w0 ρ a w hI Q (fun e ρ' st' a' w' hI' hK => ?_)
  · simp only [loopE] at h
    simp only [loopR]
    cases hbs : (Nat.ble st.base H.base && Nat.ble H.base E.base) with
    | false => simp [hbs] at h
    | true =>
    simp only [hbs, cond_true] at h
    simp only [Nat.ble_self_eq_true, Bool.and_true, cond_true]
    cases hmt : matchSt H st with
    | none => simp [hmt] at h
    | some v =>
      simp only [hmt] at h ⊢
      cases hl : loopN G bigN v with
      | none => simp [hl] at h
      | some x => simpa [hl] using h
  · cases e <;> first | exact hQ _ ρ' st' a' w' hI' hK | cases hK
end Go.Sim
