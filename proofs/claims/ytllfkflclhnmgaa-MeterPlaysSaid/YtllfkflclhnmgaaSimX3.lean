/- What turns memory: append, copy, the next rune, slices' literals that hold slices. The state, one operation, a region in the order of the text. Operations that do not wait for one another may change places: whatever order is drawn, the state at the end is that of the text's order. Two operations that do not wait for one another, in either order; a region in any order. A region in whatever order: the abstract side. -/
import Derived.Test.YtllfkflclhnmgaaSimX2
namespace Go.Sim
variable {β : Type}

def killV (hp : Hp) (v : AV) : Hp :=
  match v with
  | .x (.sln n len) => setP none hp n (some (.x (.obj (.dead len))))
  | _ => hp
/-- what an append finds ahead -/
def dstInts (hp : Hp) (k : IntKind) (v : AV) : Option (List Int) :=
  match v with
  | .lit .nilSlice => some []
  | .x (.sln n _) => match hp.getD n none with
    | some (.x (.obj (.ints k' l true))) => bif decide (k' = k) then some l else none
    | _ => none
  | _ => none
def dstRows (hp : Hp) (e : Ep) (v : AV) : Option (List (List Hv)) :=
  match v with
  | .lit .nilSlice => some []
  | .x (.sln n _) => match hp.getD n none with
    | some (.x (.obj (.row e' l true))) => bif Ep.beq e' e then some l else none
    | _ => none
  | _ => none
def isIntsT (P : Program) (t : Option TypeId) : Bool :=
  match t with
  | some t => match P.underlying t with
    | some (.int _) => true
    | _ => false
  | none => false
def tyOk (P : Program) (t : Option TypeId) : Bool :=
  match t with
  | some t => match P.underlying t with
    | some (.slice _) => true
    | some .string => true
    | some (.int _) => true
    | _ => false
  | none => true
/-- what an append adds -/
def srcIntsK (hp : Hp) (k : IntKind) (z : Int) (zeros : Bool) (x : AV) (K : List Int → Option β) : Option β :=
  bif zeros then
    match x with
    | .int _ c => bif inB c 68719476736 then K (List.replicate c.toNat z) else none
    | _ => none
  else match x with
    | .str s => bif decide (k = .u8) then K (intL s) else none
    | x => match slRes hp (.int k) x with
      | some ([.l m], _) => K m
      | _ => none

def appK (P : Program) (ts : Array TypeId) (hp : Hp) (nm : Nat) (s x : AV) (K : AV → Hp → Option β) : Option β :=
  match ts[0]? with
  | some t =>
    match P.underlying t with
    | some (.slice e) =>
      match P.info? e with
      | some ie =>
        bif (Nat.ble ie.bytes 512 && tyOk P ts[1]?) && (match hp.getD nm none with | some _ => false | none => true) then
          match P.underlying e with
          | some (.int k) =>
            match zeroA P e with
            | some (.int k' z) =>
              match dstInts hp k s with
              | some l => bif Nat.beq ie.size 1 && decide (k' = k) then srcIntsK hp k z (isIntsT P ts[1]?) x fun m =>
                  bif decide (l.length + m.length < 68719476736) then K (.x (.sln nm (l ++ m).length)) (setP none (killV hp s) nm (some (.x (.obj (.ints k (l ++ m) true))))) else none
                else none
              | none => none
            | _ => none
          | _ =>
            bif isIntsT P ts[1]? then none else
            match epOf P 8 e, ie.zero with
            | some ep, some z =>
              match dstRows hp ep s with
              | some l => match ep with
                | .int _ => none
                | ep => match slRes hp ep x with
                  | some ([.r m], _) => bif Nat.beq ep.size ie.size && Nat.beq z.cells.size ie.size then
                      bif decide (l.length + m.length < 68719476736) then K (.x (.sln nm (l ++ m).length)) (setP none (killV hp s) nm (some (.x (.obj (.row ep (l ++ m) true))))) else none
                    else none
                  | _ => none
              | none => none
            | _, _ => none
        else none
      | none => none
    | _ => none
  | none => none

def nextK (hp : Hp) (isS : Bool) (x : AV) (K : AV → Hp → Option β) : Option β :=
  bif isS then
    match x with
    | .ptr n [] =>
      match hp.getD n none with
      | some (.x (.obj (.iter s pos))) =>
        bif decide (pos < s.length) then
          K (.tup [.bool true, .int .i64 pos, .int .i32 ((Utf8.decode ⟨s.toArray⟩ pos).1 : Int)]) (setP none hp n (some (.x (.obj (.iter s (pos + (Utf8.decode ⟨s.toArray⟩ pos).2))))))
        else K (.tup [.bool false]) hp
      | _ => none
    | _ => none
  else none

def cpyList (l : List Int) (off len : Nat) (s : List Int) : List Int := l.take off ++ s.take (min s.length len) ++ l.drop (off + min s.length len)
def copyK (P : Program) (ts : Array TypeId) (hp : Hp) (d x : AV) (K : AV → Hp → Option β) : Option β :=
  match ts[0]? with
  | some t =>
    match P.underlying t with
    | some (.slice e) =>
      match P.info? e with
      | some ie =>
        match d with
        | .x (.sla n p es off len _) =>
          match hp.getD n none with
          | some tree =>
            bif tree.isFz || tree.isObj then none else
            match sub p tree with
            | some (.arr k m l) =>
              bif Nat.beq es 1 && Nat.beq ie.size 1 && Nat.ble (off + len) m then
                srcIntsK hp k 0 false x fun s => match put p tree (.arr k m (cpyList l off len s)) with
                  | some tree' => K (.int .i64 ((min s.length len : Nat) : Int)) (setP none hp n (some tree'))
                  | none => none
              else none
            | _ => none
          | none => none
        | _ => none
      | none => none
    | _ => none
  | none => none

/-- what a name holds stays from now on -/
def frzN (hp : Hp) (n : Nat) : Hp :=
  match hp.getD n none with
  | some (.x (.obj (.ints k l _))) => setP none hp n (some (.x (.obj (.ints k l false))))
  | some (.x (.obj (.row e l _))) => setP none hp n (some (.x (.obj (.row e l false))))
  | some (.x _) => hp
  | some (.fz _) => hp
  | some t => setP none hp n (some (.fz t))
  | none => hp
mutual
def frzV (hp : Hp) : AV → Hp
  | .x (.sln n _) => frzN hp n
  | .x (.sla n ..) => frzN hp n
  | .agg vs => frzL hp vs
  | _ => hp
def frzL (hp : Hp) : List AV → Hp
  | [] => hp
  | v :: vs => frzL (frzV hp v) vs
end

def memV (P : Program) (op : Op) (vs : List AV) (hp : Hp) (nm : Nat) (K : AV → Hp → Option β) : Option β :=
  match op with
  | .call c => match c.callee, vs with
    | .builtin .append, [s, x] => appK P c.argTypes hp nm s x K
    | .builtin .copy, [d, x] => copyK P c.argTypes hp d x K
    | _, _ => none
  | .next _ isS => match vs with
    | [x] => nextK hp isS x K
    | _ => none
  | .buildSlice t len ps => match hp.getD nm none with
    | none => bsV P t len ps.toList (frzL hp vs) nm vs fun v news => K v (addL (frzL hp vs) nm news)
    | some _ => none
  | _ => none

/-! by its end -/
theorem srcIntsK_eq {γ : Type} (hp : Hp) (k : IntKind) (z : Int) (zeros : Bool) (x : AV) (F : List Int → Option γ) (f : γ → Option β) (K : List Int → Option β) (h : ∀ l, K l = (F l).bind f) :
    srcIntsK hp k z zeros x K = (srcIntsK hp k z zeros x F).bind f := by
  unfold srcIntsK
  cases zeros
  · simp only [cond_false]
    split
    · exact kond (h _)
    · split
      · exact h _
      · rfl
  · simp only [cond_true]
    split
    · exact kond (h _)
    · rfl
theorem appK_eq (P : Program) (ts : Array TypeId) (hp : Hp) (nm : Nat) (s x : AV) (K : AV → Hp → Option β) :
    appK P ts hp nm s x K = (appK P ts hp nm s x fun v h => some (v, h)).bind fun y => K y.1 y.2 := by
  unfold appK
  split
  · split
    · split
      · refine kond ?_
        split
        · split
          · split
            · exact kond (srcIntsK_eq _ _ _ _ _ _ _ _ fun m => kond rfl)
            · rfl
          · rfl
        · cases isIntsT P ts[1]? with
          | true => rfl
          | false =>
            simp only [cond_false]
            split
            · split
              · split
                · rfl
                · split
                  · exact kond (kond rfl)
                  · rfl
              · rfl
            · rfl
      · rfl
    · rfl
  · rfl
theorem copyK_eq (P : Program) (ts : Array TypeId) (hp : Hp) (d x : AV) (K : AV → Hp → Option β) :
    copyK P ts hp d x K = (copyK P ts hp d x fun v h => some (v, h)).bind fun y => K y.1 y.2 := by
  unfold copyK
  split
  · split
    · split
      · split
        · split
          · cases (_ || _) with
            | true => rfl
            | false =>
              simp only [cond_false]
              split
              · refine kond (srcIntsK_eq _ _ _ _ _ _ _ _ fun s => ?_)
                split <;> rfl
              · rfl
          · rfl
        · rfl
      · rfl
    · rfl
  · rfl
theorem memV_eq (P : Program) (op : Op) (vs : List AV) (hp : Hp) (nm : Nat) (K : AV → Hp → Option β) :
    memV P op vs hp nm K = (memV P op vs hp nm fun v h => some (v, h)).bind fun y => K y.1 y.2 := by
  unfold memV
  split
  · split
    · exact appK_eq ..
    · exact copyK_eq ..
    · rfl
  · split
    · unfold nextK
      cases ‹Bool› with
      | false => rfl
      | true =>
        simp only [cond_true]
        split
        · split
          · rename_i st pos _
            cases decide (pos < st.length) <;> rfl
          · rfl
        · rfl
    · rfl
  · split
    · rw [bsV_eq, bsV_eq P _ _ _ _ _ _ fun v news => some (v, addL _ _ news)]
      cases bsV P _ _ _ _ _ _ _ <;> rfl
    · rfl
  · rfl

/-! names -/
structure AV.leq (t t' : AV) : Prop where
  len : ∀ n, t.lenOk n → t'.lenOk n
  gt : ∀ i, t.gtOk i → t'.gtOk i
theorem pres_put {hp : Hp} {n : Nat} {t t' : AV} {m : Tok} (hn : hp.getD n none = some t) (hl : t.leq t') (h : Pres hp m) : Pres (setP none hp n (some t')) m := by
  cases m with
  | nm k =>
    obtain ⟨u, hu⟩ := h
    by_cases e : n = k
    · subst e; exact ⟨t', by rw [getD_setP, if_pos rfl]⟩
    · exact ⟨u, by rw [getD_setP, if_neg e]; exact hu⟩
  | ln k len =>
    obtain ⟨u, hu, hlen⟩ := h
    by_cases e : n = k
    · subst e
      rw [hn] at hu; cases hu
      exact ⟨t', by rw [getD_setP, if_pos rfl], hl.len _ hlen⟩
    · exact ⟨u, by rw [getD_setP, if_neg e]; exact hu, hlen⟩
  | gt k i =>
    obtain ⟨u, hu, hlen⟩ := h
    by_cases e : n = k
    · subst e
      rw [hn] at hu; cases hu
      exact ⟨t', by rw [getD_setP, if_pos rfl], hl.gt _ hlen⟩
    · exact ⟨u, by rw [getD_setP, if_neg e]; exact hu, hlen⟩
theorem pres_add {hp : Hp} {n : Nat} {t : AV} {m : Tok} (hn : hp.getD n none = none) (h : Pres hp m) : Pres (setP none hp n (some t)) m := by
  cases m with
  | nm k =>
    obtain ⟨u, hu⟩ := h
    have e : n ≠ k := fun e => by rw [e] at hn; rw [hn] at hu; cases hu
    exact ⟨u, by rw [getD_setP, if_neg e]; exact hu⟩
  | ln k len =>
    obtain ⟨u, hu, hl⟩ := h
    have e : n ≠ k := fun e => by rw [e] at hn; rw [hn] at hu; cases hu
    exact ⟨u, by rw [getD_setP, if_neg e]; exact hu, hl⟩
  | gt k i =>
    obtain ⟨u, hu, hl⟩ := h
    have e : n ≠ k := fun e => by rw [e] at hn; rw [hn] at hu; cases hu
    exact ⟨u, by rw [getD_setP, if_neg e]; exact hu, hl⟩
/-- memory grows so: who was there is there -/
structure Grows (hp hp' : Hp) : Prop where
  pres : ∀ m, Pres hp m → Pres hp' m
  closed : ClosedH hp → ClosedH hp'
theorem Grows.refl (hp : Hp) : Grows hp hp := ⟨fun _ h => h, fun h => h⟩
theorem Grows.trans {a b c : Hp} (h : Grows a b) (k : Grows b c) : Grows a c := ⟨fun m hm => k.pres m (h.pres m hm), fun hc => k.closed (h.closed hc)⟩
theorem grows_put {hp : Hp} {n : Nat} {t t' : AV} (hn : hp.getD n none = some t) (hl : t.leq t') (hc : ∀ m, t'.has m → t.has m) : Grows hp (setP none hp n (some t')) where
  pres m h := pres_put hn hl h
  closed h k v hk m hm := by
    rw [getD_setP] at hk
    by_cases e : n = k
    · rw [if_pos e] at hk; cases hk
      exact pres_put hn hl (h n t hn m (hc m hm))
    · rw [if_neg e] at hk
      exact pres_put hn hl (h k v hk m hm)
theorem grows_add {hp : Hp} {n : Nat} {t : AV} (hn : hp.getD n none = none) (hc : ∀ m, ¬ t.has m) : Grows hp (setP none hp n (some t)) where
  pres m h := pres_add hn h
  closed h k v hk m hm := by
    rw [getD_setP] at hk
    by_cases e : n = k
    · rw [if_pos e] at hk; cases hk
      exact absurd hm (hc m)
    · rw [if_neg e] at hk
      exact pres_add hn (h k v hk m hm)
theorem grows_addL : ∀ {news : List AV} {hp : Hp} {nm : Nat}, (∀ i, i < news.length → hp.getD (nm + i) none = none) → (∀ u ∈ news, ∀ m, ¬ u.has m) → Grows hp (addL hp nm news)
  | [], hp, nm, _, _ => Grows.refl hp
  | u :: us, hp, nm, hf, ho => by
    refine (grows_add (t := u) (by simpa using hf 0 (by simp)) (ho u (by simp))).trans ?_
    refine grows_addL (fun i hi => ?_) (fun v hv => ho v (by simp [hv]))
    rw [getD_setP, if_neg (by omega)]
    simpa [Nat.add_assoc, Nat.add_comm 1 i] using hf (i + 1) (by simp; omega)
theorem kill_grows {hp : Hp} {v : AV} (hd : (∃ k l, dstInts hp k v = some l) ∨ ∃ e l, dstRows hp e v = some l) (hc : ClosedV hp v) : Grows hp (killV hp v) := by
  unfold killV
  split
  · rename_i n len
    obtain ⟨t, ht, hl⟩ := hc (.ln n len) (by simp [AV.has, XV.has])
    have key : ∀ (m : Nat), (∀ x, t.lenOk x ↔ m = x) → (∀ i, t.gtOk i → i < m) → Grows hp (setP none hp n (some (.x (.obj (.dead len))))) := by
      intro m h1 h2
      have e := (h1 len).1 hl
      subst e
      exact grows_put ht ⟨fun x hx => by simp only [AV.lenOk]; exact (h1 x).1 hx, fun i hi => by simp only [AV.gtOk]; exact h2 i hi⟩ (fun m hm => absurd hm (obj_has m))
    rcases hd with ⟨k, l, hd⟩ | ⟨e, l, hd⟩
    · unfold dstInts at hd
      simp only [ht] at hd
      split at hd
      · rename_i k' l' heq
        cases heq
        exact key l'.length (fun x => by simp only [AV.lenOk]) (fun i hi => by simpa only [AV.gtOk] using hi)
      · cases hd
    · unfold dstRows at hd
      simp only [ht] at hd
      split at hd
      · rename_i e' l' heq
        cases heq
        exact key l'.length (fun x => by simp only [AV.lenOk]) (fun i hi => by simpa only [AV.gtOk] using hi)
      · cases hd
  · exact Grows.refl hp
theorem leq_tree {t t' : AV} (h : t.isObj = false) : t.leq t' := by
  have key : ∀ n, ¬ t.lenOk n ∧ ¬ t.gtOk n := by
    intro n
    cases t <;> try exact ⟨id, id⟩
    rename_i v
    cases v <;> first | exact ⟨id, id⟩ | simp [AV.isObj, XV.isObj] at h
  exact ⟨fun n q => absurd q (key n).1, fun n q => absurd q (key n).2⟩
theorem frzN_grows (hp : Hp) (n : Nat) : Grows hp (frzN hp n) := by
  unfold frzN
  split
  · rename_i k l rw hn
    exact grows_put hn ⟨fun _ h => h, fun _ h => h⟩ (fun m hm => absurd hm (obj_has m))
  · rename_i e l rw hn
    exact grows_put hn ⟨fun _ h => h, fun _ h => h⟩ (fun m hm => absurd hm (obj_has m))
  · exact Grows.refl hp
  · exact Grows.refl hp
  · rename_i t _ _ h1 _ hn
    exact grows_put hn (leq_tree (by cases t <;> first | rfl | exact absurd rfl (h1 _))) (fun m hm => by simpa only [AV.has] using hm)
  · exact Grows.refl hp
mutual
theorem frzV_grows : ∀ (v : AV) (hp : Hp), Grows hp (frzV hp v)
  | .x (.sln n _), hp => by simp only [frzV]; exact frzN_grows hp n
  | .x (.sla n ..), hp => by simp only [frzV]; exact frzN_grows hp n
  | .x (.eptr ..), hp | .x (.aptr ..), hp | .x (.obj _), hp => by simp only [frzV]; exact Grows.refl hp
  | .agg vs, hp => by simp only [frzV]; exact frzL_grows vs hp
  | .int .., hp | .bool _, hp | .str _, hp | .nil, hp | .ptr .., hp | .arr .., hp | .tup _, hp | .fn _, hp | .lit _, hp | .fz _, hp => by simp only [frzV]; exact Grows.refl hp
theorem frzL_grows : ∀ (vs : List AV) (hp : Hp), Grows hp (frzL hp vs)
  | [], hp => by simp only [frzL]; exact Grows.refl hp
  | v :: vs, hp => by simp only [frzL]; exact (frzV_grows v hp).trans (frzL_grows vs _)
end

theorem srcInts_some {γ : Type} {hp : Hp} {k : IntKind} {z : Int} {zeros : Bool} {x : AV} {F : List Int → Option γ} {r : γ} (h : srcIntsK hp k z zeros x F = some r) :
    ∃ m, F m = some r ∧ ((zeros = true ∧ ∃ k' c, x = .int k' c ∧ inB c 68719476736 = true ∧ m = List.replicate c.toNat z) ∨
      (zeros = false ∧ ((∃ s, x = .str s ∧ k = .u8 ∧ m = intL s) ∨ ∃ ro, slRes hp (.int k) x = some ([.l m], ro)))) := by
  unfold srcIntsK at h
  cases zeros
  · simp only [cond_false] at h
    split at h
    · rename_i s
      cases hk : decide (k = .u8) with
      | false => rw [hk] at h; cases h
      | true => rw [hk] at h; exact ⟨_, h, .inr ⟨rfl, .inl ⟨s, rfl, of_decide_eq_true hk, rfl⟩⟩⟩
    · split at h
      · rename_i m ro hs
        exact ⟨m, h, .inr ⟨rfl, .inr ⟨ro, hs⟩⟩⟩
      · cases h
  · simp only [cond_true] at h
    split at h
    · rename_i k' c
      cases hb : inB c 68719476736 with
      | false => rw [hb] at h; cases h
      | true => rw [hb] at h; exact ⟨_, h, .inl ⟨rfl, k', c, rfl, hb, rfl⟩⟩
    · cases h
/-- what an append is made of -/
inductive AppOk (P : Program) (ts : Array TypeId) (hp : Hp) (nm : Nat) (s x : AV) (v : AV) (hp' : Hp) : Prop
  | ints (t e : TypeId) (ie : TypeInfo) (k : IntKind) (z : Int) (l m : List Int) (ht : ts[0]? = some t) (hu : P.underlying t = some (.slice e)) (hie : P.info? e = some ie) (hb : ie.bytes ≤ 512)
      (hnm : hp.getD nm none = none) (hk : P.underlying e = some (.int k)) (hz : zeroA P e = some (.int k z)) (hd : dstInts hp k s = some l) (hs : ie.size = 1)
      (hm : (isIntsT P ts[1]? = true ∧ ∃ k' c, x = .int k' c ∧ inB c 68719476736 = true ∧ m = List.replicate c.toNat z) ∨
        (isIntsT P ts[1]? = false ∧ ((∃ s, x = .str s ∧ k = .u8 ∧ m = intL s) ∨ ∃ ro, slRes hp (.int k) x = some ([.l m], ro))))
      (hlt : l.length + m.length < 68719476736) (hv : v = .x (.sln nm (l ++ m).length)) (hh : hp' = setP none (killV hp s) nm (some (.x (.obj (.ints k (l ++ m) true)))))
  | rows (t e : TypeId) (ie : TypeInfo) (ep : Ep) (z : Value) (l m : List (List Hv)) (ro : Bool) (ht : ts[0]? = some t) (hu : P.underlying t = some (.slice e)) (hie : P.info? e = some ie) (hb : ie.bytes ≤ 512)
      (hnm : hp.getD nm none = none) (hni : ∀ k, P.underlying e ≠ some (.int k)) (hep : epOf P 8 e = some ep) (hz : ie.zero = some z) (hd : dstRows hp ep s = some l) (hne : ∀ k, ep ≠ .int k) (hx : slRes hp ep x = some ([.r m], ro)) (hs : ep.size = ie.size ∧ z.cells.size = ie.size)
      (h1 : isIntsT P ts[1]? = false)
      (hlt : l.length + m.length < 68719476736) (hv : v = .x (.sln nm (l ++ m).length)) (hh : hp' = setP none (killV hp s) nm (some (.x (.obj (.row ep (l ++ m) true)))))
theorem app_ok {P : Program} {ts : Array TypeId} {hp : Hp} {nm : Nat} {s x v : AV} {hp' : Hp} (h : appK P ts hp nm s x (fun v h => some (v, h)) = some (v, hp')) : AppOk P ts hp nm s x v hp' := by
  unfold appK at h
  split at h
  · rename_i t ht
    split at h
    · rename_i e hu
      split at h
      · rename_i ie hie
        cases hnm : hp.getD nm none with
        | some q => rw [hnm, Bool.and_false] at h; cases h
        | none =>
          rw [hnm] at h
          cases hb : (Nat.ble ie.bytes 512 && tyOk P ts[1]?) with
          | false => rw [hb] at h; cases h
          | true =>
            rw [hb] at h
            simp only [Bool.and_self, cond_true] at h
            have hb := Nat.le_of_ble_eq_true (Bool.and_eq_true_iff.1 hb).1
            split at h
            · rename_i k hk
              split at h
              · rename_i k' z hz
                split at h
                · rename_i l hd
                  cases hs : Nat.beq ie.size 1 with
                  | false => rw [hs] at h; cases h
                  | true =>
                    cases hkk : decide (k' = k) with
                    | false => rw [hs, hkk] at h; cases h
                    | true =>
                      have := of_decide_eq_true hkk
                      subst this
                      rw [hs, hkk] at h
                      simp only [Bool.and_self, cond_true] at h
                      obtain ⟨m, h, hm⟩ := srcInts_some h
                      cases hlt : decide (l.length + m.length < 68719476736) with
                      | false => rw [hlt] at h; cases h
                      | true =>
                        rw [hlt] at h
                        cases h
                        exact .ints t e ie k' z l m ht hu hie hb hnm hk hz hd (Nat.eq_of_beq_eq_true hs) hm (of_decide_eq_true hlt) rfl rfl
                · cases h
              · cases h
            · rename_i hni
              cases h1 : isIntsT P ts[1]? with
              | true => rw [h1] at h; cases h
              | false =>
                rw [h1, cond_false] at h
                split at h
                · rename_i ep z hep hz
                  split at h
                  · rename_i l hd
                    split at h
                    · cases h
                    · rename_i hne
                      split at h
                      · rename_i m ro hx
                        cases hs : (Nat.beq ep.size ie.size && Nat.beq z.cells.size ie.size) with
                        | false => rw [hs] at h; cases h
                        | true =>
                          rw [hs, cond_true] at h
                          have hs := Bool.and_eq_true_iff.1 hs
                          cases hlt : decide (l.length + m.length < 68719476736) with
                          | false => rw [hlt] at h; cases h
                          | true =>
                            rw [hlt] at h
                            cases h
                            exact .rows t e ie ep z l m ro ht hu hie hb hnm (fun k hk => hni k hk) hep hz hd (fun k hk => hne k hk) hx ⟨Nat.eq_of_beq_eq_true hs.1, Nat.eq_of_beq_eq_true hs.2⟩ h1 (of_decide_eq_true hlt) rfl rfl
                      · cases h
                  · cases h
                · cases h
      · cases h
    · cases h
  · cases h
theorem app_ty {P : Program} {ts : Array TypeId} {hp : Hp} {nm : Nat} {s x : AV} {γ : Type} {F : AV → Hp → Option γ} {r : γ} (h : appK P ts hp nm s x F = some r) : tyOk P ts[1]? = true := by
  unfold appK at h
  split at h
  · split at h
    · split at h
      · cases hb : tyOk P ts[1]? with
        | true => rfl
        | false => rw [hb, Bool.and_false, Bool.false_and] at h; cases h
      · cases h
    · cases h
  · cases h
structure CopyOk (P : Program) (ts : Array TypeId) (hp : Hp) (d x : AV) (v : AV) (hp' : Hp) : Prop where
  ok : ∃ t e ie n p es off len cap tree k m l s tree', ts[0]? = some t ∧ P.underlying t = some (.slice e) ∧ P.info? e = some ie ∧ d = .x (.sla n p es off len cap) ∧ hp.getD n none = some tree ∧
    tree.isFz = false ∧ tree.isObj = false ∧ sub p tree = some (.arr k m l) ∧ es = 1 ∧ ie.size = 1 ∧ off + len ≤ m ∧
    ((∃ s', x = .str s' ∧ k = .u8 ∧ s = intL s') ∨ ∃ ro, slRes hp (.int k) x = some ([.l s], ro)) ∧ put p tree (.arr k m (cpyList l off len s)) = some tree' ∧
    v = .int .i64 ((min s.length len : Nat) : Int) ∧ hp' = setP none hp n (some tree')
theorem copy_ok {P : Program} {ts : Array TypeId} {hp : Hp} {d x v : AV} {hp' : Hp} (h : copyK P ts hp d x (fun v h => some (v, h)) = some (v, hp')) : CopyOk P ts hp d x v hp' := by
  unfold copyK at h
  split at h
  · rename_i t ht
    split at h
    · rename_i e hu
      split at h
      · rename_i ie hie
        split at h
        · rename_i n p es off len cap
          split at h
          · rename_i tree htr
            cases hf : tree.isFz with
            | true => rw [hf] at h; cases h
            | false =>
              cases ho : tree.isObj with
              | true => rw [hf, ho] at h; cases h
              | false =>
                rw [hf, ho] at h
                simp only [Bool.or_self, cond_false] at h
                split at h
                · rename_i k m l hs
                  cases h1 : Nat.beq es 1 with
                  | false => rw [h1] at h; cases h
                  | true =>
                    cases h2 : Nat.beq ie.size 1 with
                    | false => rw [h1, h2] at h; cases h
                    | true =>
                      cases h3 : Nat.ble (off + len) m with
                      | false => rw [h1, h2, h3] at h; cases h
                      | true =>
                        rw [h1, h2, h3] at h
                        simp only [Bool.and_self, cond_true] at h
                        obtain ⟨s, h, hm⟩ := srcInts_some h
                        split at h
                        · rename_i tree' hp'
                          cases h
                          rcases hm with ⟨hm, _⟩ | ⟨_, hm⟩
                          · cases hm
                          · exact ⟨t, e, ie, n, p, es, off, len, cap, tree, k, m, l, s, tree', ht, hu, hie, rfl, htr, hf, ho, hs, Nat.eq_of_beq_eq_true h1, Nat.eq_of_beq_eq_true h2, Nat.le_of_ble_eq_true h3, hm, hp', rfl, rfl⟩
                        · cases h
                · cases h
          · cases h
        · cases h
      · cases h
    · cases h
  · cases h

theorem put_isObj : ∀ (p : List Sel) (v x v' : AV), put p v x = some v' → x.isObj = false → v'.isObj = false
  | [], v, x, v', h, hx => by
    simp only [put, putK] at h
    cases hb : Nat.beq v.size x.size with
    | false => simp [hb] at h
    | true => simp only [hb, cond_true, Option.some.injEq] at h; subst h; exact hx
  | .fld o i :: p, .agg ts, x, v', h, hx => by
    simp only [put, putK] at h
    cases ht : ts[i]? with
    | none => simp [ht] at h
    | some t =>
      simp only [ht] at h
      cases hb : Nat.beq (AV.sizeL (ts.take i)) o with
      | false => simp [hb] at h
      | true =>
        simp only [hb, cond_true] at h
        rw [putK_eq] at h
        cases hp : put p t x with
        | none => simp [hp] at h
        | some u => simp only [hp, Option.bind_some, Option.some.injEq] at h; subst h; rfl
  | [.elt i], .arr k n l, .int k' m, v', h, _ => by
    simp only [put, putK] at h
    cases hk : decide (k' = k) with
    | false => simp [hk] at h
    | true =>
      cases hb : Nat.blt i n with
      | false => simp [hk, hb] at h
      | true => simp only [hk, hb, cond_true, Option.some.injEq] at h; subst h; rfl
  | [.elt i], .arr .., .bool _, v', h, _ => by simp [putK, put] at h
  | [.elt i], .arr .., .str _, v', h, _ => by simp [putK, put] at h
  | [.elt i], .arr .., .nil, v', h, _ => by simp [putK, put] at h
  | [.elt i], .arr .., .ptr .., v', h, _ => by simp [putK, put] at h
  | [.elt i], .arr .., .arr .., v', h, _ => by simp [putK, put] at h
  | [.elt i], .arr .., .agg _, v', h, _ => by simp [putK, put] at h
  | [.elt i], .arr .., .tup _, v', h, _ => by simp [putK, put] at h
  | [.elt i], .arr .., .fn _, v', h, _ => by simp [putK, put] at h
  | [.elt i], .arr .., .lit _, v', h, _ => by simp [putK, put] at h
  | [.elt i], .arr .., .x _, v', h, _ => by simp [putK, put] at h
  | [.elt i], .arr .., .fz _, v', h, _ => by simp [putK, put] at h
  | .elt i :: s :: p, .arr k n l, x, v', h, _ => by simp [putK, put] at h
  | .fld o i :: p, .arr .., x, v', h, _ => by simp [putK, put] at h
  | .fld o i :: p, .int .., x, v', h, _ => by simp [putK, put] at h
  | .fld o i :: p, .bool .., x, v', h, _ => by simp [putK, put] at h
  | .fld o i :: p, .str .., x, v', h, _ => by simp [putK, put] at h
  | .fld o i :: p, .nil, x, v', h, _ => by simp [putK, put] at h
  | .fld o i :: p, .ptr .., x, v', h, _ => by simp [putK, put] at h
  | .fld o i :: p, .tup .., x, v', h, _ => by simp [putK, put] at h
  | .fld o i :: p, .fn .., x, v', h, _ => by simp [putK, put] at h
  | .fld o i :: p, .lit .., x, v', h, _ => by simp [putK, put] at h
  | .fld o i :: p, .x .., x, v', h, _ => by simp [putK, put] at h
  | .fld o i :: p, .fz .., x, v', h, _ => by simp [putK, put] at h
  | .elt i :: p, .int .., x, v', h, _ => by cases p <;> simp [putK, put] at h
  | .elt i :: p, .bool .., x, v', h, _ => by cases p <;> simp [putK, put] at h
  | .elt i :: p, .str .., x, v', h, _ => by cases p <;> simp [putK, put] at h
  | .elt i :: p, .nil, x, v', h, _ => by cases p <;> simp [putK, put] at h
  | .elt i :: p, .ptr .., x, v', h, _ => by cases p <;> simp [putK, put] at h
  | .elt i :: p, .tup .., x, v', h, _ => by cases p <;> simp [putK, put] at h
  | .elt i :: p, .fn .., x, v', h, _ => by cases p <;> simp [putK, put] at h
  | .elt i :: p, .lit .., x, v', h, _ => by cases p <;> simp [putK, put] at h
  | .elt i :: p, .x .., x, v', h, _ => by cases p <;> simp [putK, put] at h
  | .elt i :: p, .fz .., x, v', h, _ => by cases p <;> simp [putK, put] at h
  | .elt i :: p, .agg .., x, v', h, _ => by cases p <;> simp [putK, put] at h
theorem arr_has {k : IntKind} {n : Nat} {l : List Int} : ∀ m, ¬ (AV.arr k n l).has m := by simp [AV.has]

theorem bs_len {P : Program} {t : TypeId} {len : Nat} {ps : List (Nat × Operand)} {hp : Hp} {nm : Nat} {vs : List AV} {v : AV} {news : List AV} (h : bsV P t len ps hp nm vs (fun v n => some (v, n)) = some (v, news)) : news.length ≤ 1 := by
  unfold bsV at h
  split at h
  · split at h
    · revert h
      generalize bsOk _ _ _ _ = c
      cases c with
      | false => intro h; cases h
      | true =>
        simp only [cond_true]
        intro h
        split at h
        · split at h
          · revert h
            cases Nat.beq _ 1 with
            | false => intro h; cases h
            | true => intro h; cases h; simp
          · cases h
        · split at h
          · split at h
            · revert h
              cases Nat.beq _ _ with
              | false => intro h; cases h
              | true => intro h; cases h; simp
            · cases h
          · cases h
    · cases h
  · cases h
theorem frzN_none {hp : Hp} {n j : Nat} (h : hp.getD j none = none) : (frzN hp n).getD j none = none := by
  have key : ∀ t t' : AV, hp.getD n none = some t → (setP none hp n (some t')).getD j none = none := by
    intro t t' hn
    rw [getD_setP, if_neg (fun e => by rw [e, h] at hn; cases hn)]
    exact h
  unfold frzN
  split
  · rename_i hn; exact key _ _ hn
  · rename_i hn; exact key _ _ hn
  · exact h
  · exact h
  · rename_i hn; exact key _ _ hn
  · exact h
mutual
theorem frzV_none : ∀ (v : AV) (hp : Hp) {j : Nat}, hp.getD j none = none → (frzV hp v).getD j none = none
  | .x (.sln n _), hp, j, h => by simp only [frzV]; exact frzN_none h
  | .x (.sla n ..), hp, j, h => by simp only [frzV]; exact frzN_none h
  | .x (.eptr ..), hp, _, h | .x (.aptr ..), hp, _, h | .x (.obj _), hp, _, h => by simp only [frzV]; exact h
  | .agg vs, hp, j, h => by simp only [frzV]; exact frzL_none vs hp h
  | .int .., hp, _, h | .bool _, hp, _, h | .str _, hp, _, h | .nil, hp, _, h | .ptr .., hp, _, h | .arr .., hp, _, h | .tup _, hp, _, h | .fn _, hp, _, h | .lit _, hp, _, h | .fz _, hp, _, h => by simp only [frzV]; exact h
theorem frzL_none : ∀ (vs : List AV) (hp : Hp) {j : Nat}, hp.getD j none = none → (frzL hp vs).getD j none = none
  | [], hp, j, h => by simp only [frzL]; exact h
  | v :: vs, hp, j, h => by simp only [frzL]; exact frzL_none vs _ (frzV_none v hp h)
end

theorem mem_closed {P : Program} {op : Op} {vs : List AV} {hp hp' : Hp} {nm : Nat} {v : AV} (h : memV P op vs hp nm (fun v h => some (v, h)) = some (v, hp'))
    (hf : hp.getD nm none = none) (hh : ClosedH hp) (hv : ∀ u ∈ vs, ClosedV hp u) : Grows hp hp' ∧ ClosedV hp' v := by
  unfold memV at h
  split at h
  · split at h
    · rename_i s x _
      have hs := hv s (by simp)
      have ha := app_ok h
      have hdst : (∃ k l, dstInts hp k s = some l) ∨ ∃ e l, dstRows hp e s = some l := by
        cases ha with
        | ints t e ie k z l m _ _ _ _ _ _ _ hd => exact .inl ⟨_, _, hd⟩
        | rows t e ie ep z l m ro _ _ _ _ _ _ _ _ hd => exact .inr ⟨_, _, hd⟩
      have key : Grows hp (killV hp s) ∧ (killV hp s).getD nm none = none := by
        refine ⟨kill_grows hdst hs, ?_⟩
        unfold killV
        split
        · rename_i n len
          obtain ⟨t, ht⟩ := hs (.nm n) (by simp [AV.has, XV.has])
          rw [getD_setP, if_neg (fun e => by rw [e] at ht; rw [ht] at hf; cases hf)]
          exact hf
        · exact hf
      have fin : ∀ o : HObj, ∀ len, (AV.x (.obj o)).lenOk len → Grows hp (setP none (killV hp s) nm (some (.x (.obj o)))) ∧ ClosedV (setP none (killV hp s) nm (some (.x (.obj o)))) (.x (.sln nm len)) := by
        intro o len hl
        refine ⟨key.1.trans (grows_add key.2 obj_has), fun m hm => ?_⟩
        simp only [AV.has, XV.has] at hm
        rcases hm with rfl | rfl
        · exact ⟨_, by rw [getD_setP, if_pos rfl]⟩
        · exact ⟨_, by rw [getD_setP, if_pos rfl], hl⟩
      cases ha with
      | ints t e ie k z l m _ _ _ _ _ _ _ _ _ _ _ hv hh => subst hv; subst hh; exact fin (.ints k (l ++ m) true) (l ++ m).length rfl
      | rows t e ie ep z l m ro _ _ _ _ _ _ _ _ _ _ _ _ _ _ hv hh => subst hv; subst hh; exact fin (.row ep (l ++ m) true) (l ++ m).length rfl
    · obtain ⟨t, e, ie, n, p, es, off, len, cap, tree, k, m, l, s, tree', _, _, _, _, htr, hfz, ho, hs, _, _, _, _, hput, rfl, rfl⟩ := (copy_ok h).ok
      refine ⟨grows_put htr (leq_tree ho) (fun m hm => ?_), closed_none (by simp [AV.has])⟩
      rcases put_has _ _ _ _ hput m hm with h | h
      · exact h
      · exact absurd h (arr_has m)
    · cases h
  · split at h
    · unfold nextK at h
      revert h
      cases ‹Bool› with
      | false => intro h; cases h
      | true =>
        simp only [cond_true]
        intro h
        split at h
        · split at h
          · rename_i st pos hn
            revert h
            cases decide (pos < st.length) with
            | false => intro h; cases h; exact ⟨Grows.refl hp, closed_none (by simp [AV.has, AV.hasL])⟩
            | true =>
              intro h; cases h
              exact ⟨grows_put hn ⟨fun _ h => h, fun _ h => h⟩ (fun m hm => absurd hm (obj_has m)), closed_none (by simp [AV.has, AV.hasL])⟩
          · cases h
        · cases h
    · cases h
  · rename_i t len ps
    split at h
    · have hg := frzL_grows vs hp
      rw [bsV_eq] at h
      cases hb : bsV P t len ps.toList (frzL hp vs) nm vs (fun v n => some (v, n)) with
      | none => rw [hb] at h; cases h
      | some y =>
        obtain ⟨v', news⟩ := y
        rw [hb, Option.bind_some] at h
        cases h
        rename_i hnm
        have hv' : ∀ u ∈ vs, ClosedV (frzL hp vs) u := fun u hu m hm => hg.pres m (hv u hu m hm)
        have hlk : lookV P (fun _ => none) (.buildSlice t len ps) vs (frzL hp vs) nm (fun v n => some (v, n)) = some (_, news) := hb
        have hlen : ∀ i, i < news.length → (frzL hp vs).getD (nm + i) none = none := by
          intro i hi
          have h1 : news.length ≤ 1 := bs_len hb
          have : i = 0 := by omega
          subst this
          exact frzL_none vs hp hnm
        obtain ⟨h1, h2⟩ := look_closed hlk (hg.closed hh) hv' hlen
        exact ⟨hg.trans (grows_addL hlen h2), h1⟩
    · cases h
  · cases h

/-! ranges -/
def LFns (G : FuncId → Option LFn) : Prop := ∀ f F, G f = some F → F.Ranges
theorem wf_put {hp : Hp} {n : Nat} {t : AV} (h : WfH hp) (ht : t.wf) : WfH (setP none hp n (some t)) := fun k v hk => by
  rw [getD_setP] at hk
  by_cases e : n = k
  · rw [if_pos e] at hk; cases hk; exact ht
  · rw [if_neg e] at hk; exact h k v hk
theorem wf_addL : ∀ {news : List AV} {hp : Hp} {nm : Nat}, WfH hp → (∀ u ∈ news, u.wf) → WfH (addL hp nm news)
  | [], hp, nm, h, _ => h
  | u :: us, hp, nm, h, hu => wf_addL (news := us) (hp := setP none hp nm (some u)) (nm := nm + 1) (wf_put h (hu u (List.mem_cons_self ..))) (fun v hv => hu v (by simp [hv]))
theorem unfz_wf {t tr : AV} (h : unfz t = some tr) (hw : t.wf) : tr.wf := by
  unfold unfz at h
  split at h
  · cases h; simpa only [AV.wf] using hw
  · cases h
  · cases h; exact hw
theorem subList_in {k : IntKind} {off len m : Nat} {l : List Int} (h : ∀ y ∈ l, inK k y) : ∀ y ∈ subList off len m l, inK k y := by
  intro y hy
  unfold subList at hy
  revert hy
  cases (Nat.beq _ 0 && Nat.beq _ m) with
  | true => exact h y
  | false => intro hy; exact h y (List.mem_of_mem_drop (List.mem_of_mem_take hy))
theorem subList_len {off len : Nat} {l : List Int} (h : off + len ≤ l.length) : (subList off len l.length l).length = len := by
  unfold subList
  cases hc : (Nat.beq off 0 && Nat.beq len l.length) with
  | true =>
    simp only [Bool.and_eq_true] at hc
    simp only [cond_true]; exact (Nat.eq_of_beq_eq_true hc.2).symm
  | false => simp only [cond_false, List.length_take, List.length_drop]; omega
theorem getD_in {k : IntKind} {l : List Int} (h : ∀ y ∈ l, inK k y) (j : Nat) (hj : j < l.length) : inK k (l.getD j 0) := by
  rw [List.getD_eq_getElem?_getD, List.getElem?_eq_getElem hj]
  exact h _ (List.getElem_mem hj)
theorem ldArr_wf {P : Program} {t : TypeId} {k : IntKind} {off : Nat} {l : List Int} {v : AV} {news : List AV} (h : ldArr P t k l.length off l (fun v n => some (v, n)) = some (v, news)) (hl : ∀ y ∈ l, inK k y) :
    v.wf ∧ ∀ u ∈ news, u.wf := by
  unfold ldArr at h
  split at h
  · rename_i N _ _
    cases h1 : fits P t (.arr k N []) with
    | false => rw [h1] at h; cases h
    | true =>
      cases h2 : Nat.ble (off + N) l.length with
      | false => rw [h1, h2] at h; cases h
      | true =>
        rw [h1, h2] at h
        cases h
        have hle := Nat.le_of_ble_eq_true h2
        refine ⟨?_, by simp⟩
        simp only [AV.wf]
        have hsl := subList_len hle
        exact ⟨hsl, fun j hj => getD_in (subList_in hl) j (by omega)⟩
  · cases h
theorem zero_in (k : IntKind) : inK k 0 := by cases k <;> simp [inK]
theorem row_getD {e : Ep} {l : List (List Hv)} {i : Nat} (h : ∀ x ∈ l, e.wf x 0) (hi : i < l.length) : e.wf (l.getD i []) 0 := by
  rw [List.getD_eq_getElem?_getD, List.getElem?_eq_getElem hi]
  exact h _ (List.getElem_mem hi)
theorem slL_mem {α : Type} {lo hi : Bool} {s : List α} {l h : Nat} {x : α} (hx : x ∈ slL lo hi s l h) : x ∈ s := by
  cases lo <;> cases hi <;> simp only [slL] at hx
  · exact hx
  · exact List.mem_of_mem_take hx
  · exact List.mem_of_mem_drop hx
  · exact List.mem_of_mem_take (List.mem_of_mem_drop hx)
theorem bs_wf {P : Program} {t : TypeId} {len : Nat} {ps : List (Nat × Operand)} {hp : Hp} {nm : Nat} {vs : List AV} {v : AV} {news : List AV} (h : bsV P t len ps hp nm vs (fun v n => some (v, n)) = some (v, news))
    (hh : WfH hp) (hv : ∀ u ∈ vs, u.wf) : v.wf ∧ ∀ u ∈ news, u.wf := by
  unfold bsV at h
  split at h
  · split at h
    · rename_i ie hie
      cases hc : bsOk ps len ie vs with
      | false => rw [hc] at h; cases h
      | true =>
        rw [hc, cond_true] at h
        have hl : vs.length < 9223372036854775808 := by
          unfold bsOk at hc
          simp only [Bool.and_eq_true] at hc
          have h1 := Nat.eq_of_beq_eq_true hc.1.2
          have h2 := Nat.le_of_ble_eq_true hc.2
          omega
        split at h
        · split at h
          · rename_i k _ l hi
            obtain ⟨g1, g2⟩ := intsOf_wf vs l hi hv
            revert h
            cases Nat.beq _ 1 with
            | false => intro h; cases h
            | true =>
              intro h; cases h
              refine ⟨by simp only [AV.wf, XV.wf]; omega, fun u hu => ?_⟩
              simp only [List.mem_singleton] at hu
              subst hu
              simp only [AV.wf, XV.wf, HObj.wf]
              exact ⟨by omega, g2⟩
          · cases h
        · split at h
          · rename_i ep _
            split at h
            · rename_i l hi
              obtain ⟨g1, g2⟩ := resRows_wf hh ep vs l hi hv
              revert h
              cases Nat.beq _ _ with
              | false => intro h; cases h
              | true =>
                intro h; cases h
                refine ⟨by simp only [AV.wf, XV.wf]; omega, fun u hu => ?_⟩
                simp only [List.mem_singleton] at hu
                subst hu
                simp only [AV.wf, XV.wf, HObj.wf]
                exact ⟨by omega, g2⟩
            · cases h
          · cases h
    · cases h
  · cases h
set_option maxHeartbeats 1000000 in
theorem look_wf {P : Program} {G : FuncId → Option LFn} (hG : LFns G) {op : Op} {vs : List AV} {hp : Hp} {nm : Nat} {v : AV} {news : List AV}
    (h : lookV P G op vs hp nm (fun v n => some (v, n)) = some (v, news)) (hh : WfH hp) (hv : ∀ u ∈ vs, u.wf) (hc : ∀ u ∈ vs, ClosedV hp u) : v.wf ∧ ∀ u ∈ news, u.wf := by
  unfold lookV at h
  split at h
  · split at h
    · rename_i x
      have hx := hv x (by simp)
      have hcx := hc x (by simp)
      unfold ldV at h
      split at h
      · split at h
        · rename_i tree ht
          split at h
          · rename_i tr htr
            rw [subK_eq] at h
            cases hs : sub _ tr with
            | none => rw [hs] at h; cases h
            | some u =>
              rw [hs, Option.bind_some] at h
              revert h
              cases fits P _ u with
              | false => intro h; cases h
              | true =>
                intro h; cases h
                exact ⟨sub_wf _ _ _ hs (unfz_wf htr (hh _ _ ht)), by simp⟩
          · cases h
        · cases h
      · rename_i n es i p
        obtain ⟨q, hq, hgt⟩ := hcx (.gt n i) (by simp [AV.has, XV.has])
        split at h
        · rename_i k l rw hr
          have hw := hh _ _ hr
          simp only [AV.wf, XV.wf, HObj.wf] at hw
          rw [hr] at hq; cases hq
          simp only [AV.gtOk] at hgt
          split at h
          · revert h
            cases Nat.beq _ 1 with
            | false => intro h; cases h
            | true =>
              simp only [cond_true]
              cases fits P _ _ with
              | true =>
                intro h; cases h
                refine ⟨?_, by simp⟩
                simp only [AV.wf]
                exact getD_in hw.2 i hgt
              | false => intro h; exact ldArr_wf h hw.2
          · cases h
        · rename_i e l rw hr
          have hw := hh _ _ hr
          simp only [AV.wf, XV.wf, HObj.wf] at hw
          rw [hr] at hq; cases hq
          simp only [AV.gtOk] at hgt
          revert h
          cases Nat.beq _ _ with
          | false => intro h; cases h
          | true =>
            simp only [cond_true]
            intro h
            rw [subK_eq] at h
            cases hs : sub _ (e.mk _ _ _) with
            | none => rw [hs] at h; cases h
            | some u =>
              rw [hs, Option.bind_some] at h
              revert h
              cases fits P _ u with
              | false => intro h; cases h
              | true =>
                intro h; cases h
                have := mk_wf e false (l.getD i []) 0 nm (row_getD hw.2 hgt)
                exact ⟨sub_wf _ _ _ hs this.1, this.2⟩
        · cases h
      · split at h
        · rename_i tree ht
          split at h
          · rename_i tr htr
            split at h
            · rename_i k m l hs
              have hw := sub_wf _ _ _ hs (unfz_wf htr (hh _ _ ht))
              simp only [AV.wf] at hw
              revert h
              cases Nat.beq _ _ with
              | false => intro h; cases h
              | true =>
                intro h
                have : m = l.length := hw.1.symm
                subst this
                refine ldArr_wf h (fun y hy => ?_)
                obtain ⟨j, hj, rfl⟩ := List.getElem_of_mem hy
                have := hw.2 j hj
                rwa [List.getD_eq_getElem?_getD, List.getElem?_eq_getElem hj] at this
            · cases h
          · cases h
        · cases h
      · cases h
    · cases h
  · unfold slV at h
    split at h
    · revert h
      cases (Option.isSome _ || slBad P _ hp vs) with
      | true => intro h; cases h
      | false =>
        simp only [cond_false]
        intro h
        split at h
        · rename_i n len r
          have hsl := hc _ (List.mem_cons_self ..) (.ln n len) (by simp [AV.has, XV.has])
          have hlen := hv _ (List.mem_cons_self ..)
          simp only [AV.wf, XV.wf] at hlen
          obtain ⟨t, ht, hl⟩ := hsl
          split at h
          · rename_i k l rw hr
            have hw := hh _ _ hr
            simp only [AV.wf, XV.wf, HObj.wf] at hw
            rw [hr] at ht
            cases ht
            simp only [AV.lenOk] at hl
            revert h
            cases rw with
            | true => intro h; cases h
            | false =>
              simp only [cond_false]
              intro h
              obtain ⟨hh', a, h, h1, h2, h3, h4, _⟩ := bnds h
              cases h
              refine ⟨by simp only [AV.wf, XV.wf]; omega, fun u hu => ?_⟩
              simp only [List.mem_singleton] at hu
              subst hu
              simp only [AV.wf, XV.wf, HObj.wf]
              exact ⟨Nat.lt_of_le_of_lt (slL_len ..) hw.1, fun y hy => hw.2 y (slL_mem hy)⟩
          · rename_i e l rw hr
            have hw := hh _ _ hr
            simp only [AV.wf, XV.wf, HObj.wf] at hw
            rw [hr] at ht
            cases ht
            simp only [AV.lenOk] at hl
            revert h
            cases rw with
            | true => intro h; cases h
            | false =>
              simp only [cond_false]
              intro h
              obtain ⟨hh', a, h, h1, h2, h3, h4, _⟩ := bnds h
              cases h
              refine ⟨by simp only [AV.wf, XV.wf]; omega, fun u hu => ?_⟩
              simp only [List.mem_singleton] at hu
              subst hu
              simp only [AV.wf, XV.wf, HObj.wf]
              exact ⟨Nat.lt_of_le_of_lt (slL_len ..) hw.1, fun y hy => hw.2 y (slL_mem hy)⟩
          · cases h
        · obtain ⟨hh', a, h, _⟩ := bnds h
          cases h
          exact ⟨by simp only [AV.wf], by simp⟩
        · cases h
    · cases h
  · split at h
    · rename_i x
      have hx := hv x (by simp)
      unfold cvV at h
      split at h
      · revert h
        cases isK P _ _ with
        | false => intro h; cases h
        | true =>
          simp only [cond_true]
          intro h
          split at h
          · rename_i l _ hs
            cases h
            have := (slRes_wf hs hh hx).2 [] []
            simp only [Ep.wf, hl, List.nil_append, List.append_nil, List.length_nil, List.getElem?_cons_zero] at this
            refine ⟨?_, by simp⟩
            simp only [AV.wf, byteL_len]
            exact this.1
          · cases h
      · revert h
        cases isK P _ _ with
        | false => intro h; cases h
        | true =>
          simp only [cond_true]
          intro h
          split at h
          · rename_i a
            cases h
            simp only [AV.wf] at hx
            refine ⟨by simp only [AV.wf, XV.wf]; exact hx, fun u hu => ?_⟩
            simp only [List.mem_singleton] at hu
            subst hu
            simp only [AV.wf, XV.wf, HObj.wf]
            exact ⟨by simpa [intL] using hx, intL_in a⟩
          · cases h
      · cases h
    · cases h
  · exact bs_wf h hh hv
  · unfold mkV at h
    split at h
    · split at h
      · rename_i ie k k' z hie hk hz
        split at h
        · rename_i _ l _ c
          cases hc0 : mkOk k' k ie with
          | false => rw [hc0] at h; cases h
          | true =>
            have hkk : k' = k := by
              unfold mkOk at hc0
              simp only [Bool.and_eq_true] at hc0
              exact of_decide_eq_true hc0.1.1
            subst hkk
            rw [hc0, cond_true] at h
            cases h1 : inB c 68719476736 with
            | false => rw [h1] at h; cases h
            | true =>
              rw [h1, cond_true] at h
              cases h2 : inB l (c.toNat + 1) with
              | false => rw [h2] at h; cases h
              | true =>
                rw [h2] at h
                cases h
                have b1 := inB_iff.1 h1
                have b2 := inB_iff.1 h2
                have hzw : inK k' z := by
                  obtain ⟨i, z', _, _, _, _, hw⟩ := zeroA_spec hz
                  simpa only [AV.wf] using hw
                have hll : (List.replicate l.toNat z).length < 9223372036854775808 := by rw [List.length_replicate]; omega
                refine ⟨by simp only [AV.wf, XV.wf]; exact hll, fun u hu => ?_⟩
                simp only [List.mem_singleton] at hu
                subst hu
                simp only [AV.wf, XV.wf, HObj.wf]
                exact ⟨hll, fun y hy => by rw [List.eq_of_mem_replicate hy]; exact hzw⟩
        · cases h
      · cases h
    · cases h
  · split at h
    · rename_i x
      have hx := hv x (by simp)
      unfold rgV at h
      split at h
      · cases h
        simp only [AV.wf] at hx
        refine ⟨by simp only [AV.wf], fun u hu => ?_⟩
        simp only [List.mem_singleton] at hu
        subst hu
        simp only [AV.wf, XV.wf, HObj.wf]
        exact hx
      · cases h
    · cases h
  · split at h
    · unfold apV at h
      split at h
      · split at h
        · revert h
          cases (_ && _) with
          | false => intro h; cases h
          | true => intro h; cases h; exact ⟨by simp only [AV.wf, XV.wf], by simp⟩
        · revert h
          cases Nat.ble _ _ with
          | false => intro h; cases h
          | true => intro h; cases h; exact ⟨by simp only [AV.wf, XV.wf], by simp⟩
        · cases h
      · cases h
    · cases h
  · split at h
    · split at h
      · rename_i F _ vs' hF
        unfold clV at h
        split at h
        · rename_i hs ro hres
          have hw := resL_wf hh F.ins vs' hs ro hres (wfL_of fun u hu => hv u (by simp [hu]))
          have hw2 := hw.2 [] []
          simp only [List.nil_append, List.append_nil, List.length_nil] at hw2
          revert h
          cases (_ || _) with
          | false => intro h; cases h
          | true =>
            simp only [cond_true]
            intro h
            cases hr : F.fn hs with
            | none => rw [hr] at h; cases h
            | some r =>
              rw [hr, Option.bind_some] at h
              have hR := hG _ _ hF hs r hr hw2
              cases h
              revert hR
              cases F.out with
              | blk e =>
                intro hR
                refine ⟨by simp only [LOut.mk, AV.wf], fun u hu => ?_⟩
                rw [List.mem_singleton.1 hu]
                cases e.flat with
                | true => exact (mk_wf e F.own r 0 0 hR).1
                | false => simp only [cond_false, AV.wf]
              | one e => intro hR; exact mk_wf e F.own r 0 nm hR
              | tup es =>
                intro hR
                have := mkL_wf es F.own r 0 nm hR
                exact ⟨by simp only [LOut.mk, AV.wf]; exact this.1, this.2⟩
        · cases h
      · cases h
    · cases h
  · cases h

theorem slRes_ints {hp : Hp} {k : IntKind} {v : AV} {l : List Int} {ro : Bool} (h : slRes hp (.int k) v = some ([.l l], ro)) (hh : WfH hp) (hv : v.wf) : l.length < 9223372036854775808 ∧ ∀ y ∈ l, inK k y := by
  have := (slRes_wf h hh hv).2 [] []
  simpa only [Ep.wf, hl, List.nil_append, List.append_nil, List.length_nil, List.getElem?_cons_zero] using this
theorem slRes_rows {hp : Hp} {e : Ep} {v : AV} {l : List (List Hv)} {ro : Bool} (he : ∀ k, e ≠ .int k) (h : slRes hp e v = some ([.r l], ro)) (hh : WfH hp) (hv : v.wf) : l.length < 9223372036854775808 ∧ ∀ y ∈ l, e.wf y 0 := by
  have := (slRes_wf h hh hv).2 [] []
  cases e with
  | int k => exact absurd rfl (he k)
  | _ => simpa only [Ep.wf, hr, List.nil_append, List.append_nil, List.length_nil, List.getElem?_cons_zero] using this
theorem dstInts_wf {hp : Hp} {k : IntKind} {v : AV} {l : List Int} (h : dstInts hp k v = some l) (hh : WfH hp) : ∀ y ∈ l, inK k y := by
  unfold dstInts at h
  split at h
  · cases h; simp
  · split at h
    · rename_i k' l' hn
      have hw := hh _ _ hn
      simp only [AV.wf, XV.wf, HObj.wf] at hw
      cases hk : decide (k' = k) with
      | false => rw [hk] at h; cases h
      | true =>
        have := of_decide_eq_true hk
        subst this
        rw [hk] at h; cases h; exact hw.2
    · cases h
  · cases h
theorem dstRows_wf {hp : Hp} {e : Ep} {v : AV} {l : List (List Hv)} (h : dstRows hp e v = some l) (hh : WfH hp) : ∀ y ∈ l, e.wf y 0 := by
  unfold dstRows at h
  split at h
  · cases h; simp
  · split at h
    · rename_i e' l' hn
      have hw := hh _ _ hn
      simp only [AV.wf, XV.wf, HObj.wf] at hw
      cases hk : Ep.beq e' e with
      | false => rw [hk] at h; cases h
      | true =>
        have := Ep.beq_eq _ _ hk
        subst this
        rw [hk] at h; cases h; exact hw.2
    · cases h
  · cases h
theorem kill_wf {hp : Hp} {v : AV} (h : WfH hp) : WfH (killV hp v) := by
  unfold killV
  split
  · exact wf_put h (by simp only [AV.wf, XV.wf, HObj.wf])
  · exact h
theorem frzN_wf {hp : Hp} {n : Nat} (h : WfH hp) : WfH (frzN hp n) := by
  unfold frzN
  split
  · rename_i hn; have := h _ _ hn; exact wf_put h (by simpa only [AV.wf, XV.wf, HObj.wf] using this)
  · rename_i hn; have := h _ _ hn; exact wf_put h (by simpa only [AV.wf, XV.wf, HObj.wf] using this)
  · exact h
  · exact h
  · rename_i hn; have := h _ _ hn; exact wf_put h (by simpa only [AV.wf] using this)
  · exact h
mutual
theorem frzV_wf : ∀ (v : AV) {hp : Hp}, WfH hp → WfH (frzV hp v)
  | .x (.sln n _), hp, h => by simp only [frzV]; exact frzN_wf h
  | .x (.sla n ..), hp, h => by simp only [frzV]; exact frzN_wf h
  | .x (.eptr ..), hp, h | .x (.aptr ..), hp, h | .x (.obj _), hp, h => by simp only [frzV]; exact h
  | .agg vs, hp, h => by simp only [frzV]; exact frzL_wf vs h
  | .int .., hp, h | .bool _, hp, h | .str _, hp, h | .nil, hp, h | .ptr .., hp, h | .arr .., hp, h | .tup _, hp, h | .fn _, hp, h | .lit _, hp, h | .fz _, hp, h => by simp only [frzV]; exact h
theorem frzL_wf : ∀ (vs : List AV) {hp : Hp}, WfH hp → WfH (frzL hp vs)
  | [], hp, h => by simp only [frzL]; exact h
  | v :: vs, hp, h => by simp only [frzL]; exact frzL_wf vs (frzV_wf v h)
end
theorem decode_lt (s : ByteArray) (i : Nat) : (Utf8.decode s i).1 < 2147483648 := by
  unfold Utf8.decode
  dsimp only
  have hb : ∀ n : UInt8, n.toNat < 256 := fun n => n.toNat_lt
  have h0 := hb (s.get! (i + 0))
  have h1 := hb (s.get! (i + 1))
  have h2 := hb (s.get! (i + 2))
  have h3 := hb (s.get! (i + 3))
  (repeat' split) <;> simp only [Utf8.runeError] <;> omega
theorem cpy_len {l s : List Int} {off len : Nat} (h : off + len ≤ l.length) : (cpyList l off len s).length = l.length := by
  unfold cpyList
  simp only [List.length_append, List.length_take, List.length_drop]
  omega
theorem mem_wf {P : Program} {op : Op} {vs : List AV} {hp hp' : Hp} {nm : Nat} {v : AV} (h : memV P op vs hp nm (fun v h => some (v, h)) = some (v, hp'))
    (hh : WfH hp) (hv : ∀ u ∈ vs, u.wf) : v.wf ∧ WfH hp' := by
  unfold memV at h
  split at h
  · split at h
    · rename_i s x _
      have hx := hv x (by simp)
      cases app_ok h with
      | ints t e ie k z l m _ _ _ _ _ _ hz hd _ hm hlt hv' hh' =>
        subst hv'; subst hh'
        have hm' : ∀ y ∈ m, inK k y := by
          rcases hm with ⟨_, k', c, _, _, rfl⟩ | ⟨_, ⟨s, _, rfl, rfl⟩ | ⟨ro, hs⟩⟩
          · obtain ⟨i, z', _, _, _, _, hw⟩ := zeroA_spec hz
            simp only [AV.wf] at hw
            exact fun y hy => by rw [List.eq_of_mem_replicate hy]; exact hw
          · exact intL_in s
          · exact (slRes_ints hs hh hx).2
        have hl : (l ++ m).length < 9223372036854775808 := by rw [List.length_append]; omega
        refine ⟨by simp only [AV.wf, XV.wf]; exact hl, wf_put (kill_wf hh) ?_⟩
        simp only [AV.wf, XV.wf, HObj.wf]
        refine ⟨hl, fun y hy => ?_⟩
        rcases List.mem_append.1 hy with hy | hy
        · exact dstInts_wf hd hh y hy
        · exact hm' y hy
      | rows t e ie ep z l m ro _ _ _ _ _ _ _ _ hd hne hx' _ _ hlt hv' hh' =>
        subst hv'; subst hh'
        have hl : (l ++ m).length < 9223372036854775808 := by rw [List.length_append]; omega
        refine ⟨by simp only [AV.wf, XV.wf]; exact hl, wf_put (kill_wf hh) ?_⟩
        simp only [AV.wf, XV.wf, HObj.wf]
        refine ⟨hl, fun y hy => ?_⟩
        rcases List.mem_append.1 hy with hy | hy
        · exact dstRows_wf hd hh y hy
        · exact (slRes_rows hne hx' hh hx).2 y hy
    · rename_i d x _
      have hx := hv x (by simp)
      have hd := hv d (by simp)
      obtain ⟨t, e, ie, n, p, es, off, len, cap, tree, k, m, l, s, tree', _, _, _, rfl, htr, _, _, hs, _, _, hle, hsrc, hput, rfl, rfl⟩ := (copy_ok h).ok
      have hw := hh _ _ htr
      have hl := sub_wf _ _ _ hs hw
      simp only [AV.wf] at hl
      simp only [AV.wf, XV.wf] at hd
      have hsr : ∀ y ∈ s, inK k y := by
        rcases hsrc with ⟨s', _, rfl, rfl⟩ | ⟨ro, hs⟩
        · exact intL_in s'
        · exact (slRes_ints hs hh hx).2
      have hll : ∀ y ∈ l, inK k y := fun y hy => by
        obtain ⟨j, hj, rfl⟩ := List.getElem_of_mem hy
        have := hl.2 j (by omega)
        rwa [List.getD_eq_getElem?_getD, List.getElem?_eq_getElem hj] at this
      have hc := cpy_len (l := l) (s := s) (off := off) (len := len) (by omega)
      refine ⟨by simp only [AV.wf, inK]; omega, wf_put hh (put_wf _ _ _ _ hput hw ?_)⟩
      simp only [AV.wf]
      refine ⟨by omega, fun j hj => getD_in (fun y hy => ?_) j (by omega)⟩
      unfold cpyList at hy
      rcases List.mem_append.1 hy with hy | hy
      · rcases List.mem_append.1 hy with hy | hy
        · exact hll y (List.mem_of_mem_take hy)
        · exact hsr y (List.mem_of_mem_take hy)
      · exact hll y (List.mem_of_mem_drop hy)
    · cases h
  · split at h
    · unfold nextK at h
      revert h
      cases ‹Bool› with
      | false => intro h; cases h
      | true =>
        simp only [cond_true]
        intro h
        split at h
        · split at h
          · rename_i st pos hn
            have hw := hh _ _ hn
            simp only [AV.wf, XV.wf, HObj.wf] at hw
            cases hp : decide (pos < st.length) with
            | false => rw [hp] at h; cases h; exact ⟨by simp only [AV.wf, AV.wfL, and_self], hh⟩
            | true =>
              rw [hp] at h
              have hlt := of_decide_eq_true hp
              have hd := decode_lt ⟨st.toArray⟩ pos
              simp only [cond_true, Option.some.injEq, Prod.mk.injEq] at h
              rw [← h.1, ← h.2]
              refine ⟨?_, wf_put hh (by simp only [AV.wf, XV.wf, HObj.wf]; exact hw)⟩
              simp only [AV.wf, AV.wfL, inK, and_true, true_and]
              omega
          · cases h
        · cases h
    · cases h
  · split at h
    · rw [bsV_eq] at h
      cases hb : bsV P _ _ _ (frzL hp vs) nm vs (fun v n => some (v, n)) with
      | none => rw [hb] at h; cases h
      | some y =>
        obtain ⟨v', news⟩ := y
        rw [hb, Option.bind_some] at h
        cases h
        obtain ⟨h1, h2⟩ := bs_wf hb (frzL_wf vs hh) hv
        exact ⟨h1, wf_addL (frzL_wf vs hh) h2⟩
    · cases h
  · cases h
end Go.Sim
namespace Go.Sim


structure St where
  tm : Tm
  hp : Hp
  base : Nat

/-- a function that looks at no memory that was there -/
structure PSem where
  run : {β : Type} → List AV → (AV → Option β) → Option β
/-- a function that reads memory, and leaves it -/
structure RSem where
  run : {β : Type} → List AV → Hp → (AV → Option β) → Option β
/-- a function that may write: its arguments, memory, a name for a block of its own -/
structure FSem where
  run : {β : Type} → List AV → Hp → Nat → (AV → Hp → Option β) → Option β

inductive Entry where
  | pure (s : PSem)
  | read (s : RSem)
  | full (s : FSem)
  | look (F : LFn)

/-- the functions that are known; which types are slices', how many slices a type's values hold (outside slices) -/
structure Env where
  fn : FuncId → Option Entry
  sl : TypeId → Bool := fun _ => false
  nest : TypeId → Nat := fun _ => 0
instance : CoeFun Env fun _ => FuncId → Option Entry := ⟨Env.fn⟩
def Env.lk (Γ : Env) : FuncId → Option LFn := fun f =>
  match Γ f with
  | some (.look F) => some F
  | _ => none

def Entry.Law : Entry → Prop
  | .pure s => ∀ (β : Type) (args : List AV) (K : AV → Option β), s.run args K = (s.run args some).bind K
  | .read s => ∀ (β : Type) (args : List AV) (hp : Hp) (K : AV → Option β), s.run args hp K = (s.run args hp some).bind K
  | .full s => ∀ (β : Type) (args : List AV) (hp : Hp) (nm : Nat) (K : AV → Hp → Option β), s.run args hp nm K = (s.run args hp nm (fun v h => some (v, h))).bind fun x => K x.1 x.2
  | .look _ => True
def Env.Law (Γ : Env) : Prop := ∀ f e, Γ f = some e → e.Law

variable {β : Type}

def setT (tm : Tm) (d : Option Tmp) (v : Option AV) : Tm :=
  match d with
  | some d => tm.set d v
  | none => tm

/- a value whose cells are single ones -/
mutual
def AV.oneA : AV → Bool
  | .tup _ => false
  | .agg ts => AV.oneAL ts
  | .fz _ => false
  | .x v => !v.isObj
  | _ => true
def AV.oneAL : List AV → Bool
  | [] => true
  | t :: ts => t.oneA && AV.oneAL ts
end

def ld0 (K : AV → Option β) (v : AV) (news : List AV) : Option β :=
  match news with
  | [] => K v
  | _ :: _ => none
def loadK (P : Program) (tm : Tm) (hp : Hp) (t : TypeId) (x : Operand) (K : AV → Option β) : Option β :=
  match opv tm x with
  | some u => ldV P t hp 0 u (ld0 K)
  | none => none

def storeV (P : Program) (t : TypeId) (hp : Hp) (u v : AV) (K : Hp → Option β) : Option β :=
  match u with
  | .ptr n p =>
    match hp.getD n none with
    | some tree => bif tree.isFz || tree.isObj then none else bif v.oneA && fits P t v then putK p tree v fun tree' => K (setP none hp n (some tree')) else none
    | none => none
  | .x (.eptr n es i p) =>
    match hp.getD n none with
    | some (.x (.obj (.ints k l true))) =>
      match p, v with
      | [], .int k' m => bif decide (k' = k) && Nat.beq es 1 && fits P t v then K (setP none hp n (some (.x (.obj (.ints k (setP 0 l i m) true))))) else none
      | _, _ => none
    | some (.x (.obj (.row e l true))) =>
      bif e.flat && Nat.beq es e.size && (v.oneA && fits P t v) then putK p (e.mk (l.getD i []) 0 0) v fun t' =>
        match e.res [] t' with
        | some (h, _) => K (setP none hp n (some (.x (.obj (.row e (setP [] l i h) true)))))
        | none => none
      else none
    | _ => none
  | _ => none
def storeK (P : Program) (tm : Tm) (hp : Hp) (t : TypeId) (x y : Operand) (K : Hp → Option β) : Option β :=
  match opv tm x with
  | some u =>
    match opv tm y with
    | some v => storeV P t hp u v K
    | none => none
  | none => none

/-- what a new block holds -/
def allocA (P : Program) (tm : Tm) : Op → Option AV
  | .alloc t => match zeroA P t with
    | some v => bif v.oneA then some v else none
    | none => none
  | .box _ x => match opv tm x with
    | some v => bif v.oneA then some v else none
    | none => none
  | _ => none

inductive Cls where
  | val | load | store | alloc | pure (s : PSem) | read (s : RSem) | full (s : FSem) | look (k : Nat) | mem | bad

def cls (Γ : Env) (o : Op) : Cls :=
  match o with
  | .load t _ => match Γ.nest t with
    | 0 => .load
    | k + 1 => .look (k + 1)
  | .store .. => .store
  | .alloc _ => .alloc
  | .box .. => .alloc
  | .slice t .. => bif Γ.sl t then .look 1 else .val
  | .convert s d _ => bif Γ.sl s || Γ.sl d then .look 1 else .val
  | .buildSlice t .. => match Γ.nest t with
    | 0 => .look 1
    | _ + 1 => .mem
  | .makeSlice .. => .look 1
  | .range .. => .look 1
  | .next .. => .mem
  | .sliceToArrayPointer .. => .look 0
  | .call c =>
    match c.callee with
    | .value (.func f) =>
      match Γ f with
      | some (.pure s) => .pure s
      | some (.read s) => .read s
      | some (.full s) => .full s
      | some (.look F) => .look F.out.ns
      | none => .bad
    | .builtin .append => .mem
    | .builtin .copy => .mem
    | .builtin _ => .val
    | _ => .bad
  | .go _ => .bad
  | .defer _ => .bad
  | .select .. => .bad
  | _ => .val

def freeN (hp : Hp) (nm : Nat) : Nat → Bool
  | 0 => true
  | k + 1 => match hp.getD nm none with
    | none => freeN hp (nm + 1) k
    | some _ => false
/-- with so many new blocks at most -/
def atMost (k : Nat) (hp : Hp) (nm : Nat) (K : AV → Hp → Option β) (v : AV) (news : List AV) : Option β :=
  bif Nat.ble news.length k then K v (addL hp nm news) else none
def lookK (P : Program) (Γ : Env) (o : Oper) (k nm : Nat) (tm : Tm) (hp : Hp) (K : AV → Hp → Option β) : Option β :=
  match opvs tm o.op.operands.toList with
  | some vs => bif freeN hp nm k then lookV P Γ.lk o.op vs hp nm (atMost k hp nm K) else none
  | none => none
def memK (P : Program) (o : Oper) (nm : Nat) (tm : Tm) (hp : Hp) (K : AV → Hp → Option β) : Option β :=
  match opvs tm o.op.operands.toList with
  | some vs => match hp.getD nm none with
    | none => memV P o.op vs hp nm K
    | some _ => none
  | none => none

def callArgs (tm : Tm) (o : Op) : Option (List AV) :=
  match o with
  | .call c => opvs tm c.args.toList
  | _ => none

def execK (P : Program) (Γ : Env) (o : Oper) (nm : Nat) (st : St) (K : St → Option β) : Option β :=
  match cls Γ o.op with
  | .val => valK P st.tm o fun v => K ⟨setT st.tm o.dst (some v), st.hp, st.base⟩
  | .load =>
    match o.op with
    | .load t x => loadK P st.tm st.hp t x fun v => K ⟨setT st.tm o.dst (some v), st.hp, st.base⟩
    | _ => none
  | .store =>
    match o.op with
    | .store t x y => storeK P st.tm st.hp t x y fun hp' => K ⟨setT st.tm o.dst none, hp', st.base⟩
    | _ => none
  | .alloc =>
    match allocA P st.tm o.op with
    | some v =>
      match st.hp.getD nm none with
      | none => K ⟨setT st.tm o.dst (some (.ptr nm [])), setP none st.hp nm (some v), st.base⟩
      | some _ => none
    | none => none
  | .pure s =>
    match callArgs st.tm o.op with
    | some vs => s.run vs fun v => K ⟨setT st.tm o.dst (some v), st.hp, st.base⟩
    | none => none
  | .read s =>
    match callArgs st.tm o.op with
    | some vs => s.run vs st.hp fun v => K ⟨setT st.tm o.dst (some v), st.hp, st.base⟩
    | none => none
  | .full s =>
    match callArgs st.tm o.op with
    | some vs =>
      match st.hp.getD nm none with
      | none => s.run vs st.hp nm fun v hp' => K ⟨setT st.tm o.dst (some v), hp', st.base⟩
      | some _ => none
    | none => none
  | .look k => lookK P Γ o k nm st.tm st.hp fun v hp' => K ⟨setT st.tm o.dst (some v), hp', st.base⟩
  | .mem => memK P o nm st.tm st.hp fun v hp' => K ⟨setT st.tm o.dst (some v), hp', st.base⟩
  | .bad => none

/-- with its guard; the guard's temporary is known behind the test -/
def opK (P : Program) (Γ : Env) (ops : List Oper) (o : Oper) (nm : Nat) (st : St) (K : St → Option β) : Option β :=
  match o.guard with
  | none => execK P Γ o nm st K
  | some (j, want) =>
    match (ops[j]?).bind (·.dst) with
    | some t =>
      match st.tm.getD t none with
      | some (.bool b) =>
        bif b then
          bif want then execK P Γ o nm ⟨st.tm.set t (some (.bool true)), st.hp, st.base⟩ K
          else K ⟨setT (st.tm.set t (some (.bool true))) o.dst (some undefA), st.hp, st.base⟩
        else
          bif want then K ⟨setT (st.tm.set t (some (.bool false))) o.dst (some undefA), st.hp, st.base⟩
          else execK P Γ o nm ⟨st.tm.set t (some (.bool false)), st.hp, st.base⟩ K
      | some (.tup []) => K ⟨setT st.tm o.dst (some undefA), st.hp, st.base⟩
      | _ => none
    | none => none

def isAl (Γ : Env) (o : Oper) : Nat :=
  match cls Γ o.op with
  | .alloc => 1
  | .full _ => 1
  | .look k => k
  | .mem => 1
  | _ => 0

def opsK (P : Program) (Γ : Env) (ops : List Oper) : List Oper → Nat → St → (St → Option β) → Option β
  | [], c, st, K => K ⟨st.tm, st.hp, st.base + c⟩
  | o :: os, c, st, K => opK P Γ ops o (st.base + c) st fun st' => opsK P Γ ops os (c + isAl Γ o) st' K

/- the direct forms -/
def opD (P : Program) (Γ : Env) (ops : List Oper) (o : Oper) (nm : Nat) (st : St) : Option St := opK P Γ ops o nm st some

theorem ld0_bind (x : AV × List AV) (K : AV → Option β) : ld0 K x.1 x.2 = (ld0 some x.1 x.2).bind K := by
  obtain ⟨v, news⟩ := x
  cases news <;> rfl
theorem loadK_eq (P : Program) (tm : Tm) (hp : Hp) (t : TypeId) (x : Operand) (K : AV → Option β) : loadK P tm hp t x K = (loadK P tm hp t x some).bind K := by
  unfold loadK
  split
  · rw [ldV_eq, ldV_eq P t hp 0 _ (ld0 some), Option.bind_assoc]
    exact congrArg _ (funext fun x => ld0_bind x K)
  · rfl
theorem loadK_some {P : Program} {tm : Tm} {hp : Hp} {t : TypeId} {x : Operand} {v : AV} (h : loadK P tm hp t x some = some v) : ∃ u, opv tm x = some u ∧ ldV P t hp 0 u (fun v n => some (v, n)) = some (v, []) := by
  unfold loadK at h
  split at h
  · rename_i u hu
    rw [ldV_eq] at h
    cases hl : ldV P t hp 0 u (fun v n => some (v, n)) with
    | none => rw [hl] at h; cases h
    | some y =>
      obtain ⟨w, news⟩ := y
      rw [hl, Option.bind_some] at h
      cases news with
      | cons _ _ => cases h
      | nil => cases h; exact ⟨u, hu, hl⟩
  · cases h

theorem storeV_eq (P : Program) (t : TypeId) (hp : Hp) (u v : AV) (K : Hp → Option β) : storeV P t hp u v K = (storeV P t hp u v some).bind K := by
  unfold storeV
  split
  · split
    · cases (_ || _) with
      | true => rfl
      | false =>
        simp only [cond_false]
        refine kond ?_
        rw [putK_eq', putK_eq']
        cases put _ _ _ <;> rfl
    · rfl
  · split
    · split
      · exact kond rfl
      · rfl
    · refine kond ?_
      rw [putK_eq', putK_eq']
      cases put _ _ _ with
      | none => rfl
      | some t' => simp only [Option.bind_some]; split <;> rfl
    · rfl
  · rfl
theorem storeK_eq (P : Program) (tm : Tm) (hp : Hp) (t : TypeId) (x y : Operand) (K : Hp → Option β) : storeK P tm hp t x y K = (storeK P tm hp t x y some).bind K := by
  unfold storeK
  split
  · split
    · exact storeV_eq ..
    · rfl
  · rfl
theorem lookK_eq {γ : Type} (P : Program) (Γ : Env) (o : Oper) (k nm : Nat) (tm : Tm) (hp : Hp) (K : AV → Hp → Option β) (F : AV → Hp → Option γ) (f : γ → Option β) (h : ∀ v h, K v h = (F v h).bind f) :
    lookK P Γ o k nm tm hp K = (lookK P Γ o k nm tm hp F).bind f := by
  unfold lookK
  split
  · refine kond ?_
    rw [lookV_eq, lookV_eq P Γ.lk _ _ _ _ (atMost k hp nm F), Option.bind_assoc]
    refine congrArg _ (funext fun x => ?_)
    unfold atMost
    exact kond (h _ _)
  · rfl
theorem memK_eq {γ : Type} (P : Program) (o : Oper) (nm : Nat) (tm : Tm) (hp : Hp) (K : AV → Hp → Option β) (F : AV → Hp → Option γ) (f : γ → Option β) (h : ∀ v h, K v h = (F v h).bind f) :
    memK P o nm tm hp K = (memK P o nm tm hp F).bind f := by
  unfold memK
  split
  · split
    · rw [memV_eq, memV_eq P _ _ _ _ F, Option.bind_assoc]
      exact congrArg _ (funext fun x => h _ _)
    · rfl
  · rfl

theorem kont {A S : Type} {F : (β : Type) → (A → Option β) → Option β} (hF : ∀ (β : Type) (K : A → Option β), F β K = (F A some).bind K) (g : A → S) (K : S → Option β) :
    F β (fun v => K (g v)) = (F S (fun v => some (g v))).bind K := by
  rw [hF, hF S]; cases F A some <;> rfl

/-- whose class is a function's is a call of one -/
def ClsIs (Γ : Env) (o : Op) : Cls → Prop
  | .pure s => ∃ c f, o = .call c ∧ c.callee = .value (.func f) ∧ Γ f = some (.pure s)
  | .read s => ∃ c f, o = .call c ∧ c.callee = .value (.func f) ∧ Γ f = some (.read s)
  | .full s => ∃ c f, o = .call c ∧ c.callee = .value (.func f) ∧ Γ f = some (.full s)
  | _ => True
theorem cls_is (Γ : Env) (o : Op) : ClsIs Γ o (cls Γ o) := by
  unfold cls
  split
  · split <;> trivial
  · trivial
  · trivial
  · trivial
  · cases Γ.sl _ <;> trivial
  · cases (_ || _) <;> trivial
  · split <;> trivial
  · trivial
  · trivial
  · trivial
  · trivial
  · rename_i c
    split
    · rename_i f hf
      split
      · rename_i s hs; exact ⟨c, f, rfl, hf, hs⟩
      · rename_i s hs; exact ⟨c, f, rfl, hf, hs⟩
      · rename_i s hs; exact ⟨c, f, rfl, hf, hs⟩
      · trivial
      · trivial
    · trivial
    · trivial
    · trivial
    · trivial
  · trivial
  · trivial
  · trivial
  · trivial
theorem cls_is' {Γ : Env} {o : Op} {c : Cls} (h : cls Γ o = c) : ClsIs Γ o c := h ▸ cls_is Γ o
theorem execK_eq {P : Program} {Γ : Env} (hΓ : Γ.Law) (o : Oper) (nm : Nat) (st : St) (K : St → Option β) :
    execK P Γ o nm st K = (execK P Γ o nm st some).bind K := by
  unfold execK
  split
  · exact kont (F := fun β K => valK P st.tm o K) (fun β K => valK_eq ..) (fun v => ⟨setT st.tm o.dst (some v), st.hp, st.base⟩) K
  · split
    · exact kont (F := fun β K => loadK P st.tm st.hp _ _ K) (fun β K => loadK_eq ..) (fun v => ⟨setT st.tm o.dst (some v), st.hp, st.base⟩) K
    · rfl
  · split
    · exact kont (F := fun β K => storeK P st.tm st.hp _ _ _ K) (fun β K => storeK_eq ..) (fun hp' => ⟨setT st.tm o.dst none, hp', st.base⟩) K
    · rfl
  · split
    · split <;> rfl
    · rfl
  · rename_i s hs
    have hl : (Entry.pure s).Law := by
      obtain ⟨_, f, _, _, hg⟩ := cls_is' hs
      exact hΓ _ _ hg
    split
    · exact kont (F := fun β K => s.run _ K) (fun β K => hl β _ K) (fun v => ⟨setT st.tm o.dst (some v), st.hp, st.base⟩) K
    · rfl
  · rename_i s hs
    have hl : (Entry.read s).Law := by
      obtain ⟨_, f, _, _, hg⟩ := cls_is' hs
      exact hΓ _ _ hg
    split
    · exact kont (F := fun β K => s.run _ _ K) (fun β K => hl β _ _ K) (fun v => ⟨setT st.tm o.dst (some v), st.hp, st.base⟩) K
    · rfl
  · rename_i s hs
    have hl : (Entry.full s).Law := by
      obtain ⟨_, f, _, _, hg⟩ := cls_is' hs
      exact hΓ _ _ hg
    split
    · split
      · rename_i vs _ _ _
        rw [hl β vs, hl St vs]
        cases s.run vs st.hp nm (fun v h => some (v, h)) <;> rfl
      · rfl
    · rfl
  · exact lookK_eq _ _ _ _ _ _ _ _ _ _ fun _ _ => rfl
  · exact memK_eq _ _ _ _ _ _ _ _ fun _ _ => rfl
  · rfl

theorem opK_eq {P : Program} {Γ : Env} (hΓ : Γ.Law) (ops : List Oper) (o : Oper) (nm : Nat) (st : St) (K : St → Option β) :
    opK P Γ ops o nm st K = (opD P Γ ops o nm st).bind K := by
  unfold opD opK
  split
  · exact execK_eq hΓ ..
  · rename_i j want _
    split
    · split
      · rename_i b _
        cases b <;> cases want <;> simp only [cond_true, cond_false] <;> first | rfl | exact execK_eq hΓ ..
      · rfl
      · rfl
    · rfl

/-- the guard, without the refinement: the same -/
theorem opD_guard {P : Program} {Γ : Env} {ops : List Oper} {o : Oper} {nm : Nat} {st : St} {j : Nat} {want : Bool} (hg : o.guard = some (j, want)) {st' : St}
    (h : opD P Γ ops o nm st = some st') : (∃ t b, (ops[j]?).bind (·.dst) = some t ∧ st.tm.getD t none = some (.bool b) ∧
      ((b = want ∧ execK P Γ o nm st some = some st') ∨ (b ≠ want ∧ st' = ⟨setT st.tm o.dst (some undefA), st.hp, st.base⟩))) ∨
      ∃ t, (ops[j]?).bind (·.dst) = some t ∧ st.tm.getD t none = some (.tup []) ∧ st' = ⟨setT st.tm o.dst (some undefA), st.hp, st.base⟩ := by
  unfold opD opK at h
  rw [hg] at h
  simp only at h
  split at h
  · rename_i t ht
    split at h
    · rename_i b hb
      refine .inl ⟨t, b, ht, hb, ?_⟩
      have hset : st.tm.set t (some (.bool b)) = st.tm := by
        have hlt : t < st.tm.length := by
          rcases Nat.lt_or_ge t st.tm.length with h' | h'
          · exact h'
          · simp [List.getElem?_eq_none h'] at hb
        apply List.ext_getElem?
        intro i
        rw [List.getElem?_set]
        split
        · rename_i hi
          subst hi
          simp only [List.getD_eq_getElem?_getD] at hb
          cases hq : st.tm[t]? with
          | none => simp [hq] at hb
          | some x => simp [hq] at hb; simp [hb]
        · rfl
      cases b <;> cases want <;> simp only [cond_true, cond_false] at h <;> rw [hset] at h
      · exact .inl ⟨rfl, h⟩
      · exact .inr ⟨by simp, by cases h; rfl⟩
      · exact .inr ⟨by simp, by cases h; rfl⟩
      · exact .inl ⟨rfl, h⟩
    · rename_i hb
      exact .inr ⟨t, ht, hb, by cases h; rfl⟩
    · cases h
  · cases h
end Go.Sim
namespace Go.Sim

structure WfSt (st : St) : Prop where
  tm : WfT st.tm
  hp : WfH st.hp

structure Closed (st : St) : Prop where
  tm : ClosedT st.tm st.hp
  hp : ClosedH st.hp

def Entry.Good : Entry → Prop
  | .pure s => (Entry.pure s).Law ∧ (∀ args v, s.run args some = some v → ∀ m, ¬ v.has m) ∧ ∀ args v, s.run args some = some v → (∀ u ∈ args, u.wf) → v.wf
  | .read s => (Entry.read s).Law ∧ (∀ args hp v, s.run args hp some = some v → ClosedH hp → (∀ u ∈ args, ClosedV hp u) → ClosedV hp v) ∧
      ∀ args hp v, s.run args hp some = some v → (∀ u ∈ args, u.wf) → WfH hp → v.wf
  | .full s => (Entry.full s).Law ∧ (∀ args hp nm v hp', s.run args hp nm (fun v h => some (v, h)) = some (v, hp') → ClosedH hp → (∀ u ∈ args, ClosedV hp u) →
      ClosedV hp' v ∧ ClosedH hp' ∧ ∀ m, Pres hp m → Pres hp' m) ∧
      ∀ args hp nm v hp', s.run args hp nm (fun v h => some (v, h)) = some (v, hp') → (∀ u ∈ args, u.wf) → WfH hp → v.wf ∧ WfH hp'
  | .look F => F.Ranges

def Env.Good (Γ : Env) : Prop := ∀ f e, Γ f = some e → e.Good

theorem Env.Good.law {Γ : Env} (h : Γ.Good) : Γ.Law := fun f e he => by
  have := h f e he
  cases e <;> first | exact this.1 | trivial
theorem Env.Good.lk {Γ : Env} (h : Γ.Good) : LFns Γ.lk := fun f F hF => by
  unfold Env.lk at hF
  split at hF
  · rename_i F' hf; cases hF; exact h f _ hf
  · cases hF

/-- what an operation yields, and what becomes of memory -/
def effD (P : Program) (Γ : Env) (o : Oper) (nm : Nat) (tm : Tm) (hp : Hp) : Option (Option AV × Hp) :=
  match cls Γ o.op with
  | .val => (val P tm o).map fun v => (some v, hp)
  | .load =>
    match o.op with
    | .load t x => (loadK P tm hp t x some).map fun v => (some v, hp)
    | _ => none
  | .store =>
    match o.op with
    | .store t x y => (storeK P tm hp t x y some).map fun hp' => (none, hp')
    | _ => none
  | .alloc =>
    match allocA P tm o.op with
    | some v =>
      match hp.getD nm none with
      | none => some (some (.ptr nm []), setP none hp nm (some v))
      | some _ => none
    | none => none
  | .pure s =>
    match callArgs tm o.op with
    | some vs => (s.run vs some).map fun v => (some v, hp)
    | none => none
  | .read s =>
    match callArgs tm o.op with
    | some vs => (s.run vs hp some).map fun v => (some v, hp)
    | none => none
  | .full s =>
    match callArgs tm o.op with
    | some vs =>
      match hp.getD nm none with
      | none => s.run vs hp nm fun v hp' => some (some v, hp')
      | some _ => none
    | none => none
  | .look k => lookK P Γ o k nm tm hp fun v hp' => some (some v, hp')
  | .mem => memK P o nm tm hp fun v hp' => some (some v, hp')
  | .bad => none

theorem law_of_cls {Γ : Env} {o : Op} {e : Entry} (h : cls Γ o = match e with | .pure s => .pure s | .read s => .read s | .full s => .full s | .look _ => .bad) (hl : match e with | .look _ => False | _ => True) : ∃ f, Γ f = some e := by
  cases e with
  | pure s => obtain ⟨_, f, _, _, hf⟩ := cls_is' h; exact ⟨f, hf⟩
  | read s => obtain ⟨_, f, _, _, hf⟩ := cls_is' h; exact ⟨f, hf⟩
  | full s => obtain ⟨_, f, _, _, hf⟩ := cls_is' h; exact ⟨f, hf⟩
  | look F => exact hl.elim

theorem execK_eff {P : Program} {Γ : Env} (hΓ : Γ.Law) (o : Oper) (nm : Nat) (st : St) :
    execK P Γ o nm st some = (effD P Γ o nm st.tm st.hp).map fun x => ⟨setT st.tm o.dst x.1, x.2, st.base⟩ := by
  unfold execK effD
  cases hs : cls Γ o.op with
  | val => simp only; rw [valK_eq]; cases val P st.tm o <;> rfl
  | load =>
    simp only
    generalize o.op = op
    cases op <;> try rfl
    simp only
    rw [loadK_eq]; cases loadK P st.tm st.hp _ _ some <;> rfl
  | store =>
    simp only
    generalize o.op = op
    cases op <;> try rfl
    simp only
    rw [storeK_eq]; cases storeK P st.tm st.hp _ _ _ some <;> rfl
  | alloc =>
    simp only
    cases allocA P st.tm o.op with
    | none => rfl
    | some v => simp only; cases st.hp.getD nm none <;> rfl
  | pure s =>
    obtain ⟨f, hf⟩ := law_of_cls (e := .pure s) hs trivial
    have hl := hΓ _ _ hf
    simp only
    cases callArgs st.tm o.op with
    | none => rfl
    | some vs => simp only; rw [hl]; cases s.run vs some <;> rfl
  | read s =>
    obtain ⟨f, hf⟩ := law_of_cls (e := .read s) hs trivial
    have hl := hΓ _ _ hf
    simp only
    cases callArgs st.tm o.op with
    | none => rfl
    | some vs => simp only; rw [hl]; cases s.run vs st.hp some <;> rfl
  | full s =>
    obtain ⟨f, hf⟩ := law_of_cls (e := .full s) hs trivial
    have hl := hΓ _ _ hf
    simp only
    cases callArgs st.tm o.op with
    | none => rfl
    | some vs =>
      simp only
      cases st.hp.getD nm none with
      | none => simp only; rw [hl St vs, hl (Option AV × Hp) vs]; cases s.run vs st.hp nm (fun v h => some (v, h)) <;> rfl
      | some _ => rfl
  | look k =>
    simp only
    refine (lookK_eq P Γ o k nm st.tm st.hp (fun v hp' => some (⟨setT st.tm o.dst (some v), hp', st.base⟩ : St)) (fun v hp' => some (some v, hp')) (fun x => some ⟨setT st.tm o.dst x.1, x.2, st.base⟩) (fun _ _ => rfl)).trans ?_
    cases lookK P Γ o k nm st.tm st.hp (fun v hp' => some (some v, hp')) <;> rfl
  | mem =>
    simp only
    refine (memK_eq P o nm st.tm st.hp (fun v hp' => some (⟨setT st.tm o.dst (some v), hp', st.base⟩ : St)) (fun v hp' => some (some v, hp')) (fun x => some ⟨setT st.tm o.dst x.1, x.2, st.base⟩) (fun _ _ => rfl)).trans ?_
    cases memK P o nm st.tm st.hp (fun v hp' => some (some v, hp')) <;> rfl
  | bad => rfl

/-- with its guard -/
def geff (P : Program) (Γ : Env) (ops : List Oper) (o : Oper) (nm : Nat) (tm : Tm) (hp : Hp) : Option (Option AV × Hp) :=
  match o.guard with
  | none => effD P Γ o nm tm hp
  | some (j, want) =>
    match (ops[j]?).bind (·.dst) with
    | some t =>
      match tm.getD t none with
      | some (.bool b) => if b = want then effD P Γ o nm tm hp else some (some undefA, hp)
      | some (.tup []) => some (some undefA, hp)
      | _ => none
    | none => none

theorem opD_geff {P : Program} {Γ : Env} (hΓ : Γ.Law) {ops : List Oper} {o : Oper} {nm : Nat} {st st' : St} (h : opD P Γ ops o nm st = some st') :
    ∃ x, geff P Γ ops o nm st.tm st.hp = some x ∧ st' = ⟨setT st.tm o.dst x.1, x.2, st.base⟩ := by
  cases hg : o.guard with
  | none =>
    have h' := h
    unfold opD opK at h'
    rw [hg] at h'
    simp only at h'
    rw [execK_eff hΓ] at h'
    cases he : effD P Γ o nm st.tm st.hp with
    | none => simp [he] at h'
    | some x =>
      simp only [he, Option.map_some, Option.some.injEq] at h'
      exact ⟨x, by simp [geff, hg, he], h'.symm⟩
  | some jw =>
    obtain ⟨j, want⟩ := jw
    rcases opD_guard hg h with ⟨t, b, h1, h2, h3⟩ | ⟨t, h1, h2, rfl⟩
    case inr => exact ⟨(some undefA, st.hp), by simp [geff, hg, h1, h2, -List.getD_eq_getElem?_getD], rfl⟩
    rcases h3 with ⟨rfl, h3⟩ | ⟨h3, rfl⟩
    · rw [execK_eff hΓ] at h3
      cases he : effD P Γ o nm st.tm st.hp with
      | none => simp [he] at h3
      | some x =>
        simp only [he, Option.map_some, Option.some.injEq] at h3
        exact ⟨x, by simp [geff, hg, h1, h2, he, -List.getD_eq_getElem?_getD], h3.symm⟩
    · exact ⟨(some undefA, st.hp), by simp [geff, hg, h1, h2, h3, -List.getD_eq_getElem?_getD], rfl⟩

/-- the direct step, by its effect -/
def stepD (P : Program) (Γ : Env) (ops : List Oper) (o : Oper) (nm : Nat) (st : St) : Option St :=
  (geff P Γ ops o nm st.tm st.hp).map fun x => ⟨setT st.tm o.dst x.1, x.2, st.base⟩

theorem opD_step {P : Program} {Γ : Env} (hΓ : Γ.Law) {ops : List Oper} {o : Oper} {nm : Nat} {st st' : St} (h : opD P Γ ops o nm st = some st') :
    stepD P Γ ops o nm st = some st' := by
  obtain ⟨x, h1, h2⟩ := opD_geff hΓ h
  simp [stepD, h1, h2]

/-! what an operation looks at -/
theorem opv_set {tm : Tm} {d : Option Tmp} {v : Option AV} {x : Operand} (h : ∀ t, d = some t → x ≠ .tmp t) : opv (setT tm d v) x = opv tm x := by
  cases d with
  | none => rfl
  | some d =>
    cases x with
    | tmp t =>
      have hne : d ≠ t := fun e => h d rfl (by rw [e])
      simp [opv, setT, List.getElem?_set_ne hne]
    | _ => rfl

theorem opvs_set {tm : Tm} {d : Option Tmp} {v : Option AV} : ∀ {xs : List Operand}, (∀ t, d = some t → Operand.tmp t ∉ xs) → opvs (setT tm d v) xs = opvs tm xs
  | [], _ => rfl
  | x :: xs, h => by
    simp only [opvs]
    rw [opv_set (fun t ht hx => h t ht (by simp [hx])), opvs_set (xs := xs) (fun t ht hx => h t ht (by simp [hx]))]

theorem partsV_set {tm : Tm} {d : Option Tmp} {v : Option AV} : ∀ {xs : List (Nat × Operand)}, (∀ t, d = some t → Operand.tmp t ∉ xs.map (·.2)) → partsV (setT tm d v) xs = partsV tm xs
  | [], _ => rfl
  | (i, x) :: xs, h => by
    simp only [partsV]
    rw [opv_set (fun t ht hx => h t ht (by simp [hx])), partsV_set (xs := xs) (fun t ht hx => h t ht (by simp at hx ⊢; exact .inr hx))]

def Off (d : Option Tmp) (o : Oper) : Prop := ∀ t, d = some t → Operand.tmp t ∉ o.op.operands.toList

theorem Off.one {d : Option Tmp} {o : Oper} (h : Off d o) {x : Operand} (hx : x ∈ o.op.operands.toList) : ∀ t, d = some t → x ≠ .tmp t :=
  fun t ht e => h t ht (e ▸ hx)

theorem bndK_set {tm : Tm} {d : Option Tmp} {v : Option AV} {x : Option Operand} {β : Type} {a b : Nat} {K : Nat → Option β} (h : ∀ y, x = some y → ∀ t, d = some t → y ≠ .tmp t) : bndK (setT tm d v) x a b K = bndK tm x a b K := by
  unfold bndK
  cases x with
  | none => rfl
  | some y => simp only [opv_set (h y rfl)]
theorem xop_set {tm : Tm} {op : Op} {d : Option Tmp} {v : Option AV} (one : ∀ x, x ∈ op.operands.toList → opv (setT tm d v) x = opv tm x)
    (all : ∀ c, op = .call c → opvs (setT tm d v) c.args.toList = opvs tm c.args.toList) : xop (setT tm d v) op = xop tm op := by
  unfold xop
  split
  · rename_i t x y yt; rw [one x (by simp [Op.operands])]
  · rfl
  · rename_i t x i; rw [one x (by simp [Op.operands])]
  · rename_i t x f; rw [one x (by simp [Op.operands])]
  · rename_i x; rw [one x (by simp [Op.operands])]
  · rename_i s t x; rw [one x (by simp [Op.operands])]
  · rename_i c; rw [all c rfl]
  · rfl
theorem val_set {P : Program} {tm : Tm} {o : Oper} {d : Option Tmp} {v : Option AV} (h : Off d o) : val P (setT tm d v) o = val P tm o := by
  obtain ⟨dst, op, type, pos, after, guard⟩ := o
  have one : ∀ x, x ∈ op.operands.toList → opv (setT tm d v) x = opv tm x := fun x hx => opv_set (Off.one h hx)
  have all : ∀ c, op = .call c → opvs (setT tm d v) c.args.toList = opvs tm c.args.toList := fun c hc => by
    subst hc
    exact opvs_set fun t ht hx => h t ht (by simp [Op.operands, Call.operands]; right; simpa using hx)
  unfold val valK
  simp only [xop_set one all]
  cases hx : xop tm op with
  | true =>
    simp only [cond_true]
    unfold xvalK
    cases op <;> simp only [Op.operands] at one <;> try rfl
    case binOp op t x y yt => cases op <;> try rfl
                              simp only [one x (by simp), one y (by simp)]
    case slice t x lo hi mx =>
      simp only [xslK, one x (by simp)]
      have hb : ∀ z, z ∈ lo.toArray.toList ∨ z ∈ hi.toArray.toList ∨ z ∈ mx.toArray.toList → ∀ t, d = some t → z ≠ .tmp t := fun z hz => Off.one h (by simp [Op.operands] at hz ⊢; rcases hz with h | h | h <;> simp [h])
      have b1 : ∀ y, lo = some y → ∀ t, d = some t → y ≠ .tmp t := fun y hy => hb y (.inl (by simp [hy]))
      have b2 : ∀ y, hi = some y → ∀ t, d = some t → y ≠ .tmp t := fun y hy => hb y (.inr (.inl (by simp [hy])))
      have b3 : ∀ y, mx = some y → ∀ t, d = some t → y ≠ .tmp t := fun y hy => hb y (.inr (.inr (by simp [hy])))
      simp only [bndK_set b1, bndK_set b2, bndK_set b3]
    case indexAddr t x i => simp only [one x (by simp), one i (by simp)]
    case fieldAddr s x f => simp only [one x (by simp)]
    case nilCheck x => simp only [one x (by simp)]
    case convert s t x => simp only [one x (by simp)]
    case call c => simp only [all c rfl]
  | false =>
    simp only [cond_false]
    unfold valK0
    cases op <;> simp only [Op.operands] at one <;> try rfl
    case move x => simp only [getK, one x (by simp)]
    case assign x => simp only [getK, one x (by simp)]
    case pick c a b => simp only [getK, one c (by simp), one a (by simp), one b (by simp)]
    case nilCheck x => simp only [one x (by simp)]
    case binOp op t x y yt => simp only [one x (by simp), one y (by simp)]
    case unOp op t x => simp only [one x (by simp)]
    case convert s t x => simp only [one x (by simp)]
    case fieldAddr s x f => simp only [one x (by simp)]
    case field s x f => simp only [one x (by simp)]
    case indexAddr t x i => simp only [one x (by simp), one i (by simp)]
    case index t x i => simp only [one x (by simp), one i (by simp)]
    case extract x i => simp only [one x (by simp)]
    case build t ps =>
      simp only [partsV_set (xs := ps.toList) (fun t ht hx => h t ht (by simpa [Op.operands] using hx))]
    case call c => simp only [all c rfl]

theorem loadK_set {P : Program} {tm : Tm} {hp : Hp} {t : TypeId} {x : Operand} {d : Option Tmp} {v : Option AV} (h : ∀ t, d = some t → x ≠ .tmp t) :
    loadK P (setT tm d v) hp t x some = loadK P tm hp t x some := by simp only [loadK, opv_set h]

theorem storeK_set {P : Program} {tm : Tm} {hp : Hp} {t : TypeId} {x y : Operand} {d : Option Tmp} {v : Option AV} (h : ∀ t, d = some t → x ≠ .tmp t) (h' : ∀ t, d = some t → y ≠ .tmp t) :
    storeK P (setT tm d v) hp t x y some = storeK P tm hp t x y some := by simp only [storeK, opv_set h, opv_set h']

theorem allocA_set {P : Program} {tm : Tm} {o : Oper} {d : Option Tmp} {v : Option AV} (h : Off d o) : allocA P (setT tm d v) o.op = allocA P tm o.op := by
  cases ho : o.op <;> simp only [allocA]
  rename_i t x
  rw [opv_set (Off.one h (by simp [ho, Op.operands]))]

theorem callArgs_set {tm : Tm} {o : Oper} {d : Option Tmp} {v : Option AV} (h : Off d o) : callArgs (setT tm d v) o.op = callArgs tm o.op := by
  cases ho : o.op <;> simp only [callArgs]
  rename_i c
  exact opvs_set fun t ht hx => h t ht (by simp [ho, Op.operands, Call.operands]; right; simpa using hx)

theorem effD_set {P : Program} {Γ : Env} {tm : Tm} {hp : Hp} {o : Oper} {nm : Nat} {d : Option Tmp} {v : Option AV} (h : Off d o) :
    effD P Γ o nm (setT tm d v) hp = effD P Γ o nm tm hp := by
  unfold effD
  split
  · rw [val_set h]
  · split
    · rename_i t x ho
      rw [loadK_set (Off.one h (by simp [ho, Op.operands]))]
    · rfl
  · split
    · rename_i t x y ho
      rw [storeK_set (Off.one h (by simp [ho, Op.operands])) (Off.one h (by simp [ho, Op.operands]))]
    · rfl
  · rw [allocA_set h]
  · rw [callArgs_set h]
  · rw [callArgs_set h]
  · rw [callArgs_set h]
  · unfold lookK; rw [opvs_set h]
  · unfold memK; rw [opvs_set h]
  · rfl

theorem geff_set {P : Program} {Γ : Env} {ops : List Oper} {tm : Tm} {hp : Hp} {o : Oper} {nm : Nat} {d : Option Tmp} {v : Option AV}
    (h : ∀ t, d = some t → t ∉ o.looksAt ops.toArray) : geff P Γ ops o nm (setT tm d v) hp = geff P Γ ops o nm tm hp := by
  have hoff : Off d o := fun t ht hx => h t ht (List.mem_append_left _ (List.mem_filterMap.2 ⟨.tmp t, hx, rfl⟩))
  unfold geff
  split
  · exact effD_set hoff
  · rename_i j want hg
    cases ht : (ops[j]?).bind (·.dst) with
    | none => rfl
    | some t =>
      have hne : ∀ d', d = some d' → d' ≠ t := fun d' hd e => h d' hd (by
        subst e
        refine List.mem_append_right _ ?_
        simp only [hg, List.getElem?_toArray, ht]
        simp)
      have e1 : (setT tm d v).getD t none = tm.getD t none := by
        cases d with
        | none => rfl
        | some d' => simp [setT, List.getElem?_set_ne (hne d' rfl)]
      simp only [e1, effD_set hoff]
end Go.Sim
namespace Go.Sim

def Cls.still : Cls → Bool
  | .val | .pure _ => true
  | _ => false
def Cls.looks : Cls → Bool
  | .val | .pure _ | .load | .read _ => true
  | _ => false

def pairOk (c d : Cls) : Bool :=
  c.still || d.still || (c.looks && d.looks) ||
  match c, d with
  | .load, .alloc | .alloc, .load | .alloc, .alloc | .alloc, .store | .store, .alloc => true
  | .look _, .look _ | .look _, .load | .load, .look _ | .look _, .alloc | .alloc, .look _ => true
  | _, _ => false

/-- a guard decides as it does, whatever memory holds -/
theorem geff_cases {P : Program} {Γ : Env} {ops : List Oper} {o : Oper} {nm : Nat} {tm : Tm} {hp : Hp} {x : Option AV × Hp} (h : geff P Γ ops o nm tm hp = some x) :
    (effD P Γ o nm tm hp = some x ∧ ∀ hp2, geff P Γ ops o nm tm hp2 = effD P Γ o nm tm hp2) ∨ (x = (some undefA, hp) ∧ ∀ hp2, geff P Γ ops o nm tm hp2 = some (some undefA, hp2)) := by
  unfold geff at h
  split at h
  · rename_i hg
    exact .inl ⟨h, fun hp2 => by simp [geff, hg]⟩
  · rename_i j want hg
    split at h
    · rename_i t ht
      split at h
      · rename_i b hb
        split at h
        · rename_i e
          exact .inl ⟨h, fun hp2 => by simp [geff, hg, ht, hb, e, -List.getD_eq_getElem?_getD]⟩
        · rename_i e
          cases h
          exact .inr ⟨rfl, fun hp2 => by simp [geff, hg, ht, hb, e, -List.getD_eq_getElem?_getD]⟩
      · rename_i hb
        cases h
        exact .inr ⟨rfl, fun hp2 => by simp [geff, hg, ht, hb, -List.getD_eq_getElem?_getD]⟩
      · cases h
    · cases h

/-- how an effect turns memory, by its class -/
theorem geff_still {P : Program} {Γ : Env} {ops : List Oper} {o : Oper} {nm : Nat} {tm : Tm} {hp hp2 : Hp} {x : Option AV × Hp} (hc : (cls Γ o.op).still = true)
    (h : geff P Γ ops o nm tm hp = some x) : x.2 = hp ∧ geff P Γ ops o nm tm hp2 = some (x.1, hp2) := by
  have key : ∀ y, effD P Γ o nm tm hp = some y → y.2 = hp ∧ effD P Γ o nm tm hp2 = some (y.1, hp2) := by
    intro y hy
    unfold effD at hy ⊢
    cases hcl : cls Γ o.op <;> simp only [hcl, Cls.still, Bool.false_eq_true] at hc hy ⊢
    · cases hv : val P tm o with
      | none => simp [hv] at hy
      | some v => simp only [hv, Option.map_some, Option.some.injEq] at hy; subst hy; simp
    · rename_i s
      cases hv : callArgs tm o.op with
      | none => simp [hv] at hy
      | some vs =>
        simp only [hv] at hy ⊢
        cases hr : s.run vs some with
        | none => simp [hr] at hy
        | some v => simp only [hr, Option.map_some, Option.some.injEq] at hy; subst hy; simp
  rcases geff_cases h with ⟨f, f'⟩ | ⟨rfl, f'⟩
  · obtain ⟨e1, e2⟩ := key x f
    exact ⟨e1, by rw [f' hp2]; exact e2⟩
  · exact ⟨rfl, f' hp2⟩

theorem geff_looks {P : Program} {Γ : Env} {ops : List Oper} {o : Oper} {nm : Nat} {tm : Tm} {hp : Hp} {x : Option AV × Hp} (hc : (cls Γ o.op).looks = true)
    (h : geff P Γ ops o nm tm hp = some x) : x.2 = hp := by
  have key : ∀ y, effD P Γ o nm tm hp = some y → y.2 = hp := by
    intro y hy
    unfold effD at hy
    cases hcl : cls Γ o.op <;> simp only [hcl, Cls.looks, Bool.false_eq_true] at hc hy
    · cases hv : val P tm o with
      | none => simp [hv] at hy
      | some v => simp only [hv, Option.map_some, Option.some.injEq] at hy; subst hy; rfl
    · split at hy
      · rename_i t x' _
        cases hv : loadK P tm hp t x' some with
        | none => simp [hv] at hy
        | some v => simp only [hv, Option.map_some, Option.some.injEq] at hy; subst hy; rfl
      · cases hy
    · rename_i s
      cases hv : callArgs tm o.op with
      | none => simp [hv] at hy
      | some vs =>
        simp only [hv] at hy
        cases hr : s.run vs some with
        | none => simp [hr] at hy
        | some v => simp only [hr, Option.map_some, Option.some.injEq] at hy; subst hy; rfl
    · rename_i s
      cases hv : callArgs tm o.op with
      | none => simp [hv] at hy
      | some vs =>
        simp only [hv] at hy
        cases hr : s.run vs hp some with
        | none => simp [hr] at hy
        | some v => simp only [hr, Option.map_some, Option.some.injEq] at hy; subst hy; rfl
  rcases geff_cases h with ⟨f, _⟩ | ⟨rfl, _⟩
  · exact key x f
  · rfl

theorem opv_closed {tm : Tm} {hp : Hp} (hc : ClosedT tm hp) {x : Operand} {v : AV} (h : opv tm x = some v) : ClosedV hp v := by
  cases x with
  | tmp t => exact hc t v h
  | const c => intro m hm; exact absurd hm ((constA_enc (ρ := ren0) h).2 m)
  | global g => cases h
  | func f => cases h; intro m hm; simp [AV.has] at hm

theorem getD_setP_ne {hp : Hp} {n m : Nat} {v : Option AV} (h : n ≠ m) : (setP none hp n v).getD m none = hp.getD m none := by
  rw [getD_setP, if_neg h]

/-- a load, seen over another block -/
theorem loadK_agree {P : Program} {tm : Tm} {hp hp2 : Hp} {t : TypeId} {x : Operand} (h : ∀ u, opv tm x = some u → Agree hp hp2 u) :
    loadK P tm hp t x some = loadK P tm hp2 t x some := by
  unfold loadK
  split
  · rename_i u hu
    exact look_agree (P := P) (G := fun _ => none) (op := .load t x) (vs := [u]) (nm := 0) (K := ld0 some) (fun v hv => by rw [List.mem_singleton.1 hv]; exact h u hu)
  · rfl
theorem loadK_other {P : Program} {tm : Tm} {hp : Hp} {t : TypeId} {x : Operand} {n : Nat} {v : Option AV} (hx : ∀ u, opv tm x = some u → ∀ m, u.has (.nm m) → n ≠ m) :
    loadK P tm (setP none hp n v) t x some = loadK P tm hp t x some :=
  loadK_agree fun u hu m hm => getD_setP_ne (hx u hu m hm)

/-! what looks and adds -/
/-- an operation that looks at what its operands name, and adds blocks of its own -/
structure Adds (P : Program) (Γ : Env) (o : Oper) (nm : Nat) (tm : Tm) (k : Nat) (E : Hp → Option (AV × List AV)) : Prop where
  len : ∀ hp v news, E hp = some (v, news) → news.length ≤ k
  agree : ∀ hp hp2, (∀ x ∈ o.op.operands.toList, ∀ u, opv tm x = some u → Agree hp hp2 u) → E hp = E hp2
  eff : ∀ hp, effD P Γ o nm tm hp = bif freeN hp nm k then (E hp).map (fun x => (some x.1, addL hp nm x.2)) else none
def Cls.adds : Cls → Bool
  | .load | .alloc | .look _ => true
  | _ => false
theorem opvs_agree {tm : Tm} {hp hp2 : Hp} {xs : List Operand} {vs : List AV} (h : opvs tm xs = some vs) (ha : ∀ x ∈ xs, ∀ u, opv tm x = some u → Agree hp hp2 u) : ∀ v ∈ vs, Agree hp hp2 v := fun v hv => by
  obtain ⟨x, hx, hxv⟩ := (opvs_spec (ρ := ren0) (e := fun x => match opv tm x with | some u => u.enc ren0 | none => undef) (fun x u hx => by simp [hx]) xs vs h).2 v hv
  exact ha x hx v hxv
theorem adds_of {P : Program} {Γ : Env} {o : Oper} {nm : Nat} {tm : Tm} (hc : (cls Γ o.op).adds = true) : ∃ E, Adds P Γ o nm tm (isAl Γ o) E := by
  cases hcl : cls Γ o.op <;> rw [hcl] at hc <;> first | cases hc | skip
  · refine ⟨fun hp => match o.op with | .load t x => (loadK P tm hp t x some).map fun v => (v, []) | _ => none, ?_, ?_, ?_⟩
    · intro hp v news h
      split at h
      · cases hl : loadK P tm hp _ _ some with
        | none => rw [hl] at h; cases h
        | some u => rw [hl] at h; cases h; exact Nat.zero_le _
      · cases h
    · intro hp hp2 ha
      cases ho : o.op <;> try rfl
      rename_i t x
      simp only
      rw [loadK_agree (fun u hu => ha x (by simp [ho, Op.operands]) u hu)]
    · intro hp
      unfold effD isAl
      rw [hcl]
      simp only [freeN, cond_true]
      cases ho : o.op <;> try rfl
      simp only
      cases loadK P tm hp _ _ some <;> rfl
  · refine ⟨fun hp => (allocA P tm o.op).map fun v => (.ptr nm [], [v]), ?_, fun _ _ _ => rfl, ?_⟩
    · intro hp v news h
      unfold isAl
      rw [hcl]
      cases ha : allocA P tm o.op with
      | none => rw [ha] at h; cases h
      | some u => rw [ha] at h; cases h; exact Nat.le_refl _
    · intro hp
      unfold effD isAl
      rw [hcl]
      simp only [freeN]
      cases allocA P tm o.op with
      | none => simp only [Option.map_none]; cases hp.getD nm none <;> rfl
      | some v => simp only [Option.map_some, addL]; cases hp.getD nm none <;> rfl
  · rename_i k
    refine ⟨fun hp => match opvs tm o.op.operands.toList with
      | some vs => lookV P Γ.lk o.op vs hp nm (fun v news => bif Nat.ble news.length k then some (v, news) else none)
      | none => none, ?_, ?_, ?_⟩
    · intro hp v news h
      unfold isAl
      rw [hcl]
      split at h
      · rw [lookV_eq] at h
        cases hl : lookV P Γ.lk o.op _ hp nm (fun v n => some (v, n)) with
        | none => rw [hl] at h; cases h
        | some y =>
          obtain ⟨v', n'⟩ := y
          rw [hl, Option.bind_some] at h
          cases hb : Nat.ble n'.length k with
          | false => simp only [hb, cond_false] at h; cases h
          | true => simp only [hb, cond_true] at h; cases h; exact Nat.le_of_ble_eq_true hb
      · cases h
    · intro hp hp2 ha
      split
      · rename_i vs hvs
        exact look_agree (opvs_agree hvs ha)
      · rfl
    · intro hp
      unfold effD isAl
      rw [hcl]
      simp only
      unfold lookK
      cases hvs : opvs tm o.op.operands.toList with
      | none => simp only [Option.map_none]; cases freeN hp nm k <;> rfl
      | some vs =>
        simp only
        refine congrArg (fun z => cond _ z none) ?_
        rw [lookV_eq, lookV_eq P Γ.lk _ _ _ _ (fun v news => bif Nat.ble news.length k then some (v, news) else none)]
        cases lookV P Γ.lk o.op vs hp nm (fun v n => some (v, n)) with
        | none => rfl
        | some y =>
          simp only [Option.bind_some, atMost]
          cases Nat.ble y.2.length k <;> rfl
theorem freeN_spec : ∀ {k : Nat} {hp : Hp} {nm : Nat}, freeN hp nm k = true ↔ ∀ i, i < k → hp.getD (nm + i) none = none
  | 0, hp, nm => by simp [freeN]
  | k + 1, hp, nm => by
    unfold freeN
    cases h : hp.getD nm none with
    | none =>
      simp only
      rw [freeN_spec]
      constructor
      · intro g i hi
        cases i with
        | zero => exact h
        | succ i => rw [show nm + (i + 1) = nm + 1 + i by omega]; exact g i (by omega)
      · intro g i hi
        rw [show nm + 1 + i = nm + (i + 1) by omega]
        exact g (i + 1) (by omega)
    | some t =>
      simp only [Bool.false_eq_true, false_iff]
      intro g
      have := g 0 (by omega)
      rw [Nat.add_zero, h] at this
      cases this
theorem addL_off {hp : Hp} {nm n : Nat} {news : List AV} (h : n < nm ∨ nm + news.length ≤ n) : (addL hp nm news).getD n none = hp.getD n none := by
  rw [addL_get, if_neg (by omega)]
theorem addL_setP {v : Option AV} {n : Nat} : ∀ {news : List AV} {hp : Hp} {nm : Nat}, (n < nm ∨ nm + news.length ≤ n) → addL (setP none hp n v) nm news = setP none (addL hp nm news) n v
  | [], _, _, _ => rfl
  | x :: xs, hp, nm, h => by
    simp only [addL]
    rw [setP_comm _ _ _ _ _ _ (by simp at h; omega)]
    exact addL_setP (by simp at h; omega)
theorem addL_comm {b : List AV} {nb : Nat} : ∀ {a : List AV} {hp : Hp} {na : Nat}, na + a.length ≤ nb → addL (addL hp na a) nb b = addL (addL hp nb b) na a
  | [], _, _, _ => rfl
  | x :: xs, hp, na, h => by
    simp only [addL, List.length_cons] at h ⊢
    rw [addL_comm (by omega), addL_setP (by omega)]

/-- what a store turns -/
theorem storeV_form {P : Program} {t : TypeId} {hp hp' : Hp} {u v : AV} (h : storeV P t hp u v some = some hp') (hu : ClosedV hp u) :
    ∃ m tr tr', u.has (.nm m) ∧ hp.getD m none = some tr ∧ hp' = setP none hp m (some tr') ∧ tr.leq tr' ∧ (∀ k, tr'.has k → tr.has k ∨ v.has k) ∧ (tr.wf → v.wf → tr'.wf) ∧
      ∀ hp2 : Hp, hp2.getD m none = some tr → storeV P t hp2 u v some = some (setP none hp2 m (some tr')) := by
  unfold storeV at h
  split at h
  · rename_i n p
    split at h
    · rename_i tree htr
      cases hc : (tree.isFz || tree.isObj) with
      | true => rw [hc] at h; cases h
      | false =>
        rw [hc, cond_false] at h
        cases hb : (v.oneA && fits P t v) with
        | false => rw [hb] at h; cases h
        | true =>
          rw [hb, cond_true, putK_eq'] at h
          cases hput : put p tree v with
          | none => rw [hput] at h; cases h
          | some tree' =>
            rw [hput] at h
            cases h
            have hvo : v.isObj = false := by
              simp only [Bool.and_eq_true] at hb
              have := hb.1
              cases v <;> try rfl
              rename_i w
              cases w <;> first | rfl | simp [AV.oneA, XV.isObj] at this
            refine ⟨n, tree, tree', by simp [AV.has], htr, rfl, leq_tree (Bool.or_eq_false_iff.1 hc).2, fun k hk => put_has _ _ _ _ hput k hk, fun h1 h2 => put_wf _ _ _ _ hput h1 h2, fun hp2 h2 => ?_⟩
            unfold storeV
            simp only [h2, hc, cond_false, hb, cond_true]
            rw [putK_eq', hput]
            rfl
    · cases h
  · rename_i n es i p
    obtain ⟨q, hq, hgt⟩ := hu (.gt n i) (by simp [AV.has, XV.has])
    split at h
    · rename_i k l hn
      rw [hn] at hq; cases hq
      simp only [AV.gtOk] at hgt
      split at h
      · rename_i k' m
        cases hb : (decide (k' = k) && Nat.beq es 1 && fits P t (.int k' m)) with
        | false => rw [hb] at h; cases h
        | true =>
          rw [hb] at h
          cases h
          refine ⟨n, _, _, by simp [AV.has, XV.has], hn, rfl, ⟨fun n h => ?_, fun n h => ?_⟩, fun k hk => absurd hk (obj_has k), fun h1 h2 => ?_, fun hp2 h2 => ?_⟩
          · simp only [AV.lenOk] at h ⊢; rw [length_setP _ _ _ _ hgt]; exact h
          · simp only [AV.gtOk] at h ⊢; rw [length_setP _ _ _ _ hgt]; exact h
          · simp only [AV.wf, XV.wf, HObj.wf] at h1 h2 ⊢
            simp only [Bool.and_eq_true, decide_eq_true_eq] at hb
            rw [setP_eq_set _ _ _ _ hgt]
            refine ⟨by simpa using h1.1, fun y hy => ?_⟩
            rcases List.mem_or_eq_of_mem_set hy with hy | rfl
            · exact h1.2 y hy
            · rw [← hb.1.1]; exact h2
          · unfold storeV
            simp only [h2, hb, cond_true]
      · cases h
    · rename_i e l hn
      rw [hn] at hq; cases hq
      simp only [AV.gtOk] at hgt
      cases hb : (e.flat && Nat.beq es e.size && (v.oneA && fits P t v)) with
      | false => rw [hb] at h; cases h
      | true =>
        rw [hb, cond_true, putK_eq'] at h
        cases hput : put p (e.mk (l.getD i []) 0 0) v with
        | none => rw [hput] at h; cases h
        | some t' =>
          rw [hput, Option.bind_some] at h
          split at h
          · rename_i hs ro hres
            cases h
            refine ⟨n, _, _, by simp [AV.has, XV.has], hn, rfl, ⟨fun n h => ?_, fun n h => ?_⟩, fun k hk => absurd hk (obj_has k), fun h1 h2 => ?_, fun hp2 h2 => ?_⟩
            · simp only [AV.lenOk] at h ⊢; rw [length_setP _ _ _ _ hgt]; exact h
            · simp only [AV.gtOk] at h ⊢; rw [length_setP _ _ _ _ hgt]; exact h
            · simp only [AV.wf, XV.wf, HObj.wf] at h1 ⊢
              rw [setP_eq_set _ _ _ _ hgt]
              refine ⟨by simpa using h1.1, fun y hy => ?_⟩
              rcases List.mem_or_eq_of_mem_set hy with hy | rfl
              · exact h1.2 y hy
              · have hm := (mk_wf e true (l.getD i []) 0 0 (row_getD h1.2 hgt)).1
                have := (res_wf (hp := []) (fun n v hv => by simp at hv) e t' y ro hres (put_wf _ _ _ _ hput hm h2)).2 [] []
                simpa using this
            · unfold storeV
              simp only [h2, hb, cond_true]
              rw [putK_eq', hput, Option.bind_some, hres]
          · cases h
    · cases h
  · cases h

theorem eff_comm {P : Program} {Γ : Env} {oi oj : Oper} {ni nj : Nat} {tm : Tm} {hp : Hp} {xi xj : Option AV × Hp} (hcl : ClosedT tm hp)
    (hn : ni + isAl Γ oi ≤ nj)
    (hp' : pairOk (cls Γ oi.op) (cls Γ oj.op) = true)
    (hsi : (cls Γ oi.op).still = false) (hsj : (cls Γ oj.op).still = false) (hl : ((cls Γ oi.op).looks && (cls Γ oj.op).looks) = false)
    (h1 : effD P Γ oi ni tm hp = some xi) (h2 : effD P Γ oj nj tm xi.2 = some xj) :
    ∃ yj yi, effD P Γ oj nj tm hp = some yj ∧ effD P Γ oi ni tm yj.2 = some yi ∧ yj.1 = xj.1 ∧ yi.1 = xi.1 ∧ yi.2 = xj.2 := by
  simp only [pairOk, hsi, hsj, hl, Bool.false_or] at hp'
  have away : ∀ {h h2 : Hp} {o : Oper}, (∀ n t, hp.getD n none = some t → h.getD n none = h2.getD n none) → ∀ x ∈ o.op.operands.toList, ∀ u, opv tm x = some u → Agree h h2 u := by
    intro h h2 o hh x _ u hu n hn
    obtain ⟨t, ht⟩ := opv_closed hcl hu _ hn
    exact hh n t ht
  by_cases hadd : (cls Γ oi.op).adds = true ∧ (cls Γ oj.op).adds = true
  · obtain ⟨Ei, hEi⟩ := adds_of (P := P) (nm := ni) (tm := tm) hadd.1
    obtain ⟨Ej, hEj⟩ := adds_of (P := P) (nm := nj) (tm := tm) hadd.2
    rw [hEi.eff] at h1
    cases fi : freeN hp ni (isAl Γ oi) with
    | false => rw [fi] at h1; cases h1
    | true =>
      rw [fi, cond_true] at h1
      cases ei : Ei hp with
      | none => rw [ei] at h1; cases h1
      | some y =>
        obtain ⟨v, news⟩ := y
        rw [ei] at h1
        cases h1
        have hlen := hEi.len _ _ _ ei
        have frei := freeN_spec.1 fi
        rw [hEj.eff] at h2
        cases fj : freeN (addL hp ni news) nj (isAl Γ oj) with
        | false => simp only at h2; rw [fj] at h2; cases h2
        | true =>
          simp only at h2
          rw [fj, cond_true] at h2
          have frej := freeN_spec.1 fj
          have frej' : ∀ i, i < isAl Γ oj → hp.getD (nj + i) none = none := fun i hi => by
            have := frej i hi
            rwa [addL_off (.inr (by omega))] at this
          have same : ∀ n t, hp.getD n none = some t → (addL hp ni news).getD n none = hp.getD n none := by
            intro n t ht
            rw [addL_get]
            by_cases hc : ni ≤ n ∧ n < ni + news.length
            · have := frei (n - ni) (by omega)
              rw [show ni + (n - ni) = n by omega, ht] at this
              cases this
            · rw [if_neg hc]
          rw [hEj.agree _ hp (away same)] at h2
          cases ej : Ej hp with
          | none => rw [ej] at h2; cases h2
          | some z =>
            obtain ⟨w, mews⟩ := z
            rw [ej] at h2
            cases h2
            have hlen2 := hEj.len _ _ _ ej
            have same2 : ∀ n t, hp.getD n none = some t → (addL hp nj mews).getD n none = hp.getD n none := by
              intro n t ht
              rw [addL_get]
              by_cases hc : nj ≤ n ∧ n < nj + mews.length
              · have := frej' (n - nj) (by omega)
                rw [show nj + (n - nj) = n by omega, ht] at this
                cases this
              · rw [if_neg hc]
            refine ⟨(some w, addL hp nj mews), (some v, addL (addL hp nj mews) ni news), ?_, ?_, rfl, rfl, ?_⟩
            · rw [hEj.eff, freeN_spec.2 frej', ej]; rfl
            · rw [hEi.eff]
              simp only
              rw [freeN_spec.2 (fun i hi => by rw [addL_off (.inl (by omega))]; exact frei i hi), hEi.agree _ hp (away same2), ei]
              rfl
            · exact (addL_comm (by omega)).symm
  · have al : ∀ {o : Oper} {n : Nat} {h x}, cls Γ o.op = .alloc → effD P Γ o n tm h = some x → ∃ v, allocA P tm o.op = some v ∧ h.getD n none = none ∧ x = (some (.ptr n []), setP none h n (some v)) := by
      intro o n h x hc he
      unfold effD at he
      simp only [hc] at he
      cases ha : allocA P tm o.op with
      | none => simp [ha] at he
      | some v =>
        cases hg : h.getD n none with
        | some _ => simp only [ha, hg] at he; cases he
        | none => simp only [ha, hg, Option.some.injEq] at he; exact ⟨v, rfl, rfl, he.symm⟩
    have al' : ∀ {o : Oper} {n : Nat} {h v}, cls Γ o.op = .alloc → allocA P tm o.op = some v → h.getD n none = none → effD P Γ o n tm h = some (some (.ptr n []), setP none h n (some v)) := by
      intro o n h v hc ha hg
      unfold effD
      simp only [hc, ha, hg]
    have st : ∀ {o : Oper} {n : Nat} {h x}, cls Γ o.op = .store → ClosedT tm h → effD P Γ o n tm h = some x → ∃ m tr tr', h.getD m none = some tr ∧ x = (none, setP none h m (some tr')) ∧ (∃ y, y ∈ o.op.operands.toList ∧ ∃ u, opv tm y = some u ∧ u.has (.nm m)) ∧
        ∀ (h2 : Hp) (n2 : Nat), h2.getD m none = some tr → effD P Γ o n2 tm h2 = some (none, setP none h2 m (some tr')) := by
      intro o n h x hc hct he
      unfold effD at he
      simp only [hc] at he
      split at he
      · rename_i t x y ho
        unfold storeK at he
        cases hx : opv tm x with
        | none => rw [hx] at he; cases he
        | some u =>
          rw [hx] at he
          cases hy : opv tm y with
          | none => simp only [hy] at he; cases he
          | some v =>
            simp only [hy] at he
            cases hs : storeV P t h u v some with
            | none => rw [hs] at he; cases he
            | some h' =>
              rw [hs] at he
              cases he
              obtain ⟨m, tr, tr', f1, f2, f3, _, _, _, f4⟩ := storeV_form hs (opv_closed hct hx)
              refine ⟨m, tr, tr', f2, by rw [f3], ⟨x, by simp [ho, Op.operands], u, hx, f1⟩, fun h2 n2 e2 => ?_⟩
              unfold effD
              rw [hc]
              simp only [ho, storeK, hx, hy, f4 h2 e2, Option.map_some]
      · cases he
    cases hci : cls Γ oi.op <;> cases hcj : cls Γ oj.op <;> simp only [hci, hcj, Cls.still, Cls.looks, Cls.adds, Bool.false_eq_true, Bool.and_self, and_self, not_true_eq_false, and_false, false_and, not_false_eq_true] at hp' hsi hsj hl hadd
    · -- store, alloc
      obtain ⟨m, tr, tr', f1, rfl, _, f4⟩ := st hci hcl h1
      obtain ⟨v, ha, hg, rfl⟩ := al hcj h2
      simp only at hg
      have hne : nj ≠ m := by intro e; subst e; rw [getD_setP] at hg; simp at hg
      rw [getD_setP_ne (Ne.symm hne)] at hg
      refine ⟨_, _, al' hcj ha hg, f4 _ _ (by simp only; rw [getD_setP_ne hne]; exact f1), rfl, rfl, by simp only; rw [setP_comm _ _ _ _ _ _ hne]⟩
    · -- alloc, store
      obtain ⟨v, ha, hg, rfl⟩ := al hci h1
      have hct : ClosedT tm (setP none hp ni (some v)) := fun i w hw m hm => pres_add hg (hcl i w hw m hm)
      obtain ⟨m, tr, tr', f1, rfl, ⟨y, _, u, hu, hum⟩, f4⟩ := st hcj hct h2
      obtain ⟨t, ht⟩ := opv_closed hcl hu _ hum
      have hne : ni ≠ m := by intro e; subst e; rw [hg] at ht; cases ht
      rw [getD_setP_ne hne] at f1
      refine ⟨_, _, f4 _ _ f1, al' hci ha ?_, rfl, rfl, by simp only; rw [setP_comm _ _ _ _ _ _ hne]⟩
      simp only; rw [getD_setP_ne (Ne.symm hne)]; exact hg

/-! two operations on blocks that are known to be others -/
abbrev Bl := List (Nat × Nat)

def addrT (Γ : Env) : Op → Option Nat
  | .load t (.tmp x) => match Γ.nest t with
    | 0 => some x
    | _ + 1 => none
  | .store _ (.tmp x) _ => some x
  | _ => none

def farB (Γ : Env) (bl : Bl) (oi oj : Oper) : Bool :=
  match addrT Γ oi.op, addrT Γ oj.op with
  | some a, some b => bl.any fun x => Nat.beq x.1 a && bl.any fun y => Nat.beq y.1 b && !Nat.beq x.2 y.2
  | _, _ => false

/-- what a table says of pointers holds -/
def InvB (bl : Bl) (tm : Tm) : Prop := ∀ x ∈ bl, tm.getD x.1 none = none ∨ tm.getD x.1 none = some undefA ∨ ∃ p, tm.getD x.1 none = some (.ptr x.2 p)

def updB (hp : Hp) (n : Nat) : Option AV → Hp
  | none => hp
  | some t => setP none hp n (some t)

theorem addrT_is {Γ : Env} {o : Op} {a : Nat} (h : addrT Γ o = some a) : (∃ t, o = .load t (.tmp a) ∧ cls Γ o = .load) ∨ ∃ t y, o = .store t (.tmp a) y := by
  unfold addrT at h
  split at h
  · rename_i t x
    split at h
    · rename_i hn
      cases h
      exact .inl ⟨t, rfl, by unfold cls; simp only [hn]⟩
    · cases h
  · cases h; exact .inr ⟨_, _, rfl⟩
  · cases h

theorem mem_form {P : Program} {Γ : Env} {o : Oper} {nm : Nat} {tm : Tm} {a n : Nat} {p : List Sel} (h : addrT Γ o.op = some a) (ha : tm.getD a none = some (.ptr n p)) :
    ∃ g : AV → Option (Option AV × Option AV), ∀ hp : Hp, effD P Γ o nm tm hp = match hp.getD n none with | none => none | some t => (g t).map fun r => (r.1, updB hp n r.2) := by
  have hop : opv tm (.tmp a) = some (.ptr n p) := ha
  rcases addrT_is h with ⟨t, ho, hc⟩ | ⟨t, y, ho⟩
  · refine ⟨fun tree => match unfz tree with | some tr => (subK p tr fun v => bif fits P t v then some v else none).map fun v => (some v, none) | none => none, fun hp => ?_⟩
    unfold effD
    rw [hc]
    simp only [ho, loadK, hop, ldV]
    cases hp.getD n none with
    | none => rfl
    | some tree =>
      simp only
      cases unfz tree with
      | none => rfl
      | some tr => simp only [Option.map_map]; rfl
  · refine ⟨fun tree => match opv tm y with | none => none | some v => bif tree.isFz || tree.isObj then none else bif v.oneA && fits P t v then putK p tree v fun t' => some (none, some t') else none, fun hp => ?_⟩
    unfold effD
    rw [show cls Γ o.op = .store by rw [ho]; rfl]
    simp only [ho, storeK, hop]
    cases hy : opv tm y with
    | none => cases hp.getD n none <;> rfl
    | some v =>
      simp only [storeV]
      cases hp.getD n none with
      | none => rfl
      | some tree =>
        simp only
        cases (tree.isFz || tree.isObj) with
        | true => rfl
        | false =>
          simp only [cond_false]
          cases (v.oneA && fits P t v) with
          | false => rfl
          | true =>
            simp only [cond_true]
            rw [putK_eq', putK_eq' (K := fun t' => some (none, some t'))]
            cases put p tree v <;> rfl

theorem mem_addr {P : Program} {Γ : Env} {o : Oper} {nm : Nat} {tm : Tm} {hp : Hp} {a n : Nat} {x : Option AV × Hp} (h : addrT Γ o.op = some a) (he : effD P Γ o nm tm hp = some x)
    (hI : tm.getD a none = none ∨ tm.getD a none = some undefA ∨ ∃ p, tm.getD a none = some (.ptr n p)) : ∃ p, tm.getD a none = some (.ptr n p) := by
  have bad : (tm.getD a none = none ∨ tm.getD a none = some undefA) → False := by
    intro hb
    rcases addrT_is h with ⟨t, ho, hc⟩ | ⟨t, y, ho⟩
    · unfold effD at he
      rw [hc] at he
      simp only [ho, loadK] at he
      rcases hb with hb | hb
      · rw [show opv tm (.tmp a) = none from hb] at he; cases he
      · rw [show opv tm (.tmp a) = some undefA from hb] at he; cases he
    · unfold effD at he
      rw [show cls Γ o.op = .store by rw [ho]; rfl] at he
      simp only [ho, storeK] at he
      rcases hb with hb | hb
      · rw [show opv tm (.tmp a) = none from hb] at he; cases he
      · rw [show opv tm (.tmp a) = some undefA from hb] at he
        simp only at he
        cases hy : opv tm y with
        | none => rw [hy] at he; cases he
        | some v => rw [hy] at he; cases he
  rcases hI with h | h | h
  · exact (bad (.inl h)).elim
  · exact (bad (.inr h)).elim
  · exact h

theorem eff_far {P : Program} {Γ : Env} {bl : Bl} {oi oj : Oper} {ni nj : Nat} {tm : Tm} {hp : Hp} {xi xj : Option AV × Hp} (hI : InvB bl tm) (hf : farB Γ bl oi oj = true)
    (h1 : effD P Γ oi ni tm hp = some xi) (h2 : effD P Γ oj nj tm xi.2 = some xj) :
    ∃ yj yi, effD P Γ oj nj tm hp = some yj ∧ effD P Γ oi ni tm yj.2 = some yi ∧ yj.1 = xj.1 ∧ yi.1 = xi.1 ∧ yi.2 = xj.2 := by
  unfold farB at hf
  split at hf
  · rename_i a b ha hb
    obtain ⟨x, hx, hx2⟩ := List.any_eq_true.1 hf
    simp only [Bool.and_eq_true] at hx2
    obtain ⟨y, hy, hy2⟩ := List.any_eq_true.1 hx2.2
    simp only [Bool.and_eq_true, Bool.not_eq_true'] at hy2
    have ex := Nat.eq_of_beq_eq_true hx2.1
    have ey := Nat.eq_of_beq_eq_true hy2.1
    have hnm : x.2 ≠ y.2 := fun e => by rw [e, Nat.beq_refl] at hy2; cases hy2.2
    obtain ⟨p, hn⟩ := mem_addr ha h1 (ex ▸ hI x hx)
    obtain ⟨q, hm⟩ := mem_addr hb h2 (ey ▸ hI y hy)
    obtain ⟨gi, hgi⟩ := mem_form (P := P) (Γ := Γ) (nm := ni) ha hn
    obtain ⟨gj, hgj⟩ := mem_form (P := P) (Γ := Γ) (nm := nj) hb hm
    generalize x.2 = n at *
    generalize y.2 = m at *
    have other : ∀ (h : Hp) (k l : Nat) (r : Option AV), k ≠ l → (updB h k r).getD l none = h.getD l none := by
      intro h k l r hkl
      cases r with
      | none => rfl
      | some t => exact getD_setP_ne hkl
    rw [hgi] at h1
    cases ti : hp.getD n none with
    | none => simp only [ti] at h1; cases h1
    | some ti' =>
      simp only [ti] at h1
      cases gr : gi ti' with
      | none => simp only [gr, Option.map_none] at h1; cases h1
      | some ri =>
        simp only [gr, Option.map_some, Option.some.injEq] at h1
        subst h1
        rw [hgj] at h2
        simp only [other hp n m ri.2 hnm] at h2
        cases tj : hp.getD m none with
        | none => simp only [tj] at h2; cases h2
        | some tj' =>
          simp only [tj] at h2
          cases gs : gj tj' with
          | none => simp only [gs, Option.map_none] at h2; cases h2
          | some rj =>
            simp only [gs, Option.map_some, Option.some.injEq] at h2
            subst h2
            refine ⟨(rj.1, updB hp m rj.2), (ri.1, updB (updB hp m rj.2) n ri.2), ?_, ?_, rfl, rfl, ?_⟩
            · rw [hgj]; simp only [tj, gs, Option.map_some]
            · rw [hgi]; simp only [other hp m n rj.2 (Ne.symm hnm), ti, gr, Option.map_some]
            · cases ri.2 with
              | none => rfl
              | some u =>
                cases rj.2 with
                | none => rfl
                | some v => simp only [updB]; rw [setP_comm _ _ _ _ _ _ (Ne.symm hnm)]
  · cases hf

theorem setT_comm {tm : Tm} {x y : Option Tmp} {v u : Option AV} (h : ∀ d, x = some d → y ≠ some d) : setT (setT tm x v) y u = setT (setT tm y u) x v := by
  cases x with
  | none => rfl
  | some d =>
    cases y with
    | none => rfl
    | some e =>
      have hne : d ≠ e := fun he => h d rfl (he ▸ rfl)
      simp [setT, List.set_comm _ _ hne]

/-- two operations in the other order -/
theorem step_comm {P : Program} {Γ : Env} {bl : Bl} {ops : List Oper} {oi oj : Oper} {ni nj : Nat} {st s1 s2 : St} (hcl : Closed st) (hib : InvB bl st.tm)
    (hap : oi.apart ops.toArray oj = true) (hp' : (pairOk (cls Γ oi.op) (cls Γ oj.op) || farB Γ bl oi oj) = true)
    (hn : ni + isAl Γ oi ≤ nj)
    (h1 : stepD P Γ ops oi ni st = some s1) (h2 : stepD P Γ ops oj nj s1 = some s2) :
    ∃ t1, stepD P Γ ops oj nj st = some t1 ∧ stepD P Γ ops oi ni t1 = some s2 := by
  obtain ⟨a1, a2, a3⟩ := Oper.apart_spec hap
  unfold stepD at h1 h2 ⊢
  cases g1 : geff P Γ ops oi ni st.tm st.hp with
  | none => simp [g1] at h1
  | some xi =>
    simp only [g1, Option.map_some, Option.some.injEq] at h1
    subst h1
    simp only at h2
    rw [geff_set (fun t ht => a1 t ht)] at h2
    cases g2 : geff P Γ ops oj nj st.tm xi.2 with
    | none => simp [g2] at h2
    | some xj =>
      simp only [g2, Option.map_some, Option.some.injEq] at h2
      subst h2
      suffices hs : ∃ yj yi, geff P Γ ops oj nj st.tm st.hp = some yj ∧ geff P Γ ops oi ni st.tm yj.2 = some yi ∧ yj.1 = xj.1 ∧ yi.1 = xi.1 ∧ yi.2 = xj.2 by
        obtain ⟨yj, yi, e1, e2, e3, e4, e5⟩ := hs
        refine ⟨⟨setT st.tm oj.dst yj.1, yj.2, st.base⟩, by simp [e1], ?_⟩
        simp only
        rw [geff_set (fun t ht => a3 t ht), e2]
        simp only [Option.map_some, Option.some.injEq, St.mk.injEq, and_true]
        exact ⟨by rw [e3, e4, setT_comm a2], e5⟩
      cases hsi : (cls Γ oi.op).still with
      | true =>
        obtain ⟨e1, e2⟩ := geff_still (hp2 := xj.2) hsi g1
        rw [e1] at g2
        exact ⟨xj, _, g2, e2, rfl, rfl, rfl⟩
      | false =>
        cases hsj : (cls Γ oj.op).still with
        | true =>
          obtain ⟨e1, _⟩ := geff_still (hp2 := st.hp) hsj g2
          obtain ⟨_, e2⟩ := geff_still (hp2 := st.hp) hsj g2
          exact ⟨_, xi, e2, g1, rfl, rfl, e1.symm⟩
        | false =>
          cases hl : ((cls Γ oi.op).looks && (cls Γ oj.op).looks) with
          | true =>
            simp only [Bool.and_eq_true] at hl
            have e1 := geff_looks hl.1 g1
            rw [e1] at g2
            have e2 := geff_looks hl.2 g2
            exact ⟨xj, xi, g2, by rw [e2]; exact g1, rfl, rfl, by rw [e1, e2]⟩
          | false =>
            rcases geff_cases g1 with ⟨f1, f1'⟩ | ⟨rfl, f1'⟩
            · rcases geff_cases g2 with ⟨f2, f2'⟩ | ⟨rfl, f2'⟩
              · obtain ⟨yj, yi, e1, e2, e3, e4, e5⟩ : ∃ yj yi, effD P Γ oj nj st.tm st.hp = some yj ∧ effD P Γ oi ni st.tm yj.2 = some yi ∧ yj.1 = xj.1 ∧ yi.1 = xi.1 ∧ yi.2 = xj.2 := by
                  rcases (Bool.or_eq_true _ _).mp hp' with hp' | hp'
                  · exact eff_comm hcl.tm hn hp' hsi hsj hl f1 f2
                  · exact eff_far hib hp' f1 f2
                exact ⟨yj, yi, by rw [f2' st.hp]; exact e1, by rw [f1' yj.2]; exact e2, e3, e4, e5⟩
              · exact ⟨_, xi, f2' st.hp, g1, rfl, rfl, rfl⟩
            · exact ⟨xj, _, g2, f1' xj.2, rfl, rfl, rfl⟩
end Go.Sim
namespace Go.Sim

theorem setT_closed {tm : Tm} {hp hp' : Hp} {d : Option Tmp} {v : Option AV} (h : ClosedT tm hp) (hm : ∀ m, Pres hp m → Pres hp' m) (hv : ∀ u, v = some u → ClosedV hp' u) :
    ClosedT (setT tm d v) hp' := by
  intro i u hu m hmm
  cases d with
  | none => exact hm m (h i u hu m hmm)
  | some d =>
    simp only [setT, List.getD_eq_getElem?_getD, List.getElem?_set] at hu
    split at hu
    · split at hu
      · cases v with
        | none => simp at hu
        | some w => simp at hu; subst hu; exact hv w rfl m hmm
      · simp at hu
    · exact hm m (h i u (by simpa using hu) m hmm)

theorem loadK_closed {P : Program} {tm : Tm} {hp : Hp} {t : TypeId} {x : Operand} {v : AV} (hh : ClosedH hp) (hc : ClosedT tm hp) (h : loadK P tm hp t x some = some v) : ClosedV hp v := by
  obtain ⟨u, hu, hl⟩ := loadK_some h
  exact (look_closed (P := P) (G := fun _ => none) (op := .load t x) (vs := [u]) (nm := 0) (news := []) hl hh (fun w hw => by rw [List.mem_singleton.1 hw]; exact opv_closed hc hu) (fun i hi => absurd hi (Nat.not_lt_zero _))).1
theorem loadK_wf {P : Program} {tm : Tm} {hp : Hp} {t : TypeId} {x : Operand} {v : AV} (hh : WfH hp) (hw : WfT tm) (hc : ClosedT tm hp) (h : loadK P tm hp t x some = some v) : v.wf := by
  obtain ⟨u, hu, hl⟩ := loadK_some h
  exact (look_wf (P := P) (G := fun _ => none) (fun _ _ h => by cases h) (op := .load t x) (vs := [u]) (nm := 0) (news := []) hl hh (fun w hw' => by rw [List.mem_singleton.1 hw']; exact opv_wf hw hu)
    (fun w hw => by rw [List.mem_singleton.1 hw]; exact opv_closed hc hu)).1
theorem opvs_closed {tm : Tm} {hp : Hp} (hc : ClosedT tm hp) {xs : List Operand} {vs : List AV} (h : opvs tm xs = some vs) : ∀ u ∈ vs, ClosedV hp u := fun u hu => by
  obtain ⟨x, _, hx⟩ := (opvs_spec (ρ := ren0) (e := fun x => match opv tm x with | some u => u.enc ren0 | none => undef) (fun x u hx => by simp [hx]) _ vs h).2 u hu
  exact opv_closed hc hx
/-- what a look adds -/
theorem lookK_some {P : Program} {Γ : Env} {o : Oper} {k nm : Nat} {tm : Tm} {hp : Hp} {x : Option AV × Hp} (h : lookK P Γ o k nm tm hp (fun v hp' => some (some v, hp')) = some x) :
    ∃ vs v news, opvs tm o.op.operands.toList = some vs ∧ lookV P Γ.lk o.op vs hp nm (fun v n => some (v, n)) = some (v, news) ∧ news.length ≤ k ∧ (∀ i, i < k → hp.getD (nm + i) none = none) ∧ x = (some v, addL hp nm news) := by
  unfold lookK at h
  split at h
  · rename_i vs hvs
    cases hf : freeN hp nm k with
    | false => rw [hf] at h; cases h
    | true =>
      rw [hf, cond_true, lookV_eq] at h
      cases hl : lookV P Γ.lk o.op vs hp nm (fun v n => some (v, n)) with
      | none => rw [hl] at h; cases h
      | some y =>
        obtain ⟨v, news⟩ := y
        rw [hl, Option.bind_some] at h
        unfold atMost at h
        cases hb : Nat.ble news.length k with
        | false => simp only [hb, cond_false] at h; cases h
        | true =>
          simp only [hb, cond_true] at h
          cases h
          exact ⟨vs, v, news, hvs, hl, Nat.le_of_ble_eq_true hb, freeN_spec.1 hf, rfl⟩
  · cases h
theorem memK_some {P : Program} {o : Oper} {nm : Nat} {tm : Tm} {hp : Hp} {x : Option AV × Hp} (h : memK P o nm tm hp (fun v hp' => some (some v, hp')) = some x) :
    ∃ vs v hp', opvs tm o.op.operands.toList = some vs ∧ memV P o.op vs hp nm (fun v h => some (v, h)) = some (v, hp') ∧ hp.getD nm none = none ∧ x = (some v, hp') := by
  unfold memK at h
  split at h
  · rename_i vs hvs
    split at h
    · rename_i hn
      rw [memV_eq] at h
      cases hl : memV P o.op vs hp nm (fun v h => some (v, h)) with
      | none => rw [hl] at h; cases h
      | some y =>
        obtain ⟨v, hp'⟩ := y
        rw [hl] at h
        cases h
        exact ⟨vs, v, hp', hvs, hl, hn, rfl⟩
    · cases h
  · cases h

theorem callArgs_closed {tm : Tm} {hp : Hp} {o : Op} {vs : List AV} (hc : ClosedT tm hp) (h : callArgs tm o = some vs) : ∀ u ∈ vs, ClosedV hp u := by
  unfold callArgs at h
  split at h
  · intro u hu
    obtain ⟨x, _, hx⟩ := (opvs_spec (ρ := ren0) (e := fun x => match opv tm x with | some u => u.enc ren0 | none => undef) (fun x u hx => by simp [hx]) _ vs h).2 u hu
    exact opv_closed hc hx
  · cases h

theorem step_closed {P : Program} {Γ : Env} (hΓ : Γ.Good) {ops : List Oper} {o : Oper} {nm : Nat} {st st' : St} (hc : Closed st)
    (h : stepD P Γ ops o nm st = some st') : Closed st' ∧ (∀ m, Pres st.hp m → Pres st'.hp m) ∧ st'.base = st.base := by
  unfold stepD at h
  cases g : geff P Γ ops o nm st.tm st.hp with
  | none => simp [g] at h
  | some x =>
    simp only [g, Option.map_some, Option.some.injEq] at h
    subst h
    suffices hs : (∀ m, Pres st.hp m → Pres x.2 m) ∧ ClosedH x.2 ∧ ∀ u, x.1 = some u → ClosedV x.2 u from
      ⟨⟨setT_closed hc.tm hs.1 hs.2.2, hs.2.1⟩, hs.1, rfl⟩
    rcases geff_cases g with ⟨f, _⟩ | ⟨rfl, _⟩
    · unfold effD at f
      cases hcl : cls Γ o.op <;> simp only [hcl] at f
      · cases hv : val P st.tm o with
        | none => simp [hv] at f
        | some v =>
          simp only [hv, Option.map_some, Option.some.injEq] at f
          subst f
          refine ⟨fun m h => h, hc.hp, fun u hu => ?_⟩
          cases hu
          intro m hm
          obtain ⟨y, _, w, hw, m', hwm, himp⟩ := val_from hv m hm
          exact (opv_closed hc.tm hw m' hwm).imp himp
      · split at f
        · rename_i t y _
          cases hv : loadK P st.tm st.hp t y some with
          | none => simp [hv] at f
          | some v =>
            simp only [hv, Option.map_some, Option.some.injEq] at f
            subst f
            exact ⟨fun m h => h, hc.hp, fun u hu => by cases hu; exact loadK_closed hc.hp hc.tm hv⟩
        · cases f
      · split at f
        · rename_i t y z _
          cases hv : storeK P st.tm st.hp t y z some with
          | none => simp [hv] at f
          | some hp' =>
            simp only [hv, Option.map_some, Option.some.injEq] at f
            subst f
            unfold storeK at hv
            cases hy : opv st.tm y with
            | none => rw [hy] at hv; cases hv
            | some u =>
              cases hz : opv st.tm z with
              | none => rw [hy, hz] at hv; cases hv
              | some w =>
                rw [hy, hz] at hv
                obtain ⟨m, tr, tr', _, f2, rfl, f3, f4, _, _⟩ := storeV_form hv (opv_closed hc.tm hy)
                refine ⟨fun m h => pres_put f2 f3 h, fun k v hk m' hm => ?_, fun u hu => by cases hu⟩
                simp only at hk
                rw [getD_setP] at hk
                by_cases e : m = k
                · rw [if_pos e] at hk; cases hk
                  rcases f4 m' hm with h | h
                  · exact pres_put f2 f3 (hc.hp _ _ f2 m' h)
                  · exact pres_put f2 f3 (opv_closed hc.tm hz m' h)
                · rw [if_neg e] at hk
                  exact pres_put f2 f3 (hc.hp _ _ hk m' hm)
        · cases f
      · cases ha : allocA P st.tm o.op with
        | none => simp [ha] at f
        | some v =>
          cases hg : st.hp.getD nm none with
          | some _ => simp only [ha, hg] at f; cases f
          | none =>
            simp only [ha, hg, Option.some.injEq] at f
            subst f
            suffices hcv : ClosedV st.hp v by
              refine ⟨fun m h => pres_add hg h, fun k w hk m hm => ?_, fun u hu => by cases hu; intro m hm; simp only [AV.has] at hm; subst hm; exact ⟨v, by rw [getD_setP, if_pos rfl]⟩⟩
              simp only at hk
              rw [getD_setP] at hk
              by_cases e : nm = k
              · rw [if_pos e] at hk; cases hk; exact pres_add hg (hcv m hm)
              · rw [if_neg e] at hk; exact pres_add hg (hc.hp _ _ hk m hm)
            intro m hm
            unfold allocA at ha
            split at ha
            · split at ha
              · rename_i z hz
                cases ho : z.oneA with
                | false => simp [ho] at ha
                | true =>
                  simp only [ho, cond_true, Option.some.injEq] at ha
                  subst ha
                  obtain ⟨_, _, _, _, _, hh, _⟩ := zeroA_spec hz
                  exact absurd hm (hh m)
              · cases ha
            · split at ha
              · rename_i z hz
                cases ho : z.oneA with
                | false => simp [ho] at ha
                | true =>
                  simp only [ho, cond_true, Option.some.injEq] at ha
                  subst ha
                  exact opv_closed hc.tm hz m hm
              · cases ha
            · cases ha
      · rename_i s
        obtain ⟨fn, hf⟩ := law_of_cls (e := .pure s) hcl trivial
        have hgood := hΓ _ _ hf
        cases hv : callArgs st.tm o.op with
        | none => simp [hv] at f
        | some vs =>
          simp only [hv] at f
          cases hr : s.run vs some with
          | none => simp [hr] at f
          | some v =>
            simp only [hr, Option.map_some, Option.some.injEq] at f
            subst f
            exact ⟨fun m h => h, hc.hp, fun u hu => by cases hu; intro m hm; exact absurd hm (hgood.2.1 _ _ hr m)⟩
      · rename_i s
        obtain ⟨fn, hf⟩ := law_of_cls (e := .read s) hcl trivial
        have hgood := hΓ _ _ hf
        cases hv : callArgs st.tm o.op with
        | none => simp [hv] at f
        | some vs =>
          simp only [hv] at f
          cases hr : s.run vs st.hp some with
          | none => simp [hr] at f
          | some v =>
            simp only [hr, Option.map_some, Option.some.injEq] at f
            subst f
            exact ⟨fun m h => h, hc.hp, fun u hu => by cases hu; exact hgood.2.1 _ _ _ hr hc.hp (callArgs_closed hc.tm hv)⟩
      · rename_i s
        obtain ⟨fn, hf⟩ := law_of_cls (e := .full s) hcl trivial
        have hgood := hΓ _ _ hf
        cases hv : callArgs st.tm o.op with
        | none => simp [hv] at f
        | some vs =>
          simp only [hv] at f
          cases hg : st.hp.getD nm none with
          | some _ => simp only [hg] at f; cases f
          | none =>
            simp only [hg] at f
            rw [hgood.1] at f
            cases hr : s.run vs st.hp nm (fun v h => some (v, h)) with
            | none => simp [hr] at f
            | some y =>
              obtain ⟨v, hp'⟩ := y
              simp only [hr, Option.bind_some, Option.some.injEq] at f
              subst f
              obtain ⟨h1, h2, h3⟩ := hgood.2.1 _ _ _ _ _ hr hc.hp (callArgs_closed hc.tm hv)
              exact ⟨h3, h2, fun u hu => by cases hu; exact h1⟩
      · obtain ⟨vs, v, news, hvs, hl, hk, hfr, rfl⟩ := lookK_some f
        have hfr' : ∀ i, i < news.length → st.hp.getD (nm + i) none = none := fun i hi => hfr i (by omega)
        obtain ⟨h1, h2⟩ := look_closed hl hc.hp (opvs_closed hc.tm hvs) hfr'
        have hg := grows_addL hfr' h2
        exact ⟨hg.pres, hg.closed hc.hp, fun u hu => by cases hu; exact h1⟩
      · obtain ⟨vs, v, hp', hvs, hl, hn, rfl⟩ := memK_some f
        obtain ⟨hg, h1⟩ := mem_closed hl hn hc.hp (opvs_closed hc.tm hvs)
        exact ⟨hg.pres, hg.closed hc.hp, fun u hu => by cases hu; exact h1⟩
      · cases f
    · exact ⟨fun m h => h, hc.hp, fun u hu => by cases hu; intro m hm; simp [undefA, AV.has, AV.hasL] at hm⟩

theorem setT_wf {tm : Tm} {d : Option Tmp} {v : Option AV} (h : WfT tm) (hv : ∀ u, v = some u → u.wf) : WfT (setT tm d v) := by
  intro i u hu
  cases d with
  | none => exact h i u hu
  | some d =>
    simp only [setT, List.getD_eq_getElem?_getD, List.getElem?_set] at hu
    split at hu
    · split at hu
      · cases v with
        | none => simp at hu
        | some w => simp at hu; subst hu; exact hv w rfl
      · simp at hu
    · exact h i u (by simpa using hu)

theorem callArgs_wf {tm : Tm} {o : Op} {vs : List AV} (hw : WfT tm) (h : callArgs tm o = some vs) : ∀ u ∈ vs, u.wf := by
  unfold callArgs at h
  split at h
  · exact opvs_wf hw h
  · cases h

theorem step_wf {P : Program} {Γ : Env} (hΓ : Γ.Good) {ops : List Oper} {o : Oper} {nm : Nat} {st st' : St} (hw : WfSt st) (hc : Closed st)
    (h : stepD P Γ ops o nm st = some st') : WfSt st' := by
  unfold stepD at h
  cases g : geff P Γ ops o nm st.tm st.hp with
  | none => simp [g] at h
  | some x =>
    simp only [g, Option.map_some, Option.some.injEq] at h
    subst h
    suffices hs : WfH x.2 ∧ ∀ u, x.1 = some u → u.wf from ⟨setT_wf hw.tm hs.2, hs.1⟩
    rcases geff_cases g with ⟨f, _⟩ | ⟨rfl, _⟩
    · unfold effD at f
      cases hcl : cls Γ o.op <;> simp only [hcl] at f
      · cases hv : val P st.tm o with
        | none => simp [hv] at f
        | some v =>
          simp only [hv, Option.map_some, Option.some.injEq] at f
          subst f
          exact ⟨hw.hp, fun u hu => by cases hu; exact val_wf hw.tm hv⟩
      · split at f
        · rename_i t y _
          cases hv : loadK P st.tm st.hp t y some with
          | none => simp [hv] at f
          | some v =>
            simp only [hv, Option.map_some, Option.some.injEq] at f
            subst f
            refine ⟨hw.hp, fun u hu => ?_⟩
            cases hu
            exact loadK_wf hw.hp hw.tm hc.tm hv
        · cases f
      · split at f
        · rename_i t y z _
          cases hv : storeK P st.tm st.hp t y z some with
          | none => simp [hv] at f
          | some hp' =>
            simp only [hv, Option.map_some, Option.some.injEq] at f
            subst f
            refine ⟨?_, fun u hu => by cases hu⟩
            unfold storeK at hv
            cases hy : opv st.tm y with
            | none => rw [hy] at hv; cases hv
            | some u =>
              cases hz : opv st.tm z with
              | none => rw [hy, hz] at hv; cases hv
              | some w =>
                rw [hy, hz] at hv
                obtain ⟨m, tr, tr', _, f2, rfl, _, _, f5, _⟩ := storeV_form hv (opv_closed hc.tm hy)
                exact wf_put hw.hp (f5 (hw.hp _ _ f2) (opv_wf hw.tm hz))
        · cases f
      · cases ha : allocA P st.tm o.op with
        | none => simp [ha] at f
        | some v =>
          cases hg : st.hp.getD nm none with
          | some _ => simp only [ha, hg] at f; cases f
          | none =>
            simp only [ha, hg, Option.some.injEq] at f
            subst f
            refine ⟨wf_put hw.hp ?_, fun u hu => by cases hu; simp only [AV.wf]⟩
            unfold allocA at ha
            split at ha
            · split at ha
              · rename_i z hz
                cases ho : z.oneA with
                | false => simp [ho] at ha
                | true =>
                  simp only [ho, cond_true, Option.some.injEq] at ha
                  subst ha
                  obtain ⟨_, _, _, _, _, _, hh⟩ := zeroA_spec hz
                  exact hh
              · cases ha
            · split at ha
              · rename_i z hz
                cases ho : z.oneA with
                | false => simp [ho] at ha
                | true => simp only [ho, cond_true, Option.some.injEq] at ha; subst ha; exact opv_wf hw.tm hz
              · cases ha
            · cases ha
      · rename_i s
        obtain ⟨fn, hf⟩ := law_of_cls (e := .pure s) hcl trivial
        have hgood := hΓ _ _ hf
        cases hv : callArgs st.tm o.op with
        | none => simp [hv] at f
        | some vs =>
          simp only [hv] at f
          cases hr : s.run vs some with
          | none => simp [hr] at f
          | some v =>
            simp only [hr, Option.map_some, Option.some.injEq] at f
            subst f
            exact ⟨hw.hp, fun u hu => by cases hu; exact hgood.2.2 _ _ hr (callArgs_wf hw.tm hv)⟩
      · rename_i s
        obtain ⟨fn, hf⟩ := law_of_cls (e := .read s) hcl trivial
        have hgood := hΓ _ _ hf
        cases hv : callArgs st.tm o.op with
        | none => simp [hv] at f
        | some vs =>
          simp only [hv] at f
          cases hr : s.run vs st.hp some with
          | none => simp [hr] at f
          | some v =>
            simp only [hr, Option.map_some, Option.some.injEq] at f
            subst f
            exact ⟨hw.hp, fun u hu => by cases hu; exact hgood.2.2 _ _ _ hr (callArgs_wf hw.tm hv) hw.hp⟩
      · rename_i s
        obtain ⟨fn, hf⟩ := law_of_cls (e := .full s) hcl trivial
        have hgood := hΓ _ _ hf
        cases hv : callArgs st.tm o.op with
        | none => simp [hv] at f
        | some vs =>
          simp only [hv] at f
          cases hg : st.hp.getD nm none with
          | some _ => simp only [hg] at f; cases f
          | none =>
            simp only [hg] at f
            rw [hgood.1] at f
            cases hr : s.run vs st.hp nm (fun v h => some (v, h)) with
            | none => simp [hr] at f
            | some y =>
              obtain ⟨v, hp'⟩ := y
              simp only [hr, Option.bind_some, Option.some.injEq] at f
              subst f
              obtain ⟨h1, h2⟩ := hgood.2.2 _ _ _ _ _ hr (callArgs_wf hw.tm hv) hw.hp
              exact ⟨h2, fun u hu => by cases hu; exact h1⟩
      · obtain ⟨vs, v, news, hvs, hl, hk, hfr, rfl⟩ := lookK_some f
        obtain ⟨h1, h2⟩ := look_wf hΓ.lk hl hw.hp (opvs_wf hw.tm hvs) (opvs_closed hc.tm hvs)
        exact ⟨wf_addL hw.hp h2, fun u hu => by cases hu; exact h1⟩
      · obtain ⟨vs, v, hp', hvs, hl, hn, rfl⟩ := memK_some f
        obtain ⟨h1, h2⟩ := mem_wf hl hw.hp (opvs_wf hw.tm hvs)
        exact ⟨h2, fun u hu => by cases hu; exact h1⟩
      · cases f
    · exact ⟨hw.hp, fun u hu => by cases hu; simp [undefA, AV.wf, AV.wfL]⟩

/-! orders -/
def rkL (Γ : Env) (l : List Oper) : Nat := (l.map (isAl Γ)).sum

def stepI (P : Program) (Γ : Env) (ops : List Oper) (i : Nat) (st : St) : Option St :=
  match ops[i]? with
  | some o => stepD P Γ ops o (st.base + rkL Γ (ops.take i)) st
  | none => some st

def AnyA (P : Program) (Γ : Env) (ops : List Oper) (G : St → Prop) : Nat → Array Bool → St → Prop
  | 0, listed, st => Region.ready .any ops.toArray listed = [] ∧ G st
  | n + 1, listed, st => (Region.ready .any ops.toArray listed = [] → G st) ∧
      ∀ i ∈ Region.ready .any ops.toArray listed, ∃ st', stepI P Γ ops i st = some st' ∧ AnyA P Γ ops G n (listed.setIfInBounds i true) st'

/-! tables of pointers -/
def addrFrom (bl : Bl) (n : Nat) : Op → Bool
  | .indexAddr _ (.tmp x) _ | .fieldAddr _ (.tmp x) _ | .nilCheck (.tmp x) | .move (.tmp x) | .assign (.tmp x) => bl.any fun y => Nat.beq y.1 x && Nat.beq y.2 n
  | _ => false

def Cls.news : Cls → Bool
  | .alloc => true
  | _ => false

def keepOne (Γ : Env) (bl : Bl) (n : Nat) (o : Oper) : Bool :=
  match o.dst with
  | none => true
  | some d => bl.all fun y => !Nat.beq y.1 d || (addrFrom bl y.2 o.op || ((cls Γ o.op).news && Nat.beq y.2 n))

def keepFrom (Γ : Env) (bl : Bl) : Nat → List Oper → Bool
  | _, [] => true
  | c, o :: os => keepOne Γ bl c o && keepFrom Γ bl (c + isAl Γ o) os

/-- the table is kept by every operation -/
def Keeps (Γ : Env) (bl : Bl) (b : Nat) (ops : List Oper) : Prop := ∀ i o, ops[i]? = some o → keepOne Γ bl (b + rkL Γ (ops.take i)) o = true

theorem keepFrom_spec {Γ : Env} {bl : Bl} : ∀ {ops : List Oper} {c : Nat}, keepFrom Γ bl c ops = true → Keeps Γ bl c ops
  | [], _, _ => fun i o h => by simp at h
  | o :: os, c, h => by
    simp only [keepFrom, Bool.and_eq_true] at h
    intro i x hx
    cases i with
    | zero => simp at hx; subst hx; simpa [rkL] using h.1
    | succ i =>
      have := keepFrom_spec h.2 i x (by simpa using hx)
      rw [List.take_succ_cons, show rkL Γ (o :: os.take i) = isAl Γ o + rkL Γ (os.take i) by simp [rkL], ← Nat.add_assoc]
      exact this

def initB (bl : Bl) (tm : Tm) : Bool :=
  bl.all fun y => match tm.getD y.1 none with
    | none => true
    | some (.ptr n _) => Nat.beq n y.2
    | some (.tup []) => true
    | _ => false

theorem initB_spec {bl : Bl} {tm : Tm} (h : initB bl tm = true) : InvB bl tm := by
  intro x hx
  have := List.all_eq_true.1 h x hx
  split at this
  · rename_i e; exact .inl e
  · rename_i n p e; exact .inr (.inr ⟨p, by rw [e, Nat.eq_of_beq_eq_true this]⟩)
  · rename_i e; exact .inr (.inl e)
  · cases this

theorem invB_nil {tm : Tm} : InvB [] tm := fun x hx => by cases hx

theorem indexAddr_ptr {P : Program} {t : TypeId} {n : Nat} {p : List Sel} {u v : AV} (hv : indexAddrK P t (.ptr n p) u some = some v) : ∃ p', v = .ptr n p' := by
  unfold indexAddrK at hv
  cases hu : P.underlying t with
  | none => simp [hu] at hv
  | some d =>
    cases d <;> simp only [hu] at hv <;> try (cases hv; done)
    rename_i len e
    cases u <;> simp only at hv <;> try (cases hv; done)
    rename_i k j
    cases hi : P.info? e with
    | none => simp [hi] at hv
    | some ie =>
      simp only [hi] at hv
      cases hb : inB j len with
      | false => simp [hb] at hv
      | true =>
        simp only [hb, cond_true] at hv
        cases hc : isIntT P e with
        | false => simp only [hc, cond_false, Option.some.injEq] at hv; exact ⟨_, hv.symm⟩
        | true =>
          simp only [hc, cond_true] at hv
          cases hd : Nat.beq ie.size 1 with
          | false => simp only [hd, cond_false] at hv; cases hv
          | true => simp only [hd, cond_true, Option.some.injEq] at hv; exact ⟨_, hv.symm⟩

theorem addrFrom_val {P : Program} {bl : Bl} {tm : Tm} {o : Oper} {n : Nat} {v : AV} (hI : InvB bl tm) (h : addrFrom bl n o.op = true) (hv : val P tm o = some v) : v = undefA ∨ ∃ p, v = .ptr n p := by
  have look : ∀ {x : Nat} {u : AV}, (bl.any fun y => Nat.beq y.1 x && Nat.beq y.2 n) = true → opv tm (.tmp x) = some u → u = undefA ∨ ∃ p, u = .ptr n p := by
    intro x u hb hu
    obtain ⟨y, hy, hy2⟩ := List.any_eq_true.1 hb
    simp only [Bool.and_eq_true] at hy2
    have e1 := Nat.eq_of_beq_eq_true hy2.1
    have e2 := Nat.eq_of_beq_eq_true hy2.2
    rcases hI y hy with e | e | ⟨p, e⟩
    · rw [e1] at e; simp only [opv] at hu; rw [e] at hu; cases hu
    · rw [e1] at e; simp only [opv] at hu; rw [e] at hu; cases hu; exact .inl rfl
    · rw [e1] at e; simp only [opv] at hu; rw [e] at hu; cases hu; exact .inr ⟨p, by rw [e2]⟩
  have plain : ∀ {x : Nat}, (bl.any fun y => Nat.beq y.1 x && Nat.beq y.2 n) = true → ∀ w, opv tm (.tmp x) ≠ some (.x w) := by
    intro x hb w hw
    rcases look hb hw with h | ⟨p, h⟩ <;> cases h
  unfold addrFrom at h
  unfold val valK at hv
  split at h
  · rename_i t x i ho
    have hx0 : xop tm o.op = false := by
      rw [ho]
      show (match opv tm (.tmp x) with | some (.x _) => true | _ => false) = false
      split
      · rename_i hw; exact absurd hw (plain h _)
      · rfl
    rw [hx0, cond_false] at hv
    unfold valK0 at hv
    simp only [ho] at hv
    cases hx : opv tm (.tmp x) with
    | none => simp only [hx] at hv; cases hv
    | some u =>
      obtain rfl | ⟨p, rfl⟩ := look h hx
      · simp only [hx] at hv; split at hv
        · unfold indexAddrK at hv; repeat' (split at hv <;> try (cases hv; done))
          all_goals (rename_i hh; cases hh)
        · cases hv
      simp only [hx] at hv
      split at hv
      · exact .inr (indexAddr_ptr hv)
      · cases hv
  · rename_i t x i ho
    have hx0 : xop tm o.op = false := by
      rw [ho]
      show (match opv tm (.tmp x) with | some (.x _) => true | _ => false) = false
      split
      · rename_i hw; exact absurd hw (plain h _)
      · rfl
    rw [hx0, cond_false] at hv
    unfold valK0 at hv
    simp only [ho] at hv
    split at hv
    · cases hx : opv tm (.tmp x) with
      | none => simp only [hx] at hv; cases hv
      | some u =>
        obtain rfl | ⟨p, rfl⟩ := look h hx
        · simp only [hx, undefA] at hv; cases hv
        simp only [hx] at hv
        split at hv
        · split at hv
          · rename_i fi hfi
            cases hb : Nat.beq fi.size 0 with
            | false => simp only [hb, cond_false, Option.some.injEq] at hv; exact .inr ⟨_, hv.symm⟩
            | true => simp only [hb, cond_true] at hv; cases hv
          · cases hv
        · cases hv
    · cases hv
  · rename_i x ho
    have hx0 : xop tm o.op = false := by
      rw [ho]
      show (match opv tm (.tmp x) with | some (.x _) => true | _ => false) = false
      split
      · rename_i hw; exact absurd hw (plain h _)
      · rfl
    rw [hx0, cond_false] at hv
    unfold valK0 at hv
    simp only [ho] at hv
    cases hx : opv tm (.tmp x) with
    | none => simp only [hx] at hv; cases hv
    | some u =>
      obtain rfl | ⟨p, rfl⟩ := look h hx
      · simp only [hx, undefA] at hv; first | exact .inl hv.symm | cases hv
      simp only [hx, Option.some.injEq] at hv
      exact .inr ⟨_, hv.symm⟩
  · rename_i x ho
    have hx0 : xop tm o.op = false := by rw [ho]; rfl
    rw [hx0, cond_false] at hv
    unfold valK0 at hv
    simp only [ho, getK] at hv
    cases hx : opv tm (.tmp x) with
    | none => simp only [hx] at hv; cases hv
    | some u =>
      obtain rfl | ⟨p, rfl⟩ := look h hx
      · simp only [hx, undefA, Option.some.injEq] at hv; first | exact .inl hv.symm | cases hv
      simp only [hx, Option.some.injEq] at hv
      exact .inr ⟨_, hv.symm⟩
  · rename_i x ho
    have hx0 : xop tm o.op = false := by rw [ho]; rfl
    rw [hx0, cond_false] at hv
    unfold valK0 at hv
    simp only [ho, getK] at hv
    cases hx : opv tm (.tmp x) with
    | none => simp only [hx] at hv; cases hv
    | some u =>
      obtain rfl | ⟨p, rfl⟩ := look h hx
      · simp only [hx, undefA, Option.some.injEq] at hv; first | exact .inl hv.symm | cases hv
      simp only [hx, Option.some.injEq] at hv
      exact .inr ⟨_, hv.symm⟩
  · cases h

theorem addrFrom_cls {Γ : Env} {bl : Bl} {n : Nat} {op : Op} (h : addrFrom bl n op = true) : cls Γ op = .val := by
  unfold addrFrom at h
  split at h <;> first | rfl | cases h

theorem getD_setT {tm : Tm} {d : Option Tmp} {v : Option AV} {t : Nat} (h : d ≠ some t) : (setT tm d v).getD t none = tm.getD t none := by
  cases d with
  | none => rfl
  | some e =>
    have : e ≠ t := fun he => h (by rw [he])
    simp [setT, List.getD_eq_getElem?_getD, this]

theorem step_inv {P : Program} {Γ : Env} {bl : Bl} {ops : List Oper} {o : Oper} {nm : Nat} {st st' : St} (hk : keepOne Γ bl nm o = true) (hI : InvB bl st.tm)
    (h : stepD P Γ ops o nm st = some st') : InvB bl st'.tm := by
  unfold stepD at h
  cases g : geff P Γ ops o nm st.tm st.hp with
  | none => simp [g] at h
  | some x =>
    simp only [g, Option.map_some, Option.some.injEq] at h
    subst h
    intro y hy
    show (setT st.tm o.dst x.1).getD y.1 none = none ∨ _
    by_cases hd : o.dst = some y.1
    · have hk1 := hk
      unfold keepOne at hk1
      rw [hd] at hk1
      have hk2 := List.all_eq_true.1 hk1 y hy
      rw [Nat.beq_refl, Bool.not_true, Bool.false_or, Bool.or_eq_true] at hk2
      have key : x.1 = some undefA ∨ ∃ p, x.1 = some (.ptr y.2 p) := by
        rcases geff_cases g with ⟨f, _⟩ | ⟨rfl, _⟩
        · rcases hk2 with hk2 | hk2
          case inr =>
            simp only [Bool.and_eq_true] at hk2
            have hc : cls Γ o.op = .alloc := by
              have := hk2.1
              cases hq : cls Γ o.op <;> rw [hq] at this <;> first | rfl | cases this
            unfold effD at f
            simp only [hc] at f
            cases ha : allocA P st.tm o.op with
            | none => simp only [ha] at f; cases f
            | some v =>
              cases hg : st.hp.getD nm none with
              | some _ => simp only [ha, hg] at f; cases f
              | none =>
                simp only [ha, hg, Option.some.injEq] at f
                subst f
                exact .inr ⟨[], by rw [Nat.eq_of_beq_eq_true hk2.2]⟩
          have hc := addrFrom_cls (Γ := Γ) hk2
          unfold effD at f
          simp only [hc] at f
          cases hv : val P st.tm o with
          | none => simp [hv] at f
          | some v =>
            simp only [hv, Option.map_some, Option.some.injEq] at f
            obtain rfl | ⟨p, rfl⟩ := addrFrom_val hI hk2 hv
            · subst f; exact .inl rfl
            subst f
            exact .inr ⟨p, rfl⟩
        · exact .inl rfl
      rw [hd]
      by_cases hl : y.1 < st.tm.length
      · rcases key with e | ⟨p, e⟩
        · right; left; rw [e]; simp [setT, List.getD_eq_getElem?_getD, hl]
        · right; right; exact ⟨p, by rw [e]; simp [setT, List.getD_eq_getElem?_getD, hl]⟩
      · left
        simp [setT, List.getD_eq_getElem?_getD, hl]
    · rw [getD_setT hd]
      exact hI y hy

/-- the test on a region: whoever comes later waits for the earlier one, or may change places with it -/
def pairB (bl : Bl) (Γ : Env) (ops : List Oper) (i _j : Nat) (oi oj : Oper) : Bool :=
  oj.after.any (fun e => Region.binds .any e && e.on == i) || (oi.apart ops.toArray oj && (pairOk (cls Γ oi.op) (cls Γ oj.op) || farB Γ bl oi oj))

def laterB (bl : Bl) (Γ : Env) (ops : List Oper) (i : Nat) (oi : Oper) : Nat → List Oper → Bool
  | _, [] => true
  | j, oj :: r => pairB bl Γ ops i j oi oj && laterB bl Γ ops i oi (j + 1) r

def chkFrom (bl : Bl) (Γ : Env) (ops : List Oper) : Nat → List Oper → Bool
  | _, [] => true
  | i, oi :: r => oi.after.all (fun e => !Region.binds .any e || Nat.blt e.on i) && laterB bl Γ ops i oi (i + 1) r && chkFrom bl Γ ops (i + 1) r

def chkB (bl : Bl) (Γ : Env) (ops : List Oper) (tm : Tm) (base : Nat) : Bool := initB bl tm && keepFrom Γ bl base ops && chkFrom bl Γ ops 0 ops

/-- where the pointers of a region's text lead -/
def rootB (tm : Tm) (x : Nat) (bl : Bl) : Bl :=
  match bl.find? fun y => Nat.beq y.1 x with
  | some _ => bl
  | none => match tm.getD x none with
    | some (.ptr n _) => (x, n) :: bl
    | _ => bl

def mkBl (Γ : Env) (tm : Tm) : Nat → List Oper → Bl → Bl
  | _, [], bl => bl
  | c, o :: os, bl =>
    bif (cls Γ o.op).news then
      match o.dst with
      | some d => mkBl Γ tm (c + isAl Γ o) os ((d, c) :: bl)
      | none => mkBl Γ tm (c + isAl Γ o) os bl
    else match o.op with
    | .load _ (.tmp x) | .store _ (.tmp x) _ => mkBl Γ tm (c + isAl Γ o) os (rootB tm x bl)
    | .indexAddr _ (.tmp x) _ | .fieldAddr _ (.tmp x) _ | .nilCheck (.tmp x) | .move (.tmp x) | .assign (.tmp x) =>
      let bl' := rootB tm x bl
      match o.dst, bl'.find? fun y => Nat.beq y.1 x with
      | some d, some y => mkBl Γ tm (c + isAl Γ o) os ((d, y.2) :: bl')
      | _, _ => mkBl Γ tm (c + isAl Γ o) os bl'
    | _ => mkBl Γ tm (c + isAl Γ o) os bl

def chk (Γ : Env) (ops : List Oper) (tm : Tm) (base : Nat) : Bool := chkFrom [] Γ ops 0 ops || chkB (mkBl Γ tm base ops []) Γ ops tm base

theorem chk_spec {Γ : Env} {ops : List Oper} {tm : Tm} {base : Nat} (h : chk Γ ops tm base = true) : ∃ bl, InvB bl tm ∧ Keeps Γ bl base ops ∧ chkFrom bl Γ ops 0 ops = true := by
  rcases (Bool.or_eq_true _ _).mp h with h | h
  · exact ⟨[], invB_nil, fun i o _ => by unfold keepOne; cases o.dst <;> rfl, h⟩
  · simp only [chkB, Bool.and_eq_true] at h
    exact ⟨_, initB_spec h.1.1, keepFrom_spec h.1.2, h.2⟩

theorem laterB_spec {bl : Bl} {Γ : Env} {ops : List Oper} {i : Nat} {oi : Oper} : ∀ {l : List Oper} {j : Nat}, laterB bl Γ ops i oi j l = true → ∀ k oj, l[k]? = some oj → pairB bl Γ ops i (j + k) oi oj = true
  | [], _, _, k, oj, h => by simp at h
  | o :: l, j, h, 0, oj, hk => by
    simp only [laterB, Bool.and_eq_true] at h
    simp at hk; subst hk; exact h.1
  | o :: l, j, h, k + 1, oj, hk => by
    simp only [laterB, Bool.and_eq_true] at h
    have := laterB_spec h.2 k oj (by simpa using hk)
    rwa [show j + 1 + k = j + (k + 1) by omega] at this

theorem chkFrom_spec {bl : Bl} {Γ : Env} {ops : List Oper} : ∀ {l : List Oper} {k : Nat}, chkFrom bl Γ ops k l = true → (∀ j, l[j]? = ops[k + j]?) →
    ∀ i oi, k ≤ i → ops[i]? = some oi → (∀ e ∈ oi.after, Region.binds .any e = true → e.on < i) ∧ ∀ j oj, i < j → ops[j]? = some oj → pairB bl Γ ops i j oi oj = true
  | [], k, _, hl, i, oi, hk, ho => by
    have := hl (i - k)
    rw [show k + (i - k) = i by omega, ho] at this
    simp at this
  | o :: l, k, h, hl, i, oi, hk, ho => by
    simp only [chkFrom, Bool.and_eq_true] at h
    obtain ⟨⟨h1, h2⟩, h3⟩ := h
    by_cases he : i = k
    · subst he
      have h0 := hl 0
      simp at h0
      rw [ho] at h0
      cases h0
      refine ⟨fun e hm hb => ?_, fun j oj hj hoj => ?_⟩
      · have := Array.all_eq_true_iff_forall_mem.1 h1 e hm
        simp only [hb, Bool.not_true, Bool.false_or] at this
        simp [Nat.blt] at this; omega
      · have hj' := hl (j - i)
        rw [show i + (j - i) = j by omega, hoj] at hj'
        obtain ⟨d, hd⟩ : ∃ d, j - i = d + 1 := ⟨j - i - 1, by omega⟩
        rw [hd, List.getElem?_cons_succ] at hj'
        have := laterB_spec h2 d oj hj'
        rwa [show i + 1 + d = j by omega] at this
    · exact chkFrom_spec h3 (fun j => by have := hl (j + 1); rw [List.getElem?_cons_succ] at this; rw [this]; congr 1; omega) i oi (by omega) ho

theorem pairB_spec {bl : Bl} {Γ : Env} {ops : List Oper} {i j : Nat} {oi oj : Oper} (h : pairB bl Γ ops i j oi oj = true) (hno : ∀ e ∈ oj.after, Region.binds .any e = true → e.on ≠ i) :
    oi.apart ops.toArray oj = true ∧ (pairOk (cls Γ oi.op) (cls Γ oj.op) || farB Γ bl oi oj) = true := by
  unfold pairB at h
  rw [Bool.or_eq_true, Bool.and_eq_true] at h
  rcases h with h | h
  · obtain ⟨e, he, hb⟩ := Array.any_eq_true'.1 h
    simp only [Bool.and_eq_true, beq_iff_eq] at hb
    exact absurd hb.2 (hno e he hb.1)
  · exact h

theorem rkL_lt {Γ : Env} {ops : List Oper} {i j : Nat} {oi : Oper} (hi : ops[i]? = some oi) (hij : i < j) : rkL Γ (ops.take i) + isAl Γ oi ≤ rkL Γ (ops.take j) := by
  unfold rkL
  have e : ops.take j = ops.take i ++ oi :: (ops.drop (i + 1)).take (j - i - 1) := by
    conv => lhs; rw [split_at hi]
    rw [List.take_append, List.length_take]
    have hlt : i < ops.length := (List.getElem?_eq_some_iff.1 hi).1
    rw [List.take_of_length_le (by simp; omega), Nat.min_eq_left (by omega)]
    obtain ⟨d, hd⟩ : ∃ d, j - i = d + 1 := ⟨j - i - 1, by omega⟩
    rw [hd, List.take_succ_cons]
    simp
  rw [e]
  simp
  try omega

theorem AnyA_first {P : Program} {Γ : Env} (hΓ : Γ.Good) {bl : Bl} {ops : List Oper} {b0 : Nat} (hkeep : Keeps Γ bl b0 ops) {G : St → Prop} {i : Nat} {oi : Oper} (hi : ops[i]? = some oi)
    (hpair : ∀ j oj, i < j → ops[j]? = some oj → pairB bl Γ ops i j oi oj = true) :
    ∀ (fuel : Nat) (listed : Array Bool) (st s1 : St), st.base = b0 → Closed st → InvB bl st.tm → (∀ j, j < i → listed.getD j true = true) →
      i ∈ Region.ready .any ops.toArray listed → stepI P Γ ops i st = some s1 →
      AnyA P Γ ops G fuel (listed.setIfInBounds i true) s1 → AnyA P Γ ops G (fuel + 1) listed st := by
  intro fuel
  induction fuel with
  | zero =>
    intro listed st s1 _ _ _ _ hr hs H
    refine ⟨fun h => (by rw [h] at hr; cases hr), fun j hj => ?_⟩
    by_cases hji : j = i
    · subst hji; exact ⟨s1, hs, H⟩
    · have := ready_mono hj hji
      rw [H.1] at this
      cases this
  | succ fuel ih =>
    intro listed st s1 hb0 hcl hib hlow hr hs H
    refine ⟨fun h => (by rw [h] at hr; cases hr), fun j hj => ?_⟩
    by_cases hji : j = i
    · subst hji; exact ⟨s1, hs, H⟩
    · obtain ⟨s2, hs2, H2⟩ := H.2 j (ready_mono hj hji)
      obtain ⟨hjun, oj, hoj, hall⟩ := mem_ready.1 hj
      have hoj' : ops[j]? = some oj := by simpa using hoj
      have hlt : i < j := by
        rcases Nat.lt_or_ge j i with h | h
        · rw [hlow j h] at hjun; cases hjun
        · omega
      have hnot : ∀ e ∈ oj.after, Region.binds .any e = true → e.on ≠ i := fun e he hb heq => by
        have h1 := hall e he hb
        have h0 := (mem_ready.1 hr).1
        rw [heq] at h1
        rcases Nat.lt_or_ge i listed.size with h' | h'
        · simp [h'] at h0 h1; rw [h0] at h1; cases h1
        · simp [Array.getElem?_eq_none h'] at h1
      obtain ⟨hap, hpk⟩ := pairB_spec (hpair j oj hlt hoj') hnot
      have hb : s1.base = st.base := by
        have := hs; unfold stepI at this; rw [hi] at this; exact (step_closed hΓ hcl this).2.2
      unfold stepI at hs hs2
      simp only [hi] at hs
      simp only [hoj', hb] at hs2
      have hne : st.base + rkL Γ (ops.take i) + isAl Γ oi ≤ st.base + rkL Γ (ops.take j) := by
        have := rkL_lt (Γ := Γ) hi hlt
        omega
      obtain ⟨t1, ht1, ht2⟩ := step_comm hcl hib hap hpk hne hs hs2
      have hclt := step_closed hΓ hcl ht1
      refine ⟨t1, by unfold stepI; simp only [hoj']; exact ht1, ?_⟩
      refine ih (listed.setIfInBounds j true) t1 s2 (hclt.2.2.trans hb0) hclt.1 (step_inv (hb0 ▸ hkeep j oj hoj') hib ht1) (fun k hk => ?_) (ready_mono hr (Ne.symm hji)) (by unfold stepI; simp only [hi, hclt.2.2]; exact ht2) ?_
      · have := hlow k hk
        rw [getD_set_ne true (by omega)]; exact this
      · rw [Array.setIfInBounds_comm _ _ hji]
        exact H2

def chain (P : Program) (Γ : Env) (ops : List Oper) : List Oper → Nat → St → Option St
  | [], _, st => some st
  | o :: os, c, st => (stepD P Γ ops o (st.base + c) st).bind (chain P Γ ops os (c + isAl Γ o))

theorem opsK_chain {β : Type} {P : Program} {Γ : Env} (hΓ : Γ.Good) {ops : List Oper} : ∀ (l : List Oper) (c : Nat) (st : St) (K : St → Option β) (r : β), Closed st →
    opsK P Γ ops l c st K = some r → ∃ st', chain P Γ ops l c st = some st' ∧ st'.base = st.base ∧ K ⟨st'.tm, st'.hp, st.base + (c + rkL Γ l)⟩ = some r
  | [], c, st, K, r, _, h => ⟨st, rfl, rfl, by simpa [rkL, opsK] using h⟩
  | o :: os, c, st, K, r, hcl, h => by
    simp only [opsK] at h
    rw [opK_eq hΓ.law] at h
    cases hd : opD P Γ ops o (st.base + c) st with
    | none => simp [hd] at h
    | some s1 =>
      simp only [hd, Option.bind_some] at h
      have hs := opD_step hΓ.law hd
      obtain ⟨hc1, _, hb1⟩ := step_closed hΓ hcl hs
      obtain ⟨st', h1, h2, h3⟩ := opsK_chain hΓ os _ s1 K r hc1 h
      refine ⟨st', by simp [chain, hs, h1], by rw [h2, hb1], ?_⟩
      rw [hb1] at h3
      rw [show c + rkL Γ (o :: os) = c + isAl Γ o + rkL Γ os by simp [rkL]; omega]
      exact h3

/-- the text's order serves every order -/
theorem AnyA_chain {P : Program} {Γ : Env} (hΓ : Γ.Good) {ops : List Oper} {bl : Bl} {b0 : Nat} (hkeep : Keeps Γ bl b0 ops) {G : St → Prop} (hchk : chkFrom bl Γ ops 0 ops = true) : ∀ (l : List Oper) (k : Nat) (listed : Array Bool) (st st' : St),
    (∀ j, l[j]? = ops[k + j]?) → listed.size = ops.length → (∀ j, j < k → listed.getD j true = true) → (∀ j, k ≤ j → j < ops.length → listed.getD j true = false) → k + l.length = ops.length → st.base = b0 → Closed st → InvB bl st.tm →
    chain P Γ ops l (rkL Γ (ops.take k)) st = some st' → G st' → AnyA P Γ ops G l.length listed st
  | [], k, listed, st, st', _, hsz, hlow, _, hk, _, _, _, h, hG => by
    simp only [chain, Option.some.injEq] at h
    subst h
    refine ⟨?_, hG⟩
    rw [List.eq_nil_iff_forall_not_mem]
    intro j hj
    obtain ⟨h0, o, ho, _⟩ := mem_ready.1 hj
    have hlt : j < ops.length := by simpa using (Array.getElem?_eq_some_iff.1 ho).1
    simp at hk
    rw [hlow j (by omega)] at h0
    cases h0
  | o :: l, k, listed, st, st', hl, hsz, hlow, hhigh, hk, hb0, hcl, hib, h, hG => by
    simp only [chain] at h
    cases hs : stepD P Γ ops o (st.base + rkL Γ (ops.take k)) st with
    | none => simp [hs] at h
    | some s1 =>
      simp only [hs, Option.bind_some] at h
      have ho : ops[k]? = some o := by have := hl 0; simp at this; exact this.symm
      have hlt : k < ops.length := (List.getElem?_eq_some_iff.1 ho).1
      obtain ⟨he, hpair⟩ := chkFrom_spec hchk (fun j => by simp) k o (Nat.zero_le _) ho
      have hrk : rkL Γ (ops.take k) + isAl Γ o = rkL Γ (ops.take (k + 1)) := by
        rw [List.take_add_one, ho]; simp [rkL]
      obtain ⟨hc1, _, hbs⟩ := step_closed hΓ hcl hs
      have hready : k ∈ Region.ready .any ops.toArray listed := by
        refine mem_ready.2 ⟨hhigh k (Nat.le_refl _) hlt, o, by simpa using ho, fun e hm hb => ?_⟩
        have := hlow e.on (he e hm hb)
        have hlt' : e.on < listed.size := by have := he e hm hb; omega
        simpa [hlt'] using this
      refine AnyA_first hΓ hkeep ho hpair l.length listed st s1 hb0 hcl hib hlow hready (by unfold stepI; simp only [ho]; exact hs) ?_
      refine AnyA_chain hΓ hkeep hchk l (k + 1) (listed.setIfInBounds k true) s1 st' (fun j => by have := hl (j + 1); rw [List.getElem?_cons_succ] at this; rw [this]; congr 1; omega) (by simp [hsz])
        (fun j hj => ?_) (fun j hj hj2 => ?_) (by simp at hk; omega) (hbs.trans hb0) hc1 (step_inv (hb0 ▸ hkeep k o ho) hib hs) (by rw [← hrk]; exact h) hG
      · by_cases hjk : j = k
        · subst hjk; simp [hsz, hlt]
        · rw [getD_set_ne true (by omega)]; exact hlow j (by omega)
      · rw [getD_set_ne true (by omega)]; exact hhigh j (by omega) hj2
end Go.Sim
