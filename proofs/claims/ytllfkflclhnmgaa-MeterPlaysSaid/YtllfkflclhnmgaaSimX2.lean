/- More operations that look at no memory: texts' parts and sums, slices' headers, addresses of elements. Slices, texts, their rows: what an operation that looks at memory yields, what it adds; what one that turns memory does. The laws of what looks at memory: by its end, by the names it looks at, by the names it hands on, by its ranges. -/
import Derived.Test.YtllfkflclhnmgaaSimX1
namespace Go.Sim
variable {β : Type}

/-- the value's names are the operands' -/
def From (tm : Tm) (o : Oper) (v : AV) : Prop := ∀ m, v.has m → ∃ x ∈ o.op.operands, ∃ u, opv tm x = some u ∧ ∃ m', u.has m' ∧ m'.imp m
theorem From0.from {tm : Tm} {o : Oper} {v : AV} (h : From0 tm o v) : From tm o v := fun m hm => by
  obtain ⟨x, hx, u, hu, hum⟩ := h m hm
  exact ⟨x, hx, u, hu, m, hum, .self m⟩

def bndK (tm : Tm) (x : Option Operand) (d lim : Nat) (K : Nat → Option β) : Option β :=
  match x with
  | none => K d
  | some x =>
    match opv tm x with
    | some (.int _ i) => bif inB i (lim + 1) then K i.toNat else none
    | _ => none

/-- a part of a list -/
def slL {α : Type} (lo hi : Bool) (s : List α) (l h : Nat) : List α :=
  match lo, hi with
  | false, false => s
  | true, false => s.drop l
  | false, true => s.take h
  | true, true => (s.take h).drop l

def xslK (P : Program) (tm : Tm) (t : TypeId) (x : Operand) (lo hi mx : Option Operand) (K : AV → Option β) : Option β :=
  match P.underlying t with
  | some .string =>
    match opv tm x with
    | some (.str s) =>
      match mx with
      | none => bndK tm hi s.length s.length fun h => bndK tm lo 0 h fun l => K (.str (slL lo.isSome hi.isSome s l h))
      | some _ => none
    | _ => none
  | some (.array N e) =>
    match opv tm x with
    | some (.ptr n p) =>
      match P.info? e with
      | some ie =>
        bif decide (N < 1099511627776) && (mx.isNone || hi.isSome) then
          bndK tm mx N N fun m => bndK tm hi N m fun h => bndK tm lo 0 h fun l => K (.x (.sla n p ie.size (bif Nat.beq m l then 0 else l) (h - l) (m - l)))
        else none
      | none => none
    | _ => none
  | _ => none

def xidxK (P : Program) (t : TypeId) (x i : AV) (K : AV → Option β) : Option β :=
  match P.underlying t with
  | some (.slice e) =>
    match P.info? e with
    | some ie =>
      match i with
      | .int _ i =>
        match x with
        | .x (.sln n len) => bif inB i len then K (.x (.eptr n ie.size i.toNat [])) else none
        | .x (.sla n p es off len _) =>
          bif inB i len && Nat.beq es ie.size then
            bif isIntT P e then bif Nat.beq es 1 then K (.ptr n (p ++ [.elt (off + i.toNat)])) else none
            else K (.ptr n (p ++ [.fld ((off + i.toNat) * es) (off + i.toNat)]))
          else none
        | _ => none
      | _ => none
    | none => none
  | some (.array N e) =>
    match P.info? e with
    | some ie =>
      match i with
      | .int _ i =>
        match x with
        | .x (.eptr n es j p) => bif inB i N && isIntT P e && Nat.beq ie.size 1 then K (.x (.eptr n es j (p ++ [.elt i.toNat]))) else none
        | _ => none
      | _ => none
    | none => none
  | _ => none

def xfldK (P : Program) (s : TypeId) (x : AV) (f : Nat) (K : AV → Option β) : Option β :=
  match P.underlying s with
  | some (.struct fs) =>
    match x with
    | .x (.eptr n es j p) =>
      match fs[f]? with
      | some fd =>
        match P.info? fd.type with
        | some i => bif Nat.beq i.size 0 then none else K (.x (.eptr n es j (p ++ [.fld fd.offset f])))
        | none => none
      | none => none
    | _ => none
  | _ => none

def xcvK (P : Program) (s d : TypeId) (x : AV) (K : AV → Option β) : Option β :=
  match P.underlying s with
  | some _ =>
    match P.underlying d with
    | some .string =>
      match x with
      | .int _ n => K (.str (Utf8.encode n).data.toList)
      | .str a => K (.str a)
      | _ => none
    | _ => none
  | none => none

def xlenK (P : Program) (t : TypeId) (x : AV) (K : AV → Option β) : Option β :=
  match P.underlying t with
  | some (.slice _) =>
    match x with
    | .x (.sln _ len) => K (.int .i64 len)
    | .x (.sla _ _ _ _ len _) => K (.int .i64 len)
    | .lit .nilSlice => K (.int .i64 0)
    | _ => none
  | _ => none

/-- is it one of these? -/
def xop (tm : Tm) : Op → Bool
  | .binOp .add _ x _ _ => match opv tm x with | some (.str _) => true | _ => false
  | .slice .. => true
  | .indexAddr _ x _ => match opv tm x with | some (.x _) => true | _ => false
  | .fieldAddr _ x _ => match opv tm x with | some (.x _) => true | _ => false
  | .nilCheck x => match opv tm x with | some (.x _) => true | _ => false
  | .convert _ _ x => match opv tm x with | some (.str _) => true | _ => false
  | .call c => match c.callee with
    | .builtin .len => match opvs tm c.args.toList with | some [.x _] => true | some [.lit _] => true | _ => false
    | _ => false
  | _ => false

def xvalK (P : Program) (tm : Tm) (o : Oper) (K : AV → Option β) : Option β :=
  match o.op with
  | .binOp .add _ x y _ =>
    match opv tm x with
    | some (.str a) =>
      match opv tm y with
      | some (.str b) => bif decide (a.length + b.length < 9223372036854775808) then K (.str (a ++ b)) else none
      | _ => none
    | _ => none
  | .slice t x lo hi mx => xslK P tm t x lo hi mx K
  | .indexAddr t x i =>
    match opv tm x with
    | some v => match opv tm i with
      | some u => xidxK P t v u K
      | none => none
    | none => none
  | .fieldAddr s x f =>
    match opv tm x with
    | some v => xfldK P s v f K
    | none => none
  | .nilCheck x =>
    match opv tm x with
    | some (.x (.eptr n es i p)) => K (.x (.eptr n es i p))
    | some (.x (.aptr n p es off)) => K (.x (.aptr n p es off))
    | _ => none
  | .convert s d x =>
    match opv tm x with
    | some v => xcvK P s d v K
    | none => none
  | .call c =>
    match c.callee with
    | .builtin .len =>
      match opvs tm c.args.toList with
      | some [v] => match c.argTypes[0]? with
        | some t => xlenK P t v K
        | none => none
      | _ => none
    | _ => none
  | _ => none

def xval (P : Program) (tm : Tm) (o : Oper) : Option AV := xvalK P tm o some

theorem cond_bind {α γ : Type} (c : Bool) (a b : Option α) (K : α → Option γ) : (bif c then a else b).bind K = bif c then a.bind K else b.bind K := by cases c <;> rfl
theorem bndK_eq {γ : Type} (tm : Tm) (x : Option Operand) (d lim : Nat) (F : Nat → Option γ) (K : γ → Option β) (G : Nat → Option β) (hF : ∀ n, G n = (F n).bind K) :
    bndK tm x d lim G = (bndK tm x d lim F).bind K := by
  unfold bndK
  split
  · exact hF d
  · split
    · rename_i k i _
      cases inB i (lim + 1) with
      | true => simp only [cond_true]; exact hF _
      | false => rfl
    · rfl

theorem xslK_eq (P : Program) (tm : Tm) (t : TypeId) (x : Operand) (lo hi mx : Option Operand) (K : AV → Option β) : xslK P tm t x lo hi mx K = (xslK P tm t x lo hi mx some).bind K := by
  unfold xslK
  split
  · split
    · split
      · exact bndK_eq _ _ _ _ _ K _ fun h => bndK_eq _ _ _ _ _ K _ fun l => rfl
      · rfl
    · rfl
  · split
    · split
      · rw [cond_bind]
        exact congrArg (fun z => cond _ z none) (bndK_eq _ _ _ _ _ K _ fun m => bndK_eq _ _ _ _ _ K _ fun h => bndK_eq _ _ _ _ _ K _ fun l => rfl)
      · rfl
    · rfl
  · rfl

theorem xidxK_eq (P : Program) (t : TypeId) (x i : AV) (K : AV → Option β) : xidxK P t x i K = (xidxK P t x i some).bind K := by
  unfold xidxK
  split
  · split
    · split
      · split <;> simp only [cond_bind, Option.bind_some, Option.bind_none]
      · rfl
    · rfl
  · split
    · split
      · split <;> simp only [cond_bind, Option.bind_some, Option.bind_none]
      · rfl
    · rfl
  · rfl

theorem xvalK_eq (P : Program) (tm : Tm) (o : Oper) (K : AV → Option β) : xvalK P tm o K = (xval P tm o).bind K := by
  unfold xval xvalK
  split
  · split
    · split
      · simp only [cond_bind, Option.bind_some, Option.bind_none]
      · rfl
    · rfl
  · exact xslK_eq ..
  · split
    · split
      · exact xidxK_eq ..
      · rfl
    · rfl
  · split
    · unfold xfldK
      split
      · split
        · split
          · split
            · simp only [cond_bind, Option.bind_some, Option.bind_none]
            · rfl
          · rfl
        · rfl
      · rfl
    · rfl
  · split <;> rfl
  · split
    · unfold xcvK
      split
      · split
        · split <;> rfl
        · rfl
      · rfl
    · rfl
  · split
    · split
      · split
        · unfold xlenK
          split
          · split <;> rfl
          · rfl
        · rfl
      · rfl
    · rfl
  · rfl

def valK (P : Program) (tm : Tm) (o : Oper) (K : AV → Option β) : Option β := bif xop tm o.op then xvalK P tm o K else valK0 P tm o K
def val (P : Program) (tm : Tm) (o : Oper) : Option AV := valK P tm o some
theorem valK_eq (P : Program) (tm : Tm) (o : Oper) (K : AV → Option β) : valK P tm o K = (val P tm o).bind K := by
  unfold val valK
  cases xop tm o.op with
  | true => exact xvalK_eq ..
  | false => exact valK0_eq ..

/-! what the model does -/
theorem asIntOf_run {P : Program} {k : IntKind} {n : Int} (w : World) : (asIntOf (.int k n)).run P w = .ok (k, n) w := rfl
theorem sliceBound_run {P : Program} {k : IntKind} {i : Int} {y : Nat} {code : BoundsCode} (w : World) (h : inB i (y + 1) = true) : (Instr.sliceBound (.int k i) y code).run P w = .ok i.toNat w := by
  have hi := inB_iff.1 h
  unfold Instr.sliceBound
  simp only [Sem.run_bind, asIntOf_run, Result.andThen_ok]
  rw [if_pos ⟨hi.1, by omega⟩]
  rfl

/-- bounds that are kept -/
theorem bnd_some {γ : Type} {tm : Tm} {x : Option Operand} {d lim : Nat} {F : Nat → Option γ} {r : γ} (h : bndK tm x d lim F = some r) :
    (x = none ∧ F d = some r) ∨ ∃ y k i, x = some y ∧ opv tm y = some (.int k i) ∧ inB i (lim + 1) = true ∧ F i.toNat = some r := by
  unfold bndK at h
  split at h
  · exact .inl ⟨rfl, h⟩
  · rename_i y
    split at h
    · rename_i k i hy
      cases hb : inB i (lim + 1) with
      | false => rw [hb] at h; cases h
      | true => rw [hb] at h; exact .inr ⟨y, k, i, rfl, hy, hb, h⟩
    · cases h

theorem extract_list (s : List UInt8) (l h : Nat) : ((⟨s.toArray⟩ : ByteArray).extract l h) = ⟨((s.take h).drop l).toArray⟩ := by
  apply ByteArray.ext
  rw [ByteArray.data_extract]
  simp [List.drop_take]

theorem slL_eq {α : Type} {s : List α} {lo hi : Bool} {l h : Nat} (h1 : lo = false → l = 0) (h2 : hi = false → h = s.length) : slL lo hi s l h = (s.take h).drop l := by
  cases lo <;> cases hi <;> simp_all [slL]

theorem enc_int {ρ : Ren} {k : IntKind} {i : Int} : (AV.int k i).enc ρ = .int k i := by simp [AV.enc]
theorem sliceBounds_run {P : Program} {tm : Tm} {ρ : Ren} {e : Operand → Value} (he : ∀ x u, opv tm x = some u → e x = u.enc ρ) (w : World) (isS : Bool) (len cap : Nat) (lo hi mx : Option Operand)
    {γ : Type} {F : Nat → Nat → Nat → Option γ} {r : γ} (hm : mx = none ∨ hi.isSome = true)
    (h : bndK tm mx cap cap (fun m => bndK tm hi len m fun h => bndK tm lo 0 h fun l => F m h l) = some r) :
    ∃ m h l, (Instr.sliceBounds isS len cap (lo.map e) (hi.map e) (mx.map e)).run P w = .ok (l, h, m) w ∧ F m h l = some r ∧ m ≤ cap ∧ (h ≤ m ∨ (hi = none ∧ h = len)) ∧ (l ≤ h ∨ lo = none) ∧ (lo = none → l = 0) ∧ (hi = none → h = len) ∧ (mx = none → m = cap) := by
  have key : ∀ {x : Option Operand} {d lim : Nat} {δ : Type} {G : Nat → Option δ} {q : δ}, bndK tm x d lim G = some q → ∃ n, G n = some q ∧
      ((x = none ∧ n = d) ∨ ∃ k i y, x = some y ∧ x.map e = some (.int k i) ∧ inB i (lim + 1) = true ∧ n = i.toNat) := by
    intro x d lim δ G q hq
    rcases bnd_some hq with ⟨rfl, h'⟩ | ⟨y, k, i, rfl, hy, hb, h'⟩
    · exact ⟨d, h', .inl ⟨rfl, rfl⟩⟩
    · exact ⟨_, h', .inr ⟨k, i, y, rfl, by simp [he y _ hy, AV.enc], hb, rfl⟩⟩
  obtain ⟨m, h, c1⟩ := key h
  obtain ⟨hh, h, c2⟩ := key h
  obtain ⟨l, h, c3⟩ := key h
  refine ⟨m, hh, l, ?_, h, ?_, ?_, ?_, ?_, ?_, ?_⟩
  · unfold Instr.sliceBounds
    rcases c1 with ⟨rfl, rfl⟩ | ⟨k1, i1, y1, rfl, e1, b1, rfl⟩
    · rcases c2 with ⟨rfl, rfl⟩ | ⟨k2, i2, y2, rfl, e2, b2, rfl⟩
      · rcases c3 with ⟨rfl, rfl⟩ | ⟨k3, i3, y3, rfl, e3, b3, rfl⟩
        · simp
        · rw [e3]; simp [sliceBound_run w b3]
      · rw [e2]
        rcases c3 with ⟨rfl, rfl⟩ | ⟨k3, i3, y3, rfl, e3, b3, rfl⟩
        · simp [sliceBound_run w b2]
        · rw [e3]; simp [sliceBound_run w b2, sliceBound_run w b3]
    · rw [e1]
      rcases c2 with ⟨rfl, rfl⟩ | ⟨k2, i2, y2, rfl, e2, b2, rfl⟩
      · simp at hm
      · rw [e2]
        rcases c3 with ⟨rfl, rfl⟩ | ⟨k3, i3, y3, rfl, e3, b3, rfl⟩
        · simp [sliceBound_run w b1, sliceBound_run w b2]
        · rw [e3]; simp [sliceBound_run w b1, sliceBound_run w b2, sliceBound_run w b3]
  · rcases c1 with ⟨_, rfl⟩ | ⟨_, i1, _, _, _, b1, rfl⟩
    · omega
    · have := inB_iff.1 b1; omega
  · rcases c2 with ⟨h1, rfl⟩ | ⟨_, i2, _, _, _, b2, rfl⟩
    · exact .inr ⟨h1, rfl⟩
    · have := inB_iff.1 b2; omega
  · rcases c3 with ⟨h1, rfl⟩ | ⟨_, i3, _, _, _, b3, rfl⟩
    · exact .inr h1
    · have := inB_iff.1 b3; omega
  · intro hn
    rcases c3 with ⟨_, rfl⟩ | ⟨_, _, _, h1, _⟩
    · rfl
    · rw [hn] at h1; cases h1
  · intro hn
    rcases c2 with ⟨_, rfl⟩ | ⟨_, _, _, h1, _⟩
    · rfl
    · rw [hn] at h1; cases h1
  · intro hn
    rcases c1 with ⟨_, rfl⟩ | ⟨_, _, _, h1, _⟩
    · rfl
    · rw [hn] at h1; cases h1

theorem xsl_run {P : Program} {tm : Tm} {t : TypeId} {x : Operand} {lo hi mx : Option Operand} {v : AV} {ρ : Ren} {e : Operand → Value} (h : xslK P tm t x lo hi mx some = some v)
    (he : ∀ x u, opv tm x = some u → e x = u.enc ρ) (w : World) : (Instr.sliceAt t (e x) (lo.map e) (hi.map e) (mx.map e)).run P w = .ok (v.enc ρ) w ∧ ∀ m, v.has m → ∃ u, opv tm x = some u ∧ u.has m := by
  unfold xslK at h
  split at h
  · rename_i hu
    split at h
    · rename_i s hx
      split at h
      · obtain ⟨m, hh, l, hr, h, h1, h2, h3, h4, h5, h6⟩ := sliceBounds_run (P := P) he w false s.length s.length lo hi none (γ := AV)
          (F := fun _ h l => some (.str (slL lo.isSome hi.isSome s l h))) (r := v) (.inl rfl) h
        cases h
        refine ⟨?_, fun m hm => by simp [AV.has] at hm⟩
        have hsz : (⟨s.toArray⟩ : ByteArray).size = s.length := by show s.toArray.size = _; simp
        unfold Instr.sliceAt
        simp only [Sem.run_bind, run_underlying hu, Result.andThen_ok, he x _ hx, AV.enc]
        unfold Instr.slice
        simp only [Sem.run_bind, run_underlying hu, Result.andThen_ok, hsz]
        simp only [Option.map_none] at hr
        simp only [Option.map_none, Option.isSome_none, Bool.false_eq_true, if_false, Sem.run_bind, Sem.run_pure, Result.andThen_ok, hr]
        rw [extract_list, slL_eq (fun hq => h4 (by simpa using hq)) (fun hq => h5 (by simpa using hq))]
      · cases h
    · cases h
  · rename_i N el hu
    split at h
    · rename_i n p hx
      split at h
      · rename_i ie hie
        cases hc : (decide (N < 1099511627776) && (mx.isNone || hi.isSome)) with
        | false => rw [hc] at h; cases h
        | true =>
          rw [hc, cond_true] at h
          simp only [Bool.and_eq_true, Bool.or_eq_true, Option.isNone_iff_eq_none] at hc
          obtain ⟨m, hh, l, hr, h, h1, h2, h3, h4, h5, h6⟩ := sliceBounds_run (P := P) he w false N N lo hi mx (γ := AV)
            (F := fun m h l => some (.x (.sla n p ie.size (bif Nat.beq m l then 0 else l) (h - l) (m - l)))) (r := v) hc.2 h
          cases h
          refine ⟨?_, fun m hm => ⟨_, hx, by simpa [AV.has, XV.has] using hm⟩⟩
          unfold Instr.sliceAt
          simp only [Sem.run_bind, run_underlying hu, Result.andThen_ok, he x _ hx, AV.enc, Instr.sureAddr, Sem.run_pure, hr, run_sizeOf' hie, XV.enc, addr_add]
          by_cases hml : m = l
          · subst hml; simp
          · have : Nat.beq m l = false := by
              cases hb : Nat.beq m l with
              | false => rfl
              | true => exact absurd (Nat.eq_of_beq_eq_true hb) hml
            simp [hml, this]
      · cases h
    · cases h
  · cases h

theorem indexAt_slice {P : Program} {t el : TypeId} {ie : TypeInfo} {k : IntKind} {i : Int} {a : Addr} {len cap : Nat} (w : World) (hu : P.underlying t = some (.slice el)) (hie : P.info? el = some ie)
    (hi : inB i len = true) : (Instr.indexAt t (.slice (some a) len cap) (.int k i)).run P w = .ok (.pointer (some (a.add (i.toNat * ie.size)))) w := by
  have hb := inB_iff.1 hi
  unfold Instr.indexAt
  simp only [Sem.run_bind, asIntOf_run, Result.andThen_ok, run_underlying hu, Sem.run_pure, Bool.and_false]
  rw [if_pos hb]
  simp [run_sizeOf' hie]

theorem xidx_run {P : Program} {t : TypeId} {x i v : AV} {ρ : Ren} (w : World) (h : xidxK P t x i some = some v) (hnl : ∀ n len, x = .x (.sln n len) → 0 < len → (ρ n).nl = false) :
    (Instr.indexAt t (x.enc ρ) (i.enc ρ)).run P w = .ok (v.enc ρ) w ∧ ∀ m, v.has m → ∃ m', x.has m' ∧ m'.imp m := by
  unfold xidxK at h
  split at h
  · rename_i el hu
    split at h
    · rename_i ie hie
      split at h
      · rename_i k i
        split at h
        · rename_i n len
          cases hi : inB i len with
          | false => rw [hi] at h; cases h
          | true =>
            rw [hi, cond_true] at h
            cases h
            have hb := inB_iff.1 hi
            have hn := hnl n len rfl (by omega)
            refine ⟨?_, fun m hm => by
              simp only [AV.has, XV.has] at hm
              rcases hm with rfl | rfl
              · exact ⟨_, .inl rfl, .self _⟩
              · exact ⟨_, .inr rfl, .lt _ _ _ (by omega)⟩⟩
            simp only [AV.enc, XV.enc, hn, Bool.false_eq_true, if_false]
            rw [indexAt_slice w hu hie hi, addr_add]
            simp [pOff]
        · rename_i n p es off len cap
          cases hc : (inB i len && Nat.beq es ie.size) with
          | false => rw [hc] at h; cases h
          | true =>
            rw [hc, cond_true] at h
            simp only [Bool.and_eq_true] at hc
            have hes := Nat.eq_of_beq_eq_true hc.2
            cases ht : isIntT P el with
            | true =>
              rw [ht, cond_true] at h
              cases h1 : Nat.beq es 1 with
              | false => rw [h1] at h; cases h
              | true =>
                rw [h1, cond_true] at h
                have h1 := Nat.eq_of_beq_eq_true h1
                cases h
                refine ⟨?_, fun m hm => ⟨m, by simpa only [AV.has, XV.has] using hm, .self m⟩⟩
                simp only [AV.enc, XV.enc]
                rw [indexAt_slice w hu hie hc.1, addr_add, pOff_append]
                simp [Sel.off, ← hes, h1, Nat.add_assoc]
            | false =>
              rw [ht, cond_false] at h
              cases h
              refine ⟨?_, fun m hm => ⟨m, by simpa only [AV.has, XV.has] using hm, .self m⟩⟩
              simp only [AV.enc, XV.enc]
              rw [indexAt_slice w hu hie hc.1, addr_add, pOff_append]
              simp [Sel.off, ← hes, Nat.add_assoc, Nat.add_mul]
        · cases h
      · cases h
    · cases h
  · rename_i N el hu
    split at h
    · rename_i ie hie
      split at h
      · rename_i k i
        split at h
        · rename_i n es j p
          cases hc : (inB i N && isIntT P el && Nat.beq ie.size 1) with
          | false => rw [hc] at h; cases h
          | true =>
            rw [hc, cond_true] at h
            cases h
            simp only [Bool.and_eq_true] at hc
            have hb := inB_iff.1 hc.1.1
            have h1 := Nat.eq_of_beq_eq_true hc.2
            refine ⟨?_, fun m hm => ⟨m, by simpa only [AV.has, XV.has] using hm, .self m⟩⟩
            simp only [AV.enc, XV.enc]
            unfold Instr.indexAt
            simp only [Sem.run_bind, asIntOf_run, Result.andThen_ok, run_underlying hu, Sem.run_pure, Instr.sureAddr]
            rw [if_pos hb]
            simp [run_sizeOf' hie, addr_add, pOff_append, Sel.off, h1, Nat.add_assoc]
        · cases h
      · cases h
    · cases h
  · cases h

theorem string_append (a b : List UInt8) : (⟨a.toArray⟩ : ByteArray) ++ ⟨b.toArray⟩ = ⟨(a ++ b).toArray⟩ := by
  apply ByteArray.ext
  rw [ByteArray.data_append]
  simp

/-- no slice of a name that is said to be longer than nothing is nil -/
def NlOk (ρ : Ren) (tm : Tm) : Prop := ∀ x n len, opv tm x = some (.x (.sln n len)) → 0 < len → (ρ n).nl = false

set_option maxHeartbeats 1000000 in
theorem xval_run {P : Program} {tm : Tm} {o : Oper} {v : AV} {ρ : Ren} {e : Operand → Value} (h : xval P tm o = some v)
    (he : ∀ x u, opv tm x = some u → e x = u.enc ρ) (hnl : NlOk ρ tm) (w : World) :
    (execOp e o).run P w = .ok (.value (v.enc ρ)) w ∧ From tm o v := by
  obtain ⟨dst, op, type, pos, after, guard⟩ := o
  unfold xval xvalK at h
  unfold From
  split at h
  · rename_i t x y yt hop
    simp only at hop; subst hop
    split at h
    · rename_i a hx
      split at h
      · rename_i b hy
        cases hc : decide (a.length + b.length < 9223372036854775808) with
        | false => rw [hc] at h; cases h
        | true =>
          rw [hc, cond_true] at h
          cases h
          have hlt := of_decide_eq_true hc
          refine ⟨?_, fun m hm => by simp [AV.has] at hm⟩
          have hs : ∀ s : List UInt8, (⟨s.toArray⟩ : ByteArray).size = s.length := fun s => by show s.toArray.size = _; simp
          have hg := eqGuard_plain (P := P) (op := .add) (t := t) (x := x) (y := y) (a := .string ⟨a.toArray⟩) (b := .string ⟨b.toArray⟩) w trivial
          simp only [execOp, he x _ hx, he y _ hy, AV.enc, Sem.run_bind, hg, Result.andThen_ok, binOp, Op.stringOp, hs]
          rw [if_neg (by simp only [IntKind.max, IntKind.bits]; omega), string_append]
          rfl
      · cases h
    · cases h
  · rename_i t x lo hi mx hop
    simp only at hop; subst hop
    obtain ⟨h1, h2⟩ := xsl_run (ρ := ρ) (e := e) h he w
    refine ⟨?_, fun m hm => ?_⟩
    · simp only [execOp, Sem.run_bind, h1, Result.andThen_ok, Sem.run_pure]
    · obtain ⟨u, hu, hum⟩ := h2 m hm
      exact ⟨x, by simp [Op.operands], u, hu, m, hum, .self m⟩
  · rename_i t x i hop
    simp only at hop; subst hop
    split at h
    · rename_i a ha
      split at h
      · rename_i b hb
        obtain ⟨h1, h2⟩ := xidx_run (ρ := ρ) w h (fun n len e1 hl => hnl x n len (by rw [← e1]; exact ha) hl)
        refine ⟨?_, fun m hm => ⟨x, by simp [Op.operands], a, ha, h2 m hm⟩⟩
        simp only [execOp, he x a ha, he i b hb, Sem.run_bind, h1, Result.andThen_ok, Sem.run_pure]
      · cases h
    · cases h
  · rename_i s x f hop
    simp only at hop; subst hop
    split at h
    · rename_i a ha
      unfold xfldK at h
      split at h
      · rename_i fs hs
        split at h
        · rename_i n es j p
          split at h
          · rename_i fd hf
            split at h
            · rename_i i hi
              cases hz : Nat.beq i.size 0 with
              | true => simp [hz] at h
              | false =>
                simp only [hz, cond_false, Option.some.injEq] at h
                subst h
                have hnz : i.size ≠ 0 := fun e => by rw [e] at hz; simp at hz
                refine ⟨?_, fun m hm => ⟨x, by simp [Op.operands], _, ha, m, by simpa [AV.has, XV.has] using hm, .self m⟩⟩
                simp only [execOp, he x _ ha, AV.enc, XV.enc, Instr.fieldAt, Sem.run_bind, run_underlying hs, Result.andThen_ok, hf, Instr.sureAddr, Sem.run_pure, fieldPlace, run_sizeOf' hi, hnz, if_false, addr_add, pOff_append, Sel.off]
                simp [Nat.add_assoc]
            · cases h
          · cases h
        · cases h
      · cases h
    · cases h
  · rename_i x hop
    simp only at hop; subst hop
    split at h
    · rename_i n es i p hx
      cases h
      exact ⟨by simp [execOp, he x _ hx, AV.enc, XV.enc], fun m hm => ⟨x, by simp [Op.operands], _, hx, m, hm, .self m⟩⟩
    · rename_i n p es off hx
      cases h
      exact ⟨by simp [execOp, he x _ hx, AV.enc, XV.enc], fun m hm => ⟨x, by simp [Op.operands], _, hx, m, hm, .self m⟩⟩
    · cases h
  · rename_i s d x hop
    simp only at hop; subst hop
    split at h
    · rename_i a ha
      unfold xcvK at h
      split at h
      · rename_i sd hs
        split at h
        · rename_i hd
          split at h
          · rename_i k n
            cases h
            refine ⟨?_, fun m hm => by simp [AV.has] at hm⟩
            simp [execOp, he x _ ha, AV.enc, convert, run_underlying hs, run_underlying hd, Conv.intToString]
          · rename_i a
            cases h
            refine ⟨?_, fun m hm => by simp [AV.has] at hm⟩
            simp [execOp, he x _ ha, AV.enc, convert, run_underlying hs, run_underlying hd]
          · cases h
        · cases h
      · cases h
    · cases h
  · rename_i c hop
    simp only at hop; subst hop
    obtain ⟨callee, args, argTypes⟩ := c
    simp only at h
    split at h
    · split at h
      · rename_i u hvs
        split at h
        · rename_i t ht
          obtain ⟨g1, _⟩ := opvs_spec he args.toList _ hvs
          have e1 : args.map e = #[u.enc ρ] := by apply Array.ext'; simpa using g1
          unfold xlenK at h
          split at h
          · rename_i el hu
            split at h
            · cases h
              refine ⟨?_, fun m hm => by simp [AV.has] at hm⟩
              simp [execOp, resolve, invoke, builtin, e1, Builtin.len_, ht, run_underlying hu, goInt, AV.enc, XV.enc]
            · cases h
              refine ⟨?_, fun m hm => by simp [AV.has] at hm⟩
              simp [execOp, resolve, invoke, builtin, e1, Builtin.len_, ht, run_underlying hu, goInt, AV.enc, XV.enc]
            · cases h
              refine ⟨?_, fun m hm => by simp [AV.has] at hm⟩
              simp [execOp, resolve, invoke, builtin, e1, Builtin.len_, ht, run_underlying hu, goInt, AV.enc, Cn.val]
            · cases h
          · cases h
        · cases h
      · cases h
    · cases h
  · cases h

theorem bnd_le {tm : Tm} {x : Option Operand} {d lim : Nat} {γ : Type} {F : Nat → Option γ} {r : γ} (h : bndK tm x d lim F = some r) (hd : d ≤ lim) : ∃ n, n ≤ lim ∧ F n = some r := by
  rcases bnd_some h with ⟨_, h'⟩ | ⟨_, _, _, _, _, hb, h'⟩
  · exact ⟨d, hd, h'⟩
  · exact ⟨_, by have := inB_iff.1 hb; omega, h'⟩
theorem slL_len {α : Type} (lo hi : Bool) (s : List α) (l h : Nat) : (slL lo hi s l h).length ≤ s.length := by
  cases lo <;> cases hi <;> simp [slL] <;> omega
theorem utf8_len (n : Int) : (Utf8.encode n).data.toList.length < 9223372036854775808 := by
  unfold Utf8.encode
  dsimp only
  generalize (if Utf8.valid n = true then n.toNat else Utf8.runeError) = c
  split
  · simp
  split
  · simp
  split <;> simp

theorem xval_wf {P : Program} {tm : Tm} {o : Oper} {v : AV} (hw : ∀ (i : Nat) v, tm.getD i none = some v → v.wf) (h : xval P tm o = some v) : v.wf := by
  have one : ∀ {x u}, opv tm x = some u → u.wf := fun h => opv_wf hw h
  unfold xval xvalK at h
  split at h
  · split at h
    · rename_i a hx
      split at h
      · rename_i b hy
        cases hc : decide (a.length + b.length < 9223372036854775808) with
        | false => rw [hc] at h; cases h
        | true =>
          rw [hc, cond_true] at h
          cases h
          have hlt := of_decide_eq_true hc
          simp only [AV.wf, List.length_append]
          exact hlt
      · cases h
    · cases h
  · unfold xslK at h
    split at h
    · split at h
      · rename_i s hx
        split at h
        · have hs := one hx
          simp only [AV.wf] at hs
          obtain ⟨n, _, h⟩ := bnd_le h (Nat.le_refl _)
          rcases bnd_some h with ⟨_, h'⟩ | ⟨_, _, _, _, _, _, h'⟩ <;> (cases h'; simp only [AV.wf]; exact Nat.lt_of_le_of_lt (slL_len ..) hs)
        · cases h
      · cases h
    · rename_i N _ _
      split at h
      · split at h
        · cases hc : (decide (N < 1099511627776) && (_ || _)) with
          | false => rw [hc] at h; cases h
          | true =>
            rw [hc, cond_true] at h
            simp only [Bool.and_eq_true, decide_eq_true_eq] at hc
            have hN := hc.1
            rcases bnd_some h with ⟨_, h⟩ | ⟨_, _, i, hmx, _, hb, h⟩
            · rcases bnd_some h with ⟨_, h⟩ | ⟨_, _, i, _, _, hb, h⟩
              · rcases bnd_some h with ⟨_, h⟩ | ⟨_, _, i, _, _, hb, h⟩
                · cases h; simp only [AV.wf, XV.wf]; refine ⟨?_, Nat.le_refl _⟩; cases Nat.beq N 0 <;> simp <;> omega
                · have := inB_iff.1 hb
                  cases h; simp only [AV.wf, XV.wf]; refine ⟨?_, Nat.le_refl _⟩; cases Nat.beq N i.toNat <;> simp <;> omega
              · have hb1 := inB_iff.1 hb
                rcases bnd_some h with ⟨_, h⟩ | ⟨_, _, j, _, _, hb, h⟩
                · cases h; simp only [AV.wf, XV.wf]; refine ⟨?_, by omega⟩; cases Nat.beq N 0 <;> simp <;> omega
                · have := inB_iff.1 hb
                  cases h; simp only [AV.wf, XV.wf]; refine ⟨?_, by omega⟩; cases Nat.beq N j.toNat <;> simp <;> omega
            · have hb0 := inB_iff.1 hb
              rcases bnd_some h with ⟨hn, h⟩ | ⟨_, _, i, _, _, hb, h⟩
              · simp [hn, hmx] at hc
              · have hb1 := inB_iff.1 hb
                rcases bnd_some h with ⟨_, h⟩ | ⟨_, _, j, _, _, hb, h⟩
                · cases h; simp only [AV.wf, XV.wf]; refine ⟨?_, by omega⟩
                  generalize Nat.beq _ _ = c; cases c <;> simp <;> omega
                · have := inB_iff.1 hb
                  cases h; simp only [AV.wf, XV.wf]; refine ⟨?_, by omega⟩
                  generalize Nat.beq _ _ = c; cases c <;> simp <;> omega
        · cases h
      · cases h
    · cases h
  · split at h
    · split at h
      · unfold xidxK at h
        split at h
        · split at h
          · split at h
            · split at h
              · cases hc : inB _ _ with
                | false => rw [hc] at h; cases h
                | true => rw [hc, cond_true] at h; cases h; simp only [AV.wf, XV.wf]
              · cases hc : (inB _ _ && Nat.beq _ _) with
                | false => rw [hc] at h; cases h
                | true =>
                  rw [hc, cond_true] at h
                  revert h
                  cases isIntT P _ with
                  | false => intro h; cases h; simp only [AV.wf]
                  | true =>
                    simp only [cond_true]
                    cases Nat.beq _ 1 with
                    | false => intro h; cases h
                    | true => intro h; cases h; simp only [AV.wf]
              · cases h
            · cases h
          · cases h
        · split at h
          · split at h
            · split at h
              · revert h
                generalize (inB _ _ && isIntT P _ && Nat.beq _ 1) = c
                cases c with
                | false => intro h; cases h
                | true => intro h; cases h; simp only [AV.wf, XV.wf]
              · cases h
            · cases h
          · cases h
        · cases h
      · cases h
    · cases h
  · split at h
    · unfold xfldK at h
      split at h
      · split at h
        · split at h
          · split at h
            · revert h
              generalize Nat.beq _ 0 = c
              cases c with
              | true => intro h; cases h
              | false => intro h; cases h; simp only [AV.wf, XV.wf]
            · cases h
          · cases h
        · cases h
      · cases h
    · cases h
  · split at h
    · cases h; simp only [AV.wf, XV.wf]
    · cases h; simp only [AV.wf, XV.wf]
    · cases h
  · split at h
    · rename_i a ha
      unfold xcvK at h
      split at h
      · split at h
        · split at h
          · cases h; simp only [AV.wf]; exact utf8_len _
          · cases h; exact one ha
          · cases h
        · cases h
      · cases h
    · cases h
  · split at h
    · split at h
      · rename_i u hvs
        split at h
        · have hu := opvs_wf hw hvs u (by simp)
          unfold xlenK at h
          split at h
          · split at h
            · cases h
              simp only [AV.wf, XV.wf] at hu
              simp only [AV.wf, inK]; omega
            · cases h
              simp only [AV.wf, XV.wf] at hu
              simp only [AV.wf, inK]; omega
            · cases h
              simp only [AV.wf, inK]; omega
            · cases h
          · cases h
        · cases h
      · cases h
    · cases h
  · cases h

theorem val_run {P : Program} {tm : Tm} {o : Oper} {v : AV} {ρ : Ren} {e : Operand → Value} (h : val P tm o = some v)
    (he : ∀ x u, opv tm x = some u → e x = u.enc ρ) (hnl : NlOk ρ tm) (w : World) :
    (execOp e o).run P w = .ok (.value (v.enc ρ)) w ∧ From tm o v := by
  unfold val valK at h
  cases hx : xop tm o.op with
  | true => rw [hx, cond_true] at h; exact xval_run h he hnl w
  | false => rw [hx, cond_false] at h; exact ⟨(val0_run h he w).1, (val0_run h he w).2.from⟩
theorem val_wf {P : Program} {tm : Tm} {o : Oper} {v : AV} (hw : ∀ (i : Nat) v, tm.getD i none = some v → v.wf) (h : val P tm o = some v) : v.wf := by
  unfold val valK at h
  cases hx : xop tm o.op with
  | true => rw [hx, cond_true] at h; exact xval_wf hw h
  | false => rw [hx, cond_false] at h; exact val0_wf hw h
/-- the names of a value are the operands', whatever they stand for -/
theorem val_from {P : Program} {tm : Tm} {o : Oper} {v : AV} (h : val P tm o = some v) : From tm o v :=
  (val_run (ρ := ren0) (e := fun x => match opv tm x with | some u => u.enc ren0 | none => undef) h (fun x u hx => by simp [hx]) (fun _ _ _ _ _ => rfl)
    { heap := #[], tape := fun _ _ => 0, drawn := 0, os := default, output := #[] }).2
end Go.Sim
namespace Go.Sim
variable {β : Type}

abbrev Hp := List (Option AV)

mutual
def Ep.size : Ep → Nat
  | .arr _ n => n
  | .agg es => Ep.sizeL es
  | _ => 1
def Ep.sizeL : List Ep → Nat
  | [] => 0
  | e :: es => e.size + Ep.sizeL es
end
mutual
/-- no slice within -/
def Ep.flat : Ep → Bool
  | .sl _ => false
  | .agg es => Ep.flatL es
  | _ => true
def Ep.flatL : List Ep → Bool
  | [] => true
  | e :: es => e.flat && Ep.flatL es
end
mutual
/-- how many slices within (not in slices) -/
def Ep.ns : Ep → Nat
  | .sl _ => 1
  | .agg es => Ep.nsL es
  | _ => 0
def Ep.nsL : List Ep → Nat
  | [] => 0
  | e :: es => e.ns + Ep.nsL es
end
mutual
/-- the value; its slices bear names from nm on -/
def Ep.mk : Ep → List Hv → Nat → Nat → AV
  | .int k, h, j, _ => .int k (hi h j)
  | .bool, h, j, _ => .bool (hb h j)
  | .str, h, j, _ => .str (hst h j)
  | .arr k n, h, j, _ => .arr k n (hl h j)
  | .agg es, h, j, nm => .agg (Ep.mkL es h j nm)
  | .sl (.int _), h, j, nm => .x (.sln nm (hl h j).length)
  | .sl _, h, j, nm => .x (.sln nm (hr h j).length)
def Ep.mkL : List Ep → List Hv → Nat → Nat → List AV
  | [], _, _, _ => []
  | e :: es, h, j, nm => e.mk h j nm :: Ep.mkL es h (j + e.n) (nm + e.ns)
end
mutual
/-- the rows of the value's slices -/
def Ep.objs (rw : Bool) : Ep → List Hv → Nat → List AV
  | .agg es, h, j => Ep.objsL rw es h j
  | .sl (.int k), h, j => [.x (.obj (.ints k (hl h j) rw))]
  | .sl e, h, j => [.x (.obj (.row e (hr h j) rw))]
  | _, _, _ => []
def Ep.objsL (rw : Bool) : List Ep → List Hv → Nat → List AV
  | [], _, _ => []
  | e :: es, h, j => e.objs rw h j ++ Ep.objsL rw es h (j + e.n)
end
mutual
def Ep.beq : Ep → Ep → Bool
  | .int k, .int k' => decide (k = k')
  | .bool, .bool => true
  | .str, .str => true
  | .arr k n, .arr k' n' => decide (k = k') && Nat.beq n n'
  | .agg l, .agg l' => Ep.beqL l l'
  | .sl e, .sl e' => e.beq e'
  | _, _ => false
def Ep.beqL : List Ep → List Ep → Bool
  | [], [] => true
  | a :: l, b :: l' => a.beq b && Ep.beqL l l'
  | _, _ => false
end
mutual
theorem Ep.beq_eq : ∀ a b : Ep, a.beq b = true → a = b
  | .int k, b, h => by cases b <;> simp_all [Ep.beq]
  | .bool, b, h => by cases b <;> simp_all [Ep.beq]
  | .str, b, h => by cases b <;> simp_all [Ep.beq]
  | .arr k n, b, h => by cases b <;> simp_all [Ep.beq]
  | .agg l, b, h => by
    cases b <;> simp only [Ep.beq, Bool.false_eq_true] at h
    rw [Ep.beqL_eq _ _ h]
  | .sl e, b, h => by
    cases b <;> simp only [Ep.beq, Bool.false_eq_true] at h
    rw [Ep.beq_eq _ _ h]
theorem Ep.beqL_eq : ∀ a b : List Ep, Ep.beqL a b = true → a = b
  | [], b, h => by cases b <;> simp_all [Ep.beqL]
  | a :: l, b, h => by
    cases b with
    | nil => simp [Ep.beqL] at h
    | cons c l' =>
      simp only [Ep.beqL, Bool.and_eq_true] at h
      rw [Ep.beq_eq _ _ h.1, Ep.beqL_eq _ _ h.2]
end

/-- the tree that a block holds -/
def unfz : AV → Option AV
  | .fz v => some v
  | .x (.obj _) => none
  | v => some v
def AV.isFz : AV → Bool
  | .fz _ => true
  | _ => false
def subList (off len m : Nat) (l : List Int) : List Int := bif Nat.beq off 0 && Nat.beq len m then l else (l.drop off).take len

/-- what a slice reads as: may it be written behind? -/
def slRes (hp : Hp) (e : Ep) (v : AV) : Option (List Hv × Bool) :=
  match v with
  | .lit .nilSlice => match e with
    | .int _ => some ([.l []], true)
    | _ => some ([.r []], true)
  | .x (.sln n _) => match hp.getD n none with
    | some (.x (.obj (.ints k l rw))) => match e with
      | .int k' => bif decide (k = k') then some ([.l l], !rw) else none
      | _ => none
    | some (.x (.obj (.row e' l rw))) => match e with
      | .int _ => none
      | e => bif Ep.beq e' e then some ([.r l], !rw) else none
    | _ => none
  | .x (.sla n p es off len _) => match e with
    | .int k => match hp.getD n none with
      | some tree => match unfz tree with
        | some t => match sub p t with
          | some (.arr k' m l) => bif decide (k' = k) && Nat.beq es 1 && Nat.ble (off + len) m then some ([.l (subList off len m l)], tree.isFz) else none
          | _ => none
        | none => none
      | none => none
    | _ => none
  | _ => none
mutual
def Ep.res (hp : Hp) : Ep → AV → Option (List Hv × Bool)
  | .int k, v => match v with
    | .int k' n => bif decide (k' = k) then some ([.i n], true) else none
    | _ => none
  | .bool, v => match v with
    | .bool b => some ([.b b], true)
    | _ => none
  | .str, v => match v with
    | .str s => some ([.s s], true)
    | _ => none
  | .arr k n, v => match v with
    | .arr k' n' l => bif decide (k' = k) && Nat.beq n' n then some ([.l l], true) else none
    | _ => none
  | .agg es, v => match v with
    | .agg vs => Ep.resL hp es vs
    | _ => none
  | .sl e, v => slRes hp e v
def Ep.resL (hp : Hp) : List Ep → List AV → Option (List Hv × Bool)
  | [], [] => some ([], true)
  | e :: es, v :: vs => match e.res hp v with
    | some (a, x) => match Ep.resL hp es vs with
      | some (b, y) => some (a ++ b, x && y)
      | none => none
    | none => none
  | _, _ => none
end

/-- a function of values, slices among them; its slices that it hands back are new ones; they may be written -/
inductive LOut where
  | one (e : Ep)
  | tup (es : List Ep)
  /-- the address of a new block -/
  | blk (e : Ep)
def LOut.mk : LOut → List Hv → Nat → AV
  | .one e, h, nm => e.mk h 0 nm
  | .tup es, h, nm => .tup (Ep.mkL es h 0 nm)
  | .blk _, _, nm => .ptr nm []
def LOut.objs (rw : Bool) : LOut → List Hv → List AV
  | .one e, h => e.objs rw h 0
  | .tup es, h => Ep.objsL rw es h 0
  | .blk e, h => [bif e.flat then e.mk h 0 0 else .nil]
def LOut.ns : LOut → Nat
  | .one e => e.ns
  | .tup es => Ep.nsL es
  | .blk _ => 1
structure LFn where
  ins : List Ep
  out : LOut
  own : Bool
  fresh : Bool
  fn : List Hv → Option (List Hv)

def bndO (b : Bool) (x : Option AV) (d lim : Nat) (K : Nat → Option β) : Option β :=
  bif b then
    match x with
    | some (.int _ i) => bif inB i (lim + 1) then K i.toNat else none
    | _ => none
  else K d

def ldArr (P : Program) (t : TypeId) (k : IntKind) (m off : Nat) (l : List Int) (K : AV → List AV → Option β) : Option β :=
  match P.underlying t with
  | some (.array N _) => bif fits P t (.arr k N []) && Nat.ble (off + N) m then K (.arr k N (subList off N m l)) [] else none
  | _ => none

def ldV (P : Program) (t : TypeId) (hp : Hp) (nm : Nat) (x : AV) (K : AV → List AV → Option β) : Option β :=
  match x with
  | .ptr n p =>
    match hp.getD n none with
    | some tree => match unfz tree with
      | some tr => subK p tr fun v => bif fits P t v then K v [] else none
      | none => none
    | none => none
  | .x (.eptr n es i p) =>
    match hp.getD n none with
    | some (.x (.obj (.ints k l _))) =>
      match p with
      | [] => bif Nat.beq es 1 then bif fits P t (.int k 0) then K (.int k (l.getD i 0)) [] else ldArr P t k l.length i l K else none
      | _ => none
    | some (.x (.obj (.row e l _))) =>
      bif Nat.beq es e.size then subK p (e.mk (l.getD i []) 0 nm) fun v => bif fits P t v then K v (e.objs false (l.getD i []) 0) else none else none
    | _ => none
  | .x (.aptr n p es off) =>
    match hp.getD n none with
    | some tree => match unfz tree with
      | some tr => match sub p tr with
        | some (.arr k m l) => bif Nat.beq es 1 then ldArr P t k m off l K else none
        | _ => none
      | none => none
    | none => none
  | _ => none

/-- a slice's elements are of another size than the type says -/
def slBad (P : Program) (el : TypeId) (hp : Hp) (vs : List AV) : Bool :=
  match vs with
  | .x (.sln n _) :: _ => match P.info? el, hp.getD n none with
    | some ie, some (.x (.obj (.ints ..))) => !Nat.beq ie.size 1
    | some ie, some (.x (.obj (.row e _ _))) => !Nat.beq ie.size e.size
    | _, _ => true
  | _ => match P.info? el with
    | some _ => false
    | none => true

def slV (P : Program) (t : TypeId) (lo hi mx : Bool) (hp : Hp) (nm : Nat) (vs : List AV) (K : AV → List AV → Option β) : Option β :=
  match P.underlying t with
  | some (.slice el) =>
    bif mx || slBad P el hp vs then none else
    match vs with
    | .x (.sln n len) :: r =>
      match hp.getD n none with
      | some (.x (.obj (.ints k l rw))) =>
        bif rw then none else bndO hi (r[bif lo then 1 else 0]?) len len fun h => bndO lo (r[0]?) 0 h fun a => K (.x (.sln nm (h - a))) [.x (.obj (.ints k (slL lo hi l a h) false))]
      | some (.x (.obj (.row e l rw))) =>
        bif rw then none else bndO hi (r[bif lo then 1 else 0]?) len len fun h => bndO lo (r[0]?) 0 h fun a => K (.x (.sln nm (h - a))) [.x (.obj (.row e (slL lo hi l a h) false))]
      | _ => none
    | .lit .nilSlice :: r => bndO hi (r[bif lo then 1 else 0]?) 0 0 fun h => bndO lo (r[0]?) 0 h fun _ => K (.lit .nilSlice) []
    | _ => none
  | _ => none

def isK (P : Program) (t : TypeId) (k : IntKind) : Bool :=
  match P.underlying t with
  | some (.int k') => decide (k' = k)
  | _ => false
def byteL (l : List Int) : List UInt8 := l.map fun n => UInt8.ofNat n.toNat
def intL (s : List UInt8) : List Int := s.map fun b => (b.toNat : Int)

def cvV (P : Program) (s d : TypeId) (hp : Hp) (nm : Nat) (x : AV) (K : AV → List AV → Option β) : Option β :=
  match P.underlying s, P.underlying d with
  | some (.slice e), some .string =>
    bif isK P e .u8 then
      match slRes hp (.int .u8) x with
      | some ([.l l], _) => K (.str (byteL l)) []
      | _ => none
    else none
  | some .string, some (.slice e) =>
    bif isK P e .u8 then
      match x with
      | .str a => K (.x (.sln nm a.length)) [.x (.obj (.ints .u8 (intL a) true))]
      | _ => none
    else none
  | _, _ => none

/-- the make of a type's values -/
def epFs (g : TypeId → Option Ep) : List Field → Option (List Ep)
  | [] => some []
  | f :: fs => match g f.type with
    | some e => match epFs g fs with
      | some es => some (e :: es)
      | none => none
    | none => none
def epOf (P : Program) : Nat → TypeId → Option Ep
  | 0, _ => none
  | d + 1, t =>
    match P.underlying t with
    | some (.int k) => some (.int k)
    | some .bool => some .bool
    | some .string => some .str
    | some (.array n e) => match P.underlying e with
      | some (.int k) => some (.arr k n)
      | _ => none
    | some (.struct fs) => match epFs (epOf P d) fs.toList with
      | some es => some (.agg es)
      | none => none
    | some (.slice e) => match epOf P d e with
      | some e => some (.sl e)
      | none => none
    | _ => none

def resRows (hp : Hp) (e : Ep) : List AV → Option (List (List Hv))
  | [] => some []
  | v :: vs => match e.res hp v with
    | some (h, true) => match resRows hp e vs with
      | some r => some (h :: r)
      | none => none
    | _ => none
def intsOf (k : IntKind) : List AV → Option (List Int)
  | [] => some []
  | .int k' n :: vs => bif decide (k' = k) then
      match intsOf k vs with
      | some r => some (n :: r)
      | none => none
    else none
  | _ :: _ => none
def isRange : Nat → List (Nat × Operand) → Bool
  | _, [] => true
  | i, p :: ps => Nat.beq p.1 i && isRange (i + 1) ps

def bsOk (ps : List (Nat × Operand)) (len : Nat) (ie : TypeInfo) (vs : List AV) : Bool :=
  Nat.blt 0 ie.size && isRange 0 ps && Nat.beq ps.length len && Nat.ble (len * ie.size) 16777216 && (match ie.zero with | some _ => true | none => false) && Nat.beq vs.length len && Nat.ble len 16777216
/-- a slice's literal; what slices it holds must be such as stay -/
def bsV (P : Program) (t : TypeId) (len : Nat) (ps : List (Nat × Operand)) (hp : Hp) (nm : Nat) (vs : List AV) (K : AV → List AV → Option β) : Option β :=
  match P.underlying t with
  | some (.slice e) =>
    match P.info? e with
    | some ie =>
      bif bsOk ps len ie vs then
        match P.underlying e with
        | some (.int k) => match intsOf k vs with
          | some l => bif Nat.beq ie.size 1 then K (.x (.sln nm l.length)) [.x (.obj (.ints k l true))] else none
          | none => none
        | _ => match epOf P 8 e with
          | some ep => match resRows hp ep vs with
            | some l => bif Nat.beq ep.size ie.size then K (.x (.sln nm l.length)) [.x (.obj (.row ep l true))] else none
            | none => none
          | none => none
      else none
    | none => none
  | _ => none

def mkOk (k' k : IntKind) (ie : TypeInfo) : Bool := decide (k' = k) && Nat.beq ie.size 1 && Nat.ble ie.bytes 512
def mkV (P : Program) (t : TypeId) (nm : Nat) (vs : List AV) (K : AV → List AV → Option β) : Option β :=
  match P.underlying t with
  | some (.slice e) =>
    match P.info? e, P.underlying e, zeroA P e with
    | some ie, some (.int k), some (.int k' z) =>
      match vs with
      | [.int _ l, .int _ c] =>
        bif mkOk k' k ie then
          bif inB c 68719476736 then bif inB l (c.toNat + 1) then K (.x (.sln nm (List.replicate l.toNat z).length)) [.x (.obj (.ints k (List.replicate l.toNat z) true))] else none else none
        else none
      | _ => none
    | _, _, _ => none
  | _ => none

def rgV (P : Program) (t : TypeId) (nm : Nat) (x : AV) (K : AV → List AV → Option β) : Option β :=
  match P.underlying t, x with
  | some .string, .str s => K (.ptr nm []) [.x (.obj (.iter s 0))]
  | _, _ => none

def apV (P : Program) (t : TypeId) (x : AV) (K : AV → List AV → Option β) : Option β :=
  match P.underlying t with
  | some (.array N _) =>
    match x with
    | .x (.sln n len) => bif Nat.blt 0 N && Nat.ble N len then K (.x (.eptr n 1 0 [])) [] else none
    | .x (.sla n p es off len _) => bif Nat.ble N len then K (.x (.aptr n p es off)) [] else none
    | _ => none
  | _ => none

def clV (F : LFn) (hp : Hp) (nm : Nat) (vs : List AV) (K : AV → List AV → Option β) : Option β :=
  match Ep.resL hp F.ins vs with
  | some (hs, ro) => bif ro || F.fresh then (F.fn hs).bind fun r => K (F.out.mk r nm) (F.out.objs F.own r) else none
  | none => none

/-- by the operands' values -/
def lookV (P : Program) (G : FuncId → Option LFn) (op : Op) (vs : List AV) (hp : Hp) (nm : Nat) (K : AV → List AV → Option β) : Option β :=
  match op with
  | .load t _ => match vs with
    | [x] => ldV P t hp nm x K
    | _ => none
  | .slice t _ lo hi mx => slV P t lo.isSome hi.isSome mx.isSome hp nm vs K
  | .convert s d _ => match vs with
    | [x] => cvV P s d hp nm x K
    | _ => none
  | .buildSlice t len ps => bsV P t len ps.toList hp nm vs K
  | .makeSlice t _ _ => mkV P t nm vs K
  | .range t _ => match vs with
    | [x] => rgV P t nm x K
    | _ => none
  | .sliceToArrayPointer t _ => match vs with
    | [x] => apV P t x K
    | _ => none
  | .call c => match c.callee with
    | .value (.func f) => match G f, vs with
      | some F, .fn _ :: vs => clV F hp nm vs K
      | _, _ => none
    | _ => none
  | _ => none
end Go.Sim
namespace Go.Sim
variable {β : Type}

def AV.lenOk : AV → Nat → Prop
  | .x (.obj (.ints _ l _)), len => l.length = len
  | .x (.obj (.row _ l _)), len => l.length = len
  | .x (.obj (.dead k)), len => k = len
  | _, _ => False
def AV.gtOk : AV → Nat → Prop
  | .x (.obj (.ints _ l _)), i => i < l.length
  | .x (.obj (.row _ l _)), i => i < l.length
  | .x (.obj (.dead k)), i => i < k
  | _, _ => False
theorem gtOk_of {t : AV} {len i : Nat} (h : t.lenOk len) (hi : i < len) : t.gtOk i := by
  unfold AV.lenOk at h
  unfold AV.gtOk
  split <;> simp_all
def Pres (hp : Hp) : Tok → Prop
  | .nm n => ∃ t, hp.getD n none = some t
  | .ln n len => ∃ t, hp.getD n none = some t ∧ t.lenOk len
  | .gt n i => ∃ t, hp.getD n none = some t ∧ t.gtOk i
theorem Pres.imp {hp : Hp} {m m' : Tok} (h : Pres hp m') (k : m'.imp m) : Pres hp m := by
  cases k with
  | self => exact h
  | lt n len i hi =>
    obtain ⟨t, ht, hl⟩ := h
    exact ⟨t, ht, gtOk_of hl hi⟩
def ClosedV (hp : Hp) (v : AV) : Prop := ∀ m, v.has m → Pres hp m
def ClosedH (hp : Hp) : Prop := ∀ n v, hp.getD n none = some v → ClosedV hp v
def ClosedT (tm : Tm) (hp : Hp) : Prop := ∀ (i : Nat) v, tm.getD i none = some v → ClosedV hp v
def WfT (tm : Tm) : Prop := ∀ (i : Nat) v, tm.getD i none = some v → v.wf
def WfH (hp : Hp) : Prop := ∀ n v, hp.getD n none = some v → v.wf

def addL (hp : Hp) (nm : Nat) : List AV → Hp
  | [] => hp
  | v :: vs => addL (setP none hp nm (some v)) (nm + 1) vs
theorem addL_get : ∀ (vs : List AV) (hp : Hp) (nm : Nat) (j : Nat), (addL hp nm vs).getD j none = if nm ≤ j ∧ j < nm + vs.length then vs[j - nm]? else hp.getD j none
  | [], hp, nm, j => by simp only [addL, List.length_nil, Nat.add_zero]; rw [if_neg (by omega)]
  | v :: vs, hp, nm, j => by
    simp only [addL, List.length_cons]
    rw [addL_get vs, getD_setP]
    by_cases h1 : nm = j
    · subst h1
      rw [if_neg (by omega), if_pos rfl, if_pos (by omega)]
      simp
    · rw [if_neg h1]
      by_cases h2 : nm + 1 ≤ j ∧ j < nm + 1 + vs.length
      · rw [if_pos h2, if_pos (by omega)]
        rw [show j - nm = (j - (nm + 1)) + 1 by omega]
        simp
      · rw [if_neg h2, if_neg (by omega)]

/-! by its end -/
theorem kond {γ : Type} {c : Bool} {a : Option γ} {b : Option β} {f : γ → Option β} (h : b = a.bind f) : (bif c then b else none) = (bif c then a else none).bind f := by
  cases c
  · rfl
  · exact h
theorem bndO_eq {γ : Type} (b : Bool) (x : Option AV) (d lim : Nat) (F : Nat → Option γ) (f : γ → Option β) (G : Nat → Option β) (hF : ∀ n, G n = (F n).bind f) :
    bndO b x d lim G = (bndO b x d lim F).bind f := by
  unfold bndO
  cases b
  · exact hF d
  · simp only [cond_true]
    split
    · exact kond (hF _)
    · rfl
theorem ldArr_eq (P : Program) (t : TypeId) (k : IntKind) (m off : Nat) (l : List Int) (K : AV → List AV → Option β) :
    ldArr P t k m off l K = (ldArr P t k m off l fun v n => some (v, n)).bind fun x => K x.1 x.2 := by
  unfold ldArr
  split
  · exact kond rfl
  · rfl
theorem subK_eq2 (p : List Sel) (v : AV) {γ : Type} (F : AV → Option γ) (f : γ → Option β) (G : AV → Option β) (h : ∀ u, G u = (F u).bind f) : subK p v G = (subK p v F).bind f := by
  rw [subK_eq p v G, subK_eq p v F]
  cases sub p v with
  | none => rfl
  | some u => exact h u
theorem ldV_eq (P : Program) (t : TypeId) (hp : Hp) (nm : Nat) (x : AV) (K : AV → List AV → Option β) :
    ldV P t hp nm x K = (ldV P t hp nm x fun v n => some (v, n)).bind fun x => K x.1 x.2 := by
  unfold ldV
  split
  · split
    · split
      · exact subK_eq2 _ _ _ _ _ fun u => kond rfl
      · rfl
    · rfl
  · split
    · split
      · refine kond ?_
        cases fits P t (.int _ 0) with
        | true => rfl
        | false => exact ldArr_eq ..
      · rfl
    · exact kond (subK_eq2 _ _ _ _ _ fun u => kond rfl)
    · rfl
  · split
    · split
      · split
        · exact kond (ldArr_eq ..)
        · rfl
      · rfl
    · rfl
  · rfl
theorem slV_eq (P : Program) (t : TypeId) (lo hi mx : Bool) (hp : Hp) (nm : Nat) (vs : List AV) (K : AV → List AV → Option β) :
    slV P t lo hi mx hp nm vs K = (slV P t lo hi mx hp nm vs fun v n => some (v, n)).bind fun x => K x.1 x.2 := by
  unfold slV
  split
  · cases (mx || slBad P _ hp vs) with
    | true => rfl
    | false =>
      simp only [cond_false]
      split
      · split
        · rename_i rw _
          cases rw
          · simp only [cond_false]; exact bndO_eq _ _ _ _ _ _ _ fun h => bndO_eq _ _ _ _ _ _ _ fun a => rfl
          · rfl
        · rename_i rw _
          cases rw
          · simp only [cond_false]; exact bndO_eq _ _ _ _ _ _ _ fun h => bndO_eq _ _ _ _ _ _ _ fun a => rfl
          · rfl
        · rfl
      · exact bndO_eq _ _ _ _ _ _ _ fun h => bndO_eq _ _ _ _ _ _ _ fun a => rfl
      · rfl
  · rfl
theorem cvV_eq (P : Program) (s d : TypeId) (hp : Hp) (nm : Nat) (x : AV) (K : AV → List AV → Option β) :
    cvV P s d hp nm x K = (cvV P s d hp nm x fun v n => some (v, n)).bind fun x => K x.1 x.2 := by
  unfold cvV
  split
  · refine kond ?_
    split <;> rfl
  · refine kond ?_
    split <;> rfl
  · rfl
theorem bsV_eq (P : Program) (t : TypeId) (len : Nat) (ps : List (Nat × Operand)) (hp : Hp) (nm : Nat) (vs : List AV) (K : AV → List AV → Option β) :
    bsV P t len ps hp nm vs K = (bsV P t len ps hp nm vs fun v n => some (v, n)).bind fun x => K x.1 x.2 := by
  unfold bsV
  split
  · split
    · refine kond ?_
      split
      · split
        · exact kond rfl
        · rfl
      · split
        · split
          · exact kond rfl
          · rfl
        · rfl
    · rfl
  · rfl
theorem mkV_eq (P : Program) (t : TypeId) (nm : Nat) (vs : List AV) (K : AV → List AV → Option β) :
    mkV P t nm vs K = (mkV P t nm vs fun v n => some (v, n)).bind fun x => K x.1 x.2 := by
  unfold mkV
  split
  · split
    · split
      · exact kond (kond (kond rfl))
      · rfl
    · rfl
  · rfl
theorem lookV_eq (P : Program) (G : FuncId → Option LFn) (op : Op) (vs : List AV) (hp : Hp) (nm : Nat) (K : AV → List AV → Option β) :
    lookV P G op vs hp nm K = (lookV P G op vs hp nm fun v n => some (v, n)).bind fun x => K x.1 x.2 := by
  unfold lookV
  split
  · split
    · exact ldV_eq ..
    · rfl
  · exact slV_eq ..
  · split
    · exact cvV_eq ..
    · rfl
  · exact bsV_eq ..
  · exact mkV_eq ..
  · split
    · unfold rgV; split <;> rfl
    · rfl
  · split
    · unfold apV
      split
      · split
        · exact kond rfl
        · exact kond rfl
        · rfl
      · rfl
    · rfl
  · split
    · split
      · unfold clV
        split
        · refine kond ?_
          rw [Option.bind_assoc]
          rfl
        · rfl
      · rfl
    · rfl
  · rfl

/-! by the names it looks at -/
def Agree (hp hp2 : Hp) (v : AV) : Prop := ∀ n, v.has (.nm n) → hp.getD n none = hp2.getD n none
theorem slRes_agree {hp hp2 : Hp} {v : AV} (h : Agree hp hp2 v) (e : Ep) : slRes hp e v = slRes hp2 e v := by
  unfold slRes
  split
  · rfl
  · rename_i n len
    rw [h n (by simp [AV.has, XV.has])]
  · rename_i n p es off len cap
    rw [h n (by simp [AV.has, XV.has])]
  · rfl
theorem Agree.mem {hp hp2 : Hp} {vs : List AV} (h : ∀ n, AV.hasL (.nm n) vs → hp.getD n none = hp2.getD n none) {v : AV} (hv : v ∈ vs) : Agree hp hp2 v :=
  fun n hn => h n (hasL_mem hv hn)
mutual
theorem res_agree {hp hp2 : Hp} : ∀ (e : Ep) (v : AV), Agree hp hp2 v → e.res hp v = e.res hp2 v
  | .int k, v, _ => by simp only [Ep.res]
  | .bool, v, _ => by simp only [Ep.res]
  | .str, v, _ => by simp only [Ep.res]
  | .arr k n, v, _ => by simp only [Ep.res]
  | .agg es, v, h => by
    simp only [Ep.res]
    split
    · rename_i vs
      exact resL_agree es vs (fun n hn => h n (by simpa [AV.has] using hn))
    · rfl
  | .sl e, v, h => by simp only [Ep.res]; exact slRes_agree h e
theorem resL_agree {hp hp2 : Hp} : ∀ (es : List Ep) (vs : List AV), (∀ n, AV.hasL (.nm n) vs → hp.getD n none = hp2.getD n none) → Ep.resL hp es vs = Ep.resL hp2 es vs
  | [], [], _ => by simp only [Ep.resL]
  | [], _ :: _, _ => by simp only [Ep.resL]
  | _ :: _, [], _ => by simp only [Ep.resL]
  | e :: es, v :: vs, h => by
    simp only [Ep.resL]
    rw [res_agree e v (fun n hn => h n (by simp [AV.hasL, hn])), resL_agree es vs (fun n hn => h n (by simp [AV.hasL, hn]))]
end
theorem resRows_agree {hp hp2 : Hp} (e : Ep) : ∀ (vs : List AV), (∀ v ∈ vs, Agree hp hp2 v) → resRows hp e vs = resRows hp2 e vs
  | [], _ => by simp only [resRows]
  | v :: vs, h => by
    simp only [resRows]
    rw [res_agree e v (h v (by simp)), resRows_agree e vs (fun u hu => h u (by simp [hu]))]
theorem slBad_agree {P : Program} {el : TypeId} {hp hp2 : Hp} {vs : List AV} (h : ∀ v ∈ vs, Agree hp hp2 v) : slBad P el hp vs = slBad P el hp2 vs := by
  unfold slBad
  split
  · rename_i n len r
    rw [h (.x (.sln n len)) (by simp) n (by simp [AV.has, XV.has])]
  · rfl
theorem look_agree {P : Program} {G : FuncId → Option LFn} {op : Op} {vs : List AV} {hp hp2 : Hp} {nm : Nat} {K : AV → List AV → Option β} (h : ∀ v ∈ vs, Agree hp hp2 v) :
    lookV P G op vs hp nm K = lookV P G op vs hp2 nm K := by
  unfold lookV
  split
  · split
    · rename_i x
      have hx := h x (by simp)
      unfold ldV
      split
      · rename_i n p
        rw [hx n (by simp [AV.has])]
      · rename_i n es i p
        rw [hx n (by simp [AV.has, XV.has])]
      · rename_i n p es off
        rw [hx n (by simp [AV.has, XV.has])]
      · rfl
    · rfl
  · unfold slV
    split
    · rw [slBad_agree h]
      cases (Option.isSome _ || slBad P _ hp2 vs) with
      | true => rfl
      | false =>
        simp only [cond_false]
        split
        · rename_i n len r
          rw [h (.x (.sln n len)) (by simp) n (by simp [AV.has, XV.has])]
        · rfl
        · rfl
    · rfl
  · split
    · rename_i x
      have hx := h x (by simp)
      unfold cvV
      rw [slRes_agree hx]
    · rfl
  · unfold bsV
    split
    · split
      · simp only [fun ep => resRows_agree ep vs h]
      · rfl
    · rfl
  · rfl
  · rfl
  · rfl
  · split
    · split
      · rename_i F _ vs' _
        unfold clV
        rw [resL_agree F.ins vs' (fun n hn => by
          obtain ⟨u, hu, hum⟩ := mem_hasL hn
          exact h u (by simp [hu]) n hum)]
      · rfl
    · rfl
  · rfl

/-! the names that it hands on -/
mutual
theorem mk_has (rw : Bool) : ∀ (e : Ep) (h : List Hv) (j nm : Nat) (m : Tok), (e.mk h j nm).has m → ∃ i, i < (e.objs rw h j).length ∧ (m = .nm (nm + i) ∨ ∃ len t, m = .ln (nm + i) len ∧ (e.objs rw h j)[i]? = some t ∧ t.lenOk len)
  | .int k, h, j, nm, m, hm => by simp [Ep.mk, AV.has] at hm
  | .bool, h, j, nm, m, hm => by simp [Ep.mk, AV.has] at hm
  | .str, h, j, nm, m, hm => by simp [Ep.mk, AV.has] at hm
  | .arr k n, h, j, nm, m, hm => by simp [Ep.mk, AV.has] at hm
  | .agg es, h, j, nm, m, hm => by
    simp only [Ep.mk, AV.has] at hm
    simp only [Ep.objs]
    exact mkL_has rw es h j nm m hm
  | .sl (.int k), h, j, nm, m, hm => by
    simp only [Ep.mk, AV.has, XV.has] at hm
    refine ⟨0, by simp [Ep.objs], ?_⟩
    rcases hm with rfl | rfl
    · exact .inl rfl
    · exact .inr ⟨_, _, rfl, List.getElem?_cons_zero, by simp [AV.lenOk]⟩
  | .sl .bool, h, j, nm, m, hm | .sl .str, h, j, nm, m, hm | .sl (.arr _ _), h, j, nm, m, hm | .sl (.agg _), h, j, nm, m, hm | .sl (.sl _), h, j, nm, m, hm => by
    simp only [Ep.mk, AV.has, XV.has] at hm
    refine ⟨0, by simp [Ep.objs], ?_⟩
    rcases hm with rfl | rfl
    · exact .inl rfl
    · exact .inr ⟨_, _, rfl, List.getElem?_cons_zero, by simp [AV.lenOk]⟩
theorem mkL_has (rw : Bool) : ∀ (es : List Ep) (h : List Hv) (j nm : Nat) (m : Tok), AV.hasL m (Ep.mkL es h j nm) → ∃ i, i < (Ep.objsL rw es h j).length ∧ (m = .nm (nm + i) ∨ ∃ len t, m = .ln (nm + i) len ∧ (Ep.objsL rw es h j)[i]? = some t ∧ t.lenOk len)
  | [], h, j, nm, m, hm => by simp [Ep.mkL, AV.hasL] at hm
  | e :: es, h, j, nm, m, hm => by
    simp only [Ep.mkL, AV.hasL] at hm
    simp only [Ep.objsL]
    rcases hm with hm | hm
    · obtain ⟨i, hi, hc⟩ := mk_has rw e h j nm m hm
      refine ⟨i, by simp; omega, ?_⟩
      rcases hc with hc | ⟨len, t, h1, h2, h3⟩
      · exact .inl hc
      · exact .inr ⟨len, t, h1, by rw [List.getElem?_append_left hi]; exact h2, h3⟩
    · obtain ⟨i, hi, hc⟩ := mkL_has rw es h (j + e.n) (nm + e.ns) m hm
      have hl := objs_len e rw h j
      refine ⟨(e.objs rw h j).length + i, by simp; omega, ?_⟩
      rcases hc with hc | ⟨len, t, h1, h2, h3⟩
      · exact .inl (by rw [hc, hl]; congr 1; omega)
      · exact .inr ⟨len, t, by rw [h1, hl]; congr 1; omega, by rw [List.getElem?_append_right (by omega)]; simpa using h2, h3⟩
theorem objs_len : ∀ (e : Ep) (rw : Bool) (h : List Hv) (j : Nat), (e.objs rw h j).length = e.ns
  | .int k, _, _, _ | .bool, _, _, _ | .str, _, _, _ | .arr _ _, _, _, _ => by simp [Ep.objs, Ep.ns]
  | .agg es, rw, h, j => by simp only [Ep.objs, Ep.ns]; exact objsL_len es rw h j
  | .sl (.int k), _, _, _ | .sl .bool, _, _, _ | .sl .str, _, _, _ | .sl (.arr _ _), _, _, _ | .sl (.agg _), _, _, _ | .sl (.sl _), _, _, _ => by simp [Ep.objs, Ep.ns]
theorem objsL_len : ∀ (es : List Ep) (rw : Bool) (h : List Hv) (j : Nat), (Ep.objsL rw es h j).length = Ep.nsL es
  | [], _, _, _ => by simp [Ep.objsL, Ep.nsL]
  | e :: es, rw, h, j => by simp [Ep.objsL, Ep.nsL, objs_len e rw h j, objsL_len es rw h (j + e.n)]
end

theorem pres_addL {hp : Hp} {nm : Nat} {news : List AV} {m : Tok} (h : Pres hp m) (hf : ∀ i, i < news.length → hp.getD (nm + i) none = none) : Pres (addL hp nm news) m := by
  have key : ∀ n t, hp.getD n none = some t → (addL hp nm news).getD n none = some t := by
    intro n t ht
    rw [addL_get]
    by_cases hc : nm ≤ n ∧ n < nm + news.length
    · have := hf (n - nm) (by omega)
      rw [show nm + (n - nm) = n by omega, ht] at this
      cases this
    · rw [if_neg hc]; exact ht
  cases m with
  | nm n => obtain ⟨t, ht⟩ := h; exact ⟨t, key n t ht⟩
  | ln n len => obtain ⟨t, ht, hl⟩ := h; exact ⟨t, key n t ht, hl⟩
  | gt n i => obtain ⟨t, ht, hl⟩ := h; exact ⟨t, key n t ht, hl⟩
theorem pres_new {hp : Hp} {nm i : Nat} {news : List AV} {t : AV} (h : news[i]? = some t) : (addL hp nm news).getD (nm + i) none = some t := by
  have hi := (List.getElem?_eq_some_iff.1 h).1
  rw [addL_get, if_pos ⟨by omega, by omega⟩, show nm + i - nm = i by omega]
  exact h
theorem slL_length {α : Type} {lo hi : Bool} {s : List α} {l h : Nat} (h1 : lo = false → l = 0) (h2 : hi = false → h = s.length) (hl : l ≤ h) (hh : h ≤ s.length) : (slL lo hi s l h).length = h - l := by
  rw [slL_eq h1 h2]; simp; omega
theorem bndO_some {γ : Type} {b : Bool} {x : Option AV} {d lim : Nat} {F : Nat → Option γ} {r : γ} (h : bndO b x d lim F = some r) :
    (b = false ∧ F d = some r) ∨ ∃ k i, b = true ∧ x = some (.int k i) ∧ inB i (lim + 1) = true ∧ F i.toNat = some r := by
  unfold bndO at h
  cases b
  · exact .inl ⟨rfl, h⟩
  · rw [cond_true] at h
    split at h
    · rename_i k i
      cases hb : inB i (lim + 1) with
      | false => rw [hb] at h; cases h
      | true => rw [hb] at h; exact .inr ⟨k, i, rfl, rfl, hb, h⟩
    · cases h
/-- the bounds of a slicing -/
theorem bnds {lo hi : Bool} {r : List AV} {len : Nat} {γ : Type} {F : Nat → Nat → Option γ} {q : γ}
    (h : bndO hi (r[bif lo then 1 else 0]?) len len (fun h => bndO lo (r[0]?) 0 h fun a => F h a) = some q) :
    ∃ h a, F h a = some q ∧ h ≤ len ∧ a ≤ h ∧ (lo = false → a = 0) ∧ (hi = false → h = len) ∧
      (hi = true → ∃ k i, r[bif lo then 1 else 0]? = some (.int k i) ∧ inB i (len + 1) = true ∧ h = i.toNat) ∧ (lo = true → ∃ k i, r[0]? = some (.int k i) ∧ inB i (h + 1) = true ∧ a = i.toNat) := by
  rcases bndO_some h with ⟨e1, h⟩ | ⟨k, i, e1, hx, hb, h⟩
  · rcases bndO_some h with ⟨e2, h⟩ | ⟨k2, i2, e2, hx2, hb2, h⟩
    · exact ⟨len, 0, h, Nat.le_refl _, Nat.zero_le _, fun _ => rfl, fun _ => rfl, (fun e => by rw [e1] at e; cases e), (fun e => by rw [e2] at e; cases e)⟩
    · have := inB_iff.1 hb2
      exact ⟨len, _, h, Nat.le_refl _, by omega, (fun e => by rw [e2] at e; cases e), fun _ => rfl, (fun e => by rw [e1] at e; cases e), fun _ => ⟨k2, i2, hx2, hb2, rfl⟩⟩
  · have hb' := inB_iff.1 hb
    rcases bndO_some h with ⟨e2, h⟩ | ⟨k2, i2, e2, hx2, hb2, h⟩
    · exact ⟨_, 0, h, by omega, Nat.zero_le _, fun _ => rfl, (fun e => by rw [e1] at e; cases e), fun _ => ⟨k, i, hx, hb, rfl⟩, (fun e => by rw [e2] at e; cases e)⟩
    · have := inB_iff.1 hb2
      exact ⟨_, _, h, by omega, by omega, (fun e => by rw [e2] at e; cases e), (fun e => by rw [e1] at e; cases e), fun _ => ⟨k, i, hx, hb, rfl⟩, fun _ => ⟨k2, i2, hx2, hb2, rfl⟩⟩

theorem unfz_has {t tr : AV} (h : unfz t = some tr) (m : Tok) (hm : tr.has m) : t.has m := by
  unfold unfz at h
  split at h
  · cases h; simpa only [AV.has] using hm
  · cases h
  · cases h; exact hm
theorem mk_closed {hp : Hp} {nm : Nat} {rw : Bool} (e : Ep) (h : List Hv) (j : Nat) : ClosedV (addL hp nm (e.objs rw h j)) (e.mk h j nm) := fun m hm => by
  obtain ⟨i, hi, rfl | ⟨len, t, rfl, h2, h3⟩⟩ := mk_has rw e h j nm m hm
  · exact ⟨_, pres_new (List.getElem?_eq_getElem hi)⟩
  · exact ⟨t, pres_new h2, h3⟩
theorem mkL_closed {hp : Hp} {nm : Nat} {rw : Bool} (es : List Ep) (h : List Hv) (j : Nat) : ClosedV (addL hp nm (Ep.objsL rw es h j)) (.tup (Ep.mkL es h j nm)) := fun m hm => by
  obtain ⟨i, hi, rfl | ⟨len, t, rfl, h2, h3⟩⟩ := mkL_has rw es h j nm m (by simpa only [AV.has] using hm)
  · exact ⟨_, pres_new (List.getElem?_eq_getElem hi)⟩
  · exact ⟨t, pres_new h2, h3⟩
mutual
theorem objs_isObj : ∀ (e : Ep) (rw : Bool) (h : List Hv) (j : Nat), ∀ u ∈ e.objs rw h j, u.isObj = true
  | .int k, _, _, _, u, hu | .bool, _, _, _, u, hu | .str, _, _, _, u, hu | .arr _ _, _, _, _, u, hu => by simp [Ep.objs] at hu
  | .agg es, rw, h, j, u, hu => by simp only [Ep.objs] at hu; exact objsL_isObj es rw h j u hu
  | .sl (.int k), _, _, _, u, hu | .sl .bool, _, _, _, u, hu | .sl .str, _, _, _, u, hu | .sl (.arr _ _), _, _, _, u, hu | .sl (.agg _), _, _, _, u, hu | .sl (.sl _), _, _, _, u, hu => by
    simp only [Ep.objs, List.mem_singleton] at hu; subst hu; rfl
theorem objsL_isObj : ∀ (es : List Ep) (rw : Bool) (h : List Hv) (j : Nat), ∀ u ∈ Ep.objsL rw es h j, u.isObj = true
  | [], _, _, _, u, hu => by simp [Ep.objsL] at hu
  | e :: es, rw, h, j, u, hu => by
    simp only [Ep.objsL, List.mem_append] at hu
    rcases hu with hu | hu
    · exact objs_isObj e rw h j u hu
    · exact objsL_isObj es rw h (j + e.n) u hu
end
theorem obj_has {o : HObj} : ∀ m, ¬ (AV.x (.obj o)).has m := by simp [AV.has, XV.has]
theorem isObj_has {u : AV} (h : u.isObj = true) : ∀ m, ¬ u.has m := by
  cases u <;> simp [AV.isObj] at h
  rename_i v
  cases v <;> simp [XV.isObj] at h
  exact obj_has
theorem flat_ns : ∀ e : Ep, e.flat = true → e.ns = 0
  | .int _, _ | .bool, _ | .str, _ | .arr _ _, _ => rfl
  | .sl _, h => by simp [Ep.flat] at h
  | .agg es, h => by simp only [Ep.flat] at h; simp only [Ep.ns]; exact flatL_ns es h
where flatL_ns : ∀ es : List Ep, Ep.flatL es = true → Ep.nsL es = 0
  | [], _ => rfl
  | e :: es, h => by
    simp only [Ep.flatL, Bool.and_eq_true] at h
    simp only [Ep.nsL, flat_ns e h.1, flatL_ns es h.2]
theorem flat_has {e : Ep} (hf : e.flat = true) (h : List Hv) (j nm : Nat) (m : Tok) : ¬ (e.mk h j nm).has m := fun hm => by
  obtain ⟨i, hi, _⟩ := mk_has false e h j nm m hm
  rw [objs_len, flat_ns e hf] at hi
  omega
theorem blk_has {e : Ep} {h : List Hv} : ∀ u ∈ [bif e.flat then e.mk h 0 0 else AV.nil], ∀ m, ¬ u.has m := fun u hu m => by
  rw [List.mem_singleton.1 hu]
  cases hf : e.flat with
  | true => exact flat_has hf h 0 0 m
  | false => simp [AV.has]
theorem closed_none {hp : Hp} {v : AV} (h : ∀ m, ¬ v.has m) : ClosedV hp v := fun m hm => absurd hm (h m)

theorem ldArr_closed {P : Program} {t : TypeId} {k : IntKind} {m off : Nat} {l : List Int} {hp : Hp} {nm : Nat} {v : AV} {news : List AV} (h : ldArr P t k m off l (fun v n => some (v, n)) = some (v, news)) :
    ClosedV (addL hp nm news) v ∧ ∀ u ∈ news, ∀ m, ¬ u.has m := by
  unfold ldArr at h
  split at h
  · revert h
    cases (_ && _) with
    | false => intro h; cases h
    | true => intro h; cases h; exact ⟨closed_none (by simp [AV.has]), by simp⟩
  · cases h

theorem look_closed {P : Program} {G : FuncId → Option LFn} {op : Op} {vs : List AV} {hp : Hp} {nm : Nat} {v : AV} {news : List AV}
    (h : lookV P G op vs hp nm (fun v n => some (v, n)) = some (v, news)) (hh : ClosedH hp) (hv : ∀ u ∈ vs, ClosedV hp u) (hf : ∀ i, i < news.length → hp.getD (nm + i) none = none) :
    ClosedV (addL hp nm news) v ∧ ∀ u ∈ news, ∀ m, ¬ u.has m := by
  unfold lookV at h
  split at h
  · split at h
    · rename_i x
      have hx := hv x (by simp)
      unfold ldV at h
      split at h
      · split at h
        · rename_i tree ht
          split at h
          · rename_i tr htr
            rw [subK_eq] at h
            cases hs : sub _ tr with
            | none => rw [hs] at h; cases h
            | some u =>
              rw [hs, Option.bind_some] at h
              revert h
              cases fits P _ u with
              | false => intro h; cases h
              | true =>
                intro h; cases h
                exact ⟨fun m hm => hh _ _ ht m (unfz_has htr m (sub_has _ _ _ hs m hm)), by simp⟩
          · cases h
        · cases h
      · split at h
        · split at h
          · revert h
            cases Nat.beq _ 1 with
            | false => intro h; cases h
            | true =>
              simp only [cond_true]
              cases fits P _ _ with
              | true => intro h; cases h; exact ⟨closed_none (by simp [AV.has]), by simp⟩
              | false => intro h; exact ldArr_closed h
          · cases h
        · rename_i e l _ _
          revert h
          cases Nat.beq _ _ with
          | false => intro h; cases h
          | true =>
            simp only [cond_true]
            intro h
            rw [subK_eq] at h
            cases hs : sub _ (e.mk _ _ _) with
            | none => rw [hs] at h; cases h
            | some u =>
              rw [hs, Option.bind_some] at h
              revert h
              cases fits P _ u with
              | false => intro h; cases h
              | true =>
                intro h; cases h
                exact ⟨fun m hm => mk_closed (rw := false) e _ 0 m (sub_has _ _ _ hs m hm), fun u hu => isObj_has (objs_isObj _ _ _ _ u hu)⟩
        · cases h
      · split at h
        · split at h
          · split at h
            · revert h
              cases Nat.beq _ _ with
              | false => intro h; cases h
              | true => intro h; exact ldArr_closed h
            · cases h
          · cases h
        · cases h
      · cases h
    · cases h
  · unfold slV at h
    split at h
    · revert h
      cases (Option.isSome _ || slBad P _ hp vs) with
      | true => intro h; cases h
      | false =>
        simp only [cond_false]
        intro h
        split at h
        · rename_i n len r
          have hsl := hv _ (List.mem_cons_self ..) (.ln n len) (by simp [AV.has, XV.has])
          obtain ⟨t, ht, hl⟩ := hsl
          split at h
          · rename_i k l rw hr
            rw [hr] at ht
            cases ht
            simp only [AV.lenOk] at hl
            revert h
            cases rw with
            | true => intro h; cases h
            | false =>
              simp only [cond_false]
              intro h
              obtain ⟨hh', a, h, h1, h2, h3, h4, _⟩ := bnds h
              cases h
              refine ⟨fun m hm => ?_, by simp [AV.has, XV.has]⟩
              simp only [AV.has, XV.has] at hm
              rcases hm with rfl | rfl
              · exact ⟨_, pres_new (i := 0) rfl⟩
              · exact ⟨_, pres_new (i := 0) rfl, by simp only [AV.lenOk]; exact slL_length h3 (fun e => by rw [h4 e, hl]) h2 (by omega)⟩
          · rename_i e l rw hr
            rw [hr] at ht
            cases ht
            simp only [AV.lenOk] at hl
            revert h
            cases rw with
            | true => intro h; cases h
            | false =>
              simp only [cond_false]
              intro h
              obtain ⟨hh', a, h, h1, h2, h3, h4, _⟩ := bnds h
              cases h
              refine ⟨fun m hm => ?_, by simp [AV.has, XV.has]⟩
              simp only [AV.has, XV.has] at hm
              rcases hm with rfl | rfl
              · exact ⟨_, pres_new (i := 0) rfl⟩
              · exact ⟨_, pres_new (i := 0) rfl, by simp only [AV.lenOk]; exact slL_length h3 (fun e => by rw [h4 e, hl]) h2 (by omega)⟩
          · cases h
        · obtain ⟨hh', a, h, _⟩ := bnds h
          cases h
          exact ⟨closed_none (by simp [AV.has]), by simp⟩
        · cases h
    · cases h
  · split at h
    · unfold cvV at h
      split at h
      · revert h
        cases isK P _ _ with
        | false => intro h; cases h
        | true =>
          simp only [cond_true]
          intro h
          split at h
          · cases h; exact ⟨closed_none (by simp [AV.has]), by simp⟩
          · cases h
      · revert h
        cases isK P _ _ with
        | false => intro h; cases h
        | true =>
          simp only [cond_true]
          intro h
          split at h
          · cases h
            refine ⟨fun m hm => ?_, by simp [AV.has, XV.has]⟩
            simp only [AV.has, XV.has] at hm
            rcases hm with rfl | rfl
            · exact ⟨_, pres_new (i := 0) rfl⟩
            · exact ⟨_, pres_new (i := 0) rfl, by simp [AV.lenOk, intL]⟩
          · cases h
      · cases h
    · cases h
  · unfold bsV at h
    split at h
    · split at h
      · revert h
        generalize bsOk _ _ _ _ = c
        cases c with
        | false => intro h; cases h
        | true =>
          simp only [cond_true]
          intro h
          split at h
          · split at h
            · revert h
              cases Nat.beq _ 1 with
              | false => intro h; cases h
              | true =>
                intro h; cases h
                refine ⟨fun m hm => ?_, by simp [AV.has, XV.has]⟩
                simp only [AV.has, XV.has] at hm
                rcases hm with rfl | rfl
                · exact ⟨_, pres_new (i := 0) rfl⟩
                · exact ⟨_, pres_new (i := 0) rfl, by simp [AV.lenOk]⟩
            · cases h
          · split at h
            · split at h
              · revert h
                cases Nat.beq _ _ with
                | false => intro h; cases h
                | true =>
                  intro h; cases h
                  refine ⟨fun m hm => ?_, by simp [AV.has, XV.has]⟩
                  simp only [AV.has, XV.has] at hm
                  rcases hm with rfl | rfl
                  · exact ⟨_, pres_new (i := 0) rfl⟩
                  · exact ⟨_, pres_new (i := 0) rfl, by simp [AV.lenOk]⟩
              · cases h
            · cases h
      · cases h
    · cases h
  · unfold mkV at h
    split at h
    · split at h
      · split at h
        · revert h
          generalize mkOk _ _ _ = c
          cases c with
          | false => intro h; cases h
          | true =>
            simp only [cond_true]
            cases inB _ 68719476736 with
            | false => intro h; cases h
            | true =>
              simp only [cond_true]
              cases inB _ _ with
              | false => intro h; cases h
              | true =>
                intro h; cases h
                refine ⟨fun m hm => ?_, by simp [AV.has, XV.has]⟩
                simp only [AV.has, XV.has] at hm
                rcases hm with rfl | rfl
                · exact ⟨_, pres_new (i := 0) rfl⟩
                · exact ⟨_, pres_new (i := 0) rfl, by simp [AV.lenOk]⟩
        · cases h
      · cases h
    · cases h
  · split at h
    · unfold rgV at h
      split at h
      · cases h
        refine ⟨fun m hm => ?_, by simp [AV.has, XV.has]⟩
        simp only [AV.has] at hm
        subst hm
        exact ⟨_, pres_new (i := 0) rfl⟩
      · cases h
    · cases h
  · split at h
    · rename_i x
      have hx := hv x (by simp)
      unfold apV at h
      split at h
      · split at h
        · rename_i n len
          cases hc : (Nat.blt 0 _ && Nat.ble _ len) with
          | false => rw [hc] at h; cases h
          | true =>
            rw [hc] at h
            cases h
            simp only [Bool.and_eq_true] at hc
            have h1 := Nat.le_of_ble_eq_true hc.2
            have h0 := Nat.le_of_ble_eq_true hc.1
            refine ⟨fun m hm => ?_, by simp⟩
            simp only [AV.has, XV.has] at hm
            rcases hm with rfl | rfl
            · exact pres_addL (hx _ (by simp [AV.has, XV.has])) hf
            · exact (pres_addL (hx (.ln n len) (by simp [AV.has, XV.has])) hf).imp (.lt _ _ _ (by omega))
        · cases hc : Nat.ble _ _ with
          | false => rw [hc] at h; cases h
          | true =>
            rw [hc] at h
            cases h
            exact ⟨fun m hm => pres_addL (hx m (by simpa only [AV.has, XV.has] using hm)) hf, by simp⟩
        · cases h
      · cases h
    · cases h
  · split at h
    · split at h
      · rename_i F _ _ _
        unfold clV at h
        split at h
        · revert h
          cases (_ || _) with
          | false => intro h; cases h
          | true =>
            simp only [cond_true]
            intro h
            cases hr : F.fn _ with
            | none => rw [hr] at h; cases h
            | some r =>
              rw [hr, Option.bind_some] at h
              cases h
              cases F.out with
              | one e => exact ⟨mk_closed e r 0, fun u hu => isObj_has (objs_isObj _ _ _ _ u hu)⟩
              | tup es => exact ⟨mkL_closed es r 0, fun u hu => isObj_has (objsL_isObj _ _ _ _ u hu)⟩
              | blk e => exact ⟨fun m hm => by simp only [LOut.mk, AV.has] at hm; subst hm; exact ⟨_, pres_new (i := 0) rfl⟩, blk_has⟩
        · cases h
      · cases h
    · cases h
  · cases h

/-! ranges -/
theorem hole (pre a suf : List Hv) (x : Hv) (h : a = [x]) : (pre ++ a ++ suf)[pre.length]? = some x := by
  subst h; simp
theorem slRes_wf {hp : Hp} {e : Ep} {v : AV} {a : List Hv} {ro : Bool} (h : slRes hp e v = some (a, ro)) (hh : WfH hp) (hv : v.wf) : a.length = 1 ∧ ∀ pre suf, (Ep.sl e).wf (pre ++ a ++ suf) pre.length := by
  have ints : ∀ (k : IntKind) (l : List Int), e = .int k → a = [.l l] → l.length < 9223372036854775808 → (∀ y ∈ l, inK k y) → a.length = 1 ∧ ∀ pre suf, (Ep.sl e).wf (pre ++ a ++ suf) pre.length := by
    intro k l he ha h1 h2
    subst he
    refine ⟨by rw [ha]; rfl, fun pre suf => ?_⟩
    simp only [Ep.wf, hl, hole pre a suf _ ha]
    exact ⟨h1, h2⟩
  have rows : ∀ (l : List (List Hv)), (∀ k, e ≠ .int k) → a = [.r l] → l.length < 9223372036854775808 → (∀ y ∈ l, e.wf y 0) → a.length = 1 ∧ ∀ pre suf, (Ep.sl e).wf (pre ++ a ++ suf) pre.length := by
    intro l he ha h1 h2
    refine ⟨by rw [ha]; rfl, fun pre suf => ?_⟩
    cases e with
    | int k => exact absurd rfl (he k)
    | _ => simp only [Ep.wf, hr, hole pre a suf _ ha] at h2 ⊢; exact ⟨h1, h2⟩
  unfold slRes at h
  split at h
  · split at h
    · cases h; exact ints _ [] rfl rfl (by simp) (by simp)
    · rename_i hne
      cases h; exact rows [] (fun k e => hne k e) rfl (by simp) (by simp)
  · split at h
    · rename_i k l rw hr
      have hw := hh _ _ hr
      simp only [AV.wf, XV.wf, HObj.wf] at hw
      split at h
      · rename_i k'
        cases hk : decide (k = k') with
        | false => rw [hk] at h; cases h
        | true =>
          have := of_decide_eq_true hk
          subst this
          rw [hk] at h; cases h
          exact ints _ l rfl rfl hw.1 hw.2
      · cases h
    · rename_i e' l rw hr
      have hw := hh _ _ hr
      simp only [AV.wf, XV.wf, HObj.wf] at hw
      split at h
      · cases h
      · rename_i hne
        cases hk : Ep.beq e' e with
        | false => rw [hk] at h; cases h
        | true =>
          have := Ep.beq_eq _ _ hk
          subst this
          rw [hk] at h; cases h
          exact rows l (fun k e => hne k e) rfl hw.1 hw.2
    · cases h
  · split at h
    · split at h
      · rename_i tree ht
        split at h
        · rename_i tr htr
          have hw := hh _ _ ht
          have hw' : tr.wf := by
            unfold unfz at htr
            split at htr
            · cases htr; simpa only [AV.wf] using hw
            · cases htr
            · cases htr; exact hw
          split at h
          · rename_i k' m l hs
            have hu := sub_wf _ _ _ hs hw'
            simp only [AV.wf] at hu
            revert h
            cases hk : decide (k' = _) with
            | false => intro h; cases h
            | true =>
              have := of_decide_eq_true hk
              subst this
              cases hb : Nat.beq _ 1 with
              | false => intro h; cases h
              | true =>
                cases hle : Nat.ble _ m with
                | false => intro h; cases h
                | true =>
                  intro h; cases h
                  simp only [AV.wf, XV.wf] at hv
                  have hm : ∀ y ∈ l, inK _ y := fun y hy => by
                    obtain ⟨j, hj, rfl⟩ := List.getElem_of_mem hy
                    have := hu.2 j (by omega)
                    rwa [List.getD_eq_getElem?_getD, List.getElem?_eq_getElem hj] at this
                  refine ints _ (subList _ _ m l) rfl rfl ?_ ?_
                  · unfold subList
                    cases hc : (Nat.beq _ 0 && Nat.beq _ m) with
                    | true =>
                      simp only [Bool.and_eq_true] at hc
                      have := Nat.eq_of_beq_eq_true hc.2
                      simp only [cond_true]; omega
                    | false => simp only [cond_false, List.length_take, List.length_drop]; omega
                  · intro y hy
                    unfold subList at hy
                    revert hy
                    cases (Nat.beq _ 0 && Nat.beq _ m) with
                    | true => exact hm y
                    | false => intro hy; exact hm y (List.mem_of_mem_drop (List.mem_of_mem_take hy))
          · cases h
        · cases h
      · cases h
    · cases h
  · cases h
mutual
theorem res_wf {hp : Hp} (hh : WfH hp) : ∀ (e : Ep) (v : AV) (a : List Hv) (ro : Bool), e.res hp v = some (a, ro) → v.wf → a.length = e.n ∧ ∀ pre suf, e.wf (pre ++ a ++ suf) pre.length
  | .int k, v, a, ro, h, hv => by
    simp only [Ep.res] at h
    split at h
    · rename_i k' n
      cases hk : decide (k' = k) with
      | false => rw [hk] at h; cases h
      | true =>
        have := of_decide_eq_true hk
        subst this
        rw [hk] at h; cases h
        refine ⟨rfl, fun pre suf => ?_⟩
        simp only [Ep.wf, hi, hole pre _ suf _ rfl]
        simpa only [AV.wf] using hv
    · cases h
  | .bool, v, a, ro, h, hv => by
    simp only [Ep.res] at h
    split at h
    · cases h; exact ⟨rfl, fun pre suf => by simp only [Ep.wf]⟩
    · cases h
  | .str, v, a, ro, h, hv => by
    simp only [Ep.res] at h
    split at h
    · cases h
      refine ⟨rfl, fun pre suf => ?_⟩
      simp only [Ep.wf, hst, hole pre _ suf _ rfl]
      simpa only [AV.wf] using hv
    · cases h
  | .arr k n, v, a, ro, h, hv => by
    simp only [Ep.res] at h
    split at h
    · rename_i k' n' l
      cases hk : decide (k' = k) with
      | false => rw [hk] at h; cases h
      | true =>
        have := of_decide_eq_true hk
        subst this
        cases hn : Nat.beq n' n with
        | false => rw [hk, hn] at h; cases h
        | true =>
          have := Nat.eq_of_beq_eq_true hn
          subst this
          rw [hk, hn] at h; cases h
          refine ⟨rfl, fun pre suf => ?_⟩
          simp only [Ep.wf, hl, hole pre _ suf _ rfl]
          simpa only [AV.wf] using hv
    · cases h
  | .agg es, v, a, ro, h, hv => by
    simp only [Ep.res] at h
    split at h
    · rename_i vs
      simp only [AV.wf] at hv
      have := resL_wf hh es vs a ro h hv
      exact ⟨by simpa only [Ep.n] using this.1, fun pre suf => by simp only [Ep.wf]; exact this.2 pre suf⟩
    · cases h
  | .sl e, v, a, ro, h, hv => by
    simp only [Ep.res] at h
    have := slRes_wf h hh hv
    exact ⟨by simpa only [Ep.n] using this.1, this.2⟩
theorem resL_wf {hp : Hp} (hh : WfH hp) : ∀ (es : List Ep) (vs : List AV) (a : List Hv) (ro : Bool), Ep.resL hp es vs = some (a, ro) → AV.wfL vs → a.length = Ep.nL es ∧ ∀ pre suf, Ep.wfL es (pre ++ a ++ suf) pre.length
  | [], [], a, ro, h, hv => by simp only [Ep.resL, Option.some.injEq, Prod.mk.injEq] at h; rw [← h.1]; exact ⟨rfl, fun _ _ => by simp only [Ep.wfL]⟩
  | [], _ :: _, a, ro, h, hv => by simp [Ep.resL] at h
  | _ :: _, [], a, ro, h, hv => by simp [Ep.resL] at h
  | e :: es, v :: vs, a, ro, h, hv => by
    simp only [Ep.resL] at h
    simp only [AV.wfL] at hv
    cases h1 : e.res hp v with
    | none => rw [h1] at h; cases h
    | some x =>
      obtain ⟨a1, r1⟩ := x
      rw [h1] at h
      simp only at h
      cases h2 : Ep.resL hp es vs with
      | none => rw [h2] at h; cases h
      | some y =>
        obtain ⟨a2, r2⟩ := y
        rw [h2] at h
        cases h
        obtain ⟨l1, w1⟩ := res_wf hh e v a1 r1 h1 hv.1
        obtain ⟨l2, w2⟩ := resL_wf hh es vs a2 r2 h2 hv.2
        refine ⟨by simp [Ep.nL, l1, l2], fun pre suf => ?_⟩
        simp only [Ep.wfL]
        refine ⟨?_, ?_⟩
        · have := w1 pre (a2 ++ suf)
          rwa [show pre ++ a1 ++ (a2 ++ suf) = pre ++ (a1 ++ a2) ++ suf by simp] at this
        · have := w2 (pre ++ a1) suf
          rw [show pre ++ a1 ++ a2 ++ suf = pre ++ (a1 ++ a2) ++ suf by simp, List.length_append, l1] at this
          exact this
end
theorem resRows_wf {hp : Hp} (hh : WfH hp) (e : Ep) : ∀ (vs : List AV) (l : List (List Hv)), resRows hp e vs = some l → (∀ v ∈ vs, v.wf) → l.length = vs.length ∧ ∀ h ∈ l, e.wf h 0
  | [], l, h, _ => by simp only [resRows, Option.some.injEq] at h; subst h; simp
  | v :: vs, l, h, hv => by
    simp only [resRows] at h
    split at h
    · rename_i a h1
      split at h
      · rename_i r h2
        cases h
        obtain ⟨g1, g2⟩ := resRows_wf hh e vs r h2 (fun u hu => hv u (by simp [hu]))
        refine ⟨by simp [g1], fun x hx => ?_⟩
        rcases List.mem_cons.1 hx with rfl | hx
        · have := (res_wf hh e v x true h1 (hv v (by simp))).2 [] []
          simpa using this
        · exact g2 x hx
      · cases h
    · cases h
theorem intsOf_wf {k : IntKind} : ∀ (vs : List AV) (l : List Int), intsOf k vs = some l → (∀ v ∈ vs, v.wf) → l.length = vs.length ∧ ∀ y ∈ l, inK k y
  | [], l, h, _ => by simp only [intsOf, Option.some.injEq] at h; subst h; simp
  | v :: vs, l, h, hv => by
    cases v <;> simp only [intsOf, reduceCtorEq] at h
    rename_i k' n
    cases hk : decide (k' = k) with
    | false => rw [hk] at h; cases h
    | true =>
      have := of_decide_eq_true hk
      subst this
      rw [hk, cond_true] at h
      split at h
      · rename_i r h2
        cases h
        obtain ⟨g1, g2⟩ := intsOf_wf vs r h2 (fun u hu => hv u (by simp [hu]))
        refine ⟨by simp [g1], fun x hx => ?_⟩
        rcases List.mem_cons.1 hx with rfl | hx
        · have := hv _ (List.mem_cons_self ..)
          simpa only [AV.wf] using this
        · exact g2 x hx
      · cases h
mutual
theorem mk_wf : ∀ (e : Ep) (rw : Bool) (h : List Hv) (j nm : Nat), e.wf h j → (e.mk h j nm).wf ∧ ∀ u ∈ e.objs rw h j, u.wf
  | .int k, _, h, j, nm, hw => by simp only [Ep.wf] at hw; exact ⟨by simpa only [Ep.mk, AV.wf] using hw, by simp [Ep.objs]⟩
  | .bool, _, h, j, nm, hw => ⟨by simp only [Ep.mk, AV.wf], by simp [Ep.objs]⟩
  | .str, _, h, j, nm, hw => by simp only [Ep.wf] at hw; exact ⟨by simpa only [Ep.mk, AV.wf] using hw, by simp [Ep.objs]⟩
  | .arr k n, _, h, j, nm, hw => by simp only [Ep.wf] at hw; exact ⟨by simpa only [Ep.mk, AV.wf] using hw, by simp [Ep.objs]⟩
  | .agg es, rw, h, j, nm, hw => by
    simp only [Ep.wf] at hw
    simp only [Ep.mk, AV.wf, Ep.objs]
    exact mkL_wf es rw h j nm hw
  | .sl (.int k), rw, h, j, nm, hw => by
    simp only [Ep.wf] at hw
    refine ⟨by simp only [Ep.mk, AV.wf, XV.wf]; exact hw.1, fun u hu => ?_⟩
    simp only [Ep.objs, List.mem_singleton] at hu
    subst hu
    simp only [AV.wf, XV.wf, HObj.wf]
    exact hw
  | .sl .bool, rw, h, j, nm, hw | .sl .str, rw, h, j, nm, hw | .sl (.arr _ _), rw, h, j, nm, hw | .sl (.agg _), rw, h, j, nm, hw | .sl (.sl _), rw, h, j, nm, hw => by
    unfold Ep.wf at hw
    refine ⟨by simp only [Ep.mk, AV.wf, XV.wf]; exact hw.1, fun u hu => ?_⟩
    simp only [Ep.objs, List.mem_singleton] at hu
    subst hu
    simp only [AV.wf, XV.wf, HObj.wf]
    exact hw
theorem mkL_wf : ∀ (es : List Ep) (rw : Bool) (h : List Hv) (j nm : Nat), Ep.wfL es h j → AV.wfL (Ep.mkL es h j nm) ∧ ∀ u ∈ Ep.objsL rw es h j, u.wf
  | [], _, h, j, nm, hw => ⟨by simp only [Ep.mkL, AV.wfL], by simp [Ep.objsL]⟩
  | e :: es, rw, h, j, nm, hw => by
    simp only [Ep.wfL] at hw
    obtain ⟨a1, a2⟩ := mk_wf e rw h j nm hw.1
    obtain ⟨b1, b2⟩ := mkL_wf es rw h (j + e.n) (nm + e.ns) hw.2
    refine ⟨by simp only [Ep.mkL, AV.wfL]; exact ⟨a1, b1⟩, fun u hu => ?_⟩
    simp only [Ep.objsL, List.mem_append] at hu
    rcases hu with hu | hu
    · exact a2 u hu
    · exact b2 u hu
end
/-- a function whose answers are of their kinds -/
def LFn.Ranges (F : LFn) : Prop := ∀ hs r, F.fn hs = some r → Ep.wfL F.ins hs 0 → match F.out with
  | .blk e => e.wf r 0
  | .one e => e.wf r 0
  | .tup es => Ep.wfL es r 0
theorem byteL_len (l : List Int) : (byteL l).length = l.length := by simp [byteL]
theorem intL_in (s : List UInt8) : ∀ y ∈ intL s, inK .u8 y := fun y hy => by
  simp only [intL, List.mem_map] at hy
  obtain ⟨b, _, rfl⟩ := hy
  exact inK_byte b
end Go.Sim
