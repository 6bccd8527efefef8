/- The value of an operation that looks at no memory, and that the model's operation yields just that value. -/
import Derived.Test.YtllfkflclhnmgaaSimB
import Derived.Laws.Tables
import Derived.Laws.StructEq
import Derived.DeepKeys
import Derived.Deep.MidRow
namespace Go.Sim
variable {β : Type}

abbrev Tm := List (Option AV)

def constA : Value → Option AV
  | .int k n => bif inKB k n then some (.int k n) else none
  | .bool b => some (.bool b)
  | .string s => bif decide (s.data.toList.length < 9223372036854775808) then some (.str s.data.toList) else none
  | .pointer none => some .nil
  | .slice none 0 0 => some (.lit .nilSlice)
  | .map none => some (.lit .nilMap)
  | .nilFunc => some (.lit .nilFunc)
  | .nilIface => some (.lit .nilIface)
  | _ => none

theorem constA_enc {ρ : Ren} {v : Value} {u : AV} (h : constA v = some u) : u.enc ρ = v ∧ (∀ m, ¬ u.has m) := by
  unfold constA at h
  split at h
  · rename_i k n
    cases hk : inKB k n with
    | false => simp [hk] at h
    | true => simp only [hk, cond_true, Option.some.injEq] at h; subst h; simp [AV.enc, AV.has]
  · simp at h; subst h; simp [AV.enc, AV.has]
  · rename_i s
    cases hk : decide (s.data.toList.length < 9223372036854775808) with
    | false => rw [hk] at h; cases h
    | true => simp only [hk, cond_true, Option.some.injEq] at h; subst h; simp [AV.enc, AV.has]
  all_goals (simp at h; try subst h; try simp [AV.enc, AV.has, Cn.val])

theorem constA_wf {v : Value} {u : AV} (h : constA v = some u) : u.wf := by
  unfold constA at h
  split at h
  · rename_i k n
    cases hk : inKB k n with
    | false => simp [hk] at h
    | true => simp only [hk, cond_true, Option.some.injEq] at h; subst h; simpa [AV.wf] using inKB_spec hk
  · simp at h; subst h; simp [AV.wf]
  · rename_i s
    cases hk : decide (s.data.toList.length < 9223372036854775808) with
    | false => rw [hk] at h; cases h
    | true => simp only [hk, cond_true, Option.some.injEq] at h; subst h; simpa [AV.wf] using of_decide_eq_true hk
  all_goals (simp at h; try subst h; try simp [AV.wf])

def opv (tm : Tm) : Operand → Option AV
  | .tmp t => tm.getD t none
  | .const v => constA v
  | .func f => some (.fn f)
  | .global _ => none

def opvs (tm : Tm) : List Operand → Option (List AV)
  | [] => some []
  | x :: xs =>
    match opv tm x with
    | some v => match opvs tm xs with
      | some vs => some (v :: vs)
      | none => none
    | none => none

def getK (tm : Tm) (x : Operand) (K : AV → Option β) : Option β :=
  match opv tm x with
  | some v => K v
  | none => none

/-- a type's cells and shape are a tree's -/
def fits (P : Program) (t : TypeId) (v : AV) : Bool :=
  match P.info? t with
  | some i => match P.underlying t with
    | some d => Nat.beq i.size v.size && (d.isRow == v.isAgg)
    | none => false
  | none => false

theorem fits_spec {P : Program} {t : TypeId} {v : AV} (h : fits P t v = true) :
    ∃ i d, P.info? t = some i ∧ P.underlying t = some d ∧ i.size = v.size ∧ d.isRow = v.isAgg := by
  unfold fits at h
  split at h
  · rename_i i hi
    split at h
    · rename_i d hd
      simp only [Bool.and_eq_true, beq_iff_eq] at h
      exact ⟨i, d, hi, hd, Nat.eq_of_beq_eq_true h.1, h.2⟩
    · cases h
  · cases h

theorem run_isAgg {P : Program} {t : TypeId} {d : TypeDesc} (h : P.underlying t = some d) (w : World) : (isAgg t).run P w = .ok d.isRow w := by
  unfold isAgg
  rw [Sem.run_bind, run_underlying h w]
  cases d <;> simp [TypeDesc.isRow]

theorem run_sizeOf' {P : Program} {t : TypeId} {i : TypeInfo} (h : P.info? t = some i) (w : World) : (sizeOf t).run P w = .ok i.size w := by
  simp [sizeOf, typeInfo, h]

theorem seg_extract {α : Type} (a u b : List α) : ((a ++ u ++ b).toArray.extract a.length (a.length + u.length)) = u.toArray := by
  apply Array.ext'
  simp

theorem seg_get {α : Type} (a b : List α) (x : α) : (a ++ [x] ++ b).toArray[a.length]? = some x := by
  simp

theorem run_part_fits {P : Program} {t : TypeId} {v : AV} {ρ : Ren} {cs : List Value} {a b : List Value} (w : World)
    (h : fits P t v = true) (hc : cs = a ++ v.cells ρ ++ b) : (part t cs.toArray a.length).run P w = .ok (v.enc ρ) w := by
  obtain ⟨i, d, hi, hd, hs, hr⟩ := fits_spec h
  unfold part
  rw [Sem.run_bind, run_isAgg hd w, Result.andThen_ok]
  cases hv : v.isAgg with
  | true =>
    rw [hr, hv]
    simp only [if_true, Sem.run_bind, run_sizeOf' hi w, Result.andThen_ok, Sem.run_pure]
    rw [hs, ← cells_length ρ v, hc, seg_extract, enc_of_agg hv]
  | false =>
    rw [hr, hv, hc, cells_of_not hv]
    simp only [Bool.false_eq_true, if_false, seg_get]
    rfl

/-- the model's wrap, by literals -/
def wr : IntKind → Int → Int
  | .u8, n => n % 256
  | .u16, n => n % 65536
  | .u32, n => n % 4294967296
  | .u64, n => n % 18446744073709551616
  | .i8, n => (n + 128) % 256 - 128
  | .i16, n => (n + 32768) % 65536 - 32768
  | .i32, n => (n + 2147483648) % 4294967296 - 2147483648
  | .i64, n => (n + 9223372036854775808) % 18446744073709551616 - 9223372036854775808

theorem wr_eq (k : IntKind) (n : Int) : k.wrap n = wr k n := by
  cases k <;> simp only [IntKind.wrap, wr, IntKind.bits, IntKind.signed, Bool.false_and, Bool.true_and, Bool.false_eq_true, if_false, Int.reducePow, Nat.reduceSub] <;> (try (split <;> rename_i h <;> simp only [decide_eq_true_eq, ge_iff_le] at h)) <;> omega

def andI (k : IntKind) (a b : Int) : Int := k.wrap ((BitVec.ofInt k.bits a &&& BitVec.ofInt k.bits b).toNat : Int)
def orI (k : IntKind) (a b : Int) : Int := k.wrap ((BitVec.ofInt k.bits a ||| BitVec.ofInt k.bits b).toNat : Int)
def xorI (k : IntKind) (a b : Int) : Int := k.wrap ((BitVec.ofInt k.bits a ^^^ BitVec.ofInt k.bits b).toNat : Int)
def andNotI (k : IntKind) (a b : Int) : Int := k.wrap ((BitVec.ofInt k.bits a &&& ~~~BitVec.ofInt k.bits b).toNat : Int)

def arithK (op : BinOp) (k : IntKind) (a b : Int) (K : AV → Option β) : Option β :=
  match op with
  | .add => K (.int k (wr k (a + b)))
  | .sub => K (.int k (wr k (a - b)))
  | .mul => K (.int k (wr k (a * b)))
  | .quo => bif b == 0 then none else K (.int k (wr k (a.tdiv b)))
  | .rem => bif b == 0 then none else K (.int k (a.tmod b))
  | .and => K (.int k (andI k a b))
  | .or => K (.int k (orI k a b))
  | .xor => K (.int k (xorI k a b))
  | .andNot => K (.int k (andNotI k a b))
  | .eql => K (.bool (a == b))
  | .neq => K (.bool (a != b))
  | .lss => K (.bool (decide (a < b)))
  | .leq => K (.bool (decide (a ≤ b)))
  | .gtr => K (.bool (decide (a > b)))
  | .geq => K (.bool (decide (a ≥ b)))
  | _ => none

def intOpK (op : BinOp) (k : IntKind) (a : Int) (k' : IntKind) (b : Int) (K : AV → Option β) : Option β :=
  match op with
  | .shl => bif decide (b < 0) then none else K (.int k (wr k (a * 2 ^ (min b.toNat k.bits))))
  | .shr => bif decide (b < 0) then none else K (.int k (a / (2 ^ (min b.toNat k.bits))))
  | op => bif decide (k = k') then arithK op k a b K else none

theorem intOpK_eq (op : BinOp) (k : IntKind) (a : Int) (k' : IntKind) (b : Int) (K : AV → Option β) :
    intOpK op k a k' b K = (intOpK op k a k' b some).bind K := by
  unfold intOpK
  split
  · cases decide (b < 0) <;> rfl
  · cases decide (b < 0) <;> rfl
  · cases decide (k = k')
    · rfl
    · simp only [cond_true]
      unfold arithK
      split <;> first | rfl | (cases b == 0 <;> rfl)

theorem intOp_run {P : Program} {op : BinOp} {k k' : IntKind} {a b : Int} {v : AV} (w : World) (t : TypeId) {ρ : Ren}
    (h : intOpK op k a k' b some = some v) : (binOp op t (.int k a) (.int k' b)).run P w = .ok (v.enc ρ) w ∧ ∀ m, ¬ v.has m := by
  unfold intOpK at h
  split at h
  · cases hb : decide (b < 0) with
    | true => simp [hb] at h
    | false =>
      simp only [hb, cond_false, Option.some.injEq] at h
      subst h
      have : ¬ b < 0 := of_decide_eq_false hb
      simp [binOp, Op.shift, this, AV.enc, AV.has, wr_eq]
  · cases hb : decide (b < 0) with
    | true => simp [hb] at h
    | false =>
      simp only [hb, cond_false, Option.some.injEq] at h
      subst h
      have : ¬ b < 0 := of_decide_eq_false hb
      simp [binOp, Op.shift, this, AV.enc, AV.has, Int.fdiv_eq_ediv_of_nonneg a (show (0 : Int) ≤ 2 ^ (min b.toNat k.bits) from Int.le_of_lt (Int.pow_pos (by decide)))]
  · rename_i h1 h2
    cases hk : decide (k = k') with
    | false => simp [hk] at h
    | true =>
      rw [hk, cond_true] at h
      have hkk := of_decide_eq_true hk
      subst hkk
      unfold arithK at h
      split at h <;> first
        | (cases h; done)
        | (cases h
           simp [binOp, Op.intArith, Op.intBits, Op.intCmp, AV.enc, AV.has, andI, orI, xorI, andNotI, GE.ge, GT.gt, wr_eq]; done)
        | (cases hb : (b == 0) with
           | true => simp [hb] at h
           | false =>
             rw [hb, cond_false] at h
             cases h
             have hb' : b ≠ 0 := by simpa using hb
             simp [binOp, Op.intDiv, hb', AV.enc, AV.has, wr_eq])

theorem wr_in (k : IntKind) (n : Int) : inK k (wr k n) := by
  cases k <;> simp only [inK, wr] <;> omega

theorem div_in {k : IntKind} {a : Int} (m : Int) (hm : 0 < m) (h : inK k a) : inK k (a / m) := by
  have lo : ∀ l : Int, l ≤ 0 → l ≤ a → l ≤ a / m := fun l hl ha => by
    have h1 : l ≤ a / m ↔ l * m ≤ a := Int.le_ediv_iff_mul_le hm
    rw [h1]
    have : (-l) * 1 ≤ (-l) * m := Int.mul_le_mul_of_nonneg_left (by omega) (by omega)
    rw [Int.neg_mul, Int.neg_mul] at this
    omega
  have up : ∀ u : Int, 0 < u → a < u → a / m < u := fun u hu ha => by
    have h1 : a / m < u ↔ a < u * m := Int.ediv_lt_iff_lt_mul hm
    rw [h1]
    have : u * 1 ≤ u * m := Int.mul_le_mul_of_nonneg_left (by omega) (by omega)
    omega
  cases k <;> simp only [inK] at h ⊢ <;> exact ⟨lo _ (by decide) h.1, up _ (by decide) h.2⟩

theorem tmod_le {a : Int} (b : Int) (ha : 0 ≤ a) : 0 ≤ a.tmod b ∧ a.tmod b ≤ a := by
  have h1 := Int.tmod_nonneg b ha
  have h2 := Int.natAbs_tmod a b
  have h3 : a.natAbs % b.natAbs ≤ a.natAbs := Nat.mod_le _ _
  omega

theorem tmod_in {k : IntKind} {a : Int} (b : Int) (h : inK k a) : inK k (a.tmod b) := by
  have key : (0 ≤ a → 0 ≤ a.tmod b ∧ a.tmod b ≤ a) ∧ (a ≤ 0 → a ≤ a.tmod b ∧ a.tmod b ≤ 0) := by
    constructor
    · exact tmod_le b
    · intro ha
      have h1 := tmod_le (a := -a) b (by omega)
      rw [Int.neg_tmod] at h1
      omega
  cases k <;> simp only [inK] at h ⊢ <;> omega

theorem inK_andI (k : IntKind) (a b : Int) : inK k (andI k a b) := by unfold andI; rw [wr_eq]; exact wr_in ..
theorem inK_orI (k : IntKind) (a b : Int) : inK k (orI k a b) := by unfold orI; rw [wr_eq]; exact wr_in ..
theorem inK_xorI (k : IntKind) (a b : Int) : inK k (xorI k a b) := by unfold xorI; rw [wr_eq]; exact wr_in ..
theorem inK_andNotI (k : IntKind) (a b : Int) : inK k (andNotI k a b) := by unfold andNotI; rw [wr_eq]; exact wr_in ..

theorem intOp_wf {op : BinOp} {k k' : IntKind} {a b : Int} {v : AV} (ha : inK k a) (h : intOpK op k a k' b some = some v) : v.wf := by
  unfold intOpK at h
  split at h
  · cases hb : decide (b < 0) with
    | true => simp [hb] at h
    | false => simp only [hb, cond_false, Option.some.injEq] at h; subst h; exact wr_in ..
  · cases hb : decide (b < 0) with
    | true => simp [hb] at h
    | false =>
      simp only [hb, cond_false, Option.some.injEq] at h; subst h
      exact div_in _ (Int.pow_pos (by decide)) ha
  · cases hk : decide (k = k') with
    | false => simp [hk] at h
    | true =>
      rw [hk, cond_true] at h
      unfold arithK at h
      split at h <;> first
        | (cases h; done)
        | (cases h; simp only [AV.wf]; done)
        | (cases h; simp only [AV.wf]; first | with_reducible exact wr_in .. | with_reducible exact inK_andI .. | with_reducible exact inK_orI .. | with_reducible exact inK_xorI .. | with_reducible exact inK_andNotI ..)
        | (cases hb : (b == 0) with
           | true => simp [hb] at h
           | false =>
             rw [hb, cond_false] at h
             cases h
             simp only [AV.wf]
             first | with_reducible exact wr_in .. | with_reducible exact tmod_in _ ha)

def arrEq (n : Nat) (a b : List Int) : Bool := (List.range n).all fun j => a.getD j 0 == b.getD j 0

/- '==' of values, part by part -/
def eqFs (rec : TypeId → AV → AV → Option Bool) (P : Program) : List Field → List AV → List AV → Nat → Option Bool
  | [], [], [], _ => some true
  | f :: fs, t :: ts, u :: us, o =>
    bif f.name != "_" && Nat.beq f.offset o && fits P f.type t && fits P f.type u then
      match rec f.type t u with
      | some b => match eqFs rec P fs ts us (o + t.size) with
        | some c => some (b && c)
        | none => none
      | none => none
    else none
  | _, _, _, _ => none

def eqT (P : Program) : Nat → TypeId → AV → AV → Option Bool
  | 0, _, _, _ => none
  | d + 1, t, v, u =>
    match P.underlying t, v, u with
    | some (.int _), .int k a, .int k' b => bif decide (k = k') then some (a == b) else none
    | some .bool, .bool a, .bool b => some (a == b)
    | some .string, .str a, .str b => some (a == b)
    | some (.array n e), .arr k m a, .arr k' m' b =>
      bif decide (k = k') && Nat.beq n m && Nat.beq n m' && fits P e (.int k 0) && (match P.underlying e with | some (.int _) => true | _ => false)
      then some (arrEq n a b) else none
    | some (.struct fs), .agg ts, .agg us => bif P.stoodInHeld t then none else eqFs (eqT P d) P fs.toList ts us 0
    | _, _, _ => none

theorem run_eqItems_int {P : Program} (d : Nat) (e : TypeId) (k : IntKind) (n : Nat) (a b : List Int) (w : World) {q : IntKind}
    (hu : P.underlying e = some (.int q)) (hi : P.cellsOf e = 1) : ∀ is : List Nat, (∀ i ∈ is, i < n) →
    (Op.eqItems (d + 1) e (P.cellsOf e) (arrCells k n a).toArray (arrCells k n b).toArray is).run P w = .ok (is.all fun j => a.getD j 0 == b.getD j 0) w
  | [], _ => by simp [Op.eqItems]
  | i :: is, hl => by
    have hin : i < n := hl i (by simp)
    have hp : ∀ l : List Int, (part e (arrCells k n l).toArray (i * P.cellsOf e)).run P w = .ok (.int k (l.getD i 0)) w := by
      intro l
      unfold part
      rw [Sem.run_bind, run_isAgg hu w, Result.andThen_ok]
      have : (arrCells k n l).toArray[i * P.cellsOf e]? = some (.int k (l.getD i 0)) := by simp [hi, arrCells, hin]
      simp only [TypeDesc.isRow, Bool.false_eq_true, if_false, this]
      rfl
    have ih := run_eqItems_int d e k n a b w hu hi is (fun j hj => hl j (by simp [hj]))
    simp only [Op.eqItems, Sem.run_bind, hp, Result.andThen_ok, run_equalIn_int w d e k q _ _ hu, List.all_cons]
    cases a.getD i 0 == b.getD i 0
    · simp
    · simpa using ih

theorem eqFs_run {P : Program} {D : Nat} {ρ ρ' : Ren} {w : World} (rec : TypeId → AV → AV → Option Bool)
    (hrec : ∀ t v u r, rec t v u = some r → (Op.equalIn D t (v.enc ρ) (u.enc ρ')).run P w = .ok r w) :
    ∀ (fs : List Field) (ts us : List AV) (o : Nat) (r : Bool) (a a' : List Value), eqFs rec P fs ts us o = some r → a.length = o → a'.length = o →
      (Op.eqFields D (a ++ AV.cellsL ρ ts).toArray (a' ++ AV.cellsL ρ' us).toArray fs).run P w = .ok r w
  | [], [], [], _, r, _, _, h, _, _ => by simp [eqFs] at h; simp [Op.eqFields, h]
  | [], _ :: _, _, _, _, _, _, h, _, _ => by simp [eqFs] at h
  | [], [], _ :: _, _, _, _, _, h, _, _ => by simp [eqFs] at h
  | _ :: _, [], _, _, _, _, _, h, _, _ => by simp [eqFs] at h
  | _ :: _, _ :: _, [], _, _, _, _, h, _, _ => by simp [eqFs] at h
  | f :: fs, t :: ts, u :: us, o, r, a, a', h, ha, ha' => by
    simp only [eqFs] at h
    cases hc : (f.name != "_" && Nat.beq f.offset o && fits P f.type t && fits P f.type u) with
    | false => simp [hc] at h
    | true =>
      simp only [hc, cond_true] at h
      simp only [Bool.and_eq_true, bne_iff_ne] at hc
      obtain ⟨⟨⟨hn, ho⟩, ft⟩, fu⟩ := hc
      have ho := Nat.eq_of_beq_eq_true ho
      cases hr1 : rec f.type t u with
      | none => simp [hr1] at h
      | some b =>
        cases hr2 : eqFs rec P fs ts us (o + t.size) with
        | none => simp [hr1, hr2] at h
        | some c =>
          simp only [hr1, hr2, Option.some.injEq] at h
          subst h
          have p1 := run_part_fits (P := P) (ρ := ρ) (cs := a ++ AV.cellsL ρ (t :: ts)) (a := a) (b := AV.cellsL ρ ts) w ft (by simp [AV.cellsL])
          have p2 := run_part_fits (P := P) (ρ := ρ') (cs := a' ++ AV.cellsL ρ' (u :: us)) (a := a') (b := AV.cellsL ρ' us) w fu (by simp [AV.cellsL])
          obtain ⟨i1, _, hi1, _, hs1, _⟩ := fits_spec ft
          obtain ⟨i2, _, hi2, _, hs2, _⟩ := fits_spec fu
          have hsz : t.size = u.size := by rw [hi1] at hi2; cases hi2; omega
          have ih := eqFs_run rec hrec fs ts us (o + t.size) c (a ++ t.cells ρ) (a' ++ u.cells ρ') hr2 (by simp [ha, cells_length]) (by simp [ha', cells_length, hsz])
          have e1 : (a ++ AV.cellsL ρ (t :: ts)) = (a ++ t.cells ρ) ++ AV.cellsL ρ ts := by simp [AV.cellsL]
          have e2 : (a' ++ AV.cellsL ρ' (u :: us)) = (a' ++ u.cells ρ') ++ AV.cellsL ρ' us := by simp [AV.cellsL]
          rw [ha, ← ho] at p1
          rw [ha', ← ho] at p2
          simp only [Op.eqFields, hn, ne_eq, not_false_eq_true, if_true, Sem.run_bind, p1, p2, Result.andThen_ok, hrec _ _ _ _ hr1]
          rw [e1, e2]
          cases b
          · simp
          · simpa using ih

theorem eqT_run {P : Program} {ρ ρ' : Ren} {w : World} : ∀ (d D : Nat) (t : TypeId) (v u : AV) (r : Bool), eqT P d t v u = some r →
    (Op.equalIn (D + d + 1) t (v.enc ρ) (u.enc ρ')).run P w = .ok r w
  | 0, _, _, _, _, _, h => by simp [eqT] at h
  | d + 1, D, t, v, u, r, h => by
    unfold eqT at h
    split at h
    · rename_i q k a k' b hu
      cases hk : decide (k = k') with
      | false => simp [hk] at h
      | true =>
        simp only [hk, cond_true, Option.some.injEq] at h
        have := of_decide_eq_true hk
        subst this
        subst h
        simp only [AV.enc]
        exact run_equalIn_int w _ t k q a b hu
    · rename_i a b hu
      simp only [Option.some.injEq] at h
      subst h
      simp only [AV.enc]
      exact run_equalIn_bool w _ t a b hu
    · rename_i a b hu
      simp only [Option.some.injEq] at h
      subst h
      simp only [AV.enc]
      have := run_equalIn_string w (D + (d + 1)) t (⟨a.toArray⟩ : ByteArray) ⟨b.toArray⟩ hu
      simpa [ByteArray.toList_eq] using this
    · rename_i n e k m a k' m' b hu
      cases hc : (decide (k = k') && Nat.beq n m && Nat.beq n m' && fits P e (.int k 0) && (match P.underlying e with | some (.int _) => true | _ => false)) with
      | false => simp [hc] at h
      | true =>
        simp only [hc, cond_true, Option.some.injEq] at h
        subst h
        simp only [Bool.and_eq_true] at hc
        obtain ⟨⟨⟨⟨hk, hn⟩, hn'⟩, hf⟩, hq⟩ := hc
        have := of_decide_eq_true hk
        subst this
        have := Nat.eq_of_beq_eq_true hn
        subst this
        have := Nat.eq_of_beq_eq_true hn'
        subst this
        obtain ⟨i, d', hi, hd, hs, _⟩ := fits_spec hf
        have hcell : P.cellsOf e = 1 := by simp [Program.cellsOf, hi, hs, AV.size]
        split at hq
        · rename_i q hue
          simp only [AV.enc]
          rw [show D + (d + 1) + 1 = (D + d + 1) + 1 from rfl, run_equalIn_array w (D + d + 1) _ _ hu hi]
          exact run_eqItems_int (D + d) e k n a b w hue hcell (List.range n) (fun i hi => List.mem_range.1 hi)
        · cases hq
    · rename_i fs ts us hu
      cases hst : P.stoodInHeld t with
      | true => simp [hst] at h
      | false =>
        simp only [hst, cond_false] at h
        have hf : P.fieldsOf t = fs := by simp [Program.fieldsOf, hu]
        have := eqFs_run (P := P) (D := D + d + 1) (ρ := ρ) (ρ' := ρ') (w := w) (eqT P d) (fun t v u r hr => eqT_run d D t v u r hr) fs.toList ts us 0 r [] [] h rfl rfl
        simp only [AV.enc]
        rw [show D + (d + 1) + 1 = (D + d + 1) + 1 from rfl, run_equalIn_struct (P := P) w (D + d + 1) t _ _ (by rw [hf]; exact hu) hst, hf]
        simpa using this
    · cases h
end Go.Sim
