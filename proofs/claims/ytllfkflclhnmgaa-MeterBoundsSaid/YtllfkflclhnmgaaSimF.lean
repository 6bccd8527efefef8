/- That the model's operation yields the value that 'val' tells. -/
import Derived.Test.YtllfkflclhnmgaaSimE
namespace Go.Sim

theorem pOff_append : ∀ (p : List Sel) (s : Sel), pOff (p ++ [s]) = pOff p + s.off
  | [], s => by simp [pOff]
  | t :: p, s => by simp only [List.cons_append, pOff, pOff_append p s]; omega

theorem addr_add (b o n : Nat) : (⟨b, o, none⟩ : Addr).add n = ⟨b, o + n, none⟩ := by
  unfold Addr.add
  split
  · rename_i h; simp [h]
  · rfl

theorem toList_mk (l : List UInt8) : (⟨l.toArray⟩ : ByteArray).toList = l := by simp [ByteArray.toList_eq]

theorem eqGuard_plain {P : Program} {op : BinOp} {t : TypeId} {x y : Operand} {a b : Value} (w : World)
    (h : match a, b with | .nilIface, .nilIface => False | .agg _, .agg _ => False | _, _ => True) : (eqGuard op t x y a b).run P w = .ok () w := by
  unfold eqGuard
  cases op <;> simp only [Bool.not_true, Bool.not_false, Bool.false_eq_true, if_false, if_true] <;> first
    | rfl
    | (cases a <;> first | rfl | (cases b <;> first | rfl | exact absurd h (by simp)))

theorem eqGuard_agg {P : Program} {op : BinOp} {t : TypeId} {x y : Operand} {a b : Array Value} (w : World)
    (h : P.eqGuardType P.depth t = false) : (eqGuard op t x y (.agg a) (.agg b)).run P w = .ok () w := by
  unfold eqGuard
  cases op <;> simp [h]

theorem eqP1 {P : Program} {t e : TypeId} (hu : P.underlying t = some (.pointer e)) (a : Addr) (w : World) :
    (Op.equal t (.pointer (some a)) (.pointer none)).run P w = .ok false w := by
  show (Op.equalIn (9999 + 1) t _ _).run P w = _
  rw [Op.equalIn]
  simp only [Sem.run_bind, run_underlying hu, Result.andThen_ok]
  rfl
theorem eqP2 {P : Program} {t e : TypeId} (hu : P.underlying t = some (.pointer e)) (a : Addr) (w : World) :
    (Op.equal t (.pointer none) (.pointer (some a))).run P w = .ok false w := by
  show (Op.equalIn (9999 + 1) t _ _).run P w = _
  rw [Op.equalIn]
  simp only [Sem.run_bind, run_underlying hu, Result.andThen_ok]
  rfl
theorem eqP3 {P : Program} {t e : TypeId} (hu : P.underlying t = some (.pointer e)) (w : World) :
    (Op.equal t (.pointer none) (.pointer none)).run P w = .ok true w := by
  show (Op.equalIn (9999 + 1) t _ _).run P w = _
  rw [Op.equalIn]
  simp only [Sem.run_bind, run_underlying hu, Result.andThen_ok]
  rfl

theorem andThen_ok' {α γ : Type} (a : α) (w : World) (f : α → World → Result γ) : (Result.ok a w).andThen f = f a w := rfl

theorem binK_run {P : Program} {op : BinOp} {t : TypeId} {v u r : AV} {ρ : Ren} (x y : Operand) (w : World) (h : binK P op t v u some = some r) :
    ((eqGuard op t x y (v.enc ρ) (u.enc ρ)).run P w = .ok () w) ∧ (binOp op t (v.enc ρ) (u.enc ρ)).run P w = .ok (r.enc ρ) w ∧ ∀ m, ¬ r.has m := by
  unfold binK at h
  split at h
  · refine ⟨eqGuard_plain w (by simp [AV.enc]), ?_⟩
    simp only [AV.enc]
    exact intOp_run w t h
  · refine ⟨eqGuard_plain w (by simp [AV.enc]), ?_⟩
    split at h <;> first
      | (cases h; done)
      | (cases h
         simp [AV.enc, AV.has, binOp, Op.stringOp])
  · refine ⟨eqGuard_plain w (by simp [AV.enc]), ?_⟩
    split at h
    · rename_i a b _ hu
      have hq : (Op.equal t (.bool a) (.bool b)).run P w = .ok (a == b) w := run_equal_bool w t a b hu
      split at h <;> first
        | (cases h; done)
        | (cases h
           simp [AV.enc, AV.has, binOp, hq])
    · cases h
  · refine ⟨eqGuard_plain w (by simp [AV.enc]), ?_⟩
    split at h
    · rename_i n p _ e hu
      have hq : (Op.equal t (.pointer (some ⟨(ρ n).1, (ρ n).2 + pOff p, none⟩)) (.pointer none)).run P w = .ok false w := eqP1 hu _ w
      split at h <;> first
        | (cases h; done)
        | (cases h
           simp [AV.enc, AV.has, binOp, hq])
    · cases h
  · refine ⟨eqGuard_plain w (by simp [AV.enc]), ?_⟩
    split at h
    · rename_i n p _ e hu
      have hq : (Op.equal t (.pointer none) (.pointer (some ⟨(ρ n).1, (ρ n).2 + pOff p, none⟩))).run P w = .ok false w := eqP2 hu _ w
      split at h <;> first
        | (cases h; done)
        | (cases h
           simp [AV.enc, AV.has, binOp, hq])
    · cases h
  · refine ⟨eqGuard_plain w (by simp [AV.enc]), ?_⟩
    split at h
    · rename_i e hu
      have hq : (Op.equal t (.pointer none) (.pointer none)).run P w = .ok true w := eqP3 hu w
      split at h <;> first
        | (cases h; done)
        | (cases h
           simp [AV.enc, AV.has, binOp, hq])
    · cases h
  · cases hc : (v.isAgg && u.isAgg && !P.eqGuardType P.depth t) with
    | false => simp [hc] at h
    | true =>
      simp only [hc, cond_true] at h
      simp only [Bool.and_eq_true, Bool.not_eq_true'] at hc
      obtain ⟨⟨hv, hu⟩, hg⟩ := hc
      split at h
      · rename_i b hb
        have hq : (Op.equal t (v.enc ρ) (u.enc ρ)).run P w = .ok b w := eqT_run 9 9990 t v u b hb
        rw [enc_of_agg hv, enc_of_agg hu] at hq ⊢
        refine ⟨eqGuard_agg w hg, ?_⟩
        split at h <;> first
          | (cases h; done)
          | (cases h
             simp [AV.enc, AV.has, binOp, hq])
      · cases h

theorem unK_run {P : Program} {op : UnOp} {v r : AV} {ρ : Ren} (w : World) (h : unK op v some = some r) :
    (Op.unary op (v.enc ρ)).run P w = .ok (r.enc ρ) w ∧ ∀ m, ¬ r.has m := by
  unfold unK at h
  split at h <;> first
    | (cases h; done)
    | (cases h
       simp [AV.enc, AV.has, Op.unary, Op.intArith, Op.intBits, xorI, wr_eq])

theorem indexAddrK_run {P : Program} {t : TypeId} {x i r : AV} {ρ : Ren} (w : World) (h : indexAddrK P t x i some = some r) :
    (Instr.indexAt t (x.enc ρ) (i.enc ρ)).run P w = .ok (r.enc ρ) w ∧ ∀ m, r.has m → x.has m := by
  unfold indexAddrK at h
  split at h
  · rename_i len e hu
    split at h
    · rename_i n p
      split at h
      · rename_i k i
        split at h
        · rename_i ie hie
          cases hb : inB i len with
          | false => simp [hb] at h
          | true =>
            have hin := inB_iff.1 hb
            simp only [hb, cond_true] at h
            have key : (Instr.indexAt t (.pointer (some ⟨(ρ n).1, (ρ n).2 + pOff p, none⟩)) (.int k i)).run P w =
                .ok (.pointer (some ⟨(ρ n).1, (ρ n).2 + pOff p + i.toNat * ie.size, none⟩)) w := by
              simp [Instr.indexAt, asIntOf, run_underlying hu, Instr.sureAddr, hin, sizeOf, typeInfo, hie, addr_add]
            cases hI : isIntT P e with
            | true =>
              simp only [hI, cond_true] at h
              cases h1 : Nat.beq ie.size 1 with
              | false => simp [h1] at h
              | true =>
                simp only [h1, cond_true, Option.some.injEq] at h
                subst h
                have h1 := Nat.eq_of_beq_eq_true h1
                simp only [AV.enc, key, h1, Nat.mul_one, pOff_append, Sel.off]
                exact ⟨by simp [Nat.add_assoc], fun m hm => by simpa [AV.has] using hm⟩
            | false =>
              simp only [hI, cond_false, Option.some.injEq] at h
              subst h
              simp only [AV.enc, key, pOff_append, Sel.off]
              exact ⟨by simp [Nat.add_assoc], fun m hm => by simpa [AV.has] using hm⟩
        · cases h
      · cases h
    · cases h
  · cases h

theorem indexK_run {P : Program} {t : TypeId} {x i r : AV} {ρ : Ren} (w : World) (h : indexK P t x i some = some r) :
    (Instr.index t (x.enc ρ) (i.enc ρ)).run P w = .ok (r.enc ρ) w ∧ ∀ m, r.has m → x.has m := by
  unfold indexK at h
  split at h
  · rename_i q i
    split at h
    · rename_i k m l
      split at h
      · rename_i len e hu
        cases hc : (Nat.beq len m && fits P e (.int k 0)) with
        | false => simp [hc] at h
        | true =>
          simp only [hc, cond_true] at h
          cases hb : inB i len with
          | false => simp [hb] at h
          | true =>
            have hin := inB_iff.1 hb
            simp only [hb, cond_true, Option.some.injEq] at h
            subst h
            simp only [Bool.and_eq_true] at hc
            have hlm := Nat.eq_of_beq_eq_true hc.1
            subst hlm
            obtain ⟨ie, de, hie, hde, hs, hr⟩ := fits_spec hc.2
            have hs1 : ie.size = 1 := by simpa [AV.size] using hs
            have hlt : i.toNat < len := by omega
            have hpart : (part e (arrCells k len l).toArray (i.toNat * ie.size)).run P w = .ok (.int k (l.getD i.toNat 0)) w := by
              unfold part
              rw [Sem.run_bind, run_isAgg hde w, Result.andThen_ok]
              have : (arrCells k len l).toArray[i.toNat * ie.size]? = some (.int k (l.getD i.toNat 0)) := by simp [hs1, arrCells, hlt]
              simp only [hr, AV.isAgg, Bool.false_eq_true, if_false, this]
              rfl
            refine ⟨?_, fun m hm => by simp [AV.has] at hm⟩
            simp only [AV.enc, Instr.index, Sem.run_bind, asIntOf, Sem.run_pure, Result.andThen_ok, run_underlying hu, hin, and_self, if_true, run_sizeOf' hie, hpart]
      · cases h
    · rename_i ts
      split at h
      · rename_i len e hu
        split at h
        · rename_i ie hie
          cases hb : inB i len with
          | false => simp [hb] at h
          | true =>
            have hin := inB_iff.1 hb
            simp only [hb, cond_true] at h
            split at h
            · rename_i u hu'
              cases hc : (Nat.beq (AV.sizeL (ts.take i.toNat)) (i.toNat * ie.size) && fits P e u) with
              | false => simp [hc] at h
              | true =>
                simp only [hc, cond_true, Option.some.injEq] at h
                subst h
                simp only [Bool.and_eq_true] at hc
                have ho := Nat.eq_of_beq_eq_true hc.1
                have hp := run_part_fits (P := P) (ρ := ρ) (cs := AV.cellsL ρ ts) (a := AV.cellsL ρ (ts.take i.toNat)) (b := AV.cellsL ρ (ts.drop (i.toNat + 1))) w hc.2 (by
                  conv => lhs; rw [split_at hu']
                  rw [cellsL_append]; simp [AV.cellsL])
                rw [cellsL_length, ho] at hp
                refine ⟨?_, fun m hm => by simp only [AV.has]; exact hasL_mem (List.mem_of_getElem? hu') hm⟩
                simp only [AV.enc, Instr.index, Sem.run_bind, asIntOf, Sem.run_pure, Result.andThen_ok, run_underlying hu, hin, and_self, if_true, run_sizeOf' hie, hp]
            · cases h
        · cases h
      · cases h
    · rename_i s
      split at h
      · rename_i hu
        cases hb : inB i s.length with
        | false => simp [hb] at h
        | true =>
          have hin := inB_iff.1 hb
          simp only [hb, cond_true, Option.some.injEq] at h
          subst h
          have hlt : i.toNat < s.length := by omega
          have hget : (⟨s.toArray⟩ : ByteArray)[i.toNat]? = some (s[i.toNat]) := by
            have hsz : i.toNat < (⟨s.toArray⟩ : ByteArray).size := by simpa [ByteArray.size] using hlt
            exact getElem?_pos (⟨s.toArray⟩ : ByteArray) i.toNat hsz
          refine ⟨?_, fun m hm => by simp [AV.has] at hm⟩
          simp [AV.enc, Instr.index, asIntOf, run_underlying hu, hin.1, hget, hlt]
      · cases h
    · cases h
  · cases h

theorem opvs_spec {tm : Tm} {ρ : Ren} {e : Operand → Value} (he : ∀ x u, opv tm x = some u → e x = u.enc ρ) : ∀ (xs : List Operand) (vs : List AV), opvs tm xs = some vs →
    xs.map e = vs.map (AV.enc ρ) ∧ ∀ v ∈ vs, ∃ x ∈ xs, opv tm x = some v
  | [], vs, h => by simp [opvs] at h; subst h; simp
  | x :: xs, vs, h => by
    simp only [opvs] at h
    cases h1 : opv tm x with
    | none => simp [h1] at h
    | some v =>
      cases h2 : opvs tm xs with
      | none => simp [h1, h2] at h
      | some vs' =>
        simp only [h1, h2, Option.some.injEq] at h
        subst h
        obtain ⟨a, b⟩ := opvs_spec he xs vs' h2
        refine ⟨by simp [he x v h1, a], fun u hu => ?_⟩
        rcases List.mem_cons.1 hu with rfl | hu
        · exact ⟨x, by simp, h1⟩
        · obtain ⟨y, hy, hv⟩ := b u hu
          exact ⟨y, by simp [hy], hv⟩

theorem partsV_spec {tm : Tm} {ρ : Ren} {e : Operand → Value} (he : ∀ x u, opv tm x = some u → e x = u.enc ρ) : ∀ (xs : List (Nat × Operand)) (vs : List (Nat × AV)), partsV tm xs = some vs →
    xs.map (fun p => (p.1, e p.2)) = vs.map (fun p => (p.1, p.2.enc ρ)) ∧ ∀ v ∈ vs, ∃ x ∈ xs, opv tm x.2 = some v.2
  | [], vs, h => by simp [partsV] at h; subst h; simp
  | (i, x) :: xs, vs, h => by
    simp only [partsV] at h
    cases h1 : opv tm x with
    | none => simp [h1] at h
    | some v =>
      cases h2 : partsV tm xs with
      | none => simp [h1, h2] at h
      | some vs' =>
        simp only [h1, h2, Option.some.injEq] at h
        subst h
        obtain ⟨a, b⟩ := partsV_spec he xs vs' h2
        refine ⟨by simp [he x v h1, a], fun u hu => ?_⟩
        rcases List.mem_cons.1 hu with rfl | hu
        · exact ⟨(i, x), by simp, h1⟩
        · obtain ⟨y, hy, hv⟩ := b u hu
          exact ⟨y, by simp [hy], hv⟩

theorem minmaxA_run {P : Program} {mx : Bool} {vs : List AV} {v : AV} {ρ : Ren} (w : World) (a : Array TypeId) (t : TypeId) (h : minmaxA mx vs = some v) :
    (if mx then Builtin.max_ a t (vs.map (AV.enc ρ)).toArray else Builtin.min_ a t (vs.map (AV.enc ρ)).toArray).run P w = .ok (v.enc ρ) w ∧ ∀ m, ¬ v.has m := by
  unfold minmaxA at h
  split at h
  · rename_i k a k' b
    cases hk : decide (k = k') with
    | false => simp [hk] at h
    | true =>
      rw [hk, cond_true] at h
      have := of_decide_eq_true hk
      subst this
      cases h
      cases mx <;> simp [AV.enc, AV.has, Builtin.max_, Builtin.min_, Builtin.max2, Builtin.min2]
  · cases h

theorem inK_byte (b : UInt8) : inK .u8 (b.toNat : Int) := by
  have := b.toNat_lt
  simp only [inK]; omega

theorem binK_wf {P : Program} {op : BinOp} {t : TypeId} {v u r : AV} (hv : v.wf) (h : binK P op t v u some = some r) : r.wf := by
  unfold binK at h
  split at h
  · simp only [AV.wf] at hv; exact intOp_wf hv h
  · split at h <;> first | (cases h; done) | (cases h; simp only [AV.wf])
  · split at h
    · split at h <;> first | (cases h; done) | (cases h; simp only [AV.wf])
    · cases h
  · split at h
    · split at h <;> first | (cases h; done) | (cases h; simp only [AV.wf])
    · cases h
  · split at h
    · split at h <;> first | (cases h; done) | (cases h; simp only [AV.wf])
    · cases h
  · split at h
    · split at h <;> first | (cases h; done) | (cases h; simp only [AV.wf])
    · cases h
  · cases hc : (v.isAgg && u.isAgg && !P.eqGuardType P.depth t) with
    | false => simp [hc] at h
    | true =>
      simp only [hc, cond_true] at h
      split at h
      · split at h <;> first | (cases h; done) | (cases h; simp only [AV.wf])
      · cases h

theorem unK_wf {op : UnOp} {v r : AV} (h : unK op v some = some r) : r.wf := by
  unfold unK at h
  split at h <;> first
    | (cases h; done)
    | (cases h; simp only [AV.wf]; done)
    | (cases h; simp only [AV.wf]; first | with_reducible exact wr_in .. | with_reducible exact inK_xorI ..)

theorem indexAddrK_wf {P : Program} {t : TypeId} {x i r : AV} (h : indexAddrK P t x i some = some r) : r.wf := by
  unfold indexAddrK at h
  split at h
  · rename_i len e hu
    split at h
    · rename_i n p
      split at h
      · rename_i k i
        split at h
        · rename_i ie hie
          cases hb : inB i len with
          | false => simp [hb] at h
          | true =>
            simp only [hb, cond_true] at h
            cases hI : isIntT P e with
            | true =>
              simp only [hI, cond_true] at h
              cases h1 : Nat.beq ie.size 1 with
              | false => simp [h1] at h
              | true => simp only [h1, cond_true, Option.some.injEq] at h; subst h; simp only [AV.wf]
            | false => simp only [hI, cond_false, Option.some.injEq] at h; subst h; simp only [AV.wf]
        · cases h
      · cases h
    · cases h
  · cases h

theorem indexK_wf {P : Program} {t : TypeId} {x i r : AV} (hx : x.wf) (h : indexK P t x i some = some r) : r.wf := by
  unfold indexK at h
  split at h
  · rename_i q i
    split at h
    · rename_i k m l
      split at h
      · rename_i len e hu
        cases hc : (Nat.beq len m && fits P e (.int k 0)) with
        | false => simp [hc] at h
        | true =>
          simp only [hc, cond_true] at h
          cases hb : inB i len with
          | false => simp [hb] at h
          | true =>
            have hin := inB_iff.1 hb
            simp only [hb, cond_true, Option.some.injEq] at h
            subst h
            simp only [Bool.and_eq_true] at hc
            have hlm := Nat.eq_of_beq_eq_true hc.1
            subst hlm
            simp only [AV.wf] at hx ⊢
            exact hx _ (by omega)
      · cases h
    · rename_i ts
      split at h
      · split at h
        · rename_i len e _ _ ie _
          cases hb : inB i len with
          | false => simp [hb] at h
          | true =>
            simp only [hb, cond_true] at h
            split at h
            · rename_i u hu
              cases hc : (Nat.beq (AV.sizeL (ts.take i.toNat)) (i.toNat * ie.size) && fits P e u) with
              | false => simp [hc] at h
              | true =>
                simp only [hc, cond_true, Option.some.injEq] at h
                subst h
                simp only [AV.wf] at hx
                exact wfL_mem hx (List.mem_of_getElem? hu)
            · cases h
        · cases h
      · cases h
    · rename_i s
      split at h
      · cases hb : inB i s.length with
        | false => simp [hb] at h
        | true => simp only [hb, cond_true, Option.some.injEq] at h; subst h; simp only [AV.wf]; exact inK_byte _
      · cases h
    · cases h
  · cases h

theorem minmaxA_wf {mx : Bool} {vs : List AV} {v : AV} (hv : ∀ u ∈ vs, u.wf) (h : minmaxA mx vs = some v) : v.wf := by
  unfold minmaxA at h
  split at h
  · rename_i k a k' b
    cases hk : decide (k = k') with
    | false => simp [hk] at h
    | true =>
      rw [hk, cond_true] at h
      have := of_decide_eq_true hk
      subst this
      have h1 := hv (.int k a) (by simp)
      have h2 := hv (.int k b) (by simp)
      cases h
      simp only [AV.wf] at h1 h2 ⊢
      cases mx <;> simp only [cond_true, cond_false] <;> split <;> assumption
  · cases h
end Go.Sim
