/- 'val' is what the model's operation yields, whatever the world. -/
import Derived.Test.YtllfkflclhnmgaaSimF
namespace Go.Sim

theorem getK_some {tm : Tm} {x : Operand} {v : AV} (h : getK tm x some = some v) : opv tm x = some v := by
  unfold getK at h
  split at h
  · rename_i u hu; cases h; exact hu
  · cases h

/-- the value's names are the operands' -/
def From (tm : Tm) (o : Oper) (v : AV) : Prop := ∀ m, v.has m → ∃ x ∈ o.op.operands, ∃ u, opv tm x = some u ∧ u.has m

set_option maxHeartbeats 1000000 in
theorem val_run {P : Program} {tm : Tm} {o : Oper} {v : AV} {ρ : Ren} {e : Operand → Value} (h : val P tm o = some v)
    (he : ∀ x u, opv tm x = some u → e x = u.enc ρ) (w : World) :
    (execOp e o).run P w = .ok (.value (v.enc ρ)) w ∧ From tm o v := by
  obtain ⟨dst, op, type, pos, after, guard⟩ := o
  unfold val valK at h
  unfold From
  split at h
  · rename_i x hop
    simp only at hop; subst hop
    have h1 := getK_some h
    exact ⟨by simp [execOp, he x v h1], fun m hm => ⟨x, by simp [Op.operands], v, h1, hm⟩⟩
  · rename_i x hop
    simp only at hop; subst hop
    have h1 := getK_some h
    exact ⟨by simp [execOp, he x v h1], fun m hm => ⟨x, by simp [Op.operands], v, h1, hm⟩⟩
  · rename_i c a b hop
    simp only at hop; subst hop
    split at h
    · rename_i t hc
      have hc' := he c _ hc
      cases t
      · simp only [cond_false] at h
        have h1 := getK_some h
        exact ⟨by simp [execOp, hc', AV.enc, asBool, he b v h1], fun m hm => ⟨b, by simp [Op.operands], v, h1, hm⟩⟩
      · simp only [cond_true] at h
        have h1 := getK_some h
        exact ⟨by simp [execOp, hc', AV.enc, asBool, he a v h1], fun m hm => ⟨a, by simp [Op.operands], v, h1, hm⟩⟩
    · cases h
  · rename_i x hop
    simp only at hop; subst hop
    split at h
    · rename_i n p hx
      cases h
      have hx' := he x _ hx
      exact ⟨by simp [execOp, hx', AV.enc], fun m hm => ⟨x, by simp [Op.operands], _, hx, hm⟩⟩
    · cases h
  · rename_i op t x y yt hop
    simp only at hop; subst hop
    split at h
    · rename_i a ha
      split at h
      · rename_i b hb
        obtain ⟨h1, h2, h3⟩ := binK_run (ρ := ρ) x y w h
        refine ⟨?_, fun m hm => absurd hm (h3 m)⟩
        simp only [execOp, he x a ha, he y b hb, Sem.run_bind, h1, h2, Result.andThen_ok, Sem.run_pure]
      · cases h
    · cases h
  · rename_i op t x hop
    simp only at hop; subst hop
    split at h
    · rename_i a ha
      obtain ⟨h1, h2⟩ := unK_run (P := P) (ρ := ρ) w h
      refine ⟨?_, fun m hm => absurd hm (h2 m)⟩
      simp only [execOp, he x a ha, Sem.run_bind, h1, Result.andThen_ok, Sem.run_pure]
    · cases h
  · rename_i s d x hop
    simp only at hop; subst hop
    split at h
    · rename_i sd hs
      split at h
      · rename_i k hd
        split at h
        · rename_i k' n hx
          cases h
          refine ⟨?_, fun m hm => by simp [AV.has] at hm⟩
          simp [execOp, he x _ hx, AV.enc, convert, run_underlying hs, run_underlying hd, Conv.intToInt, wr_eq]
        · cases h
      · cases h
    · cases h
  · rename_i s x f hop
    simp only at hop; subst hop
    split at h
    · rename_i fs hs
      split at h
      · rename_i n p hx
        split at h
        · rename_i fd hf
          split at h
          · rename_i i hi
            cases hz : Nat.beq i.size 0 with
            | true => simp [hz] at h
            | false =>
              simp only [hz, cond_false, Option.some.injEq] at h
              subst h
              have hnz : i.size ≠ 0 := fun e => by rw [e] at hz; simp at hz
              refine ⟨?_, fun m hm => ⟨x, by simp [Op.operands], _, hx, by simpa [AV.has] using hm⟩⟩
              simp only [execOp, he x _ hx, AV.enc, Instr.fieldAt, Sem.run_bind, run_underlying hs, Result.andThen_ok, hf, Instr.sureAddr, Sem.run_pure, fieldPlace, run_sizeOf' hi, hnz, if_false, addr_add, pOff_append, Sel.off, Sem.run_ite]
              simp [Nat.add_assoc]
          · cases h
        · cases h
      · cases h
    · cases h
  · rename_i s x f hop
    simp only at hop; subst hop
    split at h
    · rename_i fs hs
      split at h
      · rename_i ts hx
        split at h
        · rename_i fd hf
          split at h
          · rename_i u hu
            cases hc : (Nat.beq (AV.sizeL (ts.take f)) fd.offset && fits P fd.type u) with
            | false => simp [hc] at h
            | true =>
              simp only [hc, cond_true, Option.some.injEq] at h
              subst h
              simp only [Bool.and_eq_true] at hc
              have ho := Nat.eq_of_beq_eq_true hc.1
              have hp := run_part_fits (P := P) (ρ := ρ) (cs := AV.cellsL ρ ts) (a := AV.cellsL ρ (ts.take f)) (b := AV.cellsL ρ (ts.drop (f + 1))) w hc.2 (by
                conv => lhs; rw [split_at hu]
                rw [cellsL_append]; simp [AV.cellsL])
              rw [cellsL_length, ho] at hp
              refine ⟨?_, fun m hm => ⟨x, by simp [Op.operands], _, hx, by simp only [AV.has]; exact hasL_mem (List.mem_of_getElem? hu) hm⟩⟩
              simp only [execOp, he x _ hx, AV.enc, Instr.field, Sem.run_bind, run_underlying hs, Result.andThen_ok, hf, asAgg, Sem.run_pure, hp]
          · cases h
        · cases h
      · cases h
    · cases h
  · rename_i t x i hop
    simp only at hop; subst hop
    split at h
    · rename_i a ha
      split at h
      · rename_i b hb
        obtain ⟨h1, h2⟩ := indexAddrK_run (ρ := ρ) w h
        refine ⟨?_, fun m hm => ⟨x, by simp [Op.operands], a, ha, h2 m hm⟩⟩
        simp only [execOp, he x a ha, he i b hb, Sem.run_bind, h1, Result.andThen_ok, Sem.run_pure]
      · cases h
    · cases h
  · rename_i t x i hop
    simp only at hop; subst hop
    split at h
    · rename_i a ha
      split at h
      · rename_i b hb
        obtain ⟨h1, h2⟩ := indexK_run (ρ := ρ) w h
        refine ⟨?_, fun m hm => ⟨x, by simp [Op.operands], a, ha, h2 m hm⟩⟩
        simp only [execOp, he x a ha, he i b hb, Sem.run_bind, h1, Result.andThen_ok, Sem.run_pure]
      · cases h
    · cases h
  · rename_i x i hop
    simp only at hop; subst hop
    split at h
    · rename_i ts hx
      split at h
      · rename_i u hu
        cases h
        refine ⟨?_, fun m hm => ⟨x, by simp [Op.operands], _, hx, by simp only [AV.has]; exact hasL_mem (List.mem_of_getElem? hu) hm⟩⟩
        have : (AV.encL ρ ts)[i]? = some (v.enc ρ) := by rw [encL_eq]; simp [hu]
        simp [execOp, he x _ hx, AV.enc, Instr.extract, this]
      · cases h
    · cases h
  · rename_i t ps hop
    simp only at hop; subst hop
    split at h
    · rename_i vs hvs
      split at h
      · rename_i u hu
        cases ha : u.isAgg with
        | false => simp [ha] at h
        | true =>
          simp only [ha, cond_true, Option.some.injEq] at h
          subst h
          obtain ⟨h1, h2⟩ := buildA_run (P := P) ρ w hu
          obtain ⟨g1, g2⟩ := partsV_spec he ps.toList vs hvs
          have e1 : ps.map (fun x => (x.1, e x.2)) = (vs.map fun p => (p.1, p.2.enc ρ)).toArray := by
            apply Array.ext'; simpa using g1
          refine ⟨?_, fun m hm => ?_⟩
          · simp only [execOp]
            rw [show (ps.map fun x => match x with | (i, x) => (i, e x)) = ps.map (fun x => (x.1, e x.2)) from rfl, e1]
            simp only [Sem.run_bind, h1, Result.andThen_ok, Sem.run_pure, enc_of_agg ha]
          · obtain ⟨p, hp, hpm⟩ := h2 m hm
            obtain ⟨x, hx, hxv⟩ := g2 p hp
            exact ⟨x.2, by simp [Op.operands]; exact ⟨x.1, by simpa using hx⟩, p.2, hxv, hpm⟩
      · cases h
    · cases h
  · rename_i c hop
    simp only at hop; subst hop
    obtain ⟨callee, args, argTypes⟩ := c
    simp only at h
    split at h
    · split at h
      · rename_i vs hvs
        split at h
        · rename_i u hu
          cases h
          obtain ⟨g1, _⟩ := opvs_spec he args.toList vs hvs
          have e1 : args.map e = (vs.map (AV.enc ρ)).toArray := by apply Array.ext'; simpa using g1
          obtain ⟨h1, h2⟩ := minmaxA_run (P := P) (ρ := ρ) w argTypes type hu
          simp only [Bool.false_eq_true, if_false] at h1
          refine ⟨?_, fun m hm => absurd hm (h2 m)⟩
          simp [execOp, resolve, invoke, builtin, e1, h1]
        · cases h
      · cases h
    · split at h
      · rename_i vs hvs
        split at h
        · rename_i u hu
          cases h
          obtain ⟨g1, _⟩ := opvs_spec he args.toList vs hvs
          have e1 : args.map e = (vs.map (AV.enc ρ)).toArray := by apply Array.ext'; simpa using g1
          obtain ⟨h1, h2⟩ := minmaxA_run (P := P) (ρ := ρ) w argTypes type hu
          simp only [if_true] at h1
          refine ⟨?_, fun m hm => absurd hm (h2 m)⟩
          simp [execOp, resolve, invoke, builtin, e1, h1]
        · cases h
      · cases h
    · split at h
      · rename_i s hvs
        split at h
        · rename_i t ht
          split at h
          · rename_i hu
            cases h
            obtain ⟨g1, _⟩ := opvs_spec he args.toList _ hvs
            have e1 : args.map e = #[.string ⟨s.toArray⟩] := by apply Array.ext'; simpa [AV.enc] using g1
            refine ⟨?_, fun m hm => by simp [AV.has] at hm⟩
            have hsz : (⟨s.toArray⟩ : ByteArray).size = s.length := by show s.toArray.size = _; simp
            simp [execOp, resolve, invoke, builtin, e1, Builtin.len_, ht, run_underlying hu, goInt, AV.enc, hsz]
          · cases h
        · cases h
      · cases h
    · cases h
  · cases h

theorem opv_wf {tm : Tm} (hw : ∀ (i : Nat) v, tm.getD i none = some v → v.wf) {x : Operand} {v : AV} (h : opv tm x = some v) : v.wf := by
  cases x with
  | tmp t => exact hw t v h
  | const c => exact constA_wf h
  | global g => cases h
  | func f => cases h; simp only [AV.wf]

theorem opvs_wf {tm : Tm} (hw : ∀ (i : Nat) v, tm.getD i none = some v → v.wf) {xs : List Operand} {vs : List AV} (h : opvs tm xs = some vs) : ∀ v ∈ vs, v.wf := fun v hv => by
  obtain ⟨x, _, hx⟩ := (opvs_spec (ρ := fun n => (n, 0)) (e := fun x => match opv tm x with | some u => u.enc (fun n => (n, 0)) | none => undef) (fun x u hx => by simp [hx]) _ vs h).2 v hv
  exact opv_wf hw hx

set_option maxHeartbeats 1000000 in
theorem val_wf {P : Program} {tm : Tm} {o : Oper} {v : AV} (hw : ∀ (i : Nat) v, tm.getD i none = some v → v.wf) (h : val P tm o = some v) : v.wf := by
  have one : ∀ {x u}, opv tm x = some u → u.wf := fun h => opv_wf hw h
  unfold val valK at h
  split at h
  · exact one (getK_some h)
  · exact one (getK_some h)
  · split at h
    · rename_i t _
      cases t <;> simp only [cond_true, cond_false] at h <;> exact one (getK_some h)
    · cases h
  · split at h
    · cases h; simp only [AV.wf]
    · cases h
  · split at h
    · rename_i a ha
      split at h
      · exact binK_wf (one ha) h
      · cases h
    · cases h
  · split at h
    · exact unK_wf h
    · cases h
  · split at h
    · split at h
      · split at h
        · cases h; simp only [AV.wf]; exact wr_in ..
        · cases h
      · cases h
    · cases h
  · split at h
    · split at h
      · split at h
        · split at h
          · rename_i i _
            cases hz : Nat.beq i.size 0 with
            | true => simp [hz] at h
            | false => simp only [hz, cond_false, Option.some.injEq] at h; subst h; simp only [AV.wf]
          · cases h
        · cases h
      · cases h
    · cases h
  · split at h
    · split at h
      · rename_i ts hx
        split at h
        · rename_i fd _
          split at h
          · rename_i f _ _ _ _ _ u hu
            have hts := one hx
            simp only [AV.wf] at hts
            have hmem := wfL_mem hts (List.mem_of_getElem? hu)
            revert h
            cases (_ && _) with
            | false => intro h; cases h
            | true => intro h; cases h; exact hmem
          · cases h
        · cases h
      · cases h
    · cases h
  · split at h
    · split at h
      · exact indexAddrK_wf h
      · cases h
    · cases h
  · split at h
    · rename_i a ha
      split at h
      · exact indexK_wf (one ha) h
      · cases h
    · cases h
  · split at h
    · rename_i ts hx
      split at h
      · rename_i u hu
        cases h
        have hts := one hx
        simp only [AV.wf] at hts
        exact wfL_mem hts (List.mem_of_getElem? hu)
      · cases h
    · cases h
  · split at h
    · rename_i vs hvs
      split at h
      · rename_i u hu
        cases ha : u.isAgg with
        | false => simp [ha] at h
        | true =>
          simp only [ha, cond_true, Option.some.injEq] at h
          subst h
          refine buildA_wf hu fun p hp => ?_
          obtain ⟨x, _, hxv⟩ := (partsV_spec (ρ := fun n => (n, 0)) (e := fun x => match opv tm x with | some u => u.enc (fun n => (n, 0)) | none => undef) (fun x u hx => by simp [hx]) _ vs hvs).2 p hp
          exact one hxv
      · cases h
    · cases h
  · split at h
    · split at h
      · rename_i vs hvs
        split at h
        · rename_i u hu; cases h; exact minmaxA_wf (opvs_wf hw hvs) hu
        · cases h
      · cases h
    · split at h
      · rename_i vs hvs
        split at h
        · rename_i u hu; cases h; exact minmaxA_wf (opvs_wf hw hvs) hu
        · cases h
      · cases h
    · split at h
      · rename_i s hvs
        split at h
        · split at h
          · cases h
            have := opvs_wf hw hvs (.str s) (by simp)
            simp only [AV.wf] at this ⊢
            simp only [inK]
            omega
          · cases h
        · cases h
      · cases h
    · cases h
  · cases h
end Go.Sim
