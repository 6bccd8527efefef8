/- One operation of the model is one step of the state; a region. -/
import Derived.Test.YtllfkflclhnmgaaSimL
namespace Go.Sim

def Callable (P : Program) (f : FuncId) : Prop := ∃ fn c, P.funcs[f]? = some fn ∧ (fn.name == "runtime.NumGoroutine") = false ∧ fn.body = some c

/-- the cells that a memory names -/
def ownOf (ρ : Ren) (hp : Hp) (b o : Nat) : Prop := ∃ n v, hp.getD n none = some v ∧ b = (ρ n).1 ∧ (ρ n).2 ≤ o ∧ o < (ρ n).2 + v.size

/-- a call that yields v: of a Go body, or of a function that the model stands in for -/
def CallsV (P : Program) (f : FuncId) (args : Array Value) (w : World) (v : Value) : Prop :=
  (Callable P f ∧ Calls P f args w fun e w' => e = .returned v ∧ Same w w') ∨ (callFunc f args).run P w = .ok (.value v) w

def EntryOk (P : Program) (f : FuncId) : Entry → Prop
  | .pure s => True ∧ (Entry.pure s).Good ∧ ∀ args v, s.run args some = some v → (∀ u ∈ args, u.wf) → ∀ (ρ : Ren) (w : World), CallsV P f (args.map (AV.enc ρ)).toArray w (v.enc ρ)
  | .read s => Callable P f ∧ (Entry.read s).Good ∧ ∀ args hp v, s.run args hp some = some v → (∀ u ∈ args, u.wf) → WfH hp → ∀ (ρ : Ren) (w : World), RepW ρ hp w → ClosedH hp → (∀ u ∈ args, ClosedV hp u) →
      Calls P f (args.map (AV.enc ρ)).toArray w fun e w' => e = .returned (v.enc ρ) ∧ Same w w'
  | .full s => Callable P f ∧ (Entry.full s).Good ∧ ∀ args hp nm v hp', s.run args hp nm (fun v h => some (v, h)) = some (v, hp') → (∀ u ∈ args, u.wf) → WfH hp → ∀ (ρ : Ren) (w : World), RepW ρ hp w → ClosedH hp → (∀ u ∈ args, ClosedV hp u) →
      hp.getD nm none = none →
      Calls P f (args.map (AV.enc ρ)).toArray w fun e w' => ∃ ρ' : Ren, (∀ m, m ≠ nm → ρ m = ρ' m) ∧ e = .returned (v.enc ρ') ∧ RepW ρ' hp' w' ∧ Kept (ownOf ρ hp) w w' ∧
        ∀ n x, hp'.getD n none = some x → (∃ y, hp.getD n none = some y ∧ y.size = x.size) ∨ w.heap.size ≤ (ρ' n).1

def EnvOk (P : Program) (Γ : Env) : Prop := ∀ f e, Γ f = some e → EntryOk P f e

theorem EnvOk.good {P : Program} {Γ : Env} (h : EnvOk P Γ) : Γ.Good := fun f e he => by
  have := h f e he
  cases e <;> exact this.2.1

theorem run_call {P : Program} {f : FuncId} {e : Operand → Value} {o : Oper} {c : Call} (ho : o.op = .call c) (hc : c.callee = .value (.func f)) (he : e (.func f) = .func (.func f) #[] #[])
    (hf : Callable P f) (w : World) : (execOp e o).run P w = .ok (.enter f (c.args.map e)) w := by
  obtain ⟨fn, b, h1, h2, h3⟩ := hf
  have h2' : fn.name ≠ "runtime.NumGoroutine" := by simpa using h2
  simp [execOp, ho, resolve, hc, he, Deferred.ofValue, invoke, callFunc, h1, h2', h3]

theorem run_call0 {P : Program} {f : FuncId} {e : Operand → Value} {o : Oper} {c : Call} (ho : o.op = .call c) (hc : c.callee = .value (.func f)) (he : e (.func f) = .func (.func f) #[] #[])
    (w : World) : (execOp e o).run P w = (callFunc f (c.args.map e)).run P w := by
  simp [execOp, ho, resolve, hc, he, Deferred.ofValue, invoke]

theorem cls_call {Γ : Env} {o : Op} {e : Entry} (h : cls Γ o = match e with | .pure s => .pure s | .read s => .read s | .full s => .full s) :
    ∃ c f, o = .call c ∧ c.callee = .value (.func f) ∧ Γ f = some e := by
  unfold cls at h
  split at h <;> try (cases e <;> cases h; done)
  rename_i c
  split at h <;> try (cases e <;> cases h; done)
  rename_i f hf
  split at h <;> cases e <;> cases h <;> exact ⟨c, f, rfl, hf, by assumption⟩

theorem Inv.put {own : Own} {w0 w : World} {ρ : Ren} {st : St} {a : Act} (h : Inv own w0 ρ st a w) (d : Option Tmp) (v : Option AV) (u : Value)
    (hv : ∀ x, v = some x → u = x.enc ρ) (hc : ∀ x, v = some x → ClosedV st.hp x) (hw : ∀ x, v = some x → x.wf) : Inv own w0 ρ ⟨setT st.tm d v, st.hp, st.base⟩ (a.put d u) w :=
  ⟨h.rep, h.tm.put d v u hv, ⟨setT_closed h.closed.tm (fun m hm => hm) hc, h.closed.hp⟩, ⟨setT_wf h.wf.tm hw, h.wf.hp⟩, h.kept, h.mine, by cases d <;> exact h.defers, h.low, h.base⟩

theorem args_enc {tm : Tm} {ρ : Ren} {a : Act} (h : TmOk ρ tm a) {c : Call} {vs : List AV} (hv : opvs tm c.args.toList = some vs) : c.args.map a.eval = (vs.map (AV.enc ρ)).toArray := by
  apply Array.ext'
  simpa using (opvs_spec h.eval c.args.toList vs hv).1

theorem eff_sound {P : Program} {Γ : Env} (hE : EnvOk P Γ) {o : Oper} {nm : Nat} {st : St} {x : Option AV × Hp} {own : Own} {w0 w : World} {ρ : Ren} {a : Act}
    (hI : Inv own w0 ρ st a w) (hnm : own.fb ≤ nm) (h : effD P Γ o nm st.tm st.hp = some x) {K : Act → World → Prop} {Q : Exit → Act → World → Prop}
    (hclosed : Closed ⟨setT st.tm o.dst x.1, x.2, st.base⟩) (hwf : WfSt ⟨setT st.tm o.dst x.1, x.2, st.base⟩)
    (hK : ∀ ρ' a' w', Inv own w0 ρ' ⟨setT st.tm o.dst x.1, x.2, st.base⟩ a' w' → K a' w') : o.wp P a w K Q := by
  unfold effD at h
  cases hcl : cls Γ o.op <;> simp only [hcl] at h
  · -- a value
    cases hv : val P st.tm o with
    | none => simp [hv] at h
    | some v =>
      simp only [hv, Option.map_some, Option.some.injEq] at h
      subst h
      obtain ⟨h1, h2⟩ := val_run hv hI.tm.eval w
      unfold Oper.wp
      rw [h1]
      exact hK ρ _ _ ⟨hI.rep, hI.tm.put _ _ _ (fun y hy => by cases hy; rfl), hclosed, hwf, hI.kept, hI.mine, by cases o.dst <;> exact hI.defers, hI.low, hI.base⟩
  · -- a load
    split at h
    · rename_i t y ho
      cases hv : loadK P st.tm st.hp t y some with
      | none => simp [hv] at h
      | some v =>
        simp only [hv, Option.map_some, Option.some.injEq] at h
        subst h
        unfold loadK at hv
        split at hv
        · rename_i n p hx
          split at hv
          · rename_i tree htree
            rw [subK_eq] at hv
            cases hs : sub p tree with
            | none => simp [hs] at hv
            | some u =>
              simp only [hs, Option.bind_some] at hv
              cases hf : fits P t u with
              | false => simp [hf] at hv
              | true =>
                simp only [hf, cond_true, Option.some.injEq] at hv
                subst hv
                obtain ⟨c, e, hc, hcs, hcells⟩ := hI.rep.blk n tree htree
                obtain ⟨p1, p2, h1, h2⟩ := sub_cells ρ p tree u hs
                have hlen : tree.size = p1.length + u.size + p2.length := by
                  rw [← cells_length ρ tree, h1]; simp [cells_length]; omega
                have hrun := run_load_fits (P := P) (ρ := ρ) (w := w) (b := (ρ n).1) (o := (ρ n).2 + pOff p) hf (fun j hj => by
                  have := hcells (pOff p + j) (by omega)
                  simp only [World.cell?, hc]
                  rw [show (ρ n).2 + pOff p + j = (ρ n).2 + (pOff p + j) by omega]
                  simp only [Option.isSome_none, Bool.false_eq_true, if_false]
                  rw [this, ← h2]
                  exact seg_at h1 (by rw [cells_length]; exact hj))
                have he := hI.tm.eval _ _ hx
                unfold Oper.wp
                have hex : (execOp a.eval o).run P w = .ok (.value (u.enc ρ)) w := by
                  simp only [execOp, ho, he, AV.enc, Sem.run_bind, hrun, Result.andThen_ok, Sem.run_pure]
                rw [hex]
                exact hK ρ _ _ ⟨hI.rep, hI.tm.put _ _ _ (fun y hy => by cases hy; rfl), hclosed, hwf, hI.kept, hI.mine, by cases o.dst <;> exact hI.defers, hI.low, hI.base⟩
          · cases hv
        · cases hv
    · cases h
  · -- a store
    split at h
    · rename_i t y z ho
      cases hv : storeK P st.tm st.hp t y z some with
      | none => simp [hv] at h
      | some hp' =>
        simp only [hv, Option.map_some, Option.some.injEq] at h
        subst h
        unfold storeK at hv
        split at hv
        · rename_i n p hx
          split at hv
          · rename_i v hz
            split at hv
            · rename_i tree htree
              cases hb : (v.oneA && fits P t v) with
              | false => simp [hb] at hv
              | true =>
                simp only [hb, cond_true] at hv
                rw [putK_eq'] at hv
                cases hput : put p tree v with
                | none => simp [hput] at hv
                | some tree' =>
                  simp only [hput, Option.bind_some, Option.some.injEq] at hv
                  subst hv
                  simp only [Bool.and_eq_true] at hb
                  obtain ⟨c, e, hc, hin, hr, hk, hm⟩ := inv_store hI.rep hI.kept hI.mine htree hput
                  have hrun := run_store_fits (P := P) (ρ := ρ) hb.2 hb.1 hc hin
                  have hex : (execOp a.eval o).run P w = .ok .skip (w.setRow (ρ n).1 (writeAt c ((ρ n).2 + pOff p) (v.cells ρ))) := by
                    simp only [execOp, ho, hI.tm.eval _ _ hx, hI.tm.eval _ _ hz, AV.enc, Sem.run_bind]
                    rw [hrun]
                    rfl
                  unfold Oper.wp
                  rw [hex]
                  exact hK ρ _ _ ⟨hr, hI.tm.put _ _ _ (fun y hy => by cases hy), hclosed, hwf, hk, hm, by cases o.dst <;> exact hI.defers, hI.low, hI.base⟩
            · cases hv
          · cases hv
        · cases hv
    · cases h
  · -- a new block
    cases ha : allocA P st.tm o.op with
    | none => simp [ha] at h
    | some v =>
      cases hg : st.hp.getD nm none with
      | some _ => simp only [ha, hg] at h; cases h
      | none =>
        simp only [ha, hg, Option.some.injEq] at h
        subst h
        have hvc : ClosedV st.hp v ∧ ∃ t, (execOp a.eval o).run P w = .ok (.value (.pointer (some ⟨w.heap.size, 0, none⟩))) (w.alloc (.cells (v.cells ρ).toArray t)) := by
          unfold allocA at ha
          split at ha
          · rename_i t ho
            split at ha
            · rename_i z hz
              cases ho1 : z.oneA with
              | false => simp [ho1] at ha
              | true =>
                simp only [ho1, cond_true, Option.some.injEq] at ha
                subst ha
                obtain ⟨i, z0, hi, hz0, hzc, hh, _⟩ := zeroA_spec hz
                refine ⟨fun m hm => absurd hm (hh m), t, ?_⟩
                have hcz : z0.cells = (z.cells ρ).toArray := by apply Array.ext'; simp [hzc ρ]
                simp [execOp, ho, Instr.alloc, zeroValue, typeInfo, hi, hz0, newVar, newRow, newObj, hcz, Sem.run]
            · cases ha
          · rename_i t y ho
            split at ha
            · rename_i z hz
              cases ho1 : z.oneA with
              | false => simp [ho1] at ha
              | true =>
                simp only [ho1, cond_true, Option.some.injEq] at ha
                subst ha
                refine ⟨opv_closed hI.closed.tm hz, t, ?_⟩
                have hcz : (z.enc ρ).cells = (z.cells ρ).toArray := by apply Array.ext'; simp [enc_cells]
                simp [execOp, ho, Instr.box, hI.tm.eval _ _ hz, newVar, newRow, newObj, hcz, Sem.run]
            · cases ha
          · cases ha
        obtain ⟨hvc, t, hex⟩ := hvc
        obtain ⟨h1, h2, h3, h4⟩ := inv_alloc (n := nm) t hI.rep hI.kept hI.mine hg hI.closed.hp hvc
        unfold Oper.wp
        rw [hex]
        refine hK _ _ _ ⟨h1, ?_, hclosed, hwf, h2, h3, by cases o.dst <;> exact hI.defers, fun n hn => by simp only [if_neg (show n ≠ nm by omega)]; exact hI.low n hn, hI.base⟩
        refine (hI.tm.congr fun i u hu m hm => h4 m (hI.closed.tm i u hu m hm)).put _ _ _ (fun y hy => ?_)
        cases hy
        simp [AV.enc, pOff]
  · -- a call that looks at no memory
    rename_i s
    obtain ⟨c, f, ho, hc, hf⟩ := cls_call (e := .pure s) hcl
    obtain ⟨_, hgood, hs⟩ := hE f _ hf
    simp only [callArgs, ho] at h
    cases hv : opvs st.tm c.args.toList with
    | none => simp [hv] at h
    | some vs =>
      simp only [hv] at h
      cases hr : s.run vs some with
      | none => simp [hr] at h
      | some v =>
        simp only [hr, Option.map_some, Option.some.injEq] at h
        subst h
        unfold Oper.wp
        rcases hs vs v hr (callArgs_wf hI.wf.tm (show callArgs st.tm o.op = some vs by simp [callArgs, ho, hv])) ρ w with ⟨hcall, hcs⟩ | hrun
        · rw [run_call ho hc rfl hcall w, args_enc hI.tm hv]
          refine hcs.mono fun e w' ⟨he, hsame⟩ => ?_
          subst he
          refine hK ρ _ _ ⟨hI.rep.same hsame, hI.tm.put _ _ _ (fun y hy => by cases hy; rfl), hclosed, hwf, hI.kept.trans hsame (fun _ _ h => h.elim), hI.mine, by cases o.dst <;> exact hI.defers, hI.low, hI.base⟩
        · rw [run_call0 ho hc rfl w, args_enc hI.tm hv, hrun]
          exact hK ρ _ _ ⟨hI.rep, hI.tm.put _ _ _ (fun y hy => by cases hy; rfl), hclosed, hwf, hI.kept, hI.mine, by cases o.dst <;> exact hI.defers, hI.low, hI.base⟩
  · -- a call that reads
    rename_i s
    obtain ⟨c, f, ho, hc, hf⟩ := cls_call (e := .read s) hcl
    obtain ⟨hcall, hgood, hs⟩ := hE f _ hf
    have hca : callArgs st.tm o.op = opvs st.tm c.args.toList := by simp [callArgs, ho]
    rw [hca] at h
    cases hv : opvs st.tm c.args.toList with
    | none => simp [hv] at h
    | some vs =>
      simp only [hv] at h
      cases hr : s.run vs st.hp some with
      | none => simp [hr] at h
      | some v =>
        simp only [hr, Option.map_some, Option.some.injEq] at h
        subst h
        unfold Oper.wp
        rw [run_call ho hc rfl hcall w, args_enc hI.tm hv]
        refine (hs vs st.hp v hr (callArgs_wf hI.wf.tm (hca.trans hv)) hI.wf.hp ρ w hI.rep hI.closed.hp (callArgs_closed hI.closed.tm (hca.trans hv))).mono fun e w' ⟨he, hsame⟩ => ?_
        subst he
        refine hK ρ _ _ ⟨hI.rep.same hsame, hI.tm.put _ _ _ (fun y hy => by cases hy; rfl), hclosed, hwf, hI.kept.trans hsame (fun _ _ h => h.elim), hI.mine, by cases o.dst <;> exact hI.defers, hI.low, hI.base⟩
  · -- a call that may write
    rename_i s
    obtain ⟨c, f, ho, hc, hf⟩ := cls_call (e := .full s) hcl
    obtain ⟨hcall, hgood, hs⟩ := hE f _ hf
    have hca : callArgs st.tm o.op = opvs st.tm c.args.toList := by simp [callArgs, ho]
    rw [hca] at h
    cases hv : opvs st.tm c.args.toList with
    | none => simp [hv] at h
    | some vs =>
      simp only [hv] at h
      cases hg : st.hp.getD nm none with
      | some _ => simp only [hg] at h; cases h
      | none =>
        simp only [hg] at h
        rw [hgood.1] at h
        cases hr : s.run vs st.hp nm (fun v h => some (v, h)) with
        | none => simp [hr] at h
        | some y =>
          obtain ⟨v, hp'⟩ := y
          simp only [hr, Option.bind_some, Option.some.injEq] at h
          subst h
          unfold Oper.wp
          rw [run_call ho hc rfl hcall w, args_enc hI.tm hv]
          refine (hs vs st.hp nm v hp' hr (callArgs_wf hI.wf.tm (hca.trans hv)) hI.wf.hp ρ w hI.rep hI.closed.hp (callArgs_closed hI.closed.tm (hca.trans hv)) hg).mono fun e w' ⟨ρ', hρ0, he, hrep, hkept, hnew⟩ => ?_
          subst he
          have hρ : ∀ m, Pres st.hp m → ρ m = ρ' m := fun m ⟨t, ht⟩ => hρ0 m (fun e => by subst e; rw [hg] at ht; cases ht)
          refine hK ρ' _ _ ⟨hrep, ?_, hclosed, hwf, ?_, ?_, by cases o.dst <;> exact hI.defers, fun n hn => by rw [← hρ0 n (by omega)]; exact hI.low n hn, hI.base⟩
          · exact (hI.tm.congr fun i u hu m hm => hρ m (hI.closed.tm i u hu m hm)).put _ _ _ (fun y hy => by cases hy; rfl)
          · refine hI.kept.trans hkept ?_
            rintro b o ⟨n, x, hx, rfl, h1, h2⟩
            rcases hI.mine n x hx with h | h
            · exact .inr h
            · refine .inl ?_
              have := h (o - (ρ n).2) (by omega)
              rwa [show (ρ n).2 + (o - (ρ n).2) = o by omega] at this
          · intro n x hx
            rcases hnew n x hx with ⟨y, hy, hsz⟩ | h
            · rw [← hρ n ⟨y, hy⟩, ← hsz]
              exact hI.mine n y hy
            · exact .inl (Nat.le_trans hI.kept.size h)
  · cases h

theorem step_sound {P : Program} {Γ : Env} (hE : EnvOk P Γ) {ops : List Oper} {i : Nat} {o : Oper} (hi : ops[i]? = some o) {nm : Nat} {st st' : St} {own : Own} {w0 w : World} {ρ : Ren} {a : Act}
    (hI : Inv own w0 ρ st a w) (hnm : own.fb ≤ nm) (h : stepD P Γ ops o nm st = some st') {K : Act → World → Prop} {Q : Exit → Act → World → Prop}
    (hK : ∀ ρ' a' w', Inv own w0 ρ' st' a' w' → K a' w') : wpOp P ops.toArray Q i K a w := by
  have hcl := step_closed hE.good hI.closed h
  have hwf := step_wf hE.good hI.wf h
  unfold stepD at h
  cases g : geff P Γ ops o nm st.tm st.hp with
  | none => simp [g] at h
  | some x =>
    simp only [g, Option.map_some, Option.some.injEq] at h
    subst h
    have hi' : ops.toArray[i]? = some o := by simpa using hi
    unfold wpOp
    simp only [hi']
    unfold geff at g
    split at g
    · rename_i hg
      have hw : Region.wanted o (yielded ops.toArray a.tmps) = true := by simp [Region.wanted, hg]
      simp only [hw, if_true]
      exact .inl (eff_sound hE hI hnm g hcl.1 hwf hK)
    · rename_i j want hg
      split at g
      · rename_i t ht
        split at g
        · rename_i b hb
          have hy : yielded ops.toArray a.tmps j = some b := by
            have hv := hI.tm.val t _ hb
            unfold yielded
            rw [show (ops.toArray[j]?).bind (·.dst) = some t by simpa using ht]
            simp only [Option.bind_some]
            cases hq : a.tmps[t]? with
            | none => rw [Array.getD_eq_getD_getElem?, hq] at hv; simp [undef, AV.enc] at hv
            | some u => rw [Array.getD_eq_getD_getElem?, hq] at hv; simp [AV.enc] at hv; subst hv; rfl
          split at g
          · rename_i e
            have hw : Region.wanted o (yielded ops.toArray a.tmps) = true := by simp [Region.wanted, hg, hy, e]
            simp only [hw, if_true]
            exact .inl (eff_sound hE hI hnm g hcl.1 hwf hK)
          · rename_i e
            have hw : Region.wanted o (yielded ops.toArray a.tmps) = false := by simp [Region.wanted, hg, hy, e]
            simp only [hw, Bool.false_eq_true, if_false]
            cases g
            exact hK ρ _ _ ⟨hI.rep, hI.tm.put _ _ _ (fun y hy => by cases hy), hcl.1, hwf, hI.kept, hI.mine, by cases o.dst <;> exact hI.defers, hI.low, hI.base⟩
        · cases g
      · cases g
end Go.Sim
