/- What turns memory, in the model's world: append. What turns memory, in the model's world: an append is one step. What turns memory, in the model's world: append, copy, the next rune: one step each. What turns memory, in the model's world: stores, new blocks, copy, the next rune, what stays from now on. What turns memory, in the model's world: copy, the next rune, new blocks, what stays from now on; all that looks at memory or turns it, calls apart. What stays from now on; new blocks; all that looks at memory or turns it, calls of functions apart. -/
import Derived.Test.YtllfkflclhnmgaaSimX4
import Derived.Laws.IdiomCopy
import Derived.Deep.AppendSrc
namespace Go.Sim

theorem setCells_at (b : Nat) : ∀ (vs : List Value) (o : Nat) (w : World) (c : Array Value) (e : TypeId) (f : Nat × Nat), w.heap[b]? = some (.cells c e f) → o + vs.length ≤ c.size →
    ∃ c', (w.setCells b o vs).heap[b]? = some (.cells c' e f) ∧ c'.size = c.size ∧ (∀ q, c'[q]? = if o ≤ q ∧ q < o + vs.length then vs[q - o]? else c[q]?) ∧ (∀ b', b' ≠ b → (w.setCells b o vs).heap[b']? = w.heap[b']?) ∧
      (w.setCells b o vs).heap.size = w.heap.size ∧ (w.setCells b o vs).os = w.os ∧ (w.setCells b o vs).tape = w.tape ∧ (w.setCells b o vs).output = w.output
  | [], o, w, c, e, f, h, _ => ⟨c, h, rfl, fun q => by rw [if_neg (by simp only [List.length_nil]; omega)], fun _ _ => rfl, rfl, rfl, rfl, rfl⟩
  | v :: r, o, w, c, e, f, h, hl => by
    simp only [List.length_cons] at hl
    have h1 : (w.setCell ⟨b, o, none⟩ v).heap[b]? = some (.cells (c.setIfInBounds o v) e f) := by
      simp only [World.setCell, Array.getElem?_modify, if_true, h, Option.map_some, Option.isSome_none, Bool.false_eq_true, if_false]
    obtain ⟨c', g1, g2, g3, g4, g5, g6, g7, g8⟩ := setCells_at b r (o + 1) (w.setCell ⟨b, o, none⟩ v) (c.setIfInBounds o v) e f h1 (by simp; omega)
    refine ⟨c', g1, by rw [g2]; simp, fun q => ?_, fun b' hb => ?_, by rw [World.setCells, g5]; simp [World.setCell], g6, g7, g8⟩
    · rw [g3 q]
      simp only [List.length_cons]
      by_cases hq : o + 1 ≤ q ∧ q < o + 1 + r.length
      · rw [if_pos hq, if_pos (by omega), show q - o = (q - (o + 1)) + 1 by omega, List.getElem?_cons_succ]
      · rw [if_neg hq]
        by_cases hq2 : q = o
        · subst hq2
          rw [if_pos (by omega), Nat.sub_self]
          simp [show q < c.size by omega]
        · rw [if_neg (by omega), Array.getElem?_setIfInBounds, if_neg (by omega)]
    · rw [World.setCells, g4 b' hb]
      simp only [World.setCell, Array.getElem?_modify]
      rw [if_neg (by simpa using Ne.symm hb)]
theorem wr_setCells {w : World} {b o : Nat} {vs : List Value} {c : Array Value} {e : TypeId} {f : Nat × Nat} (hc : w.heap[b]? = some (.cells c e f)) (hl : o + vs.length ≤ c.size) :
    ∃ c', (w.setCells b o vs).heap[b]? = some (.cells c' e f) ∧ c'.size = c.size ∧ (∀ q, c'[q]? = if o ≤ q ∧ q < o + vs.length then vs[q - o]? else c[q]?) ∧ Wr b (fun q => o ≤ q ∧ q < o + vs.length) w (w.setCells b o vs) := by
  obtain ⟨c', g1, g2, g3, g4, g5, g6, g7, g8⟩ := setCells_at b vs o w c e f hc hl
  exact ⟨c', g1, g2, g3, g6, g7, g8, g5, g4, ⟨c, e, f, c', hc, g1, g2, fun q hq => by rw [g3 q, if_neg hq]⟩⟩

/-- a name's memory is another's -/
theorem Adv.move {nm k n d : Nat} {ρ : Ren} {hp : Hp} {w w' : World} {t t' : AV} {R : Nat → Prop} (h : RepW ρ hp w) (hn : hp.getD n none = some t) (hfree : hp.getD nm none = none) (hc1 : ClosedH (setP none hp n (some (.x (.obj (.dead d)))))) (hk : 1 ≤ k)
    (hw : Wr (ρ n).1 R w w') (hR : ∀ o, R o → rgn (ρ n) t (ρ n).1 o) (hd : 0 < d → (ρ n).nl = false) (hnew : BlkRep (ρ.upd nm (ρ n)) w' nm t') (hr : ∀ b o, rgn (ρ n) t' b o → rgn (ρ n) t b o) :
    Adv nm k ρ hp w (ρ.upd nm (ρ n)) (setP none (setP none hp n (some (.x (.obj (.dead d))))) nm (some t')) w' := by
  have hnn : n ≠ nm := fun e => by subst e; rw [hfree] at hn; cases hn
  have hr1 : RepW ρ (setP none hp n (some (.x (.obj (.dead d))))) w' := h.write hn hw hR (by simp only [BlkRep]; exact hd) (fun b o q => q.elim)
  have hfree1 : (setP none hp n (some (.x (.obj (.dead d))))).getD nm none = none := by rw [getD_setP, if_neg hnn]; exact hfree
  have old : ∀ {m v}, (setP none hp n (some (.x (.obj (.dead d))))).getD m none = some v → m ≠ n → hp.getD m none = some v := fun {m v} hm e => by
    rw [getD_setP, if_neg (Ne.symm e)] at hm; exact hm
  have dd : ∀ {v}, (setP none hp n (some (.x (.obj (.dead d))))).getD n none = some v → v = .x (.obj (.dead d)) := fun {v} hm => by
    rw [getD_setP, if_pos rfl] at hm; cases hm; rfl
  have key : ∀ b o, OwnR (ρ.upd nm (ρ n)) (setP none (setP none hp n (some (.x (.obj (.dead d))))) nm (some t')) b o → OwnR ρ hp b o := fun b o ho => by
    rcases ownR_add (fz' := ρ.fz) ho with ⟨m, v, hm, hrg⟩ | hrg
    · by_cases e : m = n
      · subst e; rw [dd hm] at hrg; exact hrg.elim
      · exact ⟨m, v, old hm e, hrg⟩
    · exact ⟨n, t, hn, hr b o hrg⟩
  exact
  { kept := hw.kept (Kept.refl _ _) (fun o ho => .inr ⟨n, t, hn, hR o ho⟩)
    rep := hr1.add hfree1 hc1 (fun _ _ h => h) (fun _ _ _ h => h) hr1.fz (fun m vm b o hm q => hr1.fzs m vm b o hm q) hnew
      (fun m vm hm b o q1 q2 => by
        by_cases e : m = n
        · subst e; rw [dd hm] at q1; exact q1
        · exact h.sep m n vm t (old hm e) hn e b o q1 (hr b o q2))
      (fun b o q => h.fzs n t b o hn (hr b o q))
    loc := fun m hm => upd_loc (by omega)
    fzK := fun _ _ _ q => q
    fzN := fun _ _ q => .inl q
    mine := fun b o ho => .inl (key b o ho) }

/-- what an append adds, as the model meets it -/
inductive SrcA (P : Program) (ie : TypeInfo) (z : Value) (ts : Array TypeId) (x : Value) (n : Nat) (news : List Value) (w : World) : Prop
  | plain (h1 : ts[1]? = none ∨ ∃ tx, ts[1]? = some tx ∧ ((∃ e', P.underlying tx = some (.slice e')) ∨ P.underlying tx = some .string)) (len : ∀ w' : World, (Builtin.lenOf x).run P w' = .ok n w')
      (cells : (Builtin.firstCells ie.size n x).run P w = .ok news.toArray w) (cellsD : (Builtin.firstCells ie.size n x).run P w.drew = .ok news.toArray w.drew)
  | zeros (tx : TypeId) (kt : IntKind) (h1 : ts[1]? = some tx) (hk : P.underlying tx = some (.int kt)) (k : IntKind) (c : Int) (hx : x = .int k c) (h0 : 0 ≤ c) (hc : c < 68719476736) (hn : n = c.toNat) (hb : ie.bytes ≤ 512) (hs : ie.size = 1)
      (hz : z.cells.size = 1) (hnews : news = (Builtin.zeroCells z.cells n).toList)

theorem append_room {P : Program} {w : World} {ts : Array TypeId} {ty t e : TypeId} {ie : TypeInfo} {z x : Value} {n : Nat} {news : List Value} (h0 : ts[0]? = some t) (hu : P.underlying t = some (.slice e)) (hie : P.info? e = some ie) (hz : ie.zero = some z)
    (hs : SrcA P ie z ts x n news w) {a : Option Addr} {len cap : Nat} {w' : World} (hroom : len + n ≤ cap) (hst : ∀ b, a = some b → (storeCells (b.add (len * ie.size)) news).run P w = .ok () w') (hw : a = none → w' = w) :
    (Builtin.append_ ts ty #[.slice a len cap, x]).run P w = .ok (.slice a (len + n) cap) w' := by
  cases hs with
  | plain h1 hl hc _ =>
    rcases h1 with h1 | ⟨tx, h1, ⟨e', hux⟩ | hux⟩
    · cases a with
      | none => simp [Builtin.append_, h0, h1, run_underlying hu, sizeOf, typeInfo, hie, hl, hroom, hc, hw rfl]
      | some b => simp [Builtin.append_, h0, h1, run_underlying hu, sizeOf, typeInfo, hie, hl, hroom, hc, hst b rfl]
    all_goals
      cases a with
      | none => simp [Builtin.append_, h0, h1, run_underlying hu, run_underlying hux, sizeOf, typeInfo, hie, hl, hroom, hc, hw rfl]
      | some b => simp [Builtin.append_, h0, h1, run_underlying hu, run_underlying hux, sizeOf, typeInfo, hie, hl, hroom, hc, hst b rfl]
  | zeros tx kt h1 hk k c hx q0 q1 hn hb hs hzs hnews =>
    subst hx
    have hwr : IntKind.i64.wrap c = c := by rw [IntKind.wrap_i64]; omega
    have hneg : ¬ c < 0 := by omega
    have hbig : ¬ (281474976710656 < c * (ie.bytes : Int)) := by
      have h1 : c * (ie.bytes : Int) ≤ c * 512 := Int.mul_le_mul_of_nonneg_left (by omega) (by omega)
      omega
    subst hn
    have hroom' : len + c.toNat ≤ cap := hroom
    by_cases hc0 : c.toNat = 0
    · have hnn : news = [] := by rw [hnews, hc0]; simp [Builtin.zeroCells]
      rw [hnn] at hst
      have hroom' : len ≤ cap := by omega
      cases a with
      | none => simp [Builtin.append_, h0, h1, run_underlying hu, run_underlying hk, sizeOf, typeInfo, hie, asInt, asIntOf, hwr, hneg, hbig, hc0, hw rfl, hroom']
      | some b => simp [Builtin.append_, h0, h1, run_underlying hu, run_underlying hk, sizeOf, typeInfo, hie, asInt, asIntOf, hwr, hneg, hbig, hc0, hst b rfl, hroom']
    · cases a with
      | none => simp [Builtin.append_, h0, h1, run_underlying hu, run_underlying hk, sizeOf, typeInfo, zeroValue, hz, hie, asInt, asIntOf, hwr, hneg, hbig, hroom, hw rfl]
      | some b =>
        have := hst b rfl
        rw [hs, hnews, Nat.mul_one] at this
        simp [Builtin.append_, h0, h1, run_underlying hu, run_underlying hk, sizeOf, typeInfo, zeroValue, hz, hie, asInt, asIntOf, hwr, hneg, hbig, hc0, hs, hroom, this]

theorem append_grow {P : Program} {w : World} {ts : Array TypeId} {ty t e : TypeId} {ie : TypeInfo} {z x : Value} {n : Nat} {news : List Value} (h0 : ts[0]? = some t) (hu : P.underlying t = some (.slice e)) (hie : P.info? e = some ie) (hz : ie.zero = some z)
    (hs : SrcA P ie z ts x n news w) {a : Option Addr} {len cap : Nat} {olds : List Value} (hold : (Builtin.firstCells ie.size len (.slice a len cap)).run P w.drew = .ok olds.toArray w.drew) (hb : ie.bytes ≤ 512) (hg : cap < len + n) (hlt : len + n < 68719476736) :
    (Builtin.append_ ts ty #[.slice a len cap, x]).run P w =
      .ok (.slice (some ⟨w.heap.size, 0, none⟩) (len + n) (grownCap w (len + n) cap e)) (w.drew.alloc (.cells ((olds ++ news).toArray ++ Builtin.zeroCells z.cells (grownCap w (len + n) cap e - (len + n))) e)) := by
  have hn : ¬ (len + n ≤ cap) := by omega
  have h63 : ¬ (9223372036854775807 < ((len : Int) + (n : Int))) := by omega
  have h48 : ¬ (281474976710656 < Builtin.nextslicecap (len + n) cap * ie.bytes) := by
    have h1 := nextslicecap_le hg
    have h2 : Builtin.nextslicecap (len + n) cap * ie.bytes ≤ (2 * (len + n)) * 512 := Nat.mul_le_mul h1 hb
    omega
  cases hs with
  | plain h1 hl hc hcD =>
    rcases h1 with h1 | ⟨tx, h1, ⟨e', hux⟩ | hux⟩
    · simp [Builtin.append_, h0, h1, run_underlying hu, sizeOf, typeInfo, zeroValue, hie, hz, hl, hn, h63, h48, Question.forced, hcD, hold, newRow, grownCap]
      congr 2
      apply Array.ext'
      simp [List.append_assoc]
    all_goals
      simp [Builtin.append_, h0, h1, run_underlying hu, run_underlying hux, sizeOf, typeInfo, zeroValue, hie, hz, hl, hn, h63, h48, Question.forced, hcD, hold, newRow, grownCap]
      congr 2
      apply Array.ext'
      simp [List.append_assoc]
  | zeros tx kt h1 hk k c hx q0 q1 hnn hb hs hzs hnews =>
    subst hx
    have hwr : IntKind.i64.wrap c = c := by rw [IntKind.wrap_i64]; omega
    have hneg : ¬ c < 0 := by omega
    have hbig : ¬ (281474976710656 < c * (ie.bytes : Int)) := by
      have h1 : c * (ie.bytes : Int) ≤ c * 512 := Int.mul_le_mul_of_nonneg_left (by omega) (by omega)
      omega
    subst hnn
    have h63 : ¬ (9223372036854775807 < ((len : Int) + max c 0)) := by omega
    rw [hs] at hold
    by_cases hc0 : c.toNat = 0
    · have hnn : news = [] := by rw [hnews, hc0]; simp [Builtin.zeroCells]
      subst hnn
      rw [hc0] at hn h48
      simp only [Nat.add_zero] at hn h48
      simp [Builtin.append_, h0, h1, run_underlying hu, run_underlying hk, sizeOf, typeInfo, zeroValue, hz, hie, asInt, asIntOf, hwr, hneg, hbig, hc0, hs, hn, h63, h48, Question.forced, hold, newRow, grownCap]
    · simp [Builtin.append_, h0, h1, run_underlying hu, run_underlying hk, sizeOf, typeInfo, zeroValue, hz, hie, asInt, asIntOf, hwr, hneg, hbig, hc0, hs, hn, h63, h48, Question.forced, hold, newRow, grownCap]
      congr 2
      apply Array.ext'
      simp [List.append_assoc, hnews]
end Go.Sim
namespace Go.Sim

mutual
theorem RepE.one {fz : Nat → Nat → Option Value} : ∀ {e : Ep} {h : List Hv} {j : Nat} {cs : List Value}, RepE fz e h j cs → ∀ x ∈ cs, x.oneCell' = true
  | .int k, h, j, cs, r, x, hx => by simp only [RepE] at r; subst r; simp only [List.mem_singleton] at hx; subst hx; rfl
  | .bool, h, j, cs, r, x, hx => by simp only [RepE] at r; subst r; simp only [List.mem_singleton] at hx; subst hx; rfl
  | .str, h, j, cs, r, x, hx => by simp only [RepE] at r; subst r; simp only [List.mem_singleton] at hx; subst hx; rfl
  | .arr k n, h, j, cs, r, x, hx => by simp only [RepE] at r; subst r; simp only [arrCells, List.mem_map] at hx; obtain ⟨_, _, rfl⟩ := hx; rfl
  | .agg es, h, j, cs, r, x, hx => by simp only [RepE] at r; exact RepEL.one r x hx
  | .sl (.int k), h, j, cs, r, x, hx => by simp only [RepE] at r; obtain ⟨L, rfl, _⟩ := r; simp only [List.mem_singleton] at hx; subst hx; rfl
  | .sl .bool, h, j, cs, r, x, hx | .sl .str, h, j, cs, r, x, hx | .sl (.arr _ _), h, j, cs, r, x, hx | .sl (.agg _), h, j, cs, r, x, hx | .sl (.sl _), h, j, cs, r, x, hx => by
    unfold RepE at r; obtain ⟨L, rfl, _⟩ := r; simp only [List.mem_singleton] at hx; subst hx; rfl
theorem RepEL.one {fz : Nat → Nat → Option Value} : ∀ {es : List Ep} {h : List Hv} {j : Nat} {cs : List Value}, RepEL fz es h j cs → ∀ x ∈ cs, x.oneCell' = true
  | [], h, j, cs, r, x, hx => by simp only [RepEL] at r; subst r; cases hx
  | e :: es, h, j, cs, r, x, hx => by
    simp only [RepEL] at r
    obtain ⟨a, b, rfl, ra, rb⟩ := r
    rcases List.mem_append.1 hx with hx | hx
    · exact RepE.one ra x hx
    · exact RepEL.one rb x hx
end

def MemOk (P : Program) (nm k : Nat) (ρ : Ren) (hp : Hp) (w : World) (s : Sem Value) (v : AV) (hp' : Hp) : Prop :=
  ∃ ρ' w', s.run P w = .ok (v.enc ρ') w' ∧ Adv nm k ρ hp w ρ' hp' w' ∧ ∀ m, Pres hp (.nm m) → ρ m = ρ' m

/-- where an append writes -/
def Dst (ρ : Ren) (hp : Hp) (w : World) (s : AV) (L : Loc) (es len : Nat) (c : Nat → List Value) : Prop :=
  (s = .lit .nilSlice ∧ L = ⟨0, 0, 0, true⟩ ∧ len = 0) ∨
    ∃ n t, s = .x (.sln n len) ∧ L = ρ n ∧ hp.getD n none = some t ∧ RowRw w L es len c ∧ (∀ b o, L.nl = false → b = L.b → L.o ≤ o → o < L.o + L.cap * es → rgn L t b o) ∧ ClosedH (setP none hp n (some (.x (.obj (.dead len)))))

theorem Dst.enc {ρ : Ren} {hp : Hp} {w : World} {s : AV} {L : Loc} {es len : Nat} {c : Nat → List Value} (h : Dst ρ hp w s L es len c) : s.enc ρ = sliceV L len := by
  rcases h with ⟨rfl, rfl, rfl⟩ | ⟨n, t, rfl, rfl, _⟩ <;> rfl
theorem Dst.rw {ρ : Ren} {hp : Hp} {w : World} {s : AV} {L : Loc} {es len : Nat} {c : Nat → List Value} (h : Dst ρ hp w s L es len c) : RowRw w L es len c := by
  rcases h with ⟨rfl, rfl, rfl⟩ | ⟨n, t, rfl, rfl, _, h, _⟩
  · exact ⟨Nat.le_refl _, fun _ => ⟨rfl, rfl⟩, fun q => by cases q⟩
  · exact h
theorem le_rows {i len es : Nat} (h : i < len) : i * es + es ≤ len * es := by
  have := Nat.mul_le_mul_right es (show i + 1 ≤ len by omega)
  rw [Nat.add_mul, Nat.one_mul] at this; exact this
theorem olds_of {P : Program} {w : World} {L : Loc} {es len : Nat} {c : Nat → List Value} (h : RowRw w L es len c) :
    ∃ olds : List Value, olds.length = len * es ∧ (Builtin.firstCells es len (sliceV L len)).run P w.drew = .ok olds.toArray w.drew ∧ ∀ i j, i < len → j < es → olds[i * es + j]? = (c i)[j]? := by
  cases hn : L.nl with
  | true =>
    obtain ⟨h1, h2⟩ := h.nil hn
    refine ⟨[], by rw [h1]; simp, ?_, fun i j hi => by omega⟩
    unfold sliceV
    rw [hn]
    exact run_firstCells_none _ _ _ _ _
  | false =>
    obtain ⟨cs, e, lo, hi, h1, h2, h3, h4⟩ := h.at_ hn
    have hle : len * es ≤ L.cap * es := Nat.mul_le_mul_right _ h.cap
    refine ⟨(cs.toList.drop L.o).take (len * es), by simp; omega, ?_, fun i j hi hj => ?_⟩
    · unfold sliceV
      rw [hn]
      refine run_firstCells_some w.drew es len ⟨L.b, L.o, none⟩ len L.cap _ (by simp; omega) (fun j v hv => ?_)
      rw [addr_add]
      have hd : w.drew.cell? ⟨L.b, L.o + j, none⟩ = w.cell? ⟨L.b, L.o + j, none⟩ := rfl
      rw [hd, cell_at h1]
      rw [List.getElem?_take] at hv
      split at hv
      · rw [List.getElem?_drop] at hv
        simpa using hv
      · cases hv
    · have := le_rows (es := es) hi
      rw [List.getElem?_take, if_pos (by omega), List.getElem?_drop, ← h4 i hi j hj, Nat.add_assoc]
      simp
set_option maxHeartbeats 400000 in
theorem app_core {P : Program} {nm k : Nat} {ρ : Ren} {hp : Hp} {w : World} {ts : Array TypeId} {ty t e : TypeId} {ie : TypeInfo} {z x : Value} {s T : AV} {n len es : Nat} {news : List Value} {L : Loc} {c d : Nat → List Value}
    (h0 : ts[0]? = some t) (hu : P.underlying t = some (.slice e)) (hie : P.info? e = some ie) (hz : ie.zero = some z) (hzs : z.cells.size = es) (hes : ie.size = es) (hb : ie.bytes ≤ 512) (hlt : len + n < 68719476736)
    (hr : RepW ρ hp w) (hh : ClosedH hp) (hfree : hp.getD nm none = none) (hk : 1 ≤ k) (hsrc : SrcA P ie z ts x n news w) (hone : ∀ u ∈ news, u.oneCell' = true) (hnl : news.length = n * es)
    (hnews : ∀ i j, i < n → j < es → news[i * es + j]? = (d i)[j]?) (hdst : Dst ρ hp w s L es len c)
    (hB : ∀ (ρ' : Ren) (w' : World), ρ'.fz = ρ.fz → RowRw w' (ρ' nm) es (len + n) (fun i => if i < len then c i else d (i - len)) → BlkRep ρ' w' nm T)
    (hT : ∀ L b o, rgn L T b o → L.nl = false ∧ b = L.b ∧ L.o ≤ o ∧ o < L.o + L.cap * es) :
    MemOk P nm k ρ hp w (Builtin.append_ ts ty #[s.enc ρ, x]) (.x (.sln nm (len + n))) (setP none (killV hp s) nm (some T)) := by
  have hrow := hdst.rw
  rw [hdst.enc]
  have hkeep : ∀ L', ∀ m, Pres hp (.nm m) → ρ m = (ρ.upd nm L').loc m := fun L' m ⟨y, hy⟩ => (upd_loc (fun e => by subst e; rw [hfree] at hy; cases hy)).symm
  by_cases hroom : len + n ≤ L.cap
  · cases hnlL : L.nl with
    | true =>
      obtain ⟨q1, q2⟩ := hrow.nil hnlL
      have hn0 : n = 0 := by omega
      subst hn0
      have hrun := append_room (ty := ty) h0 hu hie hz hsrc (a := none) (len := len) (cap := L.cap) (w' := w) hroom (fun b q => by cases q) (fun _ => rfl)
      have henc : (AV.x (.sln nm (len + 0))).enc (ρ.upd nm L) = .slice none (len + 0) L.cap := by
        rw [sln_enc]; unfold sliceV; simp only [upd_self, hnlL, if_true]
      have hBl : ∀ ρ' : Ren, ρ'.fz = ρ.fz → ρ' nm = L → BlkRep ρ' w nm T := fun ρ' hf hl => hB ρ' w hf ⟨by rw [hl]; omega, fun _ => by rw [hl]; omega, fun q => by rw [hl, hnlL] at q; cases q⟩
      have hro : ∀ b o, ¬ rgn L T b o := fun b o q => by have := (hT L b o q).1; rw [hnlL] at this; cases this
      rcases hdst with ⟨rfl, rfl, rfl⟩ | ⟨m, tt, rfl, rfl, hm, _, _, hc1⟩
      · refine ⟨_, w, by rw [henc]; simpa [sliceV] using hrun, Adv.add_ro hr hfree hh ⟨Nat.le_refl _, by omega⟩ (hBl _ rfl upd_self) hro, hkeep _⟩
      · have hmn : m ≠ nm := fun e => by subst e; rw [hfree] at hm; cases hm
        have a1 : Adv nm k ρ hp w ρ (setP none hp m (some (.x (.obj (.dead len))))) w := Adv.entry hr hm (by simp only [BlkRep]; omega) (fun b o q => q.elim)
        refine ⟨_, w, by rw [henc]; unfold sliceV; rw [hnlL]; exact hrun, a1.trans (Adv.add_ro (n := nm) a1.rep (by rw [getD_setP, if_neg hmn]; exact hfree) hc1 ⟨Nat.le_refl _, by omega⟩ (hBl _ rfl upd_self) hro), hkeep _⟩
    | false =>
      rcases hdst with ⟨rfl, rfl, rfl⟩ | ⟨m, tt, rfl, rfl, hm, _, htt, hc1⟩
      · cases hnlL
      obtain ⟨cs, el, lo, hi, h1, h2, h3, h4⟩ := hrow.at_ hnlL
      have hle : (len + n) * es ≤ (ρ m).cap * es := Nat.mul_le_mul_right _ hroom
      have hmul : (len + n) * es = len * es + n * es := Nat.add_mul ..
      have hst := run_storeCells_cells (P := P) (ρ m).b ((ρ m).o + len * es) news 0 w (fun j hj => by
        rw [cell_at h1, Array.getElem?_eq_getElem (by omega)]; rfl) (fun j hj => by
        unfold World.frozen?
        simp only [h1, Nat.add_zero]
        have := h3 ((ρ m).o + len * es + j) (by omega) (by omega)
        simp only [Bool.and_eq_false_imp, decide_eq_true_eq, decide_eq_false_iff_not]
        omega) hone
      obtain ⟨c', g1, g2, g3, g4⟩ := wr_setCells (vs := news) (o := (ρ m).o + len * es) h1 (by omega)
      have hrun := append_room (ty := ty) h0 hu hie hz hsrc (a := some ⟨(ρ m).b, (ρ m).o, none⟩) (len := len) (cap := (ρ m).cap) (w' := w.setCells (ρ m).b ((ρ m).o + len * es) news) hroom (fun b q => by
        cases q
        rw [hes, addr_add]
        simpa using hst) (fun q => by cases q)
      refine ⟨ρ.upd nm (ρ m), _, ?_, Adv.move hr hm hfree hc1 hk g4 (fun o ho => htt _ _ hnlL rfl (by omega) (by omega)) (fun _ => hnlL) (hB _ _ rfl ?_) (fun b o q => ?_), hkeep _⟩
      · rw [sln_enc, upd_self]
        unfold sliceV
        rw [hnlL]
        exact hrun
      · rw [upd_self]
        refine ⟨hroom, (fun q => by rw [hnlL] at q; cases q), fun _ => ⟨c', el, lo, hi, g1, by rw [g2]; exact h2, h3, fun i hi j hj => ?_⟩⟩
        rw [g3]
        by_cases hil : i < len
        · have := le_rows (es := es) hil
          rw [if_neg (by omega), h4 i hil j hj]
          simp only [if_pos hil]
        · have e1 : i * es = len * es + (i - len) * es := by rw [← Nat.add_mul, show len + (i - len) = i by omega]
          have e2 := le_rows (es := es) (show i - len < n by omega)
          rw [if_pos (by omega), show (ρ m).o + i * es + j - ((ρ m).o + len * es) = (i - len) * es + j by omega, hnews (i - len) j (by omega) hj]
          simp only [if_neg hil]
      · have := hT _ _ _ q
        exact htt b o this.1 this.2.1 this.2.2.1 this.2.2.2
  · have hg : L.cap < len + n := by omega
    obtain ⟨olds, o1, o2, o3⟩ := olds_of (P := P) hrow
    have hge := grownCap_ge w (len + n) L.cap e
    have hmul : (len + n) * es = len * es + n * es := Nat.add_mul ..
    have hrun := append_grow (ty := ty) h0 hu hie hz hsrc (a := if L.nl then none else some ⟨L.b, L.o, none⟩) (len := len) (cap := L.cap) (olds := olds) (by rw [hes]; exact o2) hb hg hlt
    have hs1 : Same w (w.drew.alloc (.cells ((olds ++ news).toArray ++ Builtin.zeroCells z.cells (grownCap w (len + n) L.cap e - (len + n))) e)) := (same_drew w).tr (same_alloc w.drew _)
    have hsz : ((olds ++ news).toArray ++ Builtin.zeroCells z.cells (grownCap w (len + n) L.cap e - (len + n))).size = grownCap w (len + n) L.cap e * es := by
      simp only [Builtin.zeroCells, Array.size_append, List.size_toArray, List.length_append, Array.size_map, Array.size_range, o1, hnl, hzs]
      rw [← hmul, ← Nat.add_mul, show len + n + (grownCap w (len + n) L.cap e - (len + n)) = grownCap w (len + n) L.cap e by omega]
    have hrowN : RowRw (w.drew.alloc (.cells ((olds ++ news).toArray ++ Builtin.zeroCells z.cells (grownCap w (len + n) L.cap e - (len + n))) e)) ⟨w.heap.size, 0, grownCap w (len + n) L.cap e, false⟩ es (len + n) (fun i => if i < len then c i else d (i - len)) := by
      refine alloc_rw (w := w.drew) hge hsz (fun i j hi hj => ?_)
      have e0 := le_rows (es := es) hi
      rw [Array.getElem?_append_left (by simp [o1, hnl]; omega)]
      simp only [List.getElem?_toArray]
      by_cases hil : i < len
      · have := le_rows (es := es) hil
        rw [List.getElem?_append_left (by omega), o3 i j hil hj]
        simp only [if_pos hil]
      · have e1 : i * es = len * es + (i - len) * es := by rw [← Nat.add_mul, show len + (i - len) = i by omega]
        rw [List.getElem?_append_right (by omega), o1, show i * es + j - len * es = (i - len) * es + j by omega, hnews (i - len) j (by omega) hj]
        simp only [if_neg hil]
    have hBl : ∀ ρ' : Ren, ρ'.fz = ρ.fz → ρ' nm = ⟨w.heap.size, 0, grownCap w (len + n) L.cap e, false⟩ → BlkRep ρ' (w.drew.alloc (.cells ((olds ++ news).toArray ++ Builtin.zeroCells z.cells (grownCap w (len + n) L.cap e - (len + n))) e)) nm T :=
      fun ρ' hf hl => hB ρ' _ hf (by rw [hl]; exact hrowN)
    have hro : ∀ b o, rgn ⟨w.heap.size, 0, grownCap w (len + n) L.cap e, false⟩ T b o → w.heap.size ≤ b := fun b o q => by have := (hT _ b o q).2.1; simp only at this; omega
    refine ⟨ρ.upd nm ⟨w.heap.size, 0, grownCap w (len + n) L.cap e, false⟩, _, by rw [sln_enc, upd_self]; exact hrun, ?_, hkeep _⟩
    rcases hdst with ⟨rfl, rfl, rfl⟩ | ⟨m, tt, rfl, rfl, hm, _, _, hc1⟩
    · exact Adv.add_new hr hfree hh ⟨Nat.le_refl _, by omega⟩ hs1 (hBl _ rfl upd_self) hro
    · have hmn : m ≠ nm := fun e => by subst e; rw [hfree] at hm; cases hm
      have a1 : Adv nm k ρ hp w ρ (setP none hp m (some (.x (.obj (.dead len))))) w := Adv.entry hr hm (by
        simp only [BlkRep]
        intro q
        cases hq : (ρ m).nl with
        | false => rfl
        | true => have := (hrow.nil hq).1; omega) (fun b o q => q.elim)
      exact a1.trans (Adv.add_new (n := nm) a1.rep (by rw [getD_setP, if_neg hmn]; exact hfree) hc1 ⟨Nat.le_refl _, by omega⟩ hs1 (hBl _ rfl upd_self) hro)
end Go.Sim
namespace Go.Sim

/-- reading a row -/
theorem src_rd {P : Program} {w : World} {L : Loc} {es len n : Nat} {c : Nat → List Value} (hn : n ≤ len) (hnil : L.nl = true → len = 0) (hc : ∀ i j, i < len → j < es → w.cell? ⟨L.b, L.o + i * es + j, none⟩ = (c i)[j]?) (hl : ∀ i, i < len → (c i).length = es) :
    ∃ news : List Value, news.length = n * es ∧ (∀ w' : World, w'.heap = w.heap → (Builtin.firstCells es n (sliceV L len)).run P w' = .ok news.toArray w') ∧ (∀ i j, i < n → j < es → news[i * es + j]? = (c i)[j]?) ∧ ∀ u ∈ news, ∃ i, i < n ∧ u ∈ c i := by
  cases hq : L.nl with
  | true =>
    have h0 := hnil hq
    have hn0 : n = 0 := by omega
    subst hn0
    exact ⟨[], by simp, fun w' _ => by unfold sliceV; rw [hq]; exact run_firstCells_none _ _ _ _ _, fun i j hi => by omega, fun u hu => by cases hu⟩
  | false =>
    have at_ : ∀ q, q < n * es → ∃ u, (c (q / es))[q % es]? = some u ∧ w.cell? ⟨L.b, L.o + q, none⟩ = some u ∧ q / es < n ∧ u ∈ c (q / es) := fun q hq => by
      have hes : 0 < es := by
        rcases Nat.eq_zero_or_pos es with h | h
        · rw [h] at hq; simp at hq
        · exact h
      have h1 : q / es < n := (Nat.div_lt_iff_lt_mul hes).2 hq
      have h2 : q % es < es := Nat.mod_lt _ hes
      have h3 := hc (q / es) (q % es) (by omega) h2
      have h4 := hl (q / es) (by omega)
      have h5 : q / es * es + q % es = q := by rw [Nat.mul_comm]; exact Nat.div_add_mod q es
      rw [Nat.add_assoc, h5, List.getElem?_eq_getElem (by omega)] at h3
      exact ⟨_, List.getElem?_eq_getElem (by omega), h3, h1, List.getElem_mem _⟩
    have get : ∀ q, q < n * es → ((List.range (n * es)).map fun q => ((c (q / es))[q % es]?).getD undef)[q]? = (c (q / es))[q % es]? := fun q hq => by
      obtain ⟨u, h1, _⟩ := at_ q hq
      rw [List.getElem?_map, List.getElem?_range hq, Option.map_some, h1]; rfl
    refine ⟨(List.range (n * es)).map fun q => ((c (q / es))[q % es]?).getD undef, by simp, fun w' hw' => ?_, fun i j hi hj => ?_, fun u hu => ?_⟩
    · unfold sliceV
      rw [hq]
      refine run_firstCells_some w' es n ⟨L.b, L.o, none⟩ len L.cap _ (by simp) (fun j v hv => ?_)
      rw [addr_add]
      have hlt : j < n * es := by have := (List.getElem?_eq_some_iff.1 hv).1; simpa using this
      rw [get j hlt] at hv
      obtain ⟨u, h1, h2, _⟩ := at_ j hlt
      rw [h1] at hv; cases hv
      have : w'.cell? ⟨L.b, L.o + j, none⟩ = w.cell? ⟨L.b, L.o + j, none⟩ := by unfold World.cell?; rw [hw']
      rw [this]; exact h2
    · have e0 := le_rows (es := es) hi
      rw [get _ (by omega)]
      have d1 : (i * es + j) / es = i := by rw [Nat.mul_comm, Nat.mul_add_div (by omega), Nat.div_eq_of_lt hj, Nat.add_zero]
      have d2 : (i * es + j) % es = j := by rw [Nat.mul_comm, Nat.mul_add_mod, Nat.mod_eq_of_lt hj]
      rw [d1, d2]
    · obtain ⟨q, hq, rfl⟩ := List.mem_map.1 hu
      obtain ⟨u, h1, _, h3, h4⟩ := at_ q (List.mem_range.1 hq)
      rw [h1]
      exact ⟨_, h3, h4⟩

/-- a text's bytes -/
theorem str_rd {P : Program} {a : List UInt8} {n : Nat} (hn : n ≤ a.length) : ∃ news : List Value, news.length = n * 1 ∧ (∀ w' : World, (Builtin.firstCells 1 n (.string ⟨a.toArray⟩)).run P w' = .ok news.toArray w') ∧
    (∀ i j, i < n → j < 1 → news[i * 1 + j]? = [Value.int .u8 ((intL a).getD i 0)][j]?) ∧ ∀ u ∈ news, u.oneCell' = true := by
  refine ⟨(a.take n).map fun b => Value.int .u8 b.toNat, by simp; omega, fun w' => ?_, fun i j hi hj => ?_, fun u hu => ?_⟩
  · have : (⟨a.toArray⟩ : ByteArray).extract 0 n = ⟨(a.take n).toArray⟩ := by rw [extract_list]; simp
    simp only [Builtin.firstCells, this, Sem.run_pure]
    congr 1
    apply Array.ext'
    simp
  · have : j = 0 := by omega
    subst this
    simp only [Nat.mul_one, Nat.add_zero, List.getElem?_map, List.getElem?_take, if_pos hi, List.getElem?_cons_zero]
    rw [List.getElem?_eq_getElem (by omega)]
    simp [intL, List.getD_eq_getElem?_getD, List.getElem?_eq_getElem (show i < a.length by omega)]
  · obtain ⟨b, _, rfl⟩ := List.mem_map.1 hu
    rfl

theorem dst_ints {ρ : Ren} {hp : Hp} {w : World} {s : AV} {k : IntKind} {l : List Int} (h : dstInts hp k s = some l) (hr : RepW ρ hp w) (hh : ClosedH hp) (hc : ClosedV hp s) : ∃ L, Dst ρ hp w s L 1 l.length (fun i => [.int k (l.getD i 0)]) := by
  have hg := (kill_grows (.inl ⟨k, l, h⟩) hc).closed hh
  unfold dstInts at h
  split at h
  · cases h; exact ⟨_, .inl ⟨rfl, rfl, rfl⟩⟩
  · rename_i n len
    obtain ⟨tt, ht, hl⟩ := hc (.ln n len) (by simp [AV.has, XV.has])
    split at h
    · rename_i k' l' hn
      rw [hn] at ht; cases ht
      simp only [AV.lenOk] at hl
      subst hl
      cases hk : decide (k' = k) with
      | false => rw [hk] at h; cases h
      | true =>
        have := of_decide_eq_true hk
        subst this
        rw [hk] at h; cases h
        have hb := hr.blk n _ hn
        simp only [BlkRep] at hb
        exact ⟨ρ n, .inr ⟨n, _, rfl, rfl, hn, hb, fun b o h1 h2 h3 h4 => ⟨rfl, h1, h2, h3, h4⟩, hg⟩⟩
    · cases h
  · cases h
theorem dst_rows {ρ : Ren} {hp : Hp} {w : World} {s : AV} {e : Ep} {l : List (List Hv)} (h : dstRows hp e s = some l) (hr : RepW ρ hp w) (hh : ClosedH hp) (hc : ClosedV hp s) :
    ∃ L c, (∀ i, i < l.length → RepE ρ.fz e (l.getD i []) 0 (c i)) ∧ Dst ρ hp w s L e.size l.length c := by
  have hg := (kill_grows (.inr ⟨e, l, h⟩) hc).closed hh
  unfold dstRows at h
  split at h
  · cases h; exact ⟨_, fun _ => [], fun i hi => by simp at hi, .inl ⟨rfl, rfl, rfl⟩⟩
  · rename_i n len
    obtain ⟨tt, ht, hl⟩ := hc (.ln n len) (by simp [AV.has, XV.has])
    split at h
    · rename_i e' l' hn
      rw [hn] at ht; cases ht
      simp only [AV.lenOk] at hl
      subst hl
      cases hk : Ep.beq e' e with
      | false => rw [hk] at h; cases h
      | true =>
        have := Ep.beq_eq _ _ hk
        subst this
        rw [hk] at h; cases h
        have hb := hr.blk n _ hn
        simp only [BlkRep] at hb
        obtain ⟨c, h1, h2⟩ := hb
        exact ⟨ρ n, c, h1, .inr ⟨n, _, rfl, rfl, hn, h2, fun b o h1 h2 h3 h4 => ⟨rfl, h1, h2, h3, h4⟩, hg⟩⟩
    · cases h
  · cases h
theorem ty_plain {P : Program} {t : Option TypeId} (h : tyOk P t = true) (hi : isIntsT P t = false) : t = none ∨ ∃ tx, t = some tx ∧ ((∃ e', P.underlying tx = some (.slice e')) ∨ P.underlying tx = some .string) := by
  cases t with
  | none => exact .inl rfl
  | some tx =>
    refine .inr ⟨tx, rfl, ?_⟩
    unfold tyOk at h
    unfold isIntsT at hi
    simp only at h hi
    split at h
    · rename_i e hu; exact .inl ⟨e, hu⟩
    · rename_i hu; exact .inr hu
    · rename_i k hu; rw [hu] at hi; cases hi
    · cases h
theorem ty_ints {P : Program} {t : Option TypeId} (hi : isIntsT P t = true) : ∃ tx k, t = some tx ∧ P.underlying tx = some (.int k) := by
  unfold isIntsT at hi
  split at hi
  · rename_i tx
    split at hi
    · rename_i k hu; exact ⟨tx, k, rfl, hu⟩
    · cases hi
  · cases hi
theorem getD_append_ints {l m : List Int} {i : Nat} : (l ++ m).getD i 0 = if i < l.length then l.getD i 0 else m.getD (i - l.length) 0 := by
  simp only [List.getD_eq_getElem?_getD]
  split
  · rename_i h; rw [List.getElem?_append_left h]
  · rename_i h; rw [List.getElem?_append_right (by omega)]
theorem getD_append_rows {l m : List (List Hv)} {i : Nat} : (l ++ m).getD i [] = if i < l.length then l.getD i [] else m.getD (i - l.length) [] := by
  simp only [List.getD_eq_getElem?_getD]
  split
  · rename_i h; rw [List.getElem?_append_left h]
  · rename_i h; rw [List.getElem?_append_right (by omega)]

theorem app_adv {P : Program} {ts : Array TypeId} {ty : TypeId} {hp hp' : Hp} {nm k : Nat} {s x v : AV} {ρ : Ren} {w : World} (h : appK P ts hp nm s x (fun v h => some (v, h)) = some (v, hp')) (hr : RepW ρ hp w) (hh : ClosedH hp) (hw : WfH hp)
    (hcs : ClosedV hp s) (hcx : ClosedV hp x) (hvx : x.wf) (hk : 1 ≤ k) : MemOk P nm k ρ hp w (Builtin.append_ ts ty #[s.enc ρ, x.enc ρ]) v hp' := by
  have hty := app_ty h
  cases app_ok h with
  | ints t e ie kk z l m ht hu hie hb hnm hkk hz hd hs hm hlt hv hh' =>
    subst hv; subst hh'
    obtain ⟨L, hdst⟩ := dst_ints hd hr hh hcs
    obtain ⟨ie', z0, hie', hz0, hzc, _, _⟩ := zeroA_spec hz
    rw [hie] at hie'; cases hie'
    have hz1 : z0.cells = #[.int kk z] := by
      apply Array.ext'
      rw [hzc ρ]; simp [AV.cells]
    have fin : ∀ news : List Value, SrcA P ie z0 ts (x.enc ρ) m.length news w → (∀ u ∈ news, u.oneCell' = true) → news.length = m.length * 1 → (∀ i j, i < m.length → j < 1 → news[i * 1 + j]? = [Value.int kk (m.getD i 0)][j]?) →
        MemOk P nm k ρ hp w (Builtin.append_ ts ty #[s.enc ρ, x.enc ρ]) (.x (.sln nm (l ++ m).length)) (setP none (killV hp s) nm (some (.x (.obj (.ints kk (l ++ m) true))))) := by
      intro news g1 g2 g3 g4
      rw [List.length_append]
      refine app_core ht hu hie hz0 (by rw [hz1]; rfl) hs hb hlt hr hh hnm hk g1 g2 g3 g4 hdst (fun ρ' w' hf hrow => ?_) (fun L b o q => ?_)
      · simp only [BlkRep, List.length_append]
        refine ⟨hrow.cap, hrow.nil, fun q => ?_⟩
        obtain ⟨cs, el, lo, hi', q1, q2, q3, q4⟩ := hrow.at_ q
        refine ⟨cs, el, lo, hi', q1, q2, q3, fun i hi j hj => ?_⟩
        rw [q4 i hi j hj, getD_append_ints]
        split <;> rfl
      · simp only [rgn] at q
        exact ⟨q.2.1, q.2.2.1, q.2.2.2.1, q.2.2.2.2⟩
    rcases hm with ⟨hi, k', c, rfl, hc, rfl⟩ | ⟨hi, ⟨a, rfl, rfl, rfl⟩ | ⟨ro, hx⟩⟩
    · obtain ⟨tx, kt, h1, h2⟩ := ty_ints hi
      have hc' := inB_iff.1 hc
      have hzl : (Builtin.zeroCells z0.cells c.toNat).toList = List.replicate c.toNat (Value.int kk z) := by
        apply List.ext_getElem?
        intro q
        simp only [Builtin.zeroCells, hz1]
        simp only [List.getElem?_replicate, Array.getElem?_toList, Array.getElem?_map]
        by_cases hq : q < c.toNat
        · rw [if_pos hq]; simp [hq, Nat.mod_one]
        · rw [if_neg hq]; simp; omega
      refine fin (Builtin.zeroCells z0.cells c.toNat).toList ?_ ?_ ?_ ?_
      · exact .zeros tx kt h1 h2 k' c (by simp [AV.enc]) hc'.1 (by omega) (by simp) hb hs (by rw [hz1]; rfl) (by simp)
      · intro u hu; rw [hzl] at hu; rw [(List.mem_replicate.1 hu).2]; rfl
      · rw [hzl]; simp
      · intro i j hi hj
        have : j = 0 := by omega
        subst this
        simp only [List.length_replicate] at hi
        rw [hzl]
        simp [hi, List.getD_eq_getElem?_getD]
    · obtain ⟨news, g1, g2, g3, g4⟩ := str_rd (P := P) (a := a) (n := a.length) (Nat.le_refl _)
      have hml : (intL a).length = a.length := by simp [intL]
      refine fin news ?_ g4 (by rw [hml]; exact g1) (fun i j hi hj => g3 i j (by omega) hj)
      refine .plain (ty_plain hty hi) (fun w' => ?_) ?_ ?_
      · rw [hml]; simp [AV.enc, Builtin.lenOf, ByteArray.size]
      · rw [hml, hs]; simpa only [AV.enc] using g2 w
      · rw [hml, hs]; simpa only [AV.enc] using g2 w.drew
    · obtain ⟨m', e1, L', q1, _, q3⟩ := slRes_ints_rep (fz' := fun b o => w.cell? ⟨b, o, none⟩) hx hr hw hcx hvx hr.fz (.inr fun _ _ _ => rfl)
      cases e1
      have hnl : L'.nl = true → m.length = 0 := fun q => (q3.nil q).1
      obtain ⟨news, g1, g2, g3, g4⟩ := src_rd (P := P) (w := w) (L := L') (es := 1) (n := m.length) (c := fun i => [.int kk (m.getD i 0)]) (Nat.le_refl _) hnl (fun i j hi hj => q3.at_ (by
        cases hq : L'.nl with
        | false => rfl
        | true => have := hnl hq; omega) i hi j hj) (fun _ _ => rfl)
      refine fin news ?_ (fun u hu => ?_) g1 g3
      · refine .plain (ty_plain hty hi) (fun w' => by rw [q1]; rfl) ?_ ?_
        · rw [hs, q1]; exact g2 w rfl
        · rw [hs, q1]; exact g2 w.drew rfl
      · obtain ⟨i, _, hu⟩ := g4 u hu
        simp only [List.mem_singleton] at hu
        subst hu; rfl
  | rows t e ie ep z l m ro ht hu hie hb hnm hni hep hz hd hne hx hs h1 hlt hv hh' =>
    subst hv; subst hh'
    obtain ⟨L, c, hc1, hdst⟩ := dst_rows hd hr hh hcs
    obtain ⟨m', e1, L', q1, _, d, hd1, q3⟩ := slRes_rows_rep (fz' := fun b o => w.cell? ⟨b, o, none⟩) hne hx hr hcx hr.fz (.inr fun _ _ _ => rfl)
    cases e1
    have hnl : L'.nl = true → m.length = 0 := fun q => (q3.nil q).1
    obtain ⟨news, g1, g2, g3, g4⟩ := src_rd (P := P) (w := w) (L := L') (es := ep.size) (n := m.length) (c := d) (Nat.le_refl _) hnl (fun i j hi hj => q3.at_ (by
      cases hq : L'.nl with
      | false => rfl
      | true => have := hnl hq; omega) i hi j hj) (fun i hi => (hd1 i hi).len)
    rw [List.length_append]
    refine app_core ht hu hie hz (by rw [hs.2, hs.1]) hs.1.symm hb hlt hr hh hnm hk (.plain (ty_plain hty h1) (fun w' => by rw [q1]; rfl) (by rw [← hs.1, q1]; exact g2 w rfl) (by rw [← hs.1, q1]; exact g2 w.drew rfl)) (fun u hu => ?_) g1 g3 hdst (fun ρ' w' hf hrow => ?_) (fun L b o q => ?_)
    · obtain ⟨i, hi, hu⟩ := g4 u hu
      exact (hd1 i hi).one u hu
    · simp only [BlkRep, List.length_append]
      refine ⟨_, fun i hi => ?_, hrow⟩
      rw [getD_append_rows, hf]
      split
      · rename_i h; exact hc1 i h
      · exact hd1 _ (by omega)
    · simp only [rgn] at q
      exact ⟨q.2.1, q.2.2.1, q.2.2.2.1, q.2.2.2.2⟩
end Go.Sim
namespace Go.Sim

theorem store_run {P : Program} {t : TypeId} {v : AV} {ρ : Ren} {w : World} {b o : Nat} (hf : fits P t v = true) (h1 : v.oneA = true) (hc : ∀ j, j < v.size → (w.cell? ⟨b, o + j, none⟩).isSome = true) (hz : ∀ j, j < v.size → w.frozen? ⟨b, o + j, none⟩ = false) :
    (Instr.storeAt t (.pointer (some ⟨b, o, none⟩)) (v.enc ρ)).run P w = .ok () (w.setCells b o (v.cells ρ)) := by
  obtain ⟨i, d, hi, hd, hs, hr⟩ := fits_spec hf
  have hsz : (v.enc ρ).cells.size = v.size := by rw [← Array.length_toList, enc_cells, cells_length]
  have hst := run_storeCells_cells (P := P) b o (v.cells ρ) 0 w (fun j hj => by rw [cells_length] at hj; exact hc j hj) (fun j hj => by rw [cells_length] at hj; exact hz j hj) (oneA_cells ρ v h1)
  simp only [Instr.storeAt, Instr.sureAddr, Sem.run_bind, Sem.run_pure, Result.andThen_ok, storeVar, run_sizeOf' hi, hsz, hs, ne_eq, not_true_eq_false, if_false, enc_cells, hst]
  rfl
theorem oneA_tree {v : AV} (h : v.oneA = true) : v.isTree = true := by
  unfold AV.isTree
  cases v <;> first | rfl | (simp [AV.oneA] at h; done) | skip
  rename_i u
  cases u <;> first | rfl | simp [AV.oneA, XV.isObj] at h
theorem isTree_iff {v : AV} : v.isTree = true ↔ v.isObj = false ∧ v.isFz = false := by
  unfold AV.isTree
  cases v.isObj <;> cases v.isFz <;> simp
theorem put_isTree : ∀ (p : List Sel) (v x v' : AV), put p v x = some v' → x.isTree = true → v'.isTree = true
  | [], v, x, v', h, hx => by
    simp only [put, putK] at h
    cases hb : Nat.beq v.size x.size with
    | false => rw [hb] at h; cases h
    | true => rw [hb] at h; cases h; exact hx
  | .fld o i :: p, v, x, v', h, hx => by
    cases v with
    | agg ts =>
      simp only [put, putK] at h
      split at h
      · rename_i t ht
        cases hb : Nat.beq (AV.sizeL (ts.take i)) o with
        | false => rw [hb] at h; cases h
        | true =>
          rw [hb, cond_true, putK_eq] at h
          cases hp : put p t x with
          | none => rw [hp] at h; cases h
          | some t' => rw [hp] at h; cases h; rfl
      · cases h
    | _ => simp [put, putK] at h
  | [.elt i], v, x, v', h, hx => by
    cases v with
    | arr k n l =>
      cases x with
      | int k' m =>
        simp only [put, putK] at h
        cases hd : decide (k' = k) with
        | false => rw [hd] at h; cases h
        | true =>
          cases hb : Nat.blt i n with
          | false => rw [hd, hb] at h; cases h
          | true => rw [hd, hb] at h; cases h; rfl
      | _ => simp [put, putK] at h
    | _ => simp [put, putK] at h
  | .elt i :: s :: p, v, x, v', h, hx => by cases v <;> cases x <;> simp [put, putK] at h

/-- a write into a tree -/
theorem tree_write {nm k n : Nat} {ρ : Ren} {hp : Hp} {w : World} {p : List Sel} {t x t' : AV} (hr : RepW ρ hp w) (hn : hp.getD n none = some t) (ht : t.isTree = true) (hp' : put p t x = some t') (hx : x.isTree = true) :
    Adv nm k ρ hp w ρ (setP none hp n (some t')) (w.setCells (ρ n).1 ((ρ n).2 + pOff p) (x.cells ρ)) ∧ ∀ j, j < x.size → (w.cell? ⟨(ρ n).1, (ρ n).2 + pOff p + j, none⟩).isSome = true ∧ w.frozen? ⟨(ρ n).1, (ρ n).2 + pOff p + j, none⟩ = false := by
  have hb := hr.blk n t hn
  rw [blkRep_tree ht] at hb
  obtain ⟨c, e, h1, h2, h3⟩ := hb
  obtain ⟨a, u, b, c1, c2, c3, c4⟩ := put_cells ρ p t x t' hp'
  have hsz : t.size = a.length + u.length + b.length := by rw [← cells_length ρ t, c1]; simp; omega
  have hsz' := put_size hp'
  obtain ⟨c', g1, g2, g3, g4⟩ := wr_setCells (vs := x.cells ρ) (o := (ρ n).2 + pOff p) h1 (by rw [cells_length]; omega)
  rw [cells_length] at g3 g4
  refine ⟨Adv.write hr hn g4 (fun o ho => by rw [rgn_tree ht]; omega) ?_ (fun b o q => by rw [rgn_tree ht]; rw [rgn_tree (put_isTree _ _ _ _ hp' hx), hsz'] at q; exact q), fun j hj => ⟨by rw [cell_at h1, Array.getElem?_eq_getElem (by omega)]; rfl, by unfold World.frozen?; simp only [h1]; simp⟩⟩
  rw [blkRep_tree (put_isTree _ _ _ _ hp' hx)]
  refine ⟨c', e, g1, by rw [g2, hsz']; exact h2, fun j hj => ?_⟩
  rw [hsz'] at hj
  rw [g3, c2]
  by_cases hj1 : j < a.length
  · rw [if_neg (by omega), h3 j hj, c1, List.append_assoc, List.append_assoc, List.getElem?_append_left hj1, List.getElem?_append_left hj1]
  · by_cases hj2 : j < a.length + x.size
    · rw [if_pos (by omega), List.append_assoc, List.getElem?_append_right (by omega), List.getElem?_append_left (by rw [cells_length]; omega), show (ρ n).2 + j - ((ρ n).2 + pOff p) = j - a.length by omega]
    · rw [if_neg (by omega), h3 j hj, c1, List.getElem?_append_right (by simp; omega), List.getElem?_append_right (by rw [List.length_append, cells_length]; omega)]
      simp [cells_length, c4]

mutual
theorem res_nil : ∀ (e : Ep) (v : AV) (r : List Hv × Bool), e.res [] v = some r → ∀ m, ¬ v.has m
  | .int _, v, r, h, m, hm => by simp only [Ep.res] at h; split at h <;> first | (simp [AV.has] at hm; done) | cases h
  | .bool, v, r, h, m, hm => by simp only [Ep.res] at h; split at h <;> first | (simp [AV.has] at hm; done) | cases h
  | .str, v, r, h, m, hm => by simp only [Ep.res] at h; split at h <;> first | (simp [AV.has] at hm; done) | cases h
  | .arr _ _, v, r, h, m, hm => by simp only [Ep.res] at h; split at h <;> first | (simp [AV.has] at hm; done) | cases h
  | .agg es, v, r, h, m, hm => by
    simp only [Ep.res] at h
    split at h
    · simp only [AV.has] at hm; exact resL_nil es _ r h m hm
    · cases h
  | .sl e, v, r, h, m, hm => by
    simp only [Ep.res, slRes] at h
    split at h
    · simp [AV.has] at hm
    · simp at h
    · split at h <;> simp at h
    · cases h
theorem resL_nil : ∀ (es : List Ep) (vs : List AV) (r : List Hv × Bool), Ep.resL [] es vs = some r → ∀ m, ¬ AV.hasL m vs
  | [], [], _, _, m, hm => by simp [AV.hasL] at hm
  | [], _ :: _, _, h, _, _ => by simp [Ep.resL] at h
  | _ :: _, [], _, h, _, _ => by simp [Ep.resL] at h
  | e :: es, v :: vs, r, h, m, hm => by
    simp only [Ep.resL] at h
    simp only [AV.hasL] at hm
    cases h1 : e.res [] v with
    | none => rw [h1] at h; cases h
    | some x =>
      rw [h1] at h
      simp only at h
      cases h2 : Ep.resL [] es vs with
      | none => rw [h2] at h; cases h
      | some y => exact hm.elim (res_nil e v x h1 m) (resL_nil es vs y h2 m)
end
theorem rgn_row {L : Loc} {e : Ep} {l : List (List Hv)} {b o : Nat} : rgn L (.x (.obj (.row e l true))) b o ↔ L.nl = false ∧ b = L.b ∧ L.o ≤ o ∧ o < L.o + L.cap * e.size := by simp [rgn]
theorem rgn_ints {L : Loc} {k : IntKind} {l : List Int} {b o : Nat} : rgn L (.x (.obj (.ints k l true))) b o ↔ L.nl = false ∧ b = L.b ∧ L.o ≤ o ∧ o < L.o + L.cap * 1 := by simp [rgn]

/-- a write into a row -/
theorem row_write {w : World} {L : Loc} {es len i off : Nat} {c : Nat → List Value} {xs : List Value} {ci : List Value} (h : RowRw w L es len c) (hi : i < len) (hl : off + xs.length ≤ es) (hci : ∀ j, j < es → ci[j]? = if off ≤ j ∧ j < off + xs.length then xs[j - off]? else (c i)[j]?) :
    (∀ j, j < xs.length → (w.cell? ⟨L.b, L.o + i * es + off + j, none⟩).isSome = true ∧ w.frozen? ⟨L.b, L.o + i * es + off + j, none⟩ = false) ∧
    Wr L.b (fun o => L.o ≤ o ∧ o < L.o + L.cap * es) w (w.setCells L.b (L.o + i * es + off) xs) ∧ RowRw (w.setCells L.b (L.o + i * es + off) xs) L es len (fun q => if q = i then ci else c q) := by
  have hnl : L.nl = false := by
    cases hq : L.nl with
    | false => rfl
    | true => have := h.nil hq; omega
  obtain ⟨cs, e, lo, hi', h1, h2, h3, h4⟩ := h.at_ hnl
  have e1 := le_rows (es := es) (show i < L.cap by have := h.cap; omega)
  obtain ⟨c', g1, g2, g3, g4⟩ := wr_setCells (vs := xs) (o := L.o + i * es + off) h1 (by omega)
  refine ⟨fun j hj => ⟨by rw [cell_at h1, Array.getElem?_eq_getElem (by omega)]; rfl, ?_⟩, ⟨g4.os, g4.tape, g4.output, g4.size, g4.off, ?_⟩, h.cap, h.nil, fun _ => ⟨c', e, lo, hi', g1, by rw [g2]; exact h2, h3, fun q hq j hj => ?_⟩⟩
  · unfold World.frozen?
    simp only [h1]
    have := h3 (L.o + i * es + off + j) (by omega) (by omega)
    simp only [Bool.and_eq_false_imp, decide_eq_true_eq, decide_eq_false_iff_not]
    omega
  · obtain ⟨c1, e1', f1, c2, k1, k2, k3, k4⟩ := g4.at_
    exact ⟨c1, e1', f1, c2, k1, k2, k3, fun o ho => k4 o (fun hq => ho (by omega))⟩
  · rw [g3]
    by_cases hqi : q = i
    · subst hqi
      simp only [if_true]
      rw [hci j hj]
      by_cases hj2 : off ≤ j ∧ j < off + xs.length
      · rw [if_pos (by omega), if_pos hj2, show L.o + q * es + j - (L.o + q * es + off) = j - off by omega]
      · rw [if_neg (by omega), if_neg hj2, h4 q hq j hj]
    · simp only [if_neg hqi]
      rw [if_neg ?_, h4 q hq j hj]
      rintro ⟨p1, p2⟩
      rcases Nat.lt_or_gt_of_ne hqi with hlt | hlt
      · have := le_rows (es := es) hlt; omega
      · have := le_rows (es := es) hlt; omega

theorem store_adv {P : Program} {t : TypeId} {hp hp' : Hp} {nm k : Nat} {u v : AV} {ρ : Ren} {w : World} (h : storeV P t hp u v some = some hp') (hr : RepW ρ hp w) (hw : WfH hp) (hcu : ClosedV hp u) (hvv : v.wf) :
    ∃ w', (Instr.storeAt t (u.enc ρ) (v.enc ρ)).run P w = .ok () w' ∧ Adv nm k ρ hp w ρ hp' w' := by
  unfold storeV at h
  split at h
  · rename_i n p
    split at h
    · rename_i tree hn
      cases hc : (tree.isFz || tree.isObj) with
      | true => rw [hc] at h; cases h
      | false =>
        rw [hc, cond_false] at h
        have hc := Bool.or_eq_false_iff.1 hc
        cases hb : (v.oneA && fits P t v) with
        | false => rw [hb] at h; cases h
        | true =>
          rw [hb, cond_true, putK_eq'] at h
          have hb := Bool.and_eq_true_iff.1 hb
          cases hput : put p tree v with
          | none => rw [hput] at h; cases h
          | some tree' =>
            rw [hput] at h
            cases h
            obtain ⟨g1, g2⟩ := tree_write (nm := nm) (k := k) hr hn (isTree_iff.2 ⟨hc.2, hc.1⟩) hput (oneA_tree hb.1)
            refine ⟨_, ?_, g1⟩
            simp only [AV.enc]
            exact store_run hb.2 hb.1 (fun j hj => (g2 j hj).1) (fun j hj => (g2 j hj).2)
    · cases h
  · rename_i n es i p
    obtain ⟨q, hq, hgt⟩ := hcu (.gt n i) (by simp [AV.has, XV.has])
    split at h
    · rename_i kk l hn
      rw [hn] at hq; cases hq
      simp only [AV.gtOk] at hgt
      split at h
      · rename_i k' m
        cases h1 : (decide (k' = kk) && Nat.beq es 1 && fits P t (.int k' m)) with
        | false => rw [h1] at h; cases h
        | true =>
          rw [h1, cond_true] at h
          cases h
          simp only [Bool.and_eq_true] at h1
          obtain ⟨⟨h1, h2⟩, h3⟩ := h1
          have h1 := of_decide_eq_true h1
          have h2 := Nat.eq_of_beq_eq_true h2
          subst h1; subst h2
          have hb := hr.blk n _ hn
          simp only [BlkRep] at hb
          obtain ⟨g1, g2, g3⟩ := row_write (xs := [Value.int k' m]) (ci := [Value.int k' m]) (off := 0) hb hgt (by simp) (fun j hj => by
            have : j = 0 := by omega
            subst this; rfl)
          refine ⟨_, ?_, Adv.write hr hn g2 (fun o ho => ?_) ?_ (fun b o q => by rw [rgn_ints] at q ⊢; exact q)⟩
          · have := store_run (P := P) (ρ := ρ) (v := .int k' m) (b := (ρ n).b) (o := (ρ n).o + i * 1 + 0) h3 rfl (fun j hj => (g1 j (by simpa [AV.size] using hj)).1) (fun j hj => (g1 j (by simpa [AV.size] using hj)).2)
            simpa only [AV.enc, XV.enc, AV.cells, pOff] using this
          · rw [rgn_ints]
            refine ⟨?_, rfl, ho.1, ho.2⟩
            cases hq : (ρ n).nl with
            | false => rfl
            | true => have := hb.nil hq; omega
          · simp only [BlkRep]
            rw [length_setP _ _ _ _ hgt]
            refine ⟨g3.cap, g3.nil, fun q => ?_⟩
            obtain ⟨cs, el, lo, hi', q1, q2, q3, q4⟩ := g3.at_ q
            refine ⟨cs, el, lo, hi', q1, q2, q3, fun i' hi j hj => ?_⟩
            rw [q4 i' hi j hj, getD_setP]
            by_cases e : i' = i
            · subst e; simp
            · rw [if_neg e, if_neg (Ne.symm e)]
      · cases h
    · rename_i e l hn
      rw [hn] at hq; cases hq
      simp only [AV.gtOk] at hgt
      cases h1 : (e.flat && Nat.beq es e.size && (v.oneA && fits P t v)) with
      | false => rw [h1] at h; cases h
      | true =>
        rw [h1, cond_true, putK_eq'] at h
        simp only [Bool.and_eq_true] at h1
        obtain ⟨⟨h1, h2⟩, h3, h4⟩ := h1
        have h2 := Nat.eq_of_beq_eq_true h2
        subst h2
        cases hput : put p (e.mk (l.getD i []) 0 0) v with
        | none => rw [hput] at h; cases h
        | some t' =>
          rw [hput, Option.bind_some] at h
          split at h
          · rename_i hs ro hres
            cases h
            have hb := hr.blk n _ hn
            simp only [BlkRep] at hb
            obtain ⟨c, hc1, hb⟩ := hb
            obtain ⟨locs, hl⟩ := repE_mk (w := w) e (l.getD i []) 0 (c i) (hc1 i hgt)
            have hmk := (hl ρ 0 rfl (fun q hq => by rw [flat_ns e h1] at hq; omega)).1
            obtain ⟨a, u', b, c1, c2, c3, c4⟩ := put_cells ρ p _ v t' hput
            rw [hmk] at c1
            have hlen := (hc1 i hgt).len
            have hlen2 : (c i).length = a.length + u'.length + b.length := by rw [c1]; simp; omega
            obtain ⟨g1, g2, g3⟩ := row_write (xs := v.cells ρ) (ci := t'.cells ρ) (off := pOff p) hb hgt (by rw [cells_length]; omega) (fun j hj => by
              rw [c2, cells_length]
              by_cases hj1 : j < a.length
              · rw [if_neg (by omega), c1, List.append_assoc, List.append_assoc, List.getElem?_append_left hj1, List.getElem?_append_left hj1]
              · by_cases hj2 : j < a.length + v.size
                · rw [if_pos (by omega), List.append_assoc, List.getElem?_append_right (by omega), List.getElem?_append_left (by rw [cells_length]; omega), c3]
                · rw [if_neg (by omega), c1, List.getElem?_append_right (by rw [List.length_append, cells_length]; omega), List.getElem?_append_right (by simp; omega)]
                  simp [cells_length, c4])
            have hwl : e.wf (l.getD i []) 0 := by
              have := hw _ _ hn
              simp only [AV.wf, XV.wf, HObj.wf] at this
              exact row_getD this.2 hgt
            have hres' := res_rep (ρ := ρ) (hp := []) (w := w) (fz' := ρ.fz) ⟨fun n v hv => by simp at hv, fun m n vm vn hm => by simp at hm, hr.fz, fun n v b o hv => by simp at hv⟩ (fun n v hv => by simp at hv) (fun _ _ _ q => q) e t' hs ro hres
              (put_wf _ _ _ _ hput (mk_wf e false _ 0 0 hwl).1 hvv) (fun m hm => absurd hm (res_nil e t' _ hres m)) (.inr fun b o ⟨n, v, hn, _⟩ => by simp at hn) [] []
            simp only [List.nil_append, List.append_nil, List.length_nil] at hres'
            refine ⟨_, ?_, Adv.write hr hn g2 (fun o ho => ?_) ?_ (fun b o q => by rw [rgn_row] at q ⊢; exact q)⟩
            · have := store_run (P := P) (ρ := ρ) (v := v) (b := (ρ n).b) (o := (ρ n).o + i * e.size + pOff p) h4 h3 (fun j hj => (g1 j (by rw [cells_length]; exact hj)).1) (fun j hj => (g1 j (by rw [cells_length]; exact hj)).2)
              simpa only [AV.enc, XV.enc] using this
            · rw [rgn_row]
              refine ⟨?_, rfl, ho.1, ho.2⟩
              cases hq : (ρ n).nl with
              | false => rfl
              | true => have := hb.nil hq; omega
            · simp only [BlkRep]
              rw [length_setP _ _ _ _ hgt]
              refine ⟨_, fun q hq => ?_, g3⟩
              rw [getD_setP]
              by_cases e : q = i
              · subst e; simpa using hres'
              · rw [if_neg (Ne.symm e)]; simp only [if_neg e]; exact hc1 q hq
          · cases h
    · cases h
  · cases h
end Go.Sim
namespace Go.Sim

theorem MemOk.of {P : Program} {nm k : Nat} {ρ : Ren} {hp hp' : Hp} {w w' : World} {s : Sem Value} {v : AV} (h1 : s.run P w = .ok (v.enc ρ) w') (h2 : Adv nm k ρ hp w ρ hp' w') : MemOk P nm k ρ hp w s v hp' := ⟨ρ, w', h1, h2, fun _ _ => rfl⟩

/-! copy -/
theorem cpy_get {l s : List Int} {off len m q : Nat} (hl : l.length = m) (h : off + len ≤ m) (hq : q < m) : (cpyList l off len s).getD q 0 = if off ≤ q ∧ q < off + min s.length len then s.getD (q - off) 0 else l.getD q 0 := by
  unfold cpyList
  simp only [List.getD_eq_getElem?_getD]
  by_cases h1 : q < off
  · rw [if_neg (by omega), List.append_assoc, List.getElem?_append_left (by simp; omega), List.getElem?_take, if_pos h1]
  · by_cases h2 : q < off + min s.length len
    · rw [if_pos (by omega), List.append_assoc, List.getElem?_append_right (by simp; omega), List.getElem?_append_left (by simp; omega), List.getElem?_take]
      simp only [List.length_take]
      rw [Nat.min_eq_left (by omega), if_pos (by omega)]
    · rw [if_neg (by omega), List.getElem?_append_right (by simp; omega)]
      simp only [List.length_append, List.length_take, List.getElem?_drop]
      congr 2
      omega
theorem copy_run {P : Program} {w : World} {ts : Array TypeId} {ty t e : TypeId} {ie : TypeInfo} {x : Value} {a : Addr} {dLen dCap n : Nat} {news : List Value} {w' : World} (h0 : ts[0]? = some t) (hu : P.underlying t = some (.slice e)) (hie : P.info? e = some ie)
    (hl : (Builtin.lenOf x).run P w = .ok n w) (hc : (Builtin.firstCells ie.size (Nat.min n dLen) x).run P w = .ok news.toArray w) (hst : (storeCells a news).run P w = .ok () w') :
    (Builtin.copy_ ts ty #[.slice (some a) dLen dCap, x]).run P w = .ok (.int .i64 ((Nat.min n dLen : Nat) : Int)) w' := by
  simp [Builtin.copy_, h0, run_underlying hu, hl, sizeOf, typeInfo, hie, hc, hst, goInt]
theorem copy_adv {P : Program} {ts : Array TypeId} {ty : TypeId} {hp hp' : Hp} {nm k : Nat} {d x v : AV} {ρ : Ren} {w : World} (h : copyK P ts hp d x (fun v h => some (v, h)) = some (v, hp')) (hr : RepW ρ hp w) (hw : WfH hp)
    (hcx : ClosedV hp x) (hvx : x.wf) : MemOk P nm k ρ hp w (Builtin.copy_ ts ty #[d.enc ρ, x.enc ρ]) v hp' := by
  obtain ⟨t, e, ie, n, p, es, off, len, cap, tree, kk, m, l, s, tree', ht, hu, hie, rfl, htr, hfz, ho, hsub, rfl, hs1, hle, hsrc, hput, rfl, rfl⟩ := (copy_ok h).ok
  have hsw := sub_wf _ _ _ hsub (hw _ _ htr)
  simp only [AV.wf] at hsw
  have htt : tree.isTree = true := isTree_iff.2 ⟨ho, hfz⟩
  obtain ⟨a, u, b, c1, c2, c3, c4⟩ := put_cells ρ p _ _ _ hput
  have hmin : Nat.min s.length len = min s.length len := rfl
  have key : ∀ news : List Value, (Builtin.lenOf (x.enc ρ)).run P w = .ok s.length w → (Builtin.firstCells ie.size (Nat.min s.length len) (x.enc ρ)).run P w = .ok news.toArray w → (∀ u ∈ news, u.oneCell' = true) → news.length = min s.length len →
      (∀ i, i < min s.length len → news[i]? = some (.int kk (s.getD i 0))) → MemOk P nm k ρ hp w (Builtin.copy_ ts ty #[(AV.x (.sla n p 1 off len cap)).enc ρ, x.enc ρ]) (.int .i64 ((min s.length len : Nat) : Int)) (setP none hp n (some tree')) := by
    intro news g1 g2 g3 g4 g5
    have hb := hr.blk n tree htr
    rw [blkRep_tree htt] at hb
    obtain ⟨c, el, h1, h2, h3⟩ := hb
    have hsz : tree.size = a.length + u.length + b.length := by rw [← cells_length ρ tree, c1]; simp; omega
    have hum : u.length = m := by rw [c4]; rfl
    have hb' : (ρ n).2 + pOff p + off + news.length ≤ c.size := by omega
    obtain ⟨c', q1, q2, q3, q4⟩ := wr_setCells (vs := news) (o := (ρ n).2 + pOff p + off) h1 hb'
    have hst := run_storeCells_cells (P := P) (ρ n).1 ((ρ n).2 + pOff p + off) news 0 w (fun j hj => by
      rw [cell_at h1, Array.getElem?_eq_getElem (by omega)]; rfl) (fun j hj => by unfold World.frozen?; simp only [h1]; simp) g3
    have htt' : tree'.isTree = true := put_isTree _ _ _ _ hput rfl
    have hsz' := put_size hput
    refine MemOk.of (w' := w.setCells (ρ n).1 ((ρ n).2 + pOff p + off) news) ?_ (Adv.write hr htr q4 (fun o ho => by rw [rgn_tree htt]; omega) ?_ (fun b o q => by rw [rgn_tree htt]; rw [rgn_tree htt', hsz'] at q; exact q))
    · simp only [AV.enc, XV.enc, Nat.mul_one]
      exact copy_run ht hu hie g1 g2 (by simpa using hst)
    · rw [blkRep_tree htt']
      refine ⟨c', el, q1, by rw [q2, hsz']; exact h2, fun j hj => ?_⟩
      rw [hsz'] at hj
      rw [q3, c2]
      simp only [AV.cells]
      have hal : (arrCells kk m (cpyList l off len s)).length = m := arrCells_length _ _ _
      have hau : u = arrCells kk m l := by
        obtain ⟨a', b', d1, d2⟩ := sub_cells ρ p tree _ hsub
        simp only [AV.cells] at d1
        rw [d1, List.append_assoc, List.append_assoc] at c1
        have := List.append_inj c1 (by rw [d2, c3])
        have := List.append_inj this.2 (by rw [arrCells_length, hum])
        exact this.1.symm
      by_cases hj1 : j < a.length
      · rw [if_neg (by omega), h3 j hj, c1, List.append_assoc, List.append_assoc, List.getElem?_append_left hj1, List.getElem?_append_left hj1]
      · by_cases hj2 : j < a.length + m
        · rw [List.append_assoc, List.getElem?_append_right (by omega), List.getElem?_append_left (by omega)]
          have e1 : (arrCells kk m (cpyList l off len s))[j - a.length]? = some (.int kk ((cpyList l off len s).getD (j - a.length) 0)) := by
            simp only [arrCells, List.getElem?_map]; rw [List.getElem?_range (by omega)]; rfl
          rw [e1, cpy_get hsw.1 hle (by omega)]
          by_cases hj3 : off ≤ j - a.length ∧ j - a.length < off + min s.length len
          · rw [if_pos (by omega), if_pos hj3, ← g5 _ (by omega)]
            congr 1
            omega
          · rw [if_neg (by omega), if_neg hj3, h3 j hj, c1, List.append_assoc, List.getElem?_append_right (by omega), List.getElem?_append_left (by omega), hau]
            simp only [arrCells, List.getElem?_map]; rw [List.getElem?_range (by omega)]; rfl
        · rw [if_neg (by omega), h3 j hj, c1, List.getElem?_append_right (by simp; omega), List.getElem?_append_right (by rw [List.length_append, hal]; omega)]
          simp [hal, hum]
  rcases hsrc with ⟨s', rfl, rfl, rfl⟩ | ⟨ro, hx⟩
  · have hml : (intL s').length = s'.length := by simp [intL]
    obtain ⟨news, g1, g2, g3, g4⟩ := str_rd (P := P) (a := s') (n := min s'.length len) (Nat.min_le_left _ _)
    refine key news (by simp [AV.enc, Builtin.lenOf, ByteArray.size, hml]) (by rw [hs1, hml]; simpa only [AV.enc] using g2 w) g4 (by rw [hml, g1, Nat.mul_one]) (fun i hi => ?_)
    have := g3 i 0 (by omega) (by omega)
    simpa using this
  · obtain ⟨m', e1, L', q1, _, q3⟩ := slRes_ints_rep (fz' := fun b o => w.cell? ⟨b, o, none⟩) hx hr hw hcx hvx hr.fz (.inr fun _ _ _ => rfl)
    cases e1
    have hnl : L'.nl = true → s.length = 0 := fun q => (q3.nil q).1
    obtain ⟨news, g1, g2, g3, g4⟩ := src_rd (P := P) (w := w) (L := L') (es := 1) (n := min s.length len) (c := fun i => [.int kk (s.getD i 0)]) (Nat.min_le_left _ _) hnl (fun i j hi hj => q3.at_ (by
      cases hq : L'.nl with
      | false => rfl
      | true => have := hnl hq; omega) i hi j hj) (fun _ _ => rfl)
    refine key news (by rw [q1]; rfl) (by rw [hs1, q1]; exact g2 w rfl) (fun u hu => ?_) (by rw [g1, Nat.mul_one]) (fun i hi => ?_)
    · obtain ⟨i, _, hu⟩ := g4 u hu
      simp only [List.mem_singleton] at hu
      subst hu; rfl
    · have := g3 i 0 hi (by omega)
      simpa using this

/-! the next rune -/
theorem iter_adv {nm k n : Nat} {ρ : Ren} {hp : Hp} {w : World} {s : List UInt8} {pos pos' : Nat} (h : RepW ρ hp w) (hn : hp.getD n none = some (.x (.obj (.iter s pos)))) :
    Adv nm k ρ hp w ρ (setP none hp n (some (.x (.obj (.iter s pos'))))) { w with heap := w.heap.setIfInBounds (ρ n).1 (.stringIter ⟨s.toArray⟩ pos') } := by
  have hb := h.blk n _ hn
  simp only [BlkRep] at hb
  obtain ⟨hb, h0⟩ := hb
  have hlt := (Array.getElem?_eq_some_iff.1 hb).1
  have off : ∀ b, b ≠ (ρ n).1 → (w.heap.setIfInBounds (ρ n).1 (.stringIter ⟨s.toArray⟩ pos'))[b]? = w.heap[b]? := fun b hb => by rw [Array.getElem?_setIfInBounds, if_neg (Ne.symm hb)]
  have same : (w.heap.setIfInBounds (ρ n).1 (.stringIter ⟨s.toArray⟩ pos'))[(ρ n).1]? = some (.stringIter ⟨s.toArray⟩ pos') := by
    rw [Array.getElem?_setIfInBounds, if_pos rfl, if_pos hlt]
  have own : ∀ o, OwnR ρ hp (ρ n).1 o := fun o => ⟨n, _, hn, rfl⟩
  have other : ∀ m v, hp.getD m none = some v → n ≠ m → ∀ o, ¬ rgn (ρ m) v (ρ n).1 o := fun m v hm e o q => h.sep m n v _ hm hn (Ne.symm e) _ _ q rfl
  have blk : ∀ m v, hp.getD m none = some v → n ≠ m → BlkRep ρ { w with heap := w.heap.setIfInBounds (ρ n).1 (.stringIter ⟨s.toArray⟩ pos') } m v := by
    intro m v hm e
    have hv := h.blk m v hm
    have tree : v.isTree = true → BlkRep ρ { w with heap := w.heap.setIfInBounds (ρ n).1 (.stringIter ⟨s.toArray⟩ pos') } m v := by
      intro ht
      rw [blkRep_tree ht] at hv ⊢
      obtain ⟨c, el, h1, h2, h3⟩ := hv
      refine ⟨c, el, ?_, h2, h3⟩
      rw [← h1]
      refine off _ (fun e => ?_)
      rw [e, hb] at h1; cases h1
    have rows : ∀ es len c, RowRw w (ρ m) es len c → RowRw { w with heap := w.heap.setIfInBounds (ρ n).1 (.stringIter ⟨s.toArray⟩ pos') } (ρ m) es len c := fun es len c r =>
      ⟨r.cap, r.nil, fun q => by
        obtain ⟨cs, el, lo, hi, h1, h2⟩ := r.at_ q
        refine ⟨cs, el, lo, hi, ?_, h2⟩
        rw [← h1]
        refine off _ (fun e => ?_)
        rw [e, hb] at h1; cases h1⟩
    cases v with
    | fz v => exact hv
    | x u =>
      cases u with
      | obj o =>
        cases o with
        | dead k => exact hv
        | iter s' pos'' =>
          simp only [BlkRep] at hv ⊢
          refine ⟨?_, hv.2⟩
          rw [← hv.1]
          exact off _ (fun e' => other m _ hm e 0 (by simp only [rgn]; exact e'.symm))
        | ints k l rw =>
          cases rw with
          | true => simp only [BlkRep] at hv ⊢; exact rows _ _ _ hv
          | false => exact hv
        | row ep l rw =>
          cases rw with
          | true => simp only [BlkRep] at hv ⊢; obtain ⟨c, h1, h2⟩ := hv; exact ⟨c, h1, rows _ _ _ h2⟩
          | false => exact hv
      | _ => exact tree rfl
    | _ => exact tree rfl
  refine ⟨⟨rfl, rfl, rfl, by simp, fun b _ hno => ?_, fun b c e f hbc => ?_, fun a _ => ?_⟩, ⟨fun m v hm => ?_, fun m m' vm vn hm hn' hmn b o q1 q2 => ?_, fun b o x hx => ?_, fun m v b o hm q => ?_⟩, fun _ _ => rfl, fun _ _ _ q => q, fun _ _ q => .inl q, fun b o ⟨m, v, hm, q⟩ => ?_⟩
  · exact off b (fun e => hno 0 (by rw [e]; exact own 0))
  · refine ⟨c, ?_, rfl, fun _ _ => rfl⟩
    rw [← hbc]
    refine off _ (fun e => ?_)
    rw [e, hb] at hbc; cases hbc
  · unfold World.frozen?
    by_cases e : a.block = (ρ n).1
    · rw [e, hb]; simp only [same]
    · simp only [off _ e]
  · rw [getD_setP] at hm
    by_cases e : n = m
    · subst e
      rw [if_pos rfl] at hm; cases hm
      simp only [BlkRep]
      exact ⟨same, h0⟩
    · rw [if_neg e] at hm; exact blk m v hm e
  · rw [getD_setP] at hm hn'
    by_cases e : n = m
    · subst e
      rw [if_pos rfl] at hm; cases hm
      rw [if_neg hmn] at hn'
      exact h.sep n m' _ vn hn hn' hmn b o q1 q2
    · rw [if_neg e] at hm
      by_cases e2 : n = m'
      · subst e2
        rw [if_pos rfl] at hn'; cases hn'
        exact h.sep m n vm _ hm hn hmn b o q1 q2
      · rw [if_neg e2] at hn'
        exact h.sep m m' vm vn hm hn' hmn b o q1 q2
  · have := h.fz b o x hx
    have hne : b ≠ (ρ n).1 := fun e => by
      have := h.fzs n _ b o hn (by simp only [rgn]; exact e)
      rw [hx] at this; cases this
    unfold World.cell? at this ⊢
    simp only [off _ hne]
    exact this
  · rw [getD_setP] at hm
    by_cases e : n = m
    · subst e; rw [if_pos rfl] at hm; cases hm; exact h.fzs n _ b o hn q
    · rw [if_neg e] at hm; exact h.fzs m v b o hm q
  · rw [getD_setP] at hm
    by_cases e : n = m
    · subst e; rw [if_pos rfl] at hm; cases hm; exact .inl ⟨n, _, hn, q⟩
    · rw [if_neg e] at hm; exact .inl ⟨m, v, hm, q⟩
theorem next_adv {P : Program} {ty : TypeId} {hp hp' : Hp} {nm k : Nat} {x v : AV} {ρ : Ren} {w : World} {isS : Bool} (h : nextK hp isS x (fun v h => some (v, h)) = some (v, hp')) (hr : RepW ρ hp w) : MemOk P nm k ρ hp w (Instr.next (x.enc ρ) isS ty) v hp' := by
  unfold nextK at h
  cases isS with
  | false => cases h
  | true =>
    rw [cond_true] at h
    split at h
    · rename_i n
      split at h
      · rename_i s pos hn
        have hb := hr.blk n _ hn
        simp only [BlkRep] at hb
        have hlt := (Array.getElem?_eq_some_iff.1 hb.1).1
        have hsz : (⟨s.toArray⟩ : ByteArray).size = s.length := by simp [ByteArray.size]
        have hg : (getObj (ρ n).b).run P w = .ok (.stringIter ⟨s.toArray⟩ pos) w := by simp [getObj, Sem.run, hb.1]
        have hset : ∀ o, (setObj (ρ n).b o).run P w = .ok () { w with heap := w.heap.setIfInBounds (ρ n).b o } := fun o => by simp only [setObj, Sem.run, hb.1]
        cases hp : decide (pos < s.length) with
        | true =>
          rw [hp, cond_true] at h
          cases h
          have hp := of_decide_eq_true hp
          refine MemOk.of ?_ (iter_adv hr hn)
          simp [AV.enc, pOff, hb.2, Instr.next, hg, hset, hsz, hp, goInt, AV.encL]
        | false =>
          rw [hp, cond_false] at h
          cases h
          have hp := of_decide_eq_false hp
          refine MemOk.of ?_ (Adv.refl hr)
          simp [AV.enc, pOff, hb.2, Instr.next, hg, hsz, hp, AV.encL]
      · cases h
    · cases h
end Go.Sim
namespace Go.Sim
open Classical in
/-- what a name owns stays -/
noncomputable def fzWith (fz : Nat → Nat → Option Value) (w : World) (R : Nat → Nat → Prop) : Nat → Nat → Option Value := fun b o => if R b o then w.cell? ⟨b, o, none⟩ else fz b o
theorem fzWith_in {fz : Nat → Nat → Option Value} {w : World} {R : Nat → Nat → Prop} {b o : Nat} (h : R b o) : fzWith fz w R b o = w.cell? ⟨b, o, none⟩ := by unfold fzWith; rw [if_pos h]
theorem fzWith_out {fz : Nat → Nat → Option Value} {w : World} {R : Nat → Nat → Prop} {b o : Nat} (h : ¬ R b o) : fzWith fz w R b o = fz b o := by unfold fzWith; rw [if_neg h]
theorem frz_step {nm k n : Nat} {ρ : Ren} {hp : Hp} {w : World} {t t' : AV} (h : RepW ρ hp w) (hn : hp.getD n none = some t)
    (hnew : ∀ fz', (∀ b o x, ρ.fz b o = some x → fz' b o = some x) → (∀ b o, rgn (ρ n) t b o → fz' b o = w.cell? ⟨b, o, none⟩) → BlkRep ⟨ρ.loc, fz'⟩ w n t') (hr : ∀ b o, ¬ rgn (ρ n) t' b o) :
    ∃ ρ' : Ren, ρ'.loc = ρ.loc ∧ Adv nm k ρ hp w ρ' (setP none hp n (some t')) w := by
  have hf : ∀ b o x, ρ.fz b o = some x → fzWith ρ.fz w (rgn (ρ n) t) b o = some x := fun b o x hx => by
    rw [fzWith_out (fun q => by have := h.fzs n t b o hn q; rw [hx] at this; cases this)]; exact hx
  refine ⟨⟨ρ.loc, fzWith ρ.fz w (rgn (ρ n) t)⟩, rfl, Adv.freeze h hn hf (fun b o x hx => ?_) (hnew _ hf fun b o q => fzWith_in q) hr⟩
  by_cases q : rgn (ρ n) t b o
  · rw [fzWith_in q] at hx; exact .inr ⟨q, hx⟩
  · rw [fzWith_out q] at hx; exact .inl hx
theorem rw_ro1 {w : World} {fz' : Nat → Nat → Option Value} {L : Loc} {es len : Nat} {c : Nat → List Value} (h : RowRw w L es len c) (hH : ∀ o, L.nl = false → L.o ≤ o → o < L.o + L.cap * es → fz' L.b o = w.cell? ⟨L.b, o, none⟩) : RowRo fz' L es len c where
  cap := h.cap
  nil := h.nil
  at_ hl i hi j hj := by
    have hle := le_rows (es := es) (show i < L.cap by have := h.cap; omega)
    rw [hH _ hl (by omega) (by omega)]
    exact rowRw_cell h hi hj
theorem frzN_adv {nm k n : Nat} {ρ : Ren} {hp : Hp} {w : World} (h : RepW ρ hp w) : ∃ ρ' : Ren, ρ'.loc = ρ.loc ∧ Adv nm k ρ hp w ρ' (frzN hp n) w := by
  unfold frzN
  split
  · rename_i kk l rw hn
    have hb := h.blk n _ hn
    cases rw with
    | true =>
      simp only [BlkRep] at hb
      refine frz_step h hn (fun fz' _ q => ?_) (fun b o q => by simp [rgn] at q)
      simp only [BlkRep]
      exact rw_ro1 hb (fun o h1 h2 h3 => q _ _ (rgn_ints.2 ⟨h1, rfl, h2, h3⟩))
    | false => exact ⟨ρ, rfl, Adv.entry h hn hb (fun b o q => q)⟩
  · rename_i e l rw hn
    have hb := h.blk n _ hn
    cases rw with
    | true =>
      simp only [BlkRep] at hb
      obtain ⟨c, h1, h2⟩ := hb
      refine frz_step h hn (fun fz' hm q => ?_) (fun b o q => by simp [rgn] at q)
      simp only [BlkRep]
      exact ⟨c, fun i hi => (h1 i hi).mono hm, rw_ro1 h2 (fun o h1 h2 h3 => q _ _ (rgn_row.2 ⟨h1, rfl, h2, h3⟩))⟩
    | false => exact ⟨ρ, rfl, Adv.entry h hn hb (fun b o q => q)⟩
  · exact ⟨ρ, rfl, Adv.refl h⟩
  · exact ⟨ρ, rfl, Adv.refl h⟩
  · rename_i t _ _ h1 h2 hn
    have ht : t.isTree = true := isTree_iff.2 ⟨by cases t <;> first | rfl | exact absurd rfl (h1 _), by cases t <;> first | rfl | exact absurd rfl (h2 _)⟩
    have hb := h.blk n _ hn
    refine frz_step h hn (fun fz' hm q => ?_) (fun b o q => by simp [rgn] at q)
    rw [blkRep_tree ht] at hb
    obtain ⟨c, e, g1, g2, g3⟩ := hb
    simp only [BlkRep]
    intro j hj
    rw [q _ _ (by rw [rgn_tree ht]; exact ⟨rfl, by omega, by omega⟩), cell_at g1]
    rw [← cells_congr (ρ := ρ) (ρ' := ⟨ρ.loc, fz'⟩) t (fun m _ => rfl)]
    exact g3 j hj
  · exact ⟨ρ, rfl, Adv.refl h⟩
mutual
theorem frzV_adv {nm k : Nat} {w : World} : ∀ (v : AV) (hp : Hp) (ρ : Ren), RepW ρ hp w → ∃ ρ' : Ren, ρ'.loc = ρ.loc ∧ Adv nm k ρ hp w ρ' (frzV hp v) w
  | .x (.sln n _), hp, ρ, h => by simp only [frzV]; exact frzN_adv h
  | .x (.sla n ..), hp, ρ, h => by simp only [frzV]; exact frzN_adv h
  | .agg vs, hp, ρ, h => by simp only [frzV]; exact frzL_adv vs hp ρ h
  | .int .., hp, ρ, h | .bool _, hp, ρ, h | .str _, hp, ρ, h | .nil, hp, ρ, h | .ptr .., hp, ρ, h | .arr .., hp, ρ, h | .tup _, hp, ρ, h | .fn _, hp, ρ, h | .lit _, hp, ρ, h | .fz _, hp, ρ, h
  | .x (.eptr ..), hp, ρ, h | .x (.aptr ..), hp, ρ, h | .x (.obj _), hp, ρ, h => by simp only [frzV]; exact ⟨ρ, rfl, Adv.refl h⟩
theorem frzL_adv {nm k : Nat} {w : World} : ∀ (vs : List AV) (hp : Hp) (ρ : Ren), RepW ρ hp w → ∃ ρ' : Ren, ρ'.loc = ρ.loc ∧ Adv nm k ρ hp w ρ' (frzL hp vs) w
  | [], hp, ρ, h => by simp only [frzL]; exact ⟨ρ, rfl, Adv.refl h⟩
  | v :: vs, hp, ρ, h => by
    simp only [frzL]
    obtain ⟨ρ1, e1, a1⟩ := frzV_adv (nm := nm) (k := k) v hp ρ h
    obtain ⟨ρ2, e2, a2⟩ := frzL_adv vs (frzV hp v) ρ1 a1.rep
    exact ⟨ρ2, e2.trans e1, a1.trans a2⟩
end

/-- a new block -/
theorem alloc_adv {nm k : Nat} {ρ : Ren} {hp : Hp} {w : World} {v : AV} (t : TypeId) (hr : RepW ρ hp w) (hf : hp.getD nm none = none) (hh : ClosedH hp) (hk : 1 ≤ k) (hv : v.isTree = true) (hc : ClosedV hp v) :
    Adv nm k ρ hp w (ρ.upd nm ⟨w.heap.size, 0, 0, false⟩) (setP none hp nm (some v)) (w.alloc (.cells (v.cells ρ).toArray t)) := by
  refine Adv.add_new hr hf hh ⟨Nat.le_refl _, by omega⟩ (same_alloc w _) ?_ (fun b o q => by rw [rgn_tree hv] at q; rw [q.1]; exact Nat.le_refl _)
  rw [blkRep_tree hv, upd_self]
  refine ⟨_, t, alloc_at w _, by simp [cells_length], fun j hj => ?_⟩
  have hcc := cells_congr (ρ := ρ) (ρ' := ρ.upd nm ⟨w.heap.size, 0, 0, false⟩) v (fun m hm => (upd_loc (fun e => by
    obtain ⟨y, hy⟩ := hc _ hm
    subst e; rw [hf] at hy; cases hy)).symm)
  rw [← hcc]
  simp

/-! one step each, by the operation -/
theorem LookOk.exec {P : Program} {nm k : Nat} {ρ : Ren} {hp : Hp} {w : World} {s : Sem Value} {v : AV} {news : List AV} {o : Oper} {e : Operand → Value} (h : LookOk P nm k ρ hp w s v news) (ho : execOp e o = (do pure (.value (← s)))) :
    ∃ ρ' w', (execOp e o).run P w = .ok (.value (v.enc ρ')) w' ∧ Adv nm k ρ hp w ρ' (addL hp nm news) w' ∧ ∀ m, Pres hp (.nm m) → ρ m = ρ' m := by
  obtain ⟨ρ', w', h1, h2, h3⟩ := h
  exact ⟨ρ', w', by rw [ho]; simp [h1], h2, h3⟩
theorem MemOk.exec {P : Program} {nm k : Nat} {ρ : Ren} {hp hp' : Hp} {w : World} {s : Sem Value} {v : AV} {o : Oper} {e : Operand → Value} (h : MemOk P nm k ρ hp w s v hp') (ho : execOp e o = (do pure (.value (← s)))) :
    ∃ ρ' w', (execOp e o).run P w = .ok (.value (v.enc ρ')) w' ∧ Adv nm k ρ hp w ρ' hp' w' ∧ ∀ m, Pres hp (.nm m) → ρ m = ρ' m := by
  obtain ⟨ρ', w', h1, h2, h3⟩ := h
  exact ⟨ρ', w', by rw [ho]; simp [h1], h2, h3⟩
theorem opvs_one {tm : Tm} {x : Operand} {vs : List AV} (h : opvs tm [x] = some vs) : ∃ v, opv tm x = some v ∧ vs = [v] := by
  simp only [opvs] at h
  cases hx : opv tm x with
  | none => rw [hx] at h; cases h
  | some v => rw [hx] at h; cases h; exact ⟨v, rfl, rfl⟩
theorem opvs_two {tm : Tm} {x y : Operand} {vs : List AV} (h : opvs tm [x, y] = some vs) : ∃ u v, opv tm x = some u ∧ opv tm y = some v ∧ vs = [u, v] := by
  simp only [opvs] at h
  cases hx : opv tm x with
  | none => rw [hx] at h; cases h
  | some u =>
    rw [hx] at h
    simp only at h
    cases hy : opv tm y with
    | none => rw [hy] at h; cases h
    | some v => rw [hy] at h; cases h; exact ⟨u, v, rfl, rfl, rfl⟩

theorem look_adv {P : Program} {G : FuncId → Option LFn} {o : Oper} {tm : Tm} {hp : Hp} {nm k : Nat} {vs : List AV} {v : AV} {news : List AV} {ρ : Ren} {w : World} {e : Operand → Value} (hnc : ∀ c, o.op ≠ .call c)
    (h : lookV P G o.op vs hp nm (fun v n => some (v, n)) = some (v, news)) (hvs : opvs tm o.op.operands.toList = some vs) (he : ∀ x u, opv tm x = some u → e x = u.enc ρ) (hr : RepW ρ hp w) (hh : ClosedH hp) (hw : WfH hp)
    (hc : ∀ u ∈ vs, ClosedV hp u) (hv : ∀ u ∈ vs, u.wf) (hf : ∀ i, i < news.length → hp.getD (nm + i) none = none) (hk : news.length ≤ k) :
    ∃ ρ' w', (execOp e o).run P w = .ok (.value (v.enc ρ')) w' ∧ Adv nm k ρ hp w ρ' (addL hp nm news) w' ∧ ∀ m, Pres hp (.nm m) → ρ m = ρ' m := by
  unfold lookV at h
  split at h
  · rename_i t x ho
    rw [ho] at hvs
    obtain ⟨u, hu, rfl⟩ := opvs_one hvs
    simp only at h
    obtain ⟨ρ', g1, g2, g3⟩ := ldV_adv h hr hh (hc u (by simp)) hf hk
    have : LookOk P nm k ρ hp w (Instr.loadAt t (u.enc ρ)) v news := ⟨ρ', w, g1, g2, g3⟩
    exact this.exec (by simp only [execOp, ho, he x u hu])
  · rename_i t x lo hi mx ho
    rw [ho] at hvs
    refine (slV_adv (e := e) (x := x) (by simpa [Op.operands] using hvs) he h hr hh hc hf hk).exec (by simp only [execOp, ho])
  · rename_i s d x ho
    rw [ho] at hvs
    obtain ⟨u, hu, rfl⟩ := opvs_one hvs
    simp only at h
    exact (cvV_adv h hr hh hw (hc u (by simp)) (hv u (by simp)) hf hk).exec (by simp only [execOp, ho, he x u hu])
  · rename_i t len ps ho
    rw [ho] at hvs
    exact (bsV_adv (e := e) (by simpa [Op.operands] using hvs) he h hr hh hw hc hv hf hk).exec (by simp only [execOp, ho])
  · rename_i t x y ho
    rw [ho] at hvs
    obtain ⟨a, b, ha, hb, rfl⟩ := opvs_two hvs
    exact (mkV_adv h hr hh hf hk).exec (by simp only [execOp, ho, he x a ha, he y b hb])
  · rename_i t x ho
    rw [ho] at hvs
    obtain ⟨u, hu, rfl⟩ := opvs_one hvs
    simp only at h
    exact (rgV_adv h hr hh hf hk).exec (by simp only [execOp, ho, he x u hu])
  · rename_i t x ho
    rw [ho] at hvs
    obtain ⟨u, hu, rfl⟩ := opvs_one hvs
    simp only at h
    have hg := apV_adv (nm := nm) (k := k) h hr (hc u (by simp))
    exact hg.exec (by simp only [execOp, ho, he x u hu])
  · rename_i c ho
    exact absurd ho (hnc c)
  · cases h

theorem mem_adv {P : Program} {o : Oper} {tm : Tm} {hp hp' : Hp} {nm k : Nat} {vs : List AV} {v : AV} {ρ : Ren} {w : World} {e : Operand → Value}
    (h : memV P o.op vs hp nm (fun v h => some (v, h)) = some (v, hp')) (hvs : opvs tm o.op.operands.toList = some vs) (he : ∀ x u, opv tm x = some u → e x = u.enc ρ) (hr : RepW ρ hp w) (hh : ClosedH hp) (hw : WfH hp)
    (hc : ∀ u ∈ vs, ClosedV hp u) (hv : ∀ u ∈ vs, u.wf) (hf : hp.getD nm none = none) (hk : 1 ≤ k) :
    ∃ ρ' w', (execOp e o).run P w = .ok (.value (v.enc ρ')) w' ∧ Adv nm k ρ hp w ρ' hp' w' ∧ ∀ m, Pres hp (.nm m) → ρ m = ρ' m := by
  unfold memV at h
  split at h
  · rename_i c ho
    have args : ∀ {b : Builtin} {s x : AV}, c.callee = .builtin b → vs = [s, x] → c.args.map e = #[s.enc ρ, x.enc ρ] := by
      intro b s x hb hvs'
      subst hvs'
      rw [ho] at hvs
      have : (Op.call c).operands.toList = c.args.toList := by simp [Op.operands, Call.operands, hb]
      rw [this] at hvs
      apply Array.ext'
      have := opvs_map he hvs
      simpa using this
    split at h
    · rename_i s x hb
      have ha := args hb rfl
      refine (app_adv (ty := o.type) h hr hh hw (hc s (by simp)) (hc x (by simp)) (hv x (by simp)) hk).exec ?_
      simp [execOp, ho, resolve, invoke, builtin, hb, ha]
    · rename_i d x hb
      have ha := args hb rfl
      refine (copy_adv (ty := o.type) (nm := nm) (k := k) h hr hw (hc x (by simp)) (hv x (by simp))).exec ?_
      simp [execOp, ho, resolve, invoke, builtin, hb, ha]
    · cases h
  · rename_i it isS ho
    rw [ho] at hvs
    split at h
    · rename_i x
      obtain ⟨u, hu, e1⟩ := opvs_one hvs
      cases e1
      exact (next_adv (ty := o.type) (nm := nm) (k := k) h hr).exec (by simp only [execOp, ho, he it x hu])
    · cases h
  · rename_i t len ps ho
    rw [ho] at hvs
    simp only [hf] at h
    rw [bsV_eq] at h
    cases hb : bsV P t len ps.toList (frzL hp vs) nm vs (fun v news => some (v, news)) with
    | none => rw [hb] at h; cases h
    | some y =>
      obtain ⟨v', news⟩ := y
      rw [hb] at h
      cases h
      obtain ⟨ρ1, e1, a1⟩ := frzL_adv (nm := nm) (k := k) vs hp ρ hr
      have hg := frzL_grows vs hp
      have hlen := bs_len hb
      have hloc : ∀ m, ρ1 m = ρ m := fun m => by rw [e1]
      obtain ⟨ρ', w', q1, q2, q3⟩ := bsV_adv (e := e) (k := k) (by simpa [Op.operands] using hvs) (fun x u hx => by rw [he x u hx]; exact enc_congr u (fun m _ => (hloc m).symm)) hb a1.rep (hg.closed hh) (frzL_wf vs hw)
        (fun u hu m hm => hg.pres m (hc u hu m hm)) hv (fun i hi => by
          have : i = 0 := by omega
          subst this; exact frzL_none vs hp hf) (by omega)
      refine ⟨ρ', w', ?_, a1.trans q2, fun m hm => by rw [← hloc m]; exact q3 m (hg.pres _ hm)⟩
      simp only [execOp, ho]
      simp [q1]
  · cases h
end Go.Sim
