/- Certificates read. -/
import Derived.Test.YtfiillledfkdkaaDoorRtX7
set_option linter.unusedVariables false
set_option linter.unusedSimpArgs false
set_option linter.unusedSimpArgs false
namespace Go.Proofs
open Go.Shelf Go.RowKit Go.Lib Go.Rt Go.Nam Go.Tp
theorem Rt.store_mid {P : Program} {ops : Array Oper} {rest : List Oper} {o : Oper} {a : Act} {w : World} {Q : Exit → Act → World → Prop} (ty : TypeId) {x v : Operand} (ho : o.op = .store ty x v)
    (B off : Nat) (hx : a.eval x = .pointer (some ⟨B, off, none⟩)) {cs : Array Value} (hv : a.eval v = .agg cs) (hw : Region.wanted o (yielded ops a.tmps) = true) {t : TypeId} {pre old post : List Value} (hB : Rt.Row w B t (pre ++ old ++ post).toArray) (hp : pre.length = off) (hl : old.length = cs.size) (hpost : post = []) (hi : (P.info? ty).map (·.size) = some cs.size) (h1 : cs.all (·.oneCell') = true)
    (h : ∀ w', Rt.Row w' B t (pre ++ cs.toList).toArray → w'.heap.size = w.heap.size → (∀ b, b ≠ B → w'.heap[b]? = w.heap[b]?) → (∀ (B0 : Nat) (y : World), B0 ≤ B → Below B0 y w → Below B0 y w') → w.grownBy w' (some B) → wpList P ops Q rest (a.put o.dst undef) w') : wpList P ops Q (o :: rest) a w := by
  subst hpost
  rw [List.append_nil] at hB
  subst hp
  refine BigFrame.wpList_want hw fun K hK => ?_
  have hst : (storeVar ty ⟨B, pre.length, none⟩ (.agg cs)).run P w = .ok () (w.setCells B pre.length cs.toList) :=
    run_storeVar_mid w B pre.length ty cs (fun j hj => ⟨by
      have : ∃ y, (pre ++ old)[pre.length + j]? = some y := ⟨_, List.getElem?_eq_getElem (by simp; omega)⟩
      obtain ⟨y, hy⟩ := this
      rw [hB.cell (pre.length + j) (by simpa using hy)]; rfl, hB.free _⟩) hi h1
  have hr := h _ (by simpa using Rt.setCells_row B t cs.toList pre old w (by simp [hl]) hB) (Rt.setCells_size B cs.toList _ w) (Rt.setCells_heap B cs.toList _ w) (fun B0 y => Rt.setCells_below B cs.toList _ w) ⟨(Rt.setCells_below B cs.toList _ w (Nat.zero_le _) (Below.refl 0 w)).os, (Rt.setCells_below B cs.toList _ w (Nat.zero_le _) (Below.refl 0 w)).tape, (Rt.setCells_below B cs.toList _ w (Nat.zero_le _) (Below.refl 0 w)).output, by rw [Rt.setCells_size]; exact Nat.le_refl _, fun k _ hk => Rt.setCells_heap B cs.toList _ w k (fun e => hk (by rw [e]))⟩
  unfold Oper.wp execOp
  simp only [ho, hx, hv, Instr.storeAt, Instr.sureAddr, Sem.run_bind, Sem.run_pure, Result.andThen_ok, hst]
  exact hK _ _ hr
/-- What a certificate's bytes come to, and whether they were just so many. -/
def Rt.certRd (l : List Int) : Rt.CV × Bool :=
  let h := Rt.take l false 4
  let t := Rt.text h.2.1 h.2.2
  let p := Rt.pfxR t.2.1 t.2.2
  let m := Rt.num p.rest p.bad 1
  let f := Rt.num m.2.1 m.2.2 8
  let o := Rt.num f.2.1 f.2.2 8
  let s := Rt.num o.2.1 o.2.2 4
  let g := Rt.take s.2.1 s.2.2 64
  (⟨t.1, p.v, p.hi, p.lo, p.len, m.1, f.1, o.1, s.1, g.1.map fun z => UInt8.ofNat z.toNat⟩, strOfNums h.1 == ⟨#[99, 101, 114, 116]⟩ && !g.2.2 && g.2.1.isEmpty)
def Rt.certOk (x : Rt.CV) : Bool := Rt.cR x.st x.v x.hi x.lo x.len x.mx x.fr x.ti
theorem Rt.Byt.num {l : List Int} (h : Rt.Byt l) (bad : Bool) (k : Nat) : Rt.Byt (Rt.num l bad k).2.1 := (h.take bad k).2
theorem Rt.Byt.text {l : List Int} (h : Rt.Byt l) (bad : Bool) : Rt.Byt (Rt.text l bad).2.1 := ((h.take bad 1).2.take _ _).2
theorem Rt.Byt.pfx {l : List Int} (h : Rt.Byt l) (bad : Bool) : Rt.Byt (Rt.pfxR l bad).rest := by
  unfold Rt.pfxR
  exact (((h.num bad 1).num _ 8).num _ 8).num _ 1
theorem Rt.text_small {l : List Int} (h : Rt.Byt l) (bad : Bool) : (Rt.text l bad).1.size ≤ 255 := by
  have := Rt.num1_lt l bad h
  show (strOfNums (Rt.take _ _ _).1).size ≤ 255
  rw [strOfNums_size, Rt.take_length]
  omega
theorem Rt.p8 : (256 : Int) ^ 8 = 18446744073709551616 := by decide
theorem Rt.p4 : (256 : Int) ^ 4 = 4294967296 := by decide
theorem Rt.pfx_in {l : List Int} (h : Rt.Byt l) (bad : Bool) : 0 ≤ (Rt.pfxR l bad).hi ∧ (Rt.pfxR l bad).hi < 18446744073709551616 ∧ 0 ≤ (Rt.pfxR l bad).lo ∧ (Rt.pfxR l bad).lo < 18446744073709551616 ∧ 0 ≤ (Rt.pfxR l bad).len ∧ (Rt.pfxR l bad).len < 256 := by
  unfold Rt.pfxR
  dsimp only
  have b1 := h.num bad 1
  generalize ((Rt.num l bad 1).2.2 || ((Rt.num l bad 1).1 != 4 && (Rt.num l bad 1).1 != 6)) = B1
  generalize (Rt.num l bad 1).2.1 = L1 at *
  have n2 := Rt.num1_in (bad := B1) b1 8
  have b2 := b1.num B1 8
  generalize (Rt.num L1 B1 8).1 = x2 at *
  generalize (Rt.num L1 B1 8).2.2 = B2
  generalize (Rt.num L1 B1 8).2.1 = L2 at *
  have n3 := Rt.num1_in (bad := B2) b2 8
  have b3 := b2.num B2 8
  generalize (Rt.num L2 B2 8).1 = x3 at *
  generalize (Rt.num L2 B2 8).2.2 = B3
  generalize (Rt.num L2 B2 8).2.1 = L3 at *
  have n4 := Rt.num1_in (bad := B3) b3 1
  rw [Rt.p8] at n2 n3
  rw [Int.pow_one] at n4
  exact ⟨n2.1, n2.2, n3.1, n3.2, n4.1, n4.2⟩
theorem Rt.certRd_in (l : List Int) (h : Rt.Byt l) : (Rt.certRd l).1.In := by
  unfold Rt.certRd
  dsimp only
  have b1 := (h.take false 4).2
  generalize (Rt.take l false 4).2.2 = B1
  generalize (Rt.take l false 4).2.1 = L1 at *
  have t1 := Rt.text_small b1 B1
  have b2 := b1.text B1
  generalize (Rt.text L1 B1).1 = T at *
  generalize (Rt.text L1 B1).2.2 = B2
  generalize (Rt.text L1 B1).2.1 = L2 at *
  have p1 := Rt.pfx_in b2 B2
  have b3 := b2.pfx B2
  generalize Rt.pfxR L2 B2 = P at *
  obtain ⟨pv, phi, plo, plen, L3, B3⟩ := P
  dsimp only at *
  have n4 := Rt.num1_in (bad := B3) b3 1
  have b4 := b3.num B3 1
  generalize (Rt.num L3 B3 1).1 = x4 at *
  generalize (Rt.num L3 B3 1).2.2 = B4
  generalize (Rt.num L3 B3 1).2.1 = L4 at *
  have n5 := Rt.num1_in (bad := B4) b4 8
  have b5 := b4.num B4 8
  generalize (Rt.num L4 B4 8).1 = x5 at *
  generalize (Rt.num L4 B4 8).2.2 = B5
  generalize (Rt.num L4 B4 8).2.1 = L5 at *
  have n6 := Rt.num1_in (bad := B5) b5 8
  have b6 := b5.num B5 8
  generalize (Rt.num L5 B5 8).1 = x6 at *
  generalize (Rt.num L5 B5 8).2.2 = B6
  generalize (Rt.num L5 B5 8).2.1 = L6 at *
  have n7 := Rt.num1_in (bad := B6) b6 4
  have b7 := b6.num B6 4
  generalize (Rt.num L6 B6 4).1 = x7 at *
  generalize (Rt.num L6 B6 4).2.2 = B7
  generalize (Rt.num L6 B6 4).2.1 = L7 at *
  have g1 := Rt.take_length L7 B7 64
  generalize (Rt.take L7 B7 64).1 = G at *
  rw [Rt.p8] at n5 n6
  rw [Rt.p4] at n7
  rw [Int.pow_one] at n4
  obtain ⟨q1, q2, q3, q4, q5, q6⟩ := p1
  refine ⟨⟨?_, q1, q2, q3, q4, ?_, ?_, ?_, ?_, n5.1, n5.2, n6.1, n6.2, n7.1, n7.2⟩, by simp [g1]⟩ <;> (dsimp only; omega)
theorem Rt.sig_cells (l : List Int) (h : Rt.Byt l) : (l.map fun z => UInt8.ofNat z.toNat).map Extern.Stop.cell = l.map (Value.int .u8) := by
  rw [List.map_map]
  refine List.map_congr_left fun z hz => ?_
  have := h z hz
  have e : ((UInt8.ofNat z.toNat).toNat : Int) = z := by rw [UInt8.toNat_ofNat']; omega
  show Value.int .u8 (Int.ofNat (UInt8.ofNat z.toNat).toNat) = _
  rw [show Int.ofNat (UInt8.ofNat z.toNat).toNat = ((UInt8.ofNat z.toNat).toNat : Int) from rfl, e]
theorem Rt.size29 : (Tryd.prog.info? 29).map (·.size) = some 64 := by kernel_rfl
set_option maxHeartbeats 4000000 in
set_option maxRecDepth 100000 in
theorem Rt.certRead (a : Option Addr) (n c : Nat) (l : List Int) (w : World) (hs : Sl w a n c (l.map (Value.int .u8))) (hl : l.length ≤ 1099511627776) (hb : Rt.Byt l) (hT : Utf8Tabs 0 1 w) :
    Calls Tryd.prog 53 #[.slice a n c] w fun e w' => Below w.heap.size w w' ∧ e = if (Rt.certRd l).2 && Rt.certOk (Rt.certRd l).1 then .returned (.tuple #[.agg (Rt.certRd l).1.cells, .int .i64 0]) else .returned (.tuple #[.agg Tryd.zeroCells31, .int .i64 20]) := by
  have hIn := Rt.certRd_in l hb
  obtain ⟨X, hX⟩ : ∃ X, Rt.certRd l = X := ⟨_, rfl⟩
  rw [hX] at hIn ⊢
  have hcR := fun w hT => Rt.certRight X.1.cells X.1.st X.1.v X.1.hi X.1.lo X.1.len X.1.mx X.1.fr X.1.ti X.1.se w (X.1.crt hIn.sg) hIn.in_ hT
  have hXsz := X.1.cells_size hIn.sg
  obtain ⟨CRB, hCRB⟩ : ∃ CRB, Rt.certOk X.1 = CRB := ⟨_, rfl⟩
  have hcR2 : ∀ w, Utf8Tabs 0 1 w → Calls Tryd.prog 31 #[.agg X.1.cells] w fun e w' => e = .returned (.bool CRB) ∧ Below w.heap.size w w' := fun w hT => by rw [← hCRB]; exact hcR w hT
  rw [hCRB]
  obtain ⟨V, hV⟩ : ∃ V, (if X.2 && CRB then Ending.returned (.tuple #[.agg X.1.cells, .int .i64 0]) else Ending.returned (.tuple #[.agg Tryd.zeroCells31, .int .i64 20])) = V := ⟨_, rfl⟩
  rw [hV]
  have HV := Lib.hid hV
  clear hV
  unfold Rt.certRd at hX
  have HIN := Lib.hid hIn
  obtain ⟨B, hB⟩ : ∃ B, w.heap.size + 1 = B := ⟨_, rfl⟩
  obtain ⟨w2, hw2⟩ : ∃ w2, (w.alloc (.cells Tryd.zeroCells31 31)).alloc (.cells #[.slice a n c, .bool false] 88) = w2 := ⟨_, rfl⟩
  have bb2 : Below w.heap.size w w2 := by rw [← hw2]; exact ((Below.refl _ _).alloc (Nat.le_refl _) _).alloc (by simp) _
  have rr2 : Rt.Row w2 w.heap.size 31 Tryd.zeroCells31 := by rw [← hw2]; exact (Rt.Row.new w 31 Tryd.zeroCells31).alloc _
  have rb2 : Rt.Row w2 B 88 #[.slice a n c, .bool false] := by
    rw [← hw2, ← hB]
    have := Rt.Row.new (w.alloc (.cells Tryd.zeroCells31 31)) 88 #[.slice a n c, .bool false]
    simpa using this
  have rs2 : Rt.Rs w2 B l false := ⟨⟨a, n, c, rb2, hs.keep bb2, fun h0 b off e => by obtain ⟨b', off', e', hb'⟩ := hs.at_ h0; rw [e] at e'; cases e'; omega⟩, hl, hb⟩
  have hBw : w.heap.size < B := by omega
  have RK : Hid (∀ (u u' : World) (cs : Array Value), u.grownBy u' (some B) → Rt.Row u w.heap.size 31 cs → Rt.Row u' w.heap.size 31 cs) := Lib.hid fun u u' cs hg hr => (hg.block w.heap.size hr.lt (by simp; omega)).trans hr
  have BG : Hid (∀ (u u' : World), Below w.heap.size w u → u.grownBy u' (some B) → Below w.heap.size w u') := Lib.hid fun u u' h g => h.grown g h.size (fun k hk => by cases hk; omega)
  have H2 := Lib.hid rs2
  have R2 := Lib.hid rr2
  have D2 := Lib.hid bb2
  have HX := Lib.hid hX
  have HW2 := Lib.hid hw2
  have HBB := Lib.hid hB
  clear hX hs hl hb hIn rs2 rr2 rb2 bb2 hcR hCRB hw2 hB
  go_enter Tryd.func53, Tryd.ntmps53
  go_wp2_with fail
  rw [HBB.out, HW2.out]
  refine (H2.out.tk 4 4 rfl (by omega)).mono ?_
  rintro e w3 ⟨⟨v3, rfl, bs3⟩, h3, g3⟩
  have H3 := Lib.hid h3
  have R3 := Lib.hid (RK.out _ _ _ g3 R2.out)
  have D3 := Lib.hid (BG.out _ _ D2.out g3)
  clear h3 g3
  obtain ⟨a3, n3, c3, rfl, s3⟩ := bs3
  have hcv3 := conv_str (P := Tryd.prog) s3 34 9 5 Tryd.underlying34 Tryd.underlying5 Tryd.underlying9
  clear s3
  generalize Rt.take l false 4 = Z3 at *
  go_wp2_with fail
  refine (H3.out.txt).mono ?_
  rintro e w4 ⟨rfl, h4, g4⟩
  have H4 := Lib.hid h4
  have R4 := Lib.hid (RK.out _ _ _ g4 R3.out)
  have D4 := Lib.hid (BG.out _ _ D3.out g4)
  clear h4 g4
  generalize Rt.text Z3.2.1 Z3.2.2 = Z4 at *
  go_wp2_with fail
  refine (Rt.prefixR _ _ _ _ H4.out).mono ?_
  rintro e w5 ⟨rfl, h5, g5⟩
  have H5 := Lib.hid h5
  have R5 := Lib.hid (RK.out _ _ _ g5 R4.out)
  have D5 := Lib.hid (BG.out _ _ D4.out g5)
  clear h5 g5
  generalize Rt.pfxR Z4.2.1 Z4.2.2 = Z5 at *
  go_wp2_with fail
  have m6 := Rt.num1_in (bad := Z5.bad) H5.out.by_ 1
  refine (H5.out.num 1 1 rfl (by omega)).mono ?_
  rintro e w6 ⟨rfl, h6, g6⟩
  have H6 := Lib.hid h6
  have R6 := Lib.hid (RK.out _ _ _ g6 R5.out)
  have D6 := Lib.hid (BG.out _ _ D5.out g6)
  clear h6 g6
  generalize Rt.num Z5.rest Z5.bad 1 = Z6 at *
  rw [Int.pow_one] at m6
  obtain ⟨m60, m61⟩ := m6
  have w6x : wrap64 Z6.1 = Z6.1 := by unfold wrap64; omega
  go_wp2_with fail
  refine (H6.out.num 8 8 rfl (by omega)).mono ?_
  rintro e w7 ⟨rfl, h7, g7⟩
  have H7 := Lib.hid h7
  have R7 := Lib.hid (RK.out _ _ _ g7 R6.out)
  have D7 := Lib.hid (BG.out _ _ D6.out g7)
  clear h7 g7
  generalize Rt.num Z6.2.1 Z6.2.2 8 = Z7 at *
  go_wp2_with fail
  refine (H7.out.num 8 8 rfl (by omega)).mono ?_
  rintro e w8 ⟨rfl, h8, g8⟩
  have H8 := Lib.hid h8
  have R8 := Lib.hid (RK.out _ _ _ g8 R7.out)
  have D8 := Lib.hid (BG.out _ _ D7.out g8)
  clear h8 g8
  generalize Rt.num Z7.2.1 Z7.2.2 8 = Z8 at *
  go_wp2_with fail
  have m9 := Rt.num1_in (bad := Z8.2.2) H8.out.by_ 4
  refine (H8.out.num 4 4 rfl (by omega)).mono ?_
  rintro e w9 ⟨rfl, h9, g9⟩
  have H9 := Lib.hid h9
  have R9 := Lib.hid (RK.out _ _ _ g9 R8.out)
  have D9 := Lib.hid (BG.out _ _ D8.out g9)
  clear h9 g9
  generalize Rt.num Z8.2.1 Z8.2.2 4 = Z9 at *
  rw [Rt.p4] at m9
  obtain ⟨m90, m91⟩ := m9
  have w9x : IntKind.u32.wrap Z9.1 = Z9.1 := by rw [IntKind.wrap_u32]; omega
  have hBC : B < w9.heap.size := H9.out.cell1.2.2
  have hcs : (((((((((Tryd.zeroCells31.setIfInBounds 0 (Value.string Z4.1)).setIfInBounds 1 (Value.bool Z5.v)).setIfInBounds 2 (Value.int .u64 Z5.hi)).setIfInBounds 3 (Value.int .u64 Z5.lo)).setIfInBounds 4 (Value.int .i64 Z5.len)).setIfInBounds 5 (Value.int .i64 Z6.1)).setIfInBounds 6 (Value.int .u64 Z7.1)).setIfInBounds 7 (Value.int .u64 Z8.1)).setIfInBounds 8 (Value.int .u32 Z9.1)) = ([Value.string Z4.1, Value.bool Z5.v, Value.int .u64 Z5.hi, Value.int .u64 Z5.lo, Value.int .i64 Z5.len, Value.int .i64 Z6.1, Value.int .u64 Z7.1, Value.int .u64 Z8.1, Value.int .u32 Z9.1] ++ List.replicate 64 (Value.int .u8 0) ++ []).toArray := by kernel_rfl
  have HCS := Lib.hid hcs
  clear hcs
  go_wp2_with (refine Rt.store_at 31 rfl w9.heap.size rfl rfl (by kernel_rfl) (Rt.Row.new w9 31 Tryd.zeroCells31) (by kernel_rfl) (by kernel_rfl) (by kernel_rfl) ?_; intro w10 s1 s2 s3 s4)
  rw [HCS.out] at s1
  have b10 : Below w9.heap.size w9 w10 := s4 _ _ (Nat.le_refl _) ((Below.refl _ _).alloc (Nat.le_refl _) _)
  have H10 := Lib.hid (H9.out.grown b10)
  have R10 := Lib.hid (R9.out.keep b10)
  have D10 := Lib.hid (D9.out.trans (b10.mono D9.out.size))
  have S1 := Lib.hid s1
  have hl9 : w9.heap.size < w10.heap.size := s1.lt
  generalize w9.heap.size = C at *
  clear s1 s2 s3 s4 b10
  refine (H10.out.tk 64 64 rfl (by omega)).mono ?_
  rintro e w11 ⟨⟨v11, rfl, bs11⟩, h11, g11⟩
  have H11 := Lib.hid h11
  have R11 := Lib.hid (RK.out _ _ _ g11 R10.out)
  have D11 := Lib.hid (BG.out _ _ D10.out g11)
  have rc11 : Rt.Row w11 C 31 _ := (g11.block C hl9 (by simp; omega)).trans S1.out
  have tl := Rt.take_length Z9.2.1 Z9.2.2 64
  have tb := (H9.out.by_.take Z9.2.2 64).1
  generalize Rt.take Z9.2.1 Z9.2.2 64 = Z11 at *
  obtain ⟨a11, n11, c11, rfl, s11⟩ := bs11
  have hn11 : n11 = 64 := by have := s11.len; rw [List.length_map, tl] at this; exact this.symm
  subst hn11
  obtain ⟨b11, o11, rfl, _⟩ := s11.at_ (by omega)
  have hld := Lib.hid (run_loadVar_mid (P := Tryd.prog) w11 b11 o11 29 (Z11.1.map (Value.int .u8)) _ (s11.cell b11 o11 rfl) Tryd.underlying29 rfl (by rw [List.length_map, tl]; exact Rt.size29))
  have hXc : Hid (X.1.cells = ([Value.string Z4.1, Value.bool Z5.v, Value.int .u64 Z5.hi, Value.int .u64 Z5.lo, Value.int .i64 Z5.len, Value.int .i64 Z6.1, Value.int .u64 Z7.1, Value.int .u64 Z8.1, Value.int .u32 Z9.1] ++ (Z11.1.map (Value.int .u8)).toArray.toList).toArray) := Lib.hid (by
    rw [← HX.out]
    unfold Rt.CV.cells Rt.CV.list
    dsimp only
    rw [Rt.sig_cells _ tb]
    rfl)
  have hone : (Z11.1.map (Value.int .u8)).toArray.all (·.oneCell') = true := by
    rw [Array.all_eq_true_iff_forall_mem]
    intro y hy
    exact Rt.u8_one Z11.1 y (by simpa using hy)
  have hsz29 : (Tryd.prog.info? 29).map (·.size) = some (Z11.1.map (Value.int .u8)).toArray.size := by rw [List.size_toArray, List.length_map, tl]; exact Rt.size29
  have HONE := Lib.hid hone
  have HSZ := Lib.hid hsz29
  have hl64 : Hid ((List.replicate 64 (Value.int .u8 0)).length = (Z11.1.map (Value.int .u8)).toArray.size) := Lib.hid (by simp [tl])
  have RC := Lib.hid rc11
  have har : ∀ u, (Instr.arrayAt 29 (.slice (some ⟨b11, o11, none⟩) 64 c11)).run Tryd.prog u = .ok (.pointer (some ⟨b11, o11, none⟩)) u := fun u => by simp [Instr.arrayAt, run_underlying Tryd.underlying29]
  clear s11 h11 g11 rc11 hone hsz29 tb
  obtain ⟨⟨aB, nB, cB, hrB, hsB, _⟩, _, _⟩ := H11.out
  have hnB : nB = Z11.2.1.length := by have := hsB.len; simpa using this.symm
  have HRB := Lib.hid hrB
  clear hrB hsB
  obtain ⟨S, hS⟩ : ∃ S, strOfNums Z3.1 = S := ⟨_, rfl⟩
  obtain ⟨BD, hBD⟩ : ∃ BD, Z11.2.2 = BD := ⟨_, rfl⟩
  rw [hBD] at HRB
  have hX2 : Hid (X.2 = ((S == (⟨#[99, 101, 114, 116]⟩ : ByteArray)) && !BD && Z11.2.1.isEmpty)) := Lib.hid (by rw [← HX.out, hS, hBD])
  rw [hS]
  have hql : (S == (⟨#[99, 101, 114, 116]⟩ : ByteArray)) = (S.toList == [99, 101, 114, 116]) := by
    have e : (⟨#[99, 101, 114, 116]⟩ : ByteArray).toList = [99, 101, 114, 116] := by kernel_rfl
    rw [← Rt.beqL, e]
  have HQL := Lib.hid hql
  clear hS hBD hql hcv3
  have hRlt : ∀ b, b < w.heap.size → b ≠ C := fun b hb => by omega
  by_cases hq : S.toList = [99, 101, 114, 116]
  · cases BD
    · by_cases hr : nB = 0
      · subst hr
        have hone2 : X.1.cells.all (·.oneCell') = true := by
          rw [Array.all_eq_true_iff_forall_mem]
          intro y hy
          unfold Rt.CV.cells Rt.CV.list at hy
          simp only [List.mem_toArray, List.mem_cons, List.mem_map] at hy
          rcases hy with rfl | rfl | rfl | rfl | rfl | rfl | rfl | rfl | rfl | ⟨z, _, rfl⟩ <;> rfl
        have HO2 := Lib.hid hone2
        have hsz31 : (Tryd.prog.info? 31).map (·.size) = some X.1.cells.size := by rw [hXsz]; exact Rt.size31
        have HS2 := Lib.hid hsz31
        have hlz : X.1.cells.size = Tryd.zeroCells31.size := by rw [hXsz]; kernel_rfl
        have HLZ := Lib.hid hlz
        clear hone2 hsz31 hlz
        have hxe : X.2 = true := by
          rw [hX2.out, HQL.out]
          have : Z11.2.1 = [] := List.length_eq_zero_iff.1 hnB.symm
          simp [hq, this]
        clear hnB
        cases CRB
        · have HE : Hid (V = .returned (.tuple #[.agg Tryd.zeroCells31, .int .i64 20])) := Lib.hid (by rw [← HV.out]; simp)
          clear HV
          go_wp2_with (first | (guard_target =~ wpList _ _ _ (_ :: _) _ _; refine Rt.load_at 29 rfl ⟨b11, o11, none⟩ rfl (by kernel_rfl) hld.out ?_) | (refine Rt.store_mid 29 rfl C 9 rfl rfl (by kernel_rfl) RC.out rfl hl64.out rfl HSZ.out HONE.out ?_; intro w12 t1 t2 t3 t4 t5; have rB := (t3 B (by omega)).trans HRB.out; have f0 := Rt.Row.cell rB 0 rfl; have f1 := Rt.Row.cell rB 1 rfl; have R12 : Hid (Rt.Row w12 w.heap.size 31 Tryd.zeroCells31) := Lib.hid ((t3 w.heap.size (by omega)).trans R11.out); have D12 := t4 _ _ (by omega) D11.out; rw [← hXc.out] at t1; have T1 := Lib.hid t1; have hT12 := Utf8Tabs_below hT D12; have hw12 := T1.out.lt; clear t1 t3 t4 t5 rB) | (have _t := R12; (with_reducible refine Rt.store_at 31 (cs := Tryd.zeroCells31) (x := .tmp 2) (v := .tmp 54) (old := Tryd.zeroCells31) (t := 31) ?_ w.heap.size ?_ ?_ ?_ R12.out ?_ ?_ ?_ ?_); (with_reducible exact rfl); (exact rfl); (exact rfl); (kernel_rfl); (kernel_rfl); (kernel_rfl); (kernel_rfl); intro w13 e1 e2 e3 e4; clear _t) | (have _t := R12; (with_reducible refine Rt.load_at 31 (x := .tmp 6) ?_ ⟨C, 0, none⟩ ?_ ?_ (T1.out.whole31 hXsz) ?_); (with_reducible exact rfl); (exact rfl); (kernel_rfl); clear _t) | (go_at_call 31; go_fit (hcR2 _ hT12); rintro e w14 ⟨rfl, hb14⟩; replace R12 : Hid (Rt.Row w14 w.heap.size 31 Tryd.zeroCells31) := Lib.hid (R12.out.keep hb14); replace D12 := D12.trans (hb14.mono D12.size)))
          exact bodyPost_ret (Rt.results_row_tmp rfl _ _ _ 31 _ (0, 0) _ rfl e1 Tryd.underlying31 rfl (by kernel_rfl)) rfl ⟨e4 _ _ (Nat.le_refl _) D12, by exact HE.out.symm⟩
        · have HE : Hid (V = .returned (.tuple #[.agg X.1.cells, .int .i64 0])) := Lib.hid (by rw [← HV.out, hxe]; rfl)
          clear HV
          go_wp2_with (first | (guard_target =~ wpList _ _ _ (_ :: _) _ _; refine Rt.load_at 29 rfl ⟨b11, o11, none⟩ rfl (by kernel_rfl) hld.out ?_) | (refine Rt.store_mid 29 rfl C 9 rfl rfl (by kernel_rfl) RC.out rfl hl64.out rfl HSZ.out HONE.out ?_; intro w12 t1 t2 t3 t4 t5; have rB := (t3 B (by omega)).trans HRB.out; have f0 := Rt.Row.cell rB 0 rfl; have f1 := Rt.Row.cell rB 1 rfl; have R12 : Hid (Rt.Row w12 w.heap.size 31 Tryd.zeroCells31) := Lib.hid ((t3 w.heap.size (by omega)).trans R11.out); have D12 := t4 _ _ (by omega) D11.out; rw [← hXc.out] at t1; have T1 := Lib.hid t1; have hT12 := Utf8Tabs_below hT D12; have hw12 := T1.out.lt; clear t1 t3 t4 t5 rB) | (have _t := R12; (with_reducible refine Rt.load_at 31 (x := .tmp 6) ?_ ⟨C, 0, none⟩ ?_ ?_ (T1.out.whole31 hXsz) ?_); (with_reducible exact rfl); (exact rfl); (kernel_rfl); clear _t) | (have _t := R12; (with_reducible refine Rt.store_at 31 (cs := X.1.cells) (x := .tmp 2) (v := .tmp 55) (old := Tryd.zeroCells31) (t := 31) ?_ w.heap.size ?_ ?_ ?_ R12.out ?_ ?_ ?_ ?_); (with_reducible exact rfl); (exact rfl); (exact rfl); (kernel_rfl); (exact HLZ.out); (exact HS2.out); (exact HO2.out); intro w13 e1 e2 e3 e4; clear _t) | (go_at_call 31; go_fit (hcR2 _ hT12); rintro e w14 ⟨rfl, hb14⟩; replace R12 : Hid (Rt.Row w14 w.heap.size 31 Tryd.zeroCells31) := Lib.hid (R12.out.keep hb14); replace T1 := Lib.hid (T1.out.keep hb14); replace D12 := D12.trans (hb14.mono D12.size)))
          exact bodyPost_ret (Rt.results_row_tmp rfl _ _ _ 31 _ (0, 0) _ rfl e1 Tryd.underlying31 rfl HS2.out) rfl ⟨e4 _ _ (Nat.le_refl _) D12, by exact HE.out.symm⟩
      · have hr1 : (0 : Int) < (nB : Int) := by omega
        have hzz : Z11.2.1.isEmpty = false := by
          cases h : Z11.2.1 with
          | nil => rw [h] at hnB; simp at hnB; omega
          | cons => rfl
        have HE : Hid (V = .returned (.tuple #[.agg Tryd.zeroCells31, .int .i64 20])) := Lib.hid (by rw [← HV.out, hX2.out, hzz]; simp)
        clear HV hzz hnB
        go_wp2_with (first | (guard_target =~ wpList _ _ _ (_ :: _) _ _; refine Rt.load_at 29 rfl ⟨b11, o11, none⟩ rfl (by kernel_rfl) hld.out ?_) | (refine Rt.store_mid 29 rfl C 9 rfl rfl (by kernel_rfl) RC.out rfl hl64.out rfl HSZ.out HONE.out ?_; intro w12 t1 t2 t3 t4 t5; have rB := (t3 B (by omega)).trans HRB.out; have f0 := Rt.Row.cell rB 0 rfl; have f1 := Rt.Row.cell rB 1 rfl; have R12 : Hid (Rt.Row w12 w.heap.size 31 Tryd.zeroCells31) := Lib.hid ((t3 w.heap.size (by omega)).trans R11.out); have D12 := t4 _ _ (by omega) D11.out; rw [← hXc.out] at t1; have T1 := Lib.hid t1; have hT12 := Utf8Tabs_below hT D12; have hw12 := T1.out.lt; clear t1 t3 t4 t5 rB) | (have _t := R12; (with_reducible refine Rt.store_at 31 (cs := Tryd.zeroCells31) (x := .tmp 2) (v := .tmp 54) (old := Tryd.zeroCells31) (t := 31) ?_ w.heap.size ?_ ?_ ?_ R12.out ?_ ?_ ?_ ?_); (with_reducible exact rfl); (exact rfl); (exact rfl); (kernel_rfl); (kernel_rfl); (kernel_rfl); (kernel_rfl); intro w13 e1 e2 e3 e4; clear _t))
        exact bodyPost_ret (Rt.results_row_tmp rfl _ _ _ 31 _ (0, 0) _ rfl e1 Tryd.underlying31 rfl (by kernel_rfl)) rfl ⟨e4 _ _ (Nat.le_refl _) D12, by exact HE.out.symm⟩
    · have HE : Hid (V = .returned (.tuple #[.agg Tryd.zeroCells31, .int .i64 20])) := Lib.hid (by rw [← HV.out, hX2.out]; simp)
      clear HV hnB
      go_wp2_with (first | (guard_target =~ wpList _ _ _ (_ :: _) _ _; refine Rt.load_at 29 rfl ⟨b11, o11, none⟩ rfl (by kernel_rfl) hld.out ?_) | (refine Rt.store_mid 29 rfl C 9 rfl rfl (by kernel_rfl) RC.out rfl hl64.out rfl HSZ.out HONE.out ?_; intro w12 t1 t2 t3 t4 t5; have rB := (t3 B (by omega)).trans HRB.out; have f0 := Rt.Row.cell rB 0 rfl; have f1 := Rt.Row.cell rB 1 rfl; have R12 : Hid (Rt.Row w12 w.heap.size 31 Tryd.zeroCells31) := Lib.hid ((t3 w.heap.size (by omega)).trans R11.out); have D12 := t4 _ _ (by omega) D11.out; rw [← hXc.out] at t1; have T1 := Lib.hid t1; have hT12 := Utf8Tabs_below hT D12; have hw12 := T1.out.lt; clear t1 t3 t4 t5 rB) | (have _t := R12; (with_reducible refine Rt.store_at 31 (cs := Tryd.zeroCells31) (x := .tmp 2) (v := .tmp 54) (old := Tryd.zeroCells31) (t := 31) ?_ w.heap.size ?_ ?_ ?_ R12.out ?_ ?_ ?_ ?_); (with_reducible exact rfl); (exact rfl); (exact rfl); (kernel_rfl); (kernel_rfl); (kernel_rfl); (kernel_rfl); intro w13 e1 e2 e3 e4; clear _t))
      exact bodyPost_ret (Rt.results_row_tmp rfl _ _ _ 31 _ (0, 0) _ rfl e1 Tryd.underlying31 rfl (by kernel_rfl)) rfl ⟨e4 _ _ (Nat.le_refl _) D12, by exact HE.out.symm⟩
  · have HE : Hid (V = .returned (.tuple #[.agg Tryd.zeroCells31, .int .i64 20])) := Lib.hid (by rw [← HV.out, hX2.out, HQL.out]; simp [hq])
    clear HV hnB
    go_wp2_with (first | (guard_target =~ wpList _ _ _ (_ :: _) _ _; refine Rt.load_at 29 rfl ⟨b11, o11, none⟩ rfl (by kernel_rfl) hld.out ?_) | (refine Rt.store_mid 29 rfl C 9 rfl rfl (by kernel_rfl) RC.out rfl hl64.out rfl HSZ.out HONE.out ?_; intro w12 t1 t2 t3 t4 t5; have rB := (t3 B (by omega)).trans HRB.out; have f0 := Rt.Row.cell rB 0 rfl; have f1 := Rt.Row.cell rB 1 rfl; have R12 : Hid (Rt.Row w12 w.heap.size 31 Tryd.zeroCells31) := Lib.hid ((t3 w.heap.size (by omega)).trans R11.out); have D12 := t4 _ _ (by omega) D11.out; rw [← hXc.out] at t1; have T1 := Lib.hid t1; have hT12 := Utf8Tabs_below hT D12; have hw12 := T1.out.lt; clear t1 t3 t4 t5 rB) | (have _t := R12; (with_reducible refine Rt.store_at 31 (cs := Tryd.zeroCells31) (x := .tmp 2) (v := .tmp 54) (old := Tryd.zeroCells31) (t := 31) ?_ w.heap.size ?_ ?_ ?_ R12.out ?_ ?_ ?_ ?_); (with_reducible exact rfl); (exact rfl); (exact rfl); (kernel_rfl); (kernel_rfl); (kernel_rfl); (kernel_rfl); intro w13 e1 e2 e3 e4; clear _t))
    exact bodyPost_ret (Rt.results_row_tmp rfl _ _ _ 31 _ (0, 0) _ rfl e1 Tryd.underlying31 rfl (by kernel_rfl)) rfl ⟨e4 _ _ (Nat.le_refl _) D12, by exact HE.out.symm⟩
end Go.Proofs
