/- Routes: may one be. Routes: whether a site is one of one's; the reference's Right. The reference's Right of routes. Certificates' cells, and whether two are alike. Whether two routes are the same. The lesser helpers of Better. Which of two routes is better: the reference's. Which of two routes is better. The seat's names, addresses. Whole rows stored: any cells. -/
import Derived.Test.YtfiillledfkdkaaDoorRtX2
import Derived.Deep.MidRow
import Derived.Stop.BytesEq
import Derived.StillTailTactics
import Derived.Laws.IdiomCopy
set_option linter.unusedVariables false
set_option linter.unusedSimpArgs false
set_option linter.unusedSimpArgs false
namespace Go.Proofs
open Go.Shelf Go.RowKit Go.Lib Go.Rt Go.Nam
/-- A route's cells. -/
structure Rt.Rou (cs : Array Value) (v : Bool) (hi lo len : Int) (a : Option Addr) (n c : Nat) (co : Int) (cc : Array Value) : Prop where
  size : cs.size = 79
  c0 : cs[0]? = some (.bool v)
  c1 : cs[1]? = some (.int .u64 hi)
  c2 : cs[2]? = some (.int .u64 lo)
  c3 : cs[3]? = some (.int .i64 len)
  c4 : cs[4]? = some (.slice a n c)
  c5 : cs[5]? = some (.int .u32 co)
  cc : cs.extract 6 79 = cc
theorem Rt.size31 : (Tryd.prog.info? 31).map (·.size) = some 73 := by kernel_rfl
theorem Rt.Row.cert {w : World} {B : Nat} {cs : Array Value} {cc : Array Value} (h : Rt.Row w B 33 cs) (hs : cs.size = 79) (hc : cs.extract 6 79 = cc) :
    (loadVar 31 ⟨B, 6, none⟩).run Tryd.prog w = .ok (.agg cc) w := by
  have hl : (cs.extract 6 (6 + 73)).toList.length = 73 := by simp [hs]
  have e := run_loadVar_mid (P := Tryd.prog) w B 6 31 (cs.extract 6 (6 + 73)).toList _ (World.rangeAt_of_block h 6 73) Tryd.underlying31 rfl (by rw [hl]; exact Rt.size31)
  rw [e, Array.toArray_toList, hc]
theorem Rt.load_at {P : Program} {ops : Array Oper} {rest : List Oper} {o : Oper} {a : Act} {w : World} {Q : Exit → Act → World → Prop} (ty : TypeId) {x : Operand} (ho : o.op = .load ty x)
    (p : Addr) (hx : a.eval x = .pointer (some p)) (hw : Region.wanted o (yielded ops a.tmps) = true) {cc : Array Value} (hl : (loadVar ty p).run P w = .ok (.agg cc) w)
    (h : wpList P ops Q rest (a.put o.dst (.agg cc)) w) : wpList P ops Q (o :: rest) a w := by
  refine BigFrame.wpList_want hw fun K hK => ?_
  unfold Oper.wp execOp
  simp only [ho, hx, Instr.loadAt, Instr.sureAddr, Sem.run_bind, Sem.run_pure, Result.andThen_ok, hl]
  exact hK _ _ h
/-- A slice of texts. -/
structure Rt.Strs (w : World) (a : Option Addr) (n : Nat) (zs : List ByteArray) : Prop where
  len : zs.length = n
  at_ : ∀ j, j < n → ∃ b off, a = some ⟨b, off, none⟩ ∧ b < w.heap.size
  cell : ∀ b off, a = some ⟨b, off, none⟩ → ∀ j, j < n → w.cell? ⟨b, off + j, none⟩ = some (.string (zs.getD j ByteArray.empty))
  big : n ≤ 1099511627776
  small : ∀ j, j < n → (zs.getD j ByteArray.empty).size ≤ 140737488351232
theorem Rt.Strs.keep {w w' : World} {a : Option Addr} {n : Nat} {zs : List ByteArray} (h : Rt.Strs w a n zs) (k : Below w.heap.size w w') : Rt.Strs w' a n zs :=
  ⟨h.len, fun j hj => let ⟨b, off, e, hb⟩ := h.at_ j hj; ⟨b, off, e, Nat.lt_of_lt_of_le hb k.size⟩, fun b off e j hj => by
    obtain ⟨b', off', e', hb⟩ := h.at_ j hj
    rw [e] at e'; cases e'
    exact (k.cell hb).trans (h.cell b off e j hj), h.big, h.small⟩
def Rt.okAt (zs : List ByteArray) (i : Nat) : Bool := validN (zs.getD i ByteArray.empty).data.toList && !Lib.containsS (zs.take i) (zs.getD i ByteArray.empty)
def Rt.pathOk (zs : List ByteArray) (i : Nat) : Bool := (List.range' i (zs.length - i)).all (Rt.okAt zs)
theorem Rt.pathOk_step (zs : List ByteArray) (i : Nat) (h : i < zs.length) : Rt.pathOk zs i = (Rt.okAt zs i && Rt.pathOk zs (i + 1)) := by
  unfold Rt.pathOk
  rw [show zs.length - i = (zs.length - (i + 1)) + 1 by omega, List.range'_succ, List.all_cons]
theorem Rt.pathOk_end (zs : List ByteArray) (i : Nat) (h : zs.length ≤ i) : Rt.pathOk zs i = true := by
  unfold Rt.pathOk
  rw [show zs.length - i = 0 by omega]; rfl
def Rt.rR (v : Bool) (hi lo len : Int) (zs : List ByteArray) (co : Int) (CR : Bool) : Bool := Rt.pR v hi lo len && decide (zs.length ≤ 16) && decide (co ≤ 16777216) && CR && Rt.pathOk zs 0
set_option maxHeartbeats 2000000 in
set_option maxRecDepth 100000 in
theorem Rt.routeRight (cs : Array Value) (v : Bool) (hi lo len : Int) (a : Option Addr) (n c : Nat) (zs : List ByteArray) (co : Int) (cc : Array Value) (st : ByteArray) (cv : Bool) (chi clo clen mx fr ti se : Int) (w : World)
    (hR : Rt.Rou cs v hi lo len a n c co cc) (hZ : Rt.Strs w a n zs) (hC : Rt.Crt cc st cv chi clo clen mx fr ti se) (hI : Rt.CrtIn st chi clo clen mx fr ti se) (hT : Utf8Tabs 0 1 w)
    (h0 : 0 ≤ hi) (h1 : hi < 18446744073709551616) (h2 : 0 ≤ lo) (h3 : lo < 18446744073709551616) (hl : len < 9223372036854775808) (hl0 : -9223372036854775808 ≤ len) (hnc : n ≤ c) (hco : 0 ≤ co) (hco1 : co < 4294967296) :
    Calls Tryd.prog 12 #[.agg cs] w fun e w' => e = .returned (.bool (Rt.rR v hi lo len zs co (Rt.cR st cv chi clo clen mx fr ti))) ∧ Below w.heap.size w w' := by
  have hp := fun w => Rt.pRight v hi lo len w h0 h1 h2 h3 hl hl0
  have hc := fun w => Rt.certRight cc st cv chi clo clen mx fr ti se w hC hI
  have HZ := Lib.hid hZ
  have hn := hZ.len
  have hnb := hZ.big
  have HR := Lib.hid hR
  have hs := hR.size
  clear hC hI hR hZ
  unfold Rt.rR
  rw [hn]
  generalize Rt.pR v hi lo len = PR at *
  generalize Rt.cR st cv chi clo clen mx fr ti = CR at *
  obtain ⟨PO, hPO⟩ : ∃ PO, Rt.pathOk zs 0 = PO := ⟨_, rfl⟩
  rw [hPO]
  have HPO := Lib.hid hPO
  have HN := Lib.hid hn
  clear hPO hn h0 h1 h2 h3 hl hl0
  obtain ⟨w1, e1, r1, hb1, hlt⟩ := Rt.box w cs 33
  have hT1 := Utf8Tabs_below hT hb1
  have f0 := r1.cell 0 HR.out.c0
  have f1 := r1.cell 1 HR.out.c1
  have f2 := r1.cell 2 HR.out.c2
  have f3 := r1.cell 3 HR.out.c3
  go_enter Tryd.func12, Tryd.ntmps12
  cases PR
  · go_wp2_with (go_at_call 30; go_fit (hp _); rintro e w2 ⟨rfl, hb⟩)
    go_ret
    exact ⟨rfl, hb1.trans (hb.mono hb1.size)⟩
  · by_cases c1 : n ≤ 16
    · by_cases c2 : co ≤ 16777216
      · have d1 : decide ((16 : Int) < (n : Int)) = false := decide_eq_false (by omega)
        have d2 : decide ((16777216 : Int) < co) = false := decide_eq_false (by omega)
        cases CR
        · go_wp2_with (first
            | (go_at_call 30; go_fit (hp _); rintro e w2 ⟨rfl, hb⟩; have hT2 := Utf8Tabs_below hT1 hb; have q2 := r1.keep hb; have b2 := hb1.trans (hb.mono hb1.size); have g4 := q2.cell 4 HR.out.c4; have g5 := q2.cell 5 HR.out.c5; have g6 := Lib.hid (q2.cert hs HR.out.cc))
            | (guard_target =~ wpList _ _ _ (_ :: _) _ _; refine Rt.load_at 31 rfl ⟨w.heap.size, 6, none⟩ rfl (by kernel_rfl) g6.out ?_)
            | (go_at_call 31; go_fit (hc _ hT2); rintro e w3 ⟨rfl, hb3⟩; have b3 := b2.trans (hb3.mono b2.size); have q3 := q2.keep hb3; have hT3 := Utf8Tabs_below hT2 hb3; have k4 := q3.cell 4 HR.out.c4))
          go_ret
          exact ⟨Nam.retB (by simp), b3⟩
        · go_wp2_with (first
            | (go_at_call 30; go_fit (hp _); rintro e w2 ⟨rfl, hb⟩; have hT2 := Utf8Tabs_below hT1 hb; have q2 := r1.keep hb; have b2 := hb1.trans (hb.mono hb1.size); have g4 := q2.cell 4 HR.out.c4; have g5 := q2.cell 5 HR.out.c5; have g6 := Lib.hid (q2.cert hs HR.out.cc))
            | (guard_target =~ wpList _ _ _ (_ :: _) _ _; refine Rt.load_at 31 rfl ⟨w.heap.size, 6, none⟩ rfl (by kernel_rfl) g6.out ?_)
            | (go_at_call 31; go_fit (hc _ hT2); rintro e w3 ⟨rfl, hb3⟩; have b3 := b2.trans (hb3.mono b2.size); have q3 := q2.keep hb3; have hT3 := Utf8Tabs_below hT2 hb3; have k4 := q3.cell 4 HR.out.c4))
          go_loopw [29] (fun u wr => ∃ i : Nat, u = .int .i64 (i : Int) ∧ i ≤ n ∧ Below w1.heap.size w1 wr ∧ Hid (Rt.pathOk zs i = PO)) (fun u _ => n - (Go.RowKit.intOf u).toNat)
          case atStart => exact ⟨0, rfl, Nat.zero_le _, hb.trans (hb3.mono hb.size), HPO⟩
          case round =>
            obtain ⟨i, rfl, hi, hbw, HK⟩ := hrel
            by_cases hin : i < n
            · obtain ⟨b, off, ha, hblt⟩ := HZ.out.at_ i hin
              subst ha
              have hz := (HZ.out.keep hb1).keep hbw
              have hld := hz.cell b off rfl i hin
              have hsm := hz.small i hin
              have hk := HK.out
              rw [Rt.pathOk_step zs i (by rw [HN.out]; exact hin)] at hk
              unfold Rt.okAt at hk
              have hcn := fun w' (k : Below wr.heap.size wr w') => Tryd.slices_Contains_string b off i c zs (zs.getD i ByteArray.empty) w' (by rw [HN.out]; omega) (by omega) (fun j hj => (hz.keep k).cell b off rfl j (by rw [← HN.out]; exact hj))
              have hTw := Utf8Tabs_below hT1 hbw
              have qw := r1.keep hbw
              have f4 := qw.cell 4 HR.out.c4
              generalize zs.getD i ByteArray.empty = x at *
              have hvx := Nam.Valid x wr hsm hTw
              generalize validN x.data.toList = VX at *
              generalize containsS (zs.take i) x = CN at *
              have HK2 := Lib.hid hk
              have HIN := Lib.hid hin
              have HZ2 := Lib.hid hz
              clear hk hz HK HZ
              cases VX
              · go_wp2_with (first
                | (go_at_call 32; go_fit hvx; rintro e w5 ⟨rfl, hb5⟩; have k5 := (qw.keep hb5).cell 4 HR.out.c4; have b5 := hbw.trans (hb5.mono hbw.size))
                | (go_at_call 33; go_fit (hcn w5 hb5); rintro e w6 ⟨rfl, rfl⟩))
                go_ret
                exact ⟨Nam.retB (by rw [← HK2.out]; simp), hb1.trans (b5.mono hb1.size)⟩
              · cases CN
                · go_wp2_with (first
                | (go_at_call 32; go_fit hvx; rintro e w5 ⟨rfl, hb5⟩; have k5 := (qw.keep hb5).cell 4 HR.out.c4; have b5 := hbw.trans (hb5.mono hbw.size))
                | (go_at_call 33; go_fit (hcn w5 hb5); rintro e w6 ⟨rfl, rfl⟩))
                  go_roundw
                  case rel => exact ⟨i + 1, by simp, by have := HIN.out; omega, b5, Lib.hid (by rw [← HK2.out]; simp)⟩
                  case measure =>
                    have := HIN.out
                    show n - ((i : Int) + 1).toNat < n - (i : Int).toNat
                    omega
                · go_wp2_with (first
                | (go_at_call 32; go_fit hvx; rintro e w5 ⟨rfl, hb5⟩; have k5 := (qw.keep hb5).cell 4 HR.out.c4; have b5 := hbw.trans (hb5.mono hbw.size))
                | (go_at_call 33; go_fit (hcn w5 hb5); rintro e w6 ⟨rfl, rfl⟩))
                  go_ret
                  exact ⟨Nam.retB (by rw [← HK2.out]; simp), hb1.trans (b5.mono hb1.size)⟩
            · have : i = n := by omega
              subst this
              have hk := HK.out
              rw [Rt.pathOk_end zs i (by rw [HN.out]; exact Nat.le_refl _)] at hk
              have HK2 := Lib.hid hk
              clear hk HK
              go_wp2
              go_ret
              exact ⟨Nam.retB (by rw [← HK2.out]; simp; omega), hb1.trans (hbw.mono hb1.size)⟩
      · have d1 : decide ((16 : Int) < (n : Int)) = false := decide_eq_false (by omega)
        have d2 : decide ((16777216 : Int) < co) = true := decide_eq_true (by omega)
        go_wp2_with (first
            | (go_at_call 30; go_fit (hp _); rintro e w2 ⟨rfl, hb⟩; have hT2 := Utf8Tabs_below hT1 hb; have q2 := r1.keep hb; have b2 := hb1.trans (hb.mono hb1.size); have g4 := q2.cell 4 HR.out.c4; have g5 := q2.cell 5 HR.out.c5; have g6 := Lib.hid (q2.cert hs HR.out.cc))
            | (guard_target =~ wpList _ _ _ (_ :: _) _ _; refine Rt.load_at 31 rfl ⟨w.heap.size, 6, none⟩ rfl (by kernel_rfl) g6.out ?_)
            | (go_at_call 31; go_fit (hc _ hT2); rintro e w3 ⟨rfl, hb3⟩; have b3 := b2.trans (hb3.mono b2.size); have q3 := q2.keep hb3; have hT3 := Utf8Tabs_below hT2 hb3; have k4 := q3.cell 4 HR.out.c4))
        go_ret
        exact ⟨Nam.retB (by simp; intros; omega), b2⟩
    · have d1 : decide ((16 : Int) < (n : Int)) = true := decide_eq_true (by omega)
      go_wp2_with (first
            | (go_at_call 30; go_fit (hp _); rintro e w2 ⟨rfl, hb⟩; have hT2 := Utf8Tabs_below hT1 hb; have q2 := r1.keep hb; have b2 := hb1.trans (hb.mono hb1.size); have g4 := q2.cell 4 HR.out.c4; have g5 := q2.cell 5 HR.out.c5; have g6 := Lib.hid (q2.cert hs HR.out.cc))
            | (guard_target =~ wpList _ _ _ (_ :: _) _ _; refine Rt.load_at 31 rfl ⟨w.heap.size, 6, none⟩ rfl (by kernel_rfl) g6.out ?_)
            | (go_at_call 31; go_fit (hc _ hT2); rintro e w3 ⟨rfl, hb3⟩; have b3 := b2.trans (hb3.mono b2.size); have q3 := q2.keep hb3; have hT3 := Utf8Tabs_below hT2 hb3; have k4 := q3.cell 4 HR.out.c4))
      go_ret
      exact ⟨Nam.retB (by simp; intros; omega), b2⟩
end Go.Proofs
set_option linter.unusedSimpArgs false
namespace Go.Proofs
open Go.Shelf Go.RowKit Go.Lib Go.Rt Go.Nam
theorem Rt.contains {a : Option Addr} {n c : Nat} {zs : List ByteArray} {w : World} (hZ : Rt.Strs w a n zs) (x : ByteArray) :
    Calls Tryd.prog 33 #[.slice a n c, .string x] w fun e w' => e = .returned (.bool (Lib.containsS zs x)) ∧ w' = w := by
  by_cases h : 0 < n
  · obtain ⟨b, off, ha, hb⟩ := hZ.at_ 0 h
    subst ha
    have e := Tryd.slices_Contains_string b off n c zs x w (by rw [hZ.len]; exact Nat.le_refl _) (by have := hZ.big; omega) (fun j hj => hZ.cell b off rfl j (by rw [← hZ.len]; exact hj))
    rw [List.take_of_length_le (by rw [hZ.len]; exact Nat.le_refl _)] at e
    exact e
  · have h0 : n = 0 := by omega
    subst h0
    have hz : zs = [] := List.length_eq_zero_iff.1 hZ.len
    subst hz
    exact Tryd.slices_Contains_string_empty a c x w
set_option maxHeartbeats 1000000 in
set_option maxRecDepth 100000 in
theorem Rt.has (cs : Array Value) (a : Option Addr) (n c : Nat) (zs : List ByteArray) (s : ByteArray) (w : World) (hs : cs.size = 79) (h4 : cs[4]? = some (.slice a n c)) (hZ : Rt.Strs w a n zs) :
    Calls Tryd.prog 18 #[.agg cs, .string s] w fun e w' => e = .returned (.bool (Lib.containsS zs s)) ∧ Below w.heap.size w w' := by
  obtain ⟨w1, e1, r1, hb1, hlt⟩ := Rt.box w cs 33
  have hc := Rt.contains (c := c) (hZ.keep hb1) s
  have k4 := r1.cell 4 h4
  clear hZ
  go_enter Tryd.func18, Tryd.ntmps18
  go_wp2_with (go_at_call 33; go_fit hc; rintro e w2 ⟨rfl, rfl⟩)
  go_ret
  exact ⟨rfl, hb1⟩
def Rt.anyFrom (zs : List ByteArray) (s : ByteArray) (i : Nat) : Bool := (zs.drop i).any (fun z => z == s)
theorem Rt.anyFrom_step (zs : List ByteArray) (s : ByteArray) (i : Nat) (h : i < zs.length) : Rt.anyFrom zs s i = ((zs.getD i ByteArray.empty == s) || Rt.anyFrom zs s (i + 1)) := by
  unfold Rt.anyFrom
  rw [List.drop_eq_getElem_cons h, List.any_cons]
  simp [List.getD, h]
theorem Rt.anyFrom_end (zs : List ByteArray) (s : ByteArray) (i : Nat) (h : zs.length ≤ i) : Rt.anyFrom zs s i = false := by
  unfold Rt.anyFrom
  rw [List.drop_of_length_le h]; rfl
theorem Rt.beqL (a b : ByteArray) : (a.toList == b.toList) = (a == b) := (beq_toListBytes a b).symm
set_option maxHeartbeats 1000000 in
set_option maxRecDepth 100000 in
theorem Rt.hasR (cs : Array Value) (a : Option Addr) (n c : Nat) (zs : List ByteArray) (s : ByteArray) (w : World) (hs : cs.size = 79) (h4 : cs[4]? = some (.slice a n c)) (hZ : Rt.Strs w a n zs) (hnc : n ≤ c) :
    Calls Tryd.prog 19 #[.agg cs, .string s] w fun e w' => e = .returned (.bool (Rt.anyFrom zs s 0)) ∧ Below w.heap.size w w' := by
  obtain ⟨w1, e1, r1, hb1, hlt⟩ := Rt.box w cs 33
  obtain ⟨V, hV⟩ : ∃ V, Rt.anyFrom zs s 0 = V := ⟨_, rfl⟩
  rw [hV]
  have HV := Lib.hid hV
  have HZ := Lib.hid hZ
  have HN := Lib.hid hZ.len
  have hnb := hZ.big
  clear hV hZ
  go_enter Tryd.func19, Tryd.ntmps19
  go_wp2
  go_loopw [5] (fun u wr => ∃ i : Nat, u = .int .i64 (i : Int) ∧ i ≤ n ∧ wr = w1 ∧ Hid (Rt.anyFrom zs s i = V)) (fun u _ => n - (Go.RowKit.intOf u).toNat)
  case atStart => exact ⟨0, rfl, Nat.zero_le _, rfl, HV⟩
  case round =>
    obtain ⟨i, rfl, hi, rfl, HK⟩ := hrel
    have k4 := r1.cell 4 h4
    by_cases hin : i < n
    · obtain ⟨b, off, ha, hblt⟩ := HZ.out.at_ i hin
      subst ha
      have hld := (HZ.out.keep hb1).cell b off rfl i hin
      have hk := HK.out
      rw [Rt.anyFrom_step zs s i (by rw [HN.out]; exact hin)] at hk
      generalize zs.getD i ByteArray.empty = x at *
      have hq := Rt.beqL x s
      generalize (x == s) = E at *
      have HK2 := Lib.hid hk
      have HIN := Lib.hid hin
      clear hk HK HZ
      cases E
      · go_wp2
        go_roundw
        case rel => exact ⟨i + 1, by simp, by have := HIN.out; omega, trivial, Lib.hid (by rw [← HK2.out]; simp)⟩
        case measure =>
          have := HIN.out
          show n - ((i : Int) + 1).toNat < n - (i : Int).toNat
          omega
      · go_wp2
        go_ret
        exact ⟨Nam.retB (by rw [← HK2.out]; simp), hb1⟩
    · have : i = n := by omega
      subst this
      have hk := HK.out
      rw [Rt.anyFrom_end zs s i (by rw [HN.out]; exact Nat.le_refl _)] at hk
      have HK2 := Lib.hid hk
      clear hk HK
      go_wp2
      go_ret
      exact ⟨Nam.retB HK2.out, hb1⟩
theorem Rt.beq_bytes (x s : ByteArray) : (x == s) = true ↔ x = s := by
  rw [beq_toListBytes, beq_iff_eq, Lib.toList_data, Lib.toList_data]
  constructor
  · intro h
    cases x; cases s
    congr
    exact Array.ext' h
  · intro h; rw [h]
theorem Rt.anyFrom_all (zs : List ByteArray) (s : ByteArray) : Rt.anyFrom zs s 0 = Lib.containsS zs s := by
  rw [Bool.eq_iff_iff, Lib.containsS_iff]
  unfold Rt.anyFrom
  simp [Rt.beq_bytes]
theorem Rt.Strs.take {w : World} {a : Option Addr} {n : Nat} {zs : List ByteArray} (h : Rt.Strs w a n zs) (i : Nat) (hi : i ≤ n) : Rt.Strs w a i (zs.take i) :=
  ⟨by rw [List.length_take, h.len]; omega, fun j hj => h.at_ j (by omega), fun b off e j hj => by
    rw [h.cell b off e j (by omega)]
    congr 2
    simp [List.getD, List.getElem?_take, hj], by have := h.big; omega, fun j hj => by
    have e := h.small j (by omega)
    simpa [List.getD, List.getElem?_take, hj] using e⟩
end Go.Proofs
set_option linter.unusedSimpArgs false
namespace Go.Proofs
open Go.Shelf Go.RowKit Go.Lib Go.Rt Go.Nam
set_option maxHeartbeats 2000000 in
set_option maxRecDepth 100000 in
theorem Rt.routeRightR (cs : Array Value) (v : Bool) (hi lo len : Int) (a : Option Addr) (n c : Nat) (zs : List ByteArray) (co : Int) (cc : Array Value) (st : ByteArray) (cv : Bool) (chi clo clen mx fr ti se : Int) (w : World)
    (hR : Rt.Rou cs v hi lo len a n c co cc) (hZ : Rt.Strs w a n zs) (hC : Rt.Crt cc st cv chi clo clen mx fr ti se) (hI : Rt.CrtIn st chi clo clen mx fr ti se) (hT : Utf8Tabs 0 1 w)
    (h0 : 0 ≤ hi) (h1 : hi < 18446744073709551616) (h2 : 0 ≤ lo) (h3 : lo < 18446744073709551616) (hl : len < 9223372036854775808) (hl0 : -9223372036854775808 ≤ len) (hnc : n ≤ c) (hco : 0 ≤ co) (hco1 : co < 4294967296) :
    Calls Tryd.prog 13 #[.agg cs] w fun e w' => e = .returned (.bool (Rt.rR v hi lo len zs co (Rt.cR st cv chi clo clen mx fr ti))) ∧ Below w.heap.size w w' := by
  have hp := fun w => Rt.pRightR v hi lo len w h0 h1 h2 h3
  have hc := fun w => Rt.certRightR cc st cv chi clo clen mx fr ti se w hC hI
  have HZ := Lib.hid hZ
  have hn := hZ.len
  have hnb := hZ.big
  have HR := Lib.hid hR
  have hs := hR.size
  clear hC hI hR hZ
  unfold Rt.rR
  rw [hn]
  generalize Rt.pR v hi lo len = PR at *
  generalize Rt.cR st cv chi clo clen mx fr ti = CR at *
  obtain ⟨PO, hPO⟩ : ∃ PO, Rt.pathOk zs 0 = PO := ⟨_, rfl⟩
  rw [hPO]
  have HPO := Lib.hid hPO
  have HN := Lib.hid hn
  clear hPO hn h0 h1 h2 h3 hl hl0
  obtain ⟨w1, e1, r1, hb1, hlt⟩ := Rt.box w cs 33
  have hT1 := Utf8Tabs_below hT hb1
  have f0 := r1.cell 0 HR.out.c0
  have f1 := r1.cell 1 HR.out.c1
  have f2 := r1.cell 2 HR.out.c2
  have f3 := r1.cell 3 HR.out.c3
  go_enter Tryd.func13, Tryd.ntmps13
  cases PR
  · go_wp2_with (go_at_call 34; go_fit (hp _); rintro e w2 ⟨rfl, hb⟩)
    go_ret
    exact ⟨rfl, hb1.trans (hb.mono hb1.size)⟩
  · by_cases c1 : n ≤ 16
    · by_cases c2 : co ≤ 16777216
      · have d1 : decide ((16 : Int) < (n : Int)) = false := decide_eq_false (by omega)
        have d2 : decide ((16777216 : Int) < co) = false := decide_eq_false (by omega)
        cases CR
        · go_wp2_with (first
            | (go_at_call 34; go_fit (hp _); rintro e w2 ⟨rfl, hb⟩; have hT2 := Utf8Tabs_below hT1 hb; have q2 := r1.keep hb; have b2 := hb1.trans (hb.mono hb1.size); have g4 := q2.cell 4 HR.out.c4; have g5 := q2.cell 5 HR.out.c5; have g6 := Lib.hid (q2.cert hs HR.out.cc))
            | (guard_target =~ wpList _ _ _ (_ :: _) _ _; refine Rt.load_at 31 rfl ⟨w.heap.size, 6, none⟩ rfl (by kernel_rfl) g6.out ?_)
            | (go_at_call 35; go_fit (hc _ hT2); rintro e w3 ⟨rfl, hb3⟩; have b3 := b2.trans (hb3.mono b2.size); have q3 := q2.keep hb3; have hT3 := Utf8Tabs_below hT2 hb3; have k4 := q3.cell 4 HR.out.c4))
          go_ret
          exact ⟨Nam.retB (by simp), b3⟩
        · go_wp2_with (first
            | (go_at_call 34; go_fit (hp _); rintro e w2 ⟨rfl, hb⟩; have hT2 := Utf8Tabs_below hT1 hb; have q2 := r1.keep hb; have b2 := hb1.trans (hb.mono hb1.size); have g4 := q2.cell 4 HR.out.c4; have g5 := q2.cell 5 HR.out.c5; have g6 := Lib.hid (q2.cert hs HR.out.cc))
            | (guard_target =~ wpList _ _ _ (_ :: _) _ _; refine Rt.load_at 31 rfl ⟨w.heap.size, 6, none⟩ rfl (by kernel_rfl) g6.out ?_)
            | (go_at_call 35; go_fit (hc _ hT2); rintro e w3 ⟨rfl, hb3⟩; have b3 := b2.trans (hb3.mono b2.size); have q3 := q2.keep hb3; have hT3 := Utf8Tabs_below hT2 hb3; have k4 := q3.cell 4 HR.out.c4))
          go_loopw [3] (fun u wr => ∃ i : Nat, u = .int .i64 (i : Int) ∧ i ≤ n ∧ Below w1.heap.size w1 wr ∧ Hid (Rt.pathOk zs i = PO)) (fun u _ => n - (Go.RowKit.intOf u).toNat)
          case atStart => exact ⟨0, rfl, Nat.zero_le _, hb.trans (hb3.mono hb.size), HPO⟩
          case round =>
            obtain ⟨i, rfl, hi, hbw, HK⟩ := hrel
            by_cases hin : i < n
            · obtain ⟨b, off, ha, hblt⟩ := HZ.out.at_ i hin
              subst ha
              have hz := (HZ.out.keep hb1).keep hbw
              have hld := hz.cell b off rfl i hin
              have hsm := hz.small i hin
              have hk := HK.out
              rw [Rt.pathOk_step zs i (by rw [HN.out]; exact hin)] at hk
              unfold Rt.okAt at hk
              have htk := Lib.hid (hz.take i (Nat.le_of_lt hin))
              have hxe := Rt.anyFrom_all (zs.take i) (zs.getD i ByteArray.empty)
              have hTw := Utf8Tabs_below hT1 hbw
              have qw := r1.keep hbw
              have f4 := qw.cell 4 HR.out.c4
              generalize zs.getD i ByteArray.empty = x at *
              have hvx := fun w => Nam.ValidR x w hsm
              have hcn := fun (u : Rt.After wr) (cs : Array Value) (hs : cs.size = 79) (h4 : cs[4]? = some (.slice (some ⟨b, off, none⟩) i c)) => Rt.hasR cs (some ⟨b, off, none⟩) i c (zs.take i) x u.w hs h4 (htk.out.keep u.hb) (by omega)
              rw [hxe] at hcn
              have f4 := Rt.After.cell f4
              have hld := Rt.After.cell hld
              generalize validN x.data.toList = VX at *
              generalize containsS (zs.take i) x = CN at *
              have HK2 := Lib.hid hk
              have HIN := Lib.hid hin
              have HZ2 := Lib.hid hz
              clear hk hz HK HZ hxe
              cases VX
              · go_wp2
                (refine Rt.wp_region_calm (by kernel_rfl) (by kernel_rfl) ?_; (repeat (go_big_quiet_step (first | (go_at_call 36; exact Rt.up (hvx _ (Utf8Tabs_below hTw (Rt.After.hb _)))) | (go_at_call 19; exact Rt.up (hcn _ _ rfl rfl)) | fail))); refine wpQuiet_nil ?_; intro wn hwn; have hbn := Rt.after_elim hwn; clear hwn)
                have b5 := hbw.trans (hbn.mono hbw.size)
                go_wp2
                go_ret
                exact ⟨Nam.retB (by rw [← HK2.out]; simp), hb1.trans (b5.mono hb1.size)⟩
              · cases CN
                · go_wp2
                  (refine Rt.wp_region_calm (by kernel_rfl) (by kernel_rfl) ?_; (repeat (go_big_quiet_step (first | (go_at_call 36; exact Rt.up (hvx _ (Utf8Tabs_below hTw (Rt.After.hb _)))) | (go_at_call 19; exact Rt.up (hcn _ _ rfl rfl)) | fail))); refine wpQuiet_nil ?_; intro wn hwn; have hbn := Rt.after_elim hwn; clear hwn)
                  have b5 := hbw.trans (hbn.mono hbw.size)
                  go_wp2
                  go_roundw
                  case rel => exact ⟨i + 1, by simp, by have := HIN.out; omega, b5, Lib.hid (by rw [← HK2.out]; simp)⟩
                  case measure =>
                    have := HIN.out
                    show n - ((i : Int) + 1).toNat < n - (i : Int).toNat
                    omega
                · go_wp2
                  (refine Rt.wp_region_calm (by kernel_rfl) (by kernel_rfl) ?_; (repeat (go_big_quiet_step (first | (go_at_call 36; exact Rt.up (hvx _ (Utf8Tabs_below hTw (Rt.After.hb _)))) | (go_at_call 19; exact Rt.up (hcn _ _ rfl rfl)) | fail))); refine wpQuiet_nil ?_; intro wn hwn; have hbn := Rt.after_elim hwn; clear hwn)
                  have b5 := hbw.trans (hbn.mono hbw.size)
                  go_wp2
                  go_ret
                  exact ⟨Nam.retB (by rw [← HK2.out]; simp), hb1.trans (b5.mono hb1.size)⟩
            · have : i = n := by omega
              have f4 := (r1.keep hbw).cell 4 HR.out.c4
              subst this
              have hk := HK.out
              rw [Rt.pathOk_end zs i (by rw [HN.out]; exact Nat.le_refl _)] at hk
              have HK2 := Lib.hid hk
              clear hk HK
              go_wp2
              go_ret
              exact ⟨Nam.retB (by rw [← HK2.out]; simp; omega), hb1.trans (hbw.mono hb1.size)⟩
      · have d1 : decide ((16 : Int) < (n : Int)) = false := decide_eq_false (by omega)
        have d2 : decide ((16777216 : Int) < co) = true := decide_eq_true (by omega)
        go_wp2_with (first
            | (go_at_call 34; go_fit (hp _); rintro e w2 ⟨rfl, hb⟩; have hT2 := Utf8Tabs_below hT1 hb; have q2 := r1.keep hb; have b2 := hb1.trans (hb.mono hb1.size); have g4 := q2.cell 4 HR.out.c4; have g5 := q2.cell 5 HR.out.c5; have g6 := Lib.hid (q2.cert hs HR.out.cc))
            | (guard_target =~ wpList _ _ _ (_ :: _) _ _; refine Rt.load_at 31 rfl ⟨w.heap.size, 6, none⟩ rfl (by kernel_rfl) g6.out ?_)
            | (go_at_call 35; go_fit (hc _ hT2); rintro e w3 ⟨rfl, hb3⟩; have b3 := b2.trans (hb3.mono b2.size); have q3 := q2.keep hb3; have hT3 := Utf8Tabs_below hT2 hb3; have k4 := q3.cell 4 HR.out.c4))
        go_ret
        exact ⟨Nam.retB (by simp; intros; omega), b2⟩
    · have d1 : decide ((16 : Int) < (n : Int)) = true := decide_eq_true (by omega)
      go_wp2_with (first
            | (go_at_call 34; go_fit (hp _); rintro e w2 ⟨rfl, hb⟩; have hT2 := Utf8Tabs_below hT1 hb; have q2 := r1.keep hb; have b2 := hb1.trans (hb.mono hb1.size); have g4 := q2.cell 4 HR.out.c4; have g5 := q2.cell 5 HR.out.c5; have g6 := Lib.hid (q2.cert hs HR.out.cc))
            | (guard_target =~ wpList _ _ _ (_ :: _) _ _; refine Rt.load_at 31 rfl ⟨w.heap.size, 6, none⟩ rfl (by kernel_rfl) g6.out ?_)
            | (go_at_call 35; go_fit (hc _ hT2); rintro e w3 ⟨rfl, hb3⟩; have b3 := b2.trans (hb3.mono b2.size); have q3 := q2.keep hb3; have hT3 := Utf8Tabs_below hT2 hb3; have k4 := q3.cell 4 HR.out.c4))
      go_ret
      exact ⟨Nam.retB (by simp; intros; omega), b2⟩
end Go.Proofs
set_option linter.unusedSimpArgs false
namespace Go.Proofs
open Go.Shelf Go.RowKit Go.Lib Go.Rt Go.Nam
structure Rt.CV where
  st : ByteArray
  v : Bool
  hi : Int
  lo : Int
  len : Int
  mx : Int
  fr : Int
  ti : Int
  se : Int
  sg : List UInt8
def Rt.CV.list (x : Rt.CV) : List Value := .string x.st :: .bool x.v :: .int .u64 x.hi :: .int .u64 x.lo :: .int .i64 x.len :: .int .i64 x.mx :: .int .u64 x.fr :: .int .u64 x.ti :: .int .u32 x.se :: x.sg.map Extern.Stop.cell
def Rt.CV.cells (x : Rt.CV) : Array Value := x.list.toArray
theorem Rt.CV.crt (x : Rt.CV) (h : x.sg.length = 64) : Rt.Crt x.cells x.st x.v x.hi x.lo x.len x.mx x.fr x.ti x.se := by
  have e : x.cells.size = 73 := by simp [Rt.CV.cells, Rt.CV.list, h]
  exact ⟨e, rfl, rfl, rfl, rfl, rfl, rfl, rfl, rfl, rfl⟩
theorem Rt.eqStep {d : Nat} {xs ys : Array Value} {f : Field} {fs : List Field} {w : World} {a b : Value} {r R : Bool} (ha : (part f.type xs f.offset).run Tryd.prog w = .ok a w) (hb : (part f.type ys f.offset).run Tryd.prog w = .ok b w)
    (hr : (Op.equalIn d f.type a b).run Tryd.prog w = .ok r w) (hn : f.name ≠ "_") (h : (Op.eqFields d xs ys fs).run Tryd.prog w = .ok R w) : (Op.eqFields d xs ys (f :: fs)).run Tryd.prog w = .ok (r && R) w := by
  simp only [Op.eqFields, hn, ne_eq, not_false_eq_true, if_true, Sem.run_bind, ha, hb, hr, Result.andThen_ok]
  cases r
  · simp
  · simp [h]
theorem Rt.partPlain {t : TypeId} {cs : Array Value} {k : Nat} {v : Value} {w : World} (hg : ∀ w, (isAgg t).run Tryd.prog w = .ok false w) (hk : cs[k]? = some v) : (part t cs k).run Tryd.prog w = .ok v w := by
  simp [part, Sem.run_bind, hg, Result.andThen_ok, hk]
theorem Rt.partAgg {t : TypeId} {cs : Array Value} {k n : Nat} {w : World} (hg : ∀ w, (isAgg t).run Tryd.prog w = .ok true w) (hs : ∀ w, (sizeOf t).run Tryd.prog w = .ok n w) : (part t cs k).run Tryd.prog w = .ok (.agg (cs.extract k (k + n))) w := by
  simp [part, Sem.run_bind, hg, Result.andThen_ok, hs]
theorem Rt.eqEnd {d : Nat} {xs ys : Array Value} {w : World} : (Op.eqFields d xs ys []).run Tryd.prog w = .ok true w := by simp [Op.eqFields]
def Rt.CV.same (x y : Rt.CV) : Bool := (x.st.toList == y.st.toList) && ((((x.v == y.v) && ((x.hi == y.hi) && ((x.lo == y.lo) && true))) && ((x.len == y.len) && true)) && ((x.mx == y.mx) && ((x.fr == y.fr) && ((x.ti == y.ti) && ((x.se == y.se) && ((x.sg == y.sg) && true))))))
theorem Rt.eqStruct {d : Nat} {t : TypeId} {xs ys : Array Value} {fs : Array Field} {w : World} {r : Bool} (hu : Tryd.prog.underlying t = some (.struct fs)) (hp : Tryd.prog.stoodInHeld t = false) (h : (Op.eqFields d xs ys fs.toList).run Tryd.prog w = .ok r w) :
    (Op.equalIn (d + 1) t (.agg xs) (.agg ys)).run Tryd.prog w = .ok r w := by
  have e : Tryd.prog.fieldsOf t = fs := by unfold Program.fieldsOf; rw [hu]
  rw [run_equalIn_struct (P := Tryd.prog) w d t xs ys (by rw [e]; exact hu) hp, e]
  exact h
theorem Rt.adr_equal (d : Nat) (v v' : Bool) (hi lo hi' lo' : Int) (w : World) : (Op.equalIn (d + 2) 24 (.agg #[.bool v, .int .u64 hi, .int .u64 lo]) (.agg #[.bool v', .int .u64 hi', .int .u64 lo'])).run Tryd.prog w = .ok ((v == v') && ((hi == hi') && ((lo == lo') && true))) w := by
  refine Rt.eqStruct Tryd.underlying24 Tryd.stoodInHeld24 ?_
  exact Rt.eqStep (Rt.partPlain Tryd.isAgg4 rfl) (Rt.partPlain Tryd.isAgg4 rfl) (run_equalIn_bool' _ _ _ _ _ Tryd.underlying4) (by decide) (Rt.eqStep (Rt.partPlain Tryd.isAgg22 rfl) (Rt.partPlain Tryd.isAgg22 rfl) (run_equalIn_int _ _ _ _ _ _ _ Tryd.underlying22) (by decide) (Rt.eqStep (Rt.partPlain Tryd.isAgg22 rfl) (Rt.partPlain Tryd.isAgg22 rfl) (run_equalIn_int _ _ _ _ _ _ _ Tryd.underlying22) (by decide) Rt.eqEnd))
theorem Rt.pfx_equal (d : Nat) (v v' : Bool) (hi lo len hi' lo' len' : Int) (w : World) : (Op.equalIn (d + 3) 26 (.agg #[.bool v, .int .u64 hi, .int .u64 lo, .int .i64 len]) (.agg #[.bool v', .int .u64 hi', .int .u64 lo', .int .i64 len'])).run Tryd.prog w = .ok (((v == v') && ((hi == hi') && ((lo == lo') && true))) && ((len == len') && true)) w := by
  refine Rt.eqStruct Tryd.underlying26 Tryd.stoodInHeld26 ?_
  exact Rt.eqStep (Rt.partAgg Tryd.isAgg24 Tryd.sizeOf24) (Rt.partAgg Tryd.isAgg24 Tryd.sizeOf24) (Rt.adr_equal _ _ _ _ _ _ _ _) (by decide) (Rt.eqStep (Rt.partPlain Tryd.isAgg3 rfl) (Rt.partPlain Tryd.isAgg3 rfl) (run_equalIn_int _ _ _ _ _ _ _ Tryd.underlying3) (by decide) Rt.eqEnd)
theorem Rt.cert_equal (x y : Rt.CV) (hx : x.sg.length = 64) (hy : y.sg.length = 64) (w : World) :
    (Op.equalIn 10000 31 (.agg x.cells) (.agg y.cells)).run Tryd.prog w = .ok (x.same y) w := by
  have ex1 : x.cells.extract 1 (1 + 4) = #[.bool x.v, .int .u64 x.hi, .int .u64 x.lo, .int .i64 x.len] := by simp [Rt.CV.cells, Rt.CV.list]
  have ey1 : y.cells.extract 1 (1 + 4) = #[.bool y.v, .int .u64 y.hi, .int .u64 y.lo, .int .i64 y.len] := by simp [Rt.CV.cells, Rt.CV.list]
  have ex9 : x.cells.extract 9 (9 + 64) = (x.sg.map Extern.Stop.cell).toArray := by simp [Rt.CV.cells, Rt.CV.list]; exact List.take_of_length_le (by simp [hx])
  have ey9 : y.cells.extract 9 (9 + 64) = (y.sg.map Extern.Stop.cell).toArray := by simp [Rt.CV.cells, Rt.CV.list]; exact List.take_of_length_le (by simp [hy])
  have px1 := Rt.partAgg (cs := x.cells) (k := 1) (w := w) Tryd.isAgg26 Tryd.sizeOf26
  have py1 := Rt.partAgg (cs := y.cells) (k := 1) (w := w) Tryd.isAgg26 Tryd.sizeOf26
  have px9 := Rt.partAgg (cs := x.cells) (k := 9) (w := w) Tryd.isAgg29 Tryd.sizeOf29
  have py9 := Rt.partAgg (cs := y.cells) (k := 9) (w := w) Tryd.isAgg29 Tryd.sizeOf29
  rw [ex1] at px1
  rw [ey1] at py1
  rw [ex9] at px9
  rw [ey9] at py9
  have hb := run_equalIn_bytes (P := Tryd.prog) w 9997 29 5 64 Tryd.underlying29 Tryd.underlying5 Tryd.sizeOf5 x.sg y.sg hx hy
  refine Rt.eqStruct Tryd.underlying31 Tryd.stoodInHeld31 ?_
  exact Rt.eqStep (Rt.partPlain Tryd.isAgg9 rfl) (Rt.partPlain Tryd.isAgg9 rfl) (run_equalIn_string _ _ _ _ _ Tryd.underlying9) (by decide)
    (Rt.eqStep px1 py1 (Rt.pfx_equal 9996 _ _ _ _ _ _ _ _ _) (by decide)
    (Rt.eqStep (Rt.partPlain Tryd.isAgg3 rfl) (Rt.partPlain Tryd.isAgg3 rfl) (run_equalIn_int _ _ _ _ _ _ _ Tryd.underlying3) (by decide)
    (Rt.eqStep (Rt.partPlain Tryd.isAgg22 rfl) (Rt.partPlain Tryd.isAgg22 rfl) (run_equalIn_int _ _ _ _ _ _ _ Tryd.underlying22) (by decide)
    (Rt.eqStep (Rt.partPlain Tryd.isAgg22 rfl) (Rt.partPlain Tryd.isAgg22 rfl) (run_equalIn_int _ _ _ _ _ _ _ Tryd.underlying22) (by decide)
    (Rt.eqStep (Rt.partPlain Tryd.isAgg28 rfl) (Rt.partPlain Tryd.isAgg28 rfl) (run_equalIn_int _ _ _ _ _ _ _ Tryd.underlying28) (by decide)
    (Rt.eqStep px9 py9 hb (by decide) Rt.eqEnd))))))
theorem Rt.eql_at {P : Program} {ops : Array Oper} {rest : List Oper} {o : Oper} {a : Act} {w : World} {Q : Exit → Act → World → Prop} (t : TypeId) {t' : TypeId} {x y : Operand} (ho : o.op = .binOp .eql t x y t') {xs ys : Array Value}
    (hx : a.eval x = .agg xs) (hy : a.eval y = .agg ys) (hw : Region.wanted o (yielded ops a.tmps) = true) {r : Bool} (hm : P.eqGuardType P.depth t = false) (hl : (Op.equalIn 10000 t (.agg xs) (.agg ys)).run P w = .ok r w)
    (h : wpList P ops Q rest (a.put o.dst (.bool r)) w) : wpList P ops Q (o :: rest) a w := by
  refine BigFrame.wpList_want hw fun K hK => ?_
  unfold Oper.wp execOp
  simp only [ho, hx, hy, Sem.run_bind, run_eqGuard_agg _ _ _ _ _ _ _ hm, Result.andThen_ok, run_eql_struct, hl, Sem.run_pure]
  exact hK _ _ h
theorem Rt.neq_at {P : Program} {ops : Array Oper} {rest : List Oper} {o : Oper} {a : Act} {w : World} {Q : Exit → Act → World → Prop} (t : TypeId) {t' : TypeId} {x y : Operand} (ho : o.op = .binOp .neq t x y t') {xs ys : Array Value}
    (hx : a.eval x = .agg xs) (hy : a.eval y = .agg ys) (hw : Region.wanted o (yielded ops a.tmps) = true) {r : Bool} (hm : P.eqGuardType P.depth t = false) (hl : (Op.equalIn 10000 t (.agg xs) (.agg ys)).run P w = .ok r w)
    (h : wpList P ops Q rest (a.put o.dst (.bool (!r))) w) : wpList P ops Q (o :: rest) a w := by
  refine BigFrame.wpList_want hw fun K hK => ?_
  unfold Oper.wp execOp
  simp only [ho, hx, hy, Sem.run_bind, run_eqGuard_agg _ _ _ _ _ _ _ hm, Result.andThen_ok, run_neq_struct, hl, Sem.run_pure]
  exact hK _ _ h
end Go.Proofs
set_option linter.unusedSimpArgs false
namespace Go.Proofs
open Go.Shelf Go.RowKit Go.Lib Go.Rt Go.Nam
set_option maxHeartbeats 1000000 in
set_option maxRecDepth 100000 in
theorem Rt.equalLen (a1 a2 : Option Addr) (n c m d : Nat) (w : World) (h : n ≠ m) :
    Calls Tryd.prog 42 #[.slice a1 n c, .slice a2 m d] w fun e w' => e = .returned (.bool false) ∧ w' = w := by
  have hb : ((n : Int) != (m : Int)) = true := by simp; omega
  have hb2 : ((n : Int) == (m : Int)) = false := by simp; omega
  go_enter Tryd.func42, Tryd.ntmps42
  go_wp2
  go_ret
  exact ⟨rfl, rfl⟩
theorem Rt.equalS {a1 a2 : Option Addr} {n c m d : Nat} {xs ys : List ByteArray} {w : World} (h1 : Rt.Strs w a1 n xs) (h2 : Rt.Strs w a2 m ys) :
    Calls Tryd.prog 42 #[.slice a1 n c, .slice a2 m d] w fun e w' => e = .returned (.bool (decide (xs = ys))) ∧ Below w.heap.size w w' := by
  by_cases hnm : n = m
  · subst hnm
    by_cases h0 : 0 < n
    · obtain ⟨b1, o1, e1, l1⟩ := h1.at_ 0 h0
      obtain ⟨b2, o2, e2, l2⟩ := h2.at_ 0 h0
      subst e1 e2
      refine (Tryd.slices_Equal_string b1 o1 n c b2 o2 n d xs ys w (by rw [h1.len]; exact Nat.le_refl _) (by rw [h2.len]; exact Nat.le_refl _) (by have := h1.big; omega) (by have := h1.big; omega) (fun j hj => h1.cell b1 o1 rfl j (by rw [← h1.len]; exact hj)) (fun j hj => h2.cell b2 o2 rfl j (by rw [← h2.len]; exact hj))).mono ?_
      rintro e w' ⟨rfl, q, rfl⟩
      rw [List.take_of_length_le (by rw [h1.len]; exact Nat.le_refl _), List.take_of_length_le (by rw [h2.len]; exact Nat.le_refl _)]
      exact ⟨rfl, rfl, rfl, rfl, Nat.le_refl _, fun _ _ => rfl⟩
    · have h0 : n = 0 := by omega
      subst h0
      have e1 : xs = [] := List.length_eq_zero_iff.1 h1.len
      have e2 : ys = [] := List.length_eq_zero_iff.1 h2.len
      subst e1 e2
      refine (Tryd.slices_Equal_string_empty a1 a2 c 0 d w (by decide)).mono ?_
      rintro e w' ⟨rfl, rfl⟩
      exact ⟨rfl, Below.refl _ _⟩
  · refine (Rt.equalLen a1 a2 n c m d w hnm).mono ?_
    rintro e w' ⟨rfl, rfl⟩
    refine ⟨?_, Below.refl _ _⟩
    have : xs ≠ ys := fun e => hnm (by rw [← h1.len, ← h2.len, e])
    rw [decide_eq_false this]
theorem Rt.box2 (w : World) (cs ds : Array Value) (t u : TypeId) : ∃ w1, (w.alloc (.cells cs t)).alloc (.cells ds u) = w1 ∧ Rt.Row w1 w.heap.size t cs ∧ Rt.Row w1 (w.heap.size + 1) u ds ∧ Below w.heap.size w w1 := by
  refine ⟨_, rfl, (Rt.Row.new w t cs).alloc _, ?_, ((Below.refl _ _).alloc (Nat.le_refl _) _).alloc (by simp) _⟩
  have h := Rt.Row.new (w.alloc (.cells cs t)) u ds
  have e : (w.alloc (.cells cs t)).heap.size = w.heap.size + 1 := by simp
  rwa [e] at h
def Rt.pfxE (v v' : Bool) (hi lo len hi' lo' len' : Int) : Bool := ((v == v') && ((hi == hi') && ((lo == lo') && true))) && ((len == len') && true)
def Rt.sameE (P : Bool) (zs ys : List ByteArray) (co co' : Int) (C : Bool) : Bool := P && decide (zs = ys) && (co == co') && C
set_option maxHeartbeats 1000000 in
set_option maxRecDepth 100000 in
theorem Rt.same (cs ds : Array Value) (v v' : Bool) (hi lo len hi' lo' len' : Int) (a a' : Option Addr) (n c n' c' : Nat) (co co' : Int) (x y : Rt.CV) (zs ys : List ByteArray) (w : World)
    (hR : Rt.Rou cs v hi lo len a n c co x.cells) (hR' : Rt.Rou ds v' hi' lo' len' a' n' c' co' y.cells) (hx : x.sg.length = 64) (hy : y.sg.length = 64) (hZ : Rt.Strs w a n zs) (hZ' : Rt.Strs w a' n' ys) :
    Calls Tryd.prog 22 #[.agg cs, .agg ds] w fun e w' => e = .returned (.bool (Rt.sameE (Rt.pfxE v v' hi lo len hi' lo' len') zs ys co co' (x.same y))) ∧ Below w.heap.size w w' := by
  obtain ⟨w1, e1, r1, q1, hb1⟩ := Rt.box2 w cs ds 33 33
  have hp := fun w => Rt.pfx_equal 9997 v v' hi lo len hi' lo' len' w
  have hc := fun w => Rt.cert_equal x y hx hy w
  have hs := hR.size
  have hs' := hR'.size
  have HR := Lib.hid hR
  have HR' := Lib.hid hR'
  have he := Rt.equalS (c := c) (d := c') (hZ.keep hb1) (hZ'.keep hb1)
  have f0 := r1.cell 0 hR.c0
  have f1 := r1.cell 1 hR.c1
  have f2 := r1.cell 2 hR.c2
  have f3 := r1.cell 3 hR.c3
  have f4 := r1.cell 4 hR.c4
  have g0 := q1.cell 0 hR'.c0
  have g1 := q1.cell 1 hR'.c1
  have g2 := q1.cell 2 hR'.c2
  have g3 := q1.cell 3 hR'.c3
  have g4 := q1.cell 4 hR'.c4
  clear hR hR' hZ hZ'
  unfold Rt.sameE
  obtain ⟨PE, hPE⟩ : ∃ PE, Rt.pfxE v v' hi lo len hi' lo' len' = PE := ⟨_, rfl⟩
  have hp2 : ∀ w, (Op.equalIn 10000 26 (.agg #[.bool v, .int .u64 hi, .int .u64 lo, .int .i64 len]) (.agg #[.bool v', .int .u64 hi', .int .u64 lo', .int .i64 len'])).run Tryd.prog w = .ok PE w := fun w => by rw [← hPE]; exact hp w
  rw [hPE]
  clear hPE hp
  have HP := Lib.hid hp2
  have HC := Lib.hid hc
  clear hp2 hc
  generalize decide (zs = ys) = ZE at *
  generalize x.same y = CE at *
  generalize x.cells = X at *
  generalize y.cells = Y at *
  go_enter Tryd.func22, Tryd.ntmps22
  cases PE
  · go_wp2_with (first
      | (guard_target =~ wpList _ _ _ (_ :: _) _ _; refine Rt.eql_at 26 rfl rfl rfl (by kernel_rfl) Tryd.eqGuardType26 (HP.out _) ?_)
      | (go_at_call 42; go_fit he; rintro e w2 ⟨rfl, hb⟩; have b2 := hb1.trans (hb.mono hb1.size); have k5 := (r1.keep hb).cell 5 HR.out.c5; have m5 := (q1.keep hb).cell 5 HR'.out.c5; have k6 := Lib.hid ((r1.keep hb).cert hs HR.out.cc); have m6 := Lib.hid ((q1.keep hb).cert hs' HR'.out.cc))
      | (guard_target =~ wpList _ _ _ (_ :: _) _ _; refine Rt.load_at 31 rfl ⟨w.heap.size, 6, none⟩ rfl (by kernel_rfl) k6.out ?_)
      | (guard_target =~ wpList _ _ _ (_ :: _) _ _; refine Rt.load_at 31 rfl ⟨w.heap.size + 1, 6, none⟩ rfl (by kernel_rfl) m6.out ?_)
      | (guard_target =~ wpList _ _ _ (_ :: _) _ _; refine Rt.eql_at 31 rfl rfl rfl (by kernel_rfl) Tryd.eqGuardType31 (HC.out _) ?_))
    go_ret
    exact ⟨Nam.retB (by simp), hb1⟩
  · cases ZE
    · go_wp2_with (first
      | (guard_target =~ wpList _ _ _ (_ :: _) _ _; refine Rt.eql_at 26 rfl rfl rfl (by kernel_rfl) Tryd.eqGuardType26 (HP.out _) ?_)
      | (go_at_call 42; go_fit he; rintro e w2 ⟨rfl, hb⟩; have b2 := hb1.trans (hb.mono hb1.size); have k5 := (r1.keep hb).cell 5 HR.out.c5; have m5 := (q1.keep hb).cell 5 HR'.out.c5; have k6 := Lib.hid ((r1.keep hb).cert hs HR.out.cc); have m6 := Lib.hid ((q1.keep hb).cert hs' HR'.out.cc))
      | (guard_target =~ wpList _ _ _ (_ :: _) _ _; refine Rt.load_at 31 rfl ⟨w.heap.size, 6, none⟩ rfl (by kernel_rfl) k6.out ?_)
      | (guard_target =~ wpList _ _ _ (_ :: _) _ _; refine Rt.load_at 31 rfl ⟨w.heap.size + 1, 6, none⟩ rfl (by kernel_rfl) m6.out ?_)
      | (guard_target =~ wpList _ _ _ (_ :: _) _ _; refine Rt.eql_at 31 rfl rfl rfl (by kernel_rfl) Tryd.eqGuardType31 (HC.out _) ?_))
      go_ret
      exact ⟨Nam.retB (by simp), b2⟩
    · by_cases c5 : co = co'
      · have d5 : (co == co') = true := beq_iff_eq.2 c5
        have D5 := Lib.hid d5
        go_wp2_with (first
      | (guard_target =~ wpList _ _ _ (_ :: _) _ _; refine Rt.eql_at 26 rfl rfl rfl (by kernel_rfl) Tryd.eqGuardType26 (HP.out _) ?_)
      | (go_at_call 42; go_fit he; rintro e w2 ⟨rfl, hb⟩; have b2 := hb1.trans (hb.mono hb1.size); have k5 := (r1.keep hb).cell 5 HR.out.c5; have m5 := (q1.keep hb).cell 5 HR'.out.c5; have k6 := Lib.hid ((r1.keep hb).cert hs HR.out.cc); have m6 := Lib.hid ((q1.keep hb).cert hs' HR'.out.cc))
      | (guard_target =~ wpList _ _ _ (_ :: _) _ _; refine Rt.load_at 31 rfl ⟨w.heap.size, 6, none⟩ rfl (by kernel_rfl) k6.out ?_)
      | (guard_target =~ wpList _ _ _ (_ :: _) _ _; refine Rt.load_at 31 rfl ⟨w.heap.size + 1, 6, none⟩ rfl (by kernel_rfl) m6.out ?_)
      | (guard_target =~ wpList _ _ _ (_ :: _) _ _; refine Rt.eql_at 31 rfl rfl rfl (by kernel_rfl) Tryd.eqGuardType31 (HC.out _) ?_))
        go_ret
        exact ⟨Nam.retB (by rw [D5.out]; simp), b2⟩
      · have d5 : (co == co') = false := beq_eq_false_iff_ne.2 c5
        have D5 := Lib.hid d5
        go_wp2_with (first
      | (guard_target =~ wpList _ _ _ (_ :: _) _ _; refine Rt.eql_at 26 rfl rfl rfl (by kernel_rfl) Tryd.eqGuardType26 (HP.out _) ?_)
      | (go_at_call 42; go_fit he; rintro e w2 ⟨rfl, hb⟩; have b2 := hb1.trans (hb.mono hb1.size); have k5 := (r1.keep hb).cell 5 HR.out.c5; have m5 := (q1.keep hb).cell 5 HR'.out.c5; have k6 := Lib.hid ((r1.keep hb).cert hs HR.out.cc); have m6 := Lib.hid ((q1.keep hb).cert hs' HR'.out.cc))
      | (guard_target =~ wpList _ _ _ (_ :: _) _ _; refine Rt.load_at 31 rfl ⟨w.heap.size, 6, none⟩ rfl (by kernel_rfl) k6.out ?_)
      | (guard_target =~ wpList _ _ _ (_ :: _) _ _; refine Rt.load_at 31 rfl ⟨w.heap.size + 1, 6, none⟩ rfl (by kernel_rfl) m6.out ?_)
      | (guard_target =~ wpList _ _ _ (_ :: _) _ _; refine Rt.eql_at 31 rfl rfl rfl (by kernel_rfl) Tryd.eqGuardType31 (HC.out _) ?_))
        go_ret
        exact ⟨Nam.retB (by rw [D5.out]; simp), b2⟩
end Go.Proofs
set_option linter.unusedSimpArgs false
namespace Go.Proofs
open Go.Shelf Go.RowKit Go.Lib Go.Rt Go.Nam
set_option maxHeartbeats 1000000 in
set_option maxRecDepth 100000 in
theorem Rt.isNaN32 (x : Int) (w : World) : Calls Tryd.prog 66 #[.int .u32 x] w fun e w' => e = .returned (.bool false) ∧ w' = w := by
  go_enter Tryd.func66, Tryd.ntmps66
  go_wp2
  go_ret
  exact ⟨Nam.retB (by simp), rfl⟩
set_option maxHeartbeats 1000000 in
set_option maxRecDepth 100000 in
theorem Rt.compare32 (x y : Int) (w : World) : Calls Tryd.prog 38 #[.int .u32 x, .int .u32 y] w fun e w' => e = .returned (.int .i64 (Lib.compareInt x y)) ∧ w' = w := by
  have h := Rt.isNaN32
  unfold Lib.compareInt
  by_cases c : x < y
  · rw [if_pos c]
    go_enter Tryd.func38, Tryd.ntmps38
    go_wp2_with (go_at_call 66; go_fit (h _ _); rintro e w2 ⟨rfl, rfl⟩)
    go_ret
    exact ⟨rfl, rfl⟩
  · rw [if_neg c]
    by_cases d : y < x
    · rw [if_pos d]
      go_enter Tryd.func38, Tryd.ntmps38
      go_wp2_with (go_at_call 66; go_fit (h _ _); rintro e w2 ⟨rfl, rfl⟩)
      go_ret
      exact ⟨rfl, rfl⟩
    · rw [if_neg d]
      go_enter Tryd.func38, Tryd.ntmps38
      go_wp2_with (go_at_call 66; go_fit (h _ _); rintro e w2 ⟨rfl, rfl⟩)
      go_ret
      exact ⟨rfl, rfl⟩
def Rt.orI (p q : Int) : Int := if p = 0 then q else p
set_option maxHeartbeats 1000000 in
set_option maxRecDepth 100000 in
theorem Rt.cmpOr (B : Nat) (p q : Int) (w : World) (h0 : w.cell? ⟨B, 0, none⟩ = some (.int .i64 p)) (h1 : w.cell? ⟨B, 1, none⟩ = some (.int .i64 q)) :
    Calls Tryd.prog 37 #[.slice (some ⟨B, 0, none⟩) 2 2] w fun e w' => e = .returned (.int .i64 (Rt.orI p q)) ∧ w' = w := by
  obtain ⟨V, hV⟩ : ∃ V, Rt.orI p q = V := ⟨_, rfl⟩
  rw [hV]
  have HV := Lib.hid hV
  clear hV
  go_enter Tryd.func37, Tryd.ntmps37
  go_wp2
  go_loopw [8] (fun u wr => (u = .int .i64 0 ∧ wr = w) ∨ (u = .int .i64 1 ∧ wr = w ∧ Hid (p = 0)) ∨ (u = .int .i64 2 ∧ wr = w ∧ Hid (p = 0) ∧ Hid (q = 0))) (fun u _ => 2 - (Go.RowKit.intOf u).toNat)
  case atStart => exact .inl ⟨rfl, rfl⟩
  case round =>
    rcases hrel with ⟨rfl, rfl⟩ | ⟨rfl, rfl, H⟩ | ⟨rfl, rfl, H, H2⟩
    · by_cases c : p = 0
      · have d : (p != 0) = false := by simp [c]
        have HC := Lib.hid c
        clear c
        go_wp2
        go_roundw
        case rel => exact .inr (.inl ⟨rfl, trivial, HC⟩)
        case measure => decide
      · have d : (p != 0) = true := by simp [c]
        have e := HV.out
        unfold Rt.orI at e
        rw [if_neg c] at e
        have HE := Lib.hid e
        clear e
        go_wp2
        go_ret
        exact ⟨congrArg (fun z => Ending.returned (Value.int .i64 z)) HE.out, rfl⟩
    · have e := HV.out
      unfold Rt.orI at e
      rw [if_pos H.out] at e
      have HE := Lib.hid e
      clear e
      by_cases c : q = 0
      · have d : (q != 0) = false := by simp [c]
        have HC := Lib.hid c
        clear c
        go_wp2
        go_roundw
        case rel => exact .inr (.inr ⟨rfl, trivial, H, HC⟩)
        case measure => decide
      · have d : (q != 0) = true := by simp [c]
        go_wp2
        go_ret
        exact ⟨congrArg (fun z => Ending.returned (Value.int .i64 z)) HE.out, rfl⟩
    · have e := HV.out
      unfold Rt.orI at e
      rw [if_pos H.out, H2.out] at e
      have HE := Lib.hid e
      clear e
      go_wp2
      go_ret
      exact ⟨congrArg (fun z => Ending.returned (Value.int .i64 z)) HE.out, rfl⟩
end Go.Proofs
set_option linter.unusedSimpArgs false
namespace Go.Proofs
open Go.Shelf Go.RowKit Go.Lib Go.Rt Go.Nam
def Rt.betL : List ByteArray → List ByteArray → Bool
  | z :: zs, y :: ys => if z = y then Rt.betL zs ys else less z.data.toList y.data.toList
  | _, _ => false
theorem Rt.betL_step (zs ys : List ByteArray) (i : Nat) (h : i < zs.length) (h' : i < ys.length) : Rt.betL (zs.drop i) (ys.drop i) = if zs.getD i ByteArray.empty = ys.getD i ByteArray.empty then Rt.betL (zs.drop (i + 1)) (ys.drop (i + 1)) else less (zs.getD i ByteArray.empty).data.toList (ys.getD i ByteArray.empty).data.toList := by
  rw [List.drop_eq_getElem_cons h, List.drop_eq_getElem_cons h']
  simp [Rt.betL, List.getD, h, h']
def Rt.betV (co co' : Int) (zs ys : List ByteArray) : Bool := if co ≠ co' then decide (co < co') else if zs.length ≠ ys.length then decide (zs.length < ys.length) else Rt.betL zs ys
set_option maxHeartbeats 2000000 in
set_option maxRecDepth 100000 in
theorem Rt.betterR (cs ds : Array Value) (a a' : Option Addr) (n c n' c' : Nat) (co co' : Int) (zs ys : List ByteArray) (w : World)
    (hs : cs.size = 79) (hs' : ds.size = 79) (h4 : cs[4]? = some (.slice a n c)) (h4' : ds[4]? = some (.slice a' n' c')) (h5 : cs[5]? = some (.int .u32 co)) (h5' : ds[5]? = some (.int .u32 co')) (hZ : Rt.Strs w a n zs) (hZ' : Rt.Strs w a' n' ys) (hT : Utf8Tabs 0 1 w) (hnc : n ≤ c) (hnc' : n' ≤ c') :
    Calls Tryd.prog 21 #[.agg cs, .agg ds] w fun e w' => e = .returned (.bool (Rt.betV co co' zs ys)) ∧ Below w.heap.size w w' := by
  obtain ⟨w1, e1, r1, q1, hb1⟩ := Rt.box2 w cs ds 33 33
  have HZ := Lib.hid (hZ.keep hb1)
  have HZ' := Lib.hid (hZ'.keep hb1)
  have hnb := hZ.big
  have hnb' := hZ'.big
  have HN := Lib.hid hZ.len
  have HN' := Lib.hid hZ'.len
  have hT1 := Utf8Tabs_below hT hb1
  have f4 := r1.cell 4 h4
  have f5 := r1.cell 5 h5
  have g4 := q1.cell 4 h4'
  have g5 := q1.cell 5 h5'
  clear hZ hZ' hT
  obtain ⟨V, hV⟩ : ∃ V, Rt.betV co co' zs ys = V := ⟨_, rfl⟩
  rw [hV]
  unfold Rt.betV at hV
  rw [HN.out, HN'.out] at hV
  have HV := Lib.hid hV
  clear hV
  go_enter Tryd.func21, Tryd.ntmps21
  by_cases c5 : co = co'
  · have d5 : (co != co') = false := by simp [c5]
    have hV := HV.out
    rw [if_neg (by simp [c5])] at hV
    by_cases c6 : n = n'
    · rw [if_neg (by simp [c6])] at hV
      have HV2 := Lib.hid hV
      clear hV HV
      subst c6
      go_wp2
      go_loopw [5] (fun u wr => ∃ i : Nat, u = .int .i64 (i : Int) ∧ i ≤ n ∧ Below w1.heap.size w1 wr ∧ Hid (Rt.betL (zs.drop i) (ys.drop i) = V)) (fun u _ => n - (Go.RowKit.intOf u).toNat)
      case atStart => exact ⟨0, rfl, Nat.zero_le _, Below.refl _ _, HV2⟩
      case round =>
        obtain ⟨i, rfl, hi, hbw, HK⟩ := hrel
        have k4 := (r1.keep hbw).cell 4 h4
        have m4 := (q1.keep hbw).cell 4 h4'
        by_cases hin : i < n
        · obtain ⟨b, off, ha, hblt⟩ := HZ.out.at_ i hin
          obtain ⟨b', off', ha', hblt'⟩ := HZ'.out.at_ i hin
          subst ha ha'
          have z1 := HZ.out.keep hbw
          have z2 := HZ'.out.keep hbw
          have hld := z1.cell b off rfl i hin
          have hld' := z2.cell b' off' rfl i hin
          have hsm := z1.small i hin
          have hsm' := z2.small i hin
          have hk := HK.out
          rw [Rt.betL_step zs ys i (by rw [HN.out]; exact hin) (by rw [HN'.out]; exact hin)] at hk
          have hTw := Utf8Tabs_below hT1 hbw
          generalize zs.getD i ByteArray.empty = x1 at *
          generalize ys.getD i ByteArray.empty = y1 at *
          have K4 := Rt.After.cell k4
          have M4 := Rt.After.cell m4
          have HL := Rt.After.cell hld
          have HL' := Rt.After.cell hld'
          have hless := fun w => Nam.LessR x1 y1 w hsm hsm'
          by_cases hxy : x1 = y1
          · have hq : (x1.toList == y1.toList) = true := by rw [Rt.beqL, Rt.beq_bytes]; exact hxy
            rw [if_pos hxy] at hk
            have HK2 := Lib.hid hk
            have HIN := Lib.hid hin
            clear hk HK HZ HZ' hxy z1 z2
            go_wp2
            (refine Rt.wp_region_calm (by kernel_rfl) (by kernel_rfl) ?_; (repeat (go_big_quiet_step (first | fail | fail))); refine wpQuiet_nil ?_; intro wn hwn; have hbn := Rt.after_elim hwn; clear hwn)
            go_wp2
            go_roundw
            case rel => exact ⟨i + 1, by simp, by have := HIN.out; omega, hbw.trans (hbn.mono hbw.size), HK2⟩
            case measure =>
              have := HIN.out
              show n - ((i : Int) + 1).toNat < n - (i : Int).toNat
              omega
          · have hq : (x1.toList == y1.toList) = false := by rw [Rt.beqL, Bool.eq_false_iff]; exact fun e => hxy ((Rt.beq_bytes _ _).1 e)
            rw [if_neg hxy] at hk
            have HK2 := Lib.hid hk
            have HIN := Lib.hid hin
            clear hk HK HZ HZ' hxy z1 z2
            go_wp2
            (refine Rt.wp_region_calm (by kernel_rfl) (by kernel_rfl) ?_; (repeat (go_big_quiet_step (first | fail | fail))); refine wpQuiet_nil ?_; intro wn hwn; have hbn := Rt.after_elim hwn; clear hwn)
            have K4' := Rt.After.cell (K4 ⟨wn, hbn⟩)
            have M4' := Rt.After.cell (M4 ⟨wn, hbn⟩)
            have L4' := Rt.After.cell (HL ⟨wn, hbn⟩)
            have L5' := Rt.After.cell (HL' ⟨wn, hbn⟩)
            have hTn := Utf8Tabs_below hTw hbn
            have b5 := hbw.trans (hbn.mono hbw.size)
            go_wp2
            (refine Rt.wp_region_calm (by kernel_rfl) (by kernel_rfl) ?_; (repeat (go_big_quiet_step (first | (go_at_call 41; exact Rt.up (hless _ (Utf8Tabs_below hTn (Rt.After.hb _)))) | fail))); refine wpQuiet_nil ?_; intro wn hwn; have hbn := Rt.after_elim hwn; clear hwn)
            go_wp2
            go_ret
            exact ⟨Nam.retB HK2.out, hb1.trans ((b5.trans (hbn.mono b5.size)).mono hb1.size)⟩
        · have : i = n := by omega
          subst this
          have hk := HK.out
          rw [List.drop_of_length_le (by rw [HN.out]; exact Nat.le_refl _)] at hk
          have HK2 := Lib.hid hk
          clear hk HK
          go_wp2
          go_ret
          exact ⟨Nam.retB HK2.out, hb1.trans (hbw.mono hb1.size)⟩
    · rw [if_pos c6] at hV
      have HV2 := Lib.hid hV
      have d6 : ((n : Int) != (n' : Int)) = true := by simp; omega
      clear hV HV
      go_wp2
      go_ret
      exact ⟨Nam.retB (by rw [← HV2.out]), hb1⟩
  · have d5 : (co != co') = true := by simp [c5]
    have hV := HV.out
    rw [if_pos c5] at hV
    have HV2 := Lib.hid hV
    clear hV HV
    go_wp2
    go_ret
    exact ⟨Nam.retB HV2.out, hb1⟩
end Go.Proofs
set_option linter.unusedSimpArgs false
namespace Go.Proofs
open Go.Shelf Go.RowKit Go.Lib Go.Rt Go.Nam
theorem Rt.less_tot (x y : ByteArray) (h : x ≠ y) : (less x.data.toList y.data.toList || less y.data.toList x.data.toList) = true := by
  have h2 : x.data.toList ≠ y.data.toList := fun e => h (by cases x; cases y; congr; exact Array.ext' e)
  rcases less_total _ _ h2 with h | h <;> simp [h]
theorem Rt.betV_or (co co' : Int) (zs ys : List ByteArray) (n n' : Nat) (h : zs.length = n) (h' : ys.length = n') :
    Rt.betV co co' zs ys = (if Rt.orI (Lib.compareInt co co') (Lib.compareInt (n : Int) (n' : Int)) ≠ 0 then decide (Rt.orI (Lib.compareInt co co') (Lib.compareInt (n : Int) (n' : Int)) < 0) else Rt.betL zs ys) ∧ (Rt.orI (Lib.compareInt co co') (Lib.compareInt (n : Int) (n' : Int)) = 0 → n = n') := by
  subst h h'
  unfold Rt.betV Rt.orI Lib.compareInt
  rcases Int.lt_trichotomy co co' with h | h | h
  · rw [if_pos (by omega), if_pos h]
    simp [h]
  · subst h
    simp only [ne_eq, not_true_eq_false, if_false, Int.lt_irrefl]
    rcases Nat.lt_trichotomy zs.length ys.length with g | g | g
    · have a1 : (zs.length : Int) < (ys.length : Int) := by omega
      have g2 := Nat.ne_of_lt g
      simp [g, g2]
    · simp [g]
    · have a1 : ¬ (zs.length : Int) < (ys.length : Int) := by omega
      have a2 : (ys.length : Int) < (zs.length : Int) := by omega
      have g1 : ¬ zs.length < ys.length := by omega
      have g2 : ¬ zs.length = ys.length := by omega
      simp [a1, a2, g1, g2]
  · have : ¬ co < co' := by omega
    rw [if_pos (by omega), if_neg this, if_pos h]
    simp [this]
set_option maxHeartbeats 2000000 in
set_option maxRecDepth 100000 in
theorem Rt.better (cs ds : Array Value) (a a' : Option Addr) (n c n' c' : Nat) (co co' : Int) (zs ys : List ByteArray) (w : World)
    (hs : cs.size = 79) (hs' : ds.size = 79) (h4 : cs[4]? = some (.slice a n c)) (h4' : ds[4]? = some (.slice a' n' c')) (h5 : cs[5]? = some (.int .u32 co)) (h5' : ds[5]? = some (.int .u32 co')) (hZ : Rt.Strs w a n zs) (hZ' : Rt.Strs w a' n' ys) (hT : Utf8Tabs 0 1 w) (hnc : n ≤ c) (hnc' : n' ≤ c') :
    Calls Tryd.prog 20 #[.agg cs, .agg ds] w fun e w' => e = .returned (.bool (Rt.betV co co' zs ys)) ∧ Below w.heap.size w w' := by
  obtain ⟨w1, e1, r1, q1, hb1⟩ := Rt.box2 w cs ds 33 33
  have HZ := Lib.hid (hZ.keep hb1)
  have HZ' := Lib.hid (hZ'.keep hb1)
  have hnb := hZ.big
  have hnb' := hZ'.big
  have HN := Lib.hid hZ.len
  have HN' := Lib.hid hZ'.len
  have hT1 := Utf8Tabs_below hT hb1
  have f4 := r1.cell 4 h4
  have f5 := r1.cell 5 h5
  have g4 := q1.cell 4 h4'
  have g5 := q1.cell 5 h5'
  clear hZ hZ' hT
  obtain ⟨V, hV⟩ : ∃ V, Rt.betV co co' zs ys = V := ⟨_, rfl⟩
  rw [hV]
  have hvo := Rt.betV_or co co' zs ys n n' HN.out HN'.out
  rw [hV] at hvo
  clear hV
  have hcA := fun w => Rt.compare32 co co' w
  have hcB := fun w => Tryd.cmp_Compare_int (n : Int) (n' : Int) w
  generalize Lib.compareInt co co' = P at *
  generalize Lib.compareInt (n : Int) (n' : Int) = S at *
  have hn0 := heap_alloc_new w1 (.cells #[.int .i64 P, .int .i64 S] 3)
  have hor : Calls Tryd.prog 37 #[.slice (some ⟨w1.heap.size, 0, none⟩) 2 2] ((w1.alloc (.cells #[.int .i64 P, .int .i64 S] 3)).drew) fun e w' => e = .returned (.int .i64 (Rt.orI P S)) ∧ Below w1.heap.size w1 w' := by
    refine (Rt.cmpOr w1.heap.size P S ((w1.alloc (.cells #[.int .i64 P, .int .i64 S] 3)).drew) (cell_of_row _ _ _ _ _ _ hn0) (cell_of_row _ _ _ _ _ _ hn0)).mono ?_
    rintro e w' ⟨rfl, rfl⟩
    exact ⟨rfl, ((Below.refl _ _).alloc (Nat.le_refl _) _).drew⟩
  clear hn0
  generalize Rt.orI P S = O at *
  have HV := Lib.hid hvo
  clear hvo
  go_enter Tryd.func20, Tryd.ntmps20
  go_wp2
  refine wp_region_still_tail 12 (by kernel_rfl) (by kernel_rfl) ?_
  simp only [List.take_succ_cons, List.take_zero, List.drop_succ_cons, List.drop_zero]
  repeat still_step
  still_call (hcA _)
  repeat still_step
  still_call (hcB _)
  repeat still_step
  refine wpStill_nil ?_
  change wpList _ _ _ _ _ w1.drew
  by_cases c0 : O = 0
  · have hV := HV.out
    rw [if_neg (by simp [c0])] at hV
    have hnn := hV.2 c0
    subst hnn
    have HV2 := Lib.hid hV.1.symm
    have d0 : (O != 0) = false := by simp [c0]
    clear hV HV c0
    go_wp2_with (go_at_call 37; go_fit hor; rintro e w2 ⟨rfl, hb⟩; have r2 := r1.keep hb; have q2 := q1.keep hb; have b1 := hb1.trans (hb.mono hb1.size); have Z2 := Lib.hid (HZ.out.keep hb); have Z2' := Lib.hid (HZ'.out.keep hb); have hT2 := Utf8Tabs_below hT1 hb; have k4 := r2.cell 4 h4)
    go_loopw [28] (fun u wr => ∃ i : Nat, u = .int .i64 (i : Int) ∧ i ≤ n ∧ Below w2.heap.size w2 wr ∧ Hid (Rt.betL (zs.drop i) (ys.drop i) = V)) (fun u _ => n - (Go.RowKit.intOf u).toNat)
    case atStart => exact ⟨0, rfl, Nat.zero_le _, Below.refl _ _, HV2⟩
    case round =>
      obtain ⟨i, rfl, hi, hbw, HK⟩ := hrel
      have k4 := (r2.keep hbw).cell 4 h4
      have m4 := (q2.keep hbw).cell 4 h4'
      by_cases hin : i < n
      · obtain ⟨b, off, ha, hblt⟩ := Z2.out.at_ i hin
        obtain ⟨b', off', ha', hblt'⟩ := Z2'.out.at_ i hin
        subst ha ha'
        have z1 := Z2.out.keep hbw
        have z2 := Z2'.out.keep hbw
        have hld := z1.cell b off rfl i hin
        have hld' := z2.cell b' off' rfl i hin
        have hsm := z1.small i hin
        have hsm' := z2.small i hin
        have hk := HK.out
        rw [Rt.betL_step zs ys i (by rw [HN.out]; exact hin) (by rw [HN'.out]; exact hin)] at hk
        have hTw := Utf8Tabs_below hT2 hbw
        generalize zs.getD i ByteArray.empty = x1 at *
        generalize ys.getD i ByteArray.empty = y1 at *
        have K4 := Rt.After.cell k4
        have M4 := Rt.After.cell m4
        have HL := Rt.After.cell hld
        have HL' := Rt.After.cell hld'
        have hl1 := fun w => Nam.Less x1 y1 w hsm hsm'
        have hl2 := fun w => Nam.Less y1 x1 w hsm' hsm
        by_cases hxy : x1 = y1
        · rw [if_pos hxy] at hk
          have z0 : less x1.data.toList y1.data.toList = false := by rw [hxy]; exact less_self _
          have z0' : less y1.data.toList x1.data.toList = false := by rw [hxy]; exact less_self _
          rw [z0] at hl1
          rw [z0'] at hl2
          have HK2 := Lib.hid hk
          have HIN := Lib.hid hin
          clear hk HK Z2 Z2' hxy z1 z2 z0 z0'
          go_wp2
          (refine Rt.wp_region_calm (by kernel_rfl) (by kernel_rfl) ?_; (repeat (go_big_quiet_step (first | (go_at_call_of 40 (#[Value.string x1, Value.string y1]); exact Rt.up (hl1 _ (Utf8Tabs_below hTw (Rt.After.hb _)))) | (go_at_call_of 40 (#[Value.string y1, Value.string x1]); exact Rt.up (hl2 _ (Utf8Tabs_below hTw (Rt.After.hb _)))) | fail))); refine wpQuiet_nil ?_; intro wn hwn; have hbn := Rt.after_elim hwn; clear hwn)
          go_wp2
          go_roundw
          case rel => exact ⟨i + 1, by simp, by have := HIN.out; omega, hbw.trans (hbn.mono hbw.size), HK2⟩
          case measure =>
            have := HIN.out
            show n - ((i : Int) + 1).toNat < n - (i : Int).toNat
            omega
        · rw [if_neg hxy] at hk
          have tot := Rt.less_tot x1 y1 hxy
          generalize less x1.data.toList y1.data.toList = L1 at *
          generalize less y1.data.toList x1.data.toList = L2 at *
          have HK2 := Lib.hid hk
          have HIN := Lib.hid hin
          clear hk HK Z2 Z2' hxy z1 z2
          cases L1
          · have : L2 = true := by simpa using tot
            subst this
            go_wp2
            (refine Rt.wp_region_calm (by kernel_rfl) (by kernel_rfl) ?_; (repeat (go_big_quiet_step (first | (go_at_call_of 40 (#[Value.string x1, Value.string y1]); exact Rt.up (hl1 _ (Utf8Tabs_below hTw (Rt.After.hb _)))) | (go_at_call_of 40 (#[Value.string y1, Value.string x1]); exact Rt.up (hl2 _ (Utf8Tabs_below hTw (Rt.After.hb _)))) | fail))); refine wpQuiet_nil ?_; intro wn hwn; have hbn := Rt.after_elim hwn; clear hwn)
            have K4' := Rt.After.cell (K4 ⟨wn, hbn⟩)
            have M4' := Rt.After.cell (M4 ⟨wn, hbn⟩)
            have L4' := Rt.After.cell (HL ⟨wn, hbn⟩)
            have L5' := Rt.After.cell (HL' ⟨wn, hbn⟩)
            have hTn := Utf8Tabs_below hTw hbn
            have b5 := hbw.trans (hbn.mono hbw.size)
            go_wp2
            (refine Rt.wp_region_calm (by kernel_rfl) (by kernel_rfl) ?_; (repeat (go_big_quiet_step (first | (go_at_call_of 40 (#[Value.string x1, Value.string y1]); exact Rt.up (hl1 _ (Utf8Tabs_below hTn (Rt.After.hb _)))) | fail))); refine wpQuiet_nil ?_; intro wn hwn; have hbn := Rt.after_elim hwn; clear hwn)
            go_wp2
            go_ret
            exact ⟨Nam.retB HK2.out, b1.trans ((b5.trans (hbn.mono b5.size)).mono b1.size)⟩
          · clear tot
            go_wp2
            (refine Rt.wp_region_calm (by kernel_rfl) (by kernel_rfl) ?_; (repeat (go_big_quiet_step (first | (go_at_call_of 40 (#[Value.string x1, Value.string y1]); exact Rt.up (hl1 _ (Utf8Tabs_below hTw (Rt.After.hb _)))) | (go_at_call_of 40 (#[Value.string y1, Value.string x1]); exact Rt.up (hl2 _ (Utf8Tabs_below hTw (Rt.After.hb _)))) | fail))); refine wpQuiet_nil ?_; intro wn hwn; have hbn := Rt.after_elim hwn; clear hwn)
            have K4' := Rt.After.cell (K4 ⟨wn, hbn⟩)
            have M4' := Rt.After.cell (M4 ⟨wn, hbn⟩)
            have L4' := Rt.After.cell (HL ⟨wn, hbn⟩)
            have L5' := Rt.After.cell (HL' ⟨wn, hbn⟩)
            have hTn := Utf8Tabs_below hTw hbn
            have b5 := hbw.trans (hbn.mono hbw.size)
            go_wp2
            (refine Rt.wp_region_calm (by kernel_rfl) (by kernel_rfl) ?_; (repeat (go_big_quiet_step (first | (go_at_call_of 40 (#[Value.string x1, Value.string y1]); exact Rt.up (hl1 _ (Utf8Tabs_below hTn (Rt.After.hb _)))) | fail))); refine wpQuiet_nil ?_; intro wn hwn; have hbn := Rt.after_elim hwn; clear hwn)
            go_wp2
            go_ret
            exact ⟨Nam.retB HK2.out, b1.trans ((b5.trans (hbn.mono b5.size)).mono b1.size)⟩
      · have : i = n := by omega
        subst this
        have hk := HK.out
        rw [List.drop_of_length_le (by rw [HN.out]; exact Nat.le_refl _)] at hk
        have HK2 := Lib.hid hk
        clear hk HK
        go_wp2
        go_ret
        exact ⟨Nam.retB HK2.out, b1.trans (hbw.mono b1.size)⟩
  · have hV := HV.out
    rw [if_pos c0] at hV
    have HV2 := Lib.hid hV.1.symm
    have d0 : (O != 0) = true := by simp [c0]
    clear hV HV c0
    go_wp2_with (go_at_call 37; go_fit hor; rintro e w2 ⟨rfl, hb⟩)
    go_ret
    exact ⟨Nam.retB HV2.out, hb1.trans (hb.mono hb1.size)⟩
end Go.Proofs
set_option linter.unusedSimpArgs false
namespace Go.Proofs
open Go.Shelf Go.RowKit Go.Lib Go.Rt Go.Nam
theorem Rt.results_row_tmp {P : Program} {fn : Func} {p u : Tmp} {ty : TypeId} (h : fn.results = #[.cell p ty, .tmp u]) (tmps : Array Value) (w : World) (g : Nat) (t : TypeId) (cs : Array Value) (fr : Nat × Nat) (d : TypeDesc)
    (hp : tmps.getD p undef = .pointer (some ⟨g, 0, none⟩)) (hg : w.heap[g]? = some (.cells cs t fr)) (hu : P.underlying ty = some d) (hd : (match d with | .struct _ | .array _ _ => true | _ => false) = true) (hi : (P.info? ty).map (·.size) = some cs.size) :
    (results fn tmps).run P w = .ok (.tuple #[.agg cs, tmps.getD u undef]) w := by
  rw [results_cell_tmp h, hp]
  simp [asAddr, run_loadVar_row w g t ty cs fr d hg hu hd hi, Result.andThen]
def Rt.names : List ByteArray := [⟨#[97]⟩, ⟨#[98]⟩, ⟨#[99]⟩, ⟨#[100]⟩, ⟨#[107, 195, 182, 108, 110]⟩, ⟨#[101, 45, 49]⟩, ⟨#[195, 182]⟩, ⟨#[122, 122]⟩]
def Rt.nameOf (k : Int) : ByteArray := Rt.names.getD (k % 8).toNat ByteArray.empty
set_option maxHeartbeats 2000000 in
set_option maxRecDepth 100000 in
theorem Rt.name (k : Int) (h0 : 0 ≤ k) (h1 : k < 256) (w : World) : Calls Tryd.prog 14 #[.int .u8 k] w fun e w' => e = .returned (.string (Rt.nameOf k)) ∧ Below w.heap.size w w' := by
  have hj : k % 8 = 0 ∨ k % 8 = 1 ∨ k % 8 = 2 ∨ k % 8 = 3 ∨ k % 8 = 4 ∨ k % 8 = 5 ∨ k % 8 = 6 ∨ k % 8 = 7 := by omega
  have ht : k.tmod 8 = k % 8 := Int.tmod_eq_emod_of_nonneg h0
  unfold Rt.nameOf
  go_enter Tryd.func14, Tryd.ntmps14
  rcases hj with h | h | h | h | h | h | h | h
  all_goals rw [h] at ht
  all_goals rw [h]
  all_goals (
    go_wp2
    go_ret
    exact ⟨rfl, by (repeat (first | exact Below.refl _ _ | assumption | refine Below.alloc ?_ (by simp <;> omega) _ | refine Below.setCell ?_ (by simp <;> omega) _ | refine Below.drew ?_))⟩)
theorem Rt.or_in (x y : Int) : 0 ≤ bits .or .u64 x y ∧ bits .or .u64 x y < 18446744073709551616 := by
  have e : bits .or .u64 x y = IntKind.u64.wrap ((BitVec.ofInt 64 x ||| BitVec.ofInt 64 y).toNat : Int) := rfl
  rw [e, IntKind.wrap_u64]
  omega
def Rt.aHi (v : Bool) (a b : Int) : Int := if v then bits .or .u64 (bits .or .u64 18230571291595767808 (a % 8 * 1099511627776)) (b % 4 * 4) else bits .or .u64 (bits .or .u64 720575940379279360 (a % 8 * 281474976710656)) (b * 4294967296)
def Rt.aLo (v : Bool) (b : Int) : Int := if v then b else 0
theorem Rt.aHi_in (v : Bool) (a b : Int) : 0 ≤ Rt.aHi v a b ∧ Rt.aHi v a b < 18446744073709551616 := by
  unfold Rt.aHi; split <;> exact Rt.or_in _ _
set_option maxHeartbeats 2000000 in
set_option maxRecDepth 100000 in
theorem Rt.addr (v : Bool) (a b : Int) (a0 : 0 ≤ a) (a1 : a < 256) (b0 : 0 ≤ b) (b1 : b < 256) (w : World) : Calls Tryd.prog 57 #[.bool v, .int .u8 a, .int .u8 b] w fun e w' => e = .returned (Rt.adr v (Rt.aHi v a b) (Rt.aLo v b)) ∧ Below w.heap.size w w' := by
  have ht : a.tmod 8 = a % 8 := Int.tmod_eq_emod_of_nonneg a0
  have ht2 : b.tmod 4 = b % 4 := Int.tmod_eq_emod_of_nonneg b0
  unfold Rt.adr Rt.aHi Rt.aLo
  go_enter Tryd.func57, Tryd.ntmps57
  cases v
  all_goals (
    go_wp2
    go_returns
    exact ⟨rfl, by (repeat (first | exact Below.refl _ _ | assumption | refine Below.alloc ?_ (by simp <;> omega) _ | refine Below.setCell ?_ (by simp <;> omega) _ | refine Below.drew ?_))⟩)
set_option maxHeartbeats 2000000 in
set_option maxRecDepth 100000 in
theorem Rt.maskR (v : Bool) (hi lo n : Int) (w : World) (h0 : 0 ≤ hi) (h1 : hi < 18446744073709551616) (h2 : 0 ≤ lo) (h3 : lo < 18446744073709551616) (hn0 : 0 ≤ n) (hnw : n ≤ Rt.wide v) :
    Calls Tryd.prog 29 #[Rt.adr v hi lo, .int .i64 n] w fun e w' => e = .returned (.tuple #[.agg #[.bool v, .int .u64 (mHi hi n), .int .u64 (mLo lo n), .int .i64 n], .bool true]) ∧ Below w.heap.size w w' := by
  have hw := Rt.wideR v
  have hm := fun w => Rt.cut v hi lo n w h0 h1 h2 h3 hn0 hnw
  unfold Rt.adr at hm ⊢
  have HN := Lib.hid hnw
  clear hnw
  generalize Rt.wide v = W at *
  generalize mHi hi n = H at *
  generalize mLo lo n = L at *
  have hnw := HN.out
  obtain ⟨w1, e1, r1, q1, hb1⟩ := Rt.box2 w #[.bool v, .int .u64 hi, .int .u64 lo] #[.bool false, .int .u64 0, .int .u64 0, .int .i64 0] 24 26
  have f0 : w1.cell? ⟨w.heap.size, 0, none⟩ = some (.bool v) := r1.cell 0 rfl
  have f1 : w1.cell? ⟨w.heap.size, 1, none⟩ = some (.int .u64 hi) := r1.cell 1 rfl
  have f2 : w1.cell? ⟨w.heap.size, 2, none⟩ = some (.int .u64 lo) := r1.cell 2 rfl
  go_enter Tryd.func29, Tryd.ntmps29
  go_wp2_with (first
    | (go_at_call 58; go_fit (hw _); rintro e w2 ⟨rfl, rfl⟩)
    | (go_at_call 59; go_fit (hm _); rintro e w2 ⟨rfl, hb⟩; have q2 := q1.keep hb; have g0 := q2.cell 0 rfl; have g1 := q2.cell 1 rfl; have g2 := q2.cell 2 rfl; have g3 := q2.cell 3 rfl; have k0 := q2.free 0; have k1 := q2.free 1; have k2 := q2.free 2; have k3 := q2.free 3))
  have r3 := (((q2.set 0 (.bool v)).set 1 (.int .u64 H)).set 2 (.int .u64 L)).set 3 (.int .i64 n)
  have e3 : (((#[Value.bool false, .int .u64 0, .int .u64 0, .int .i64 0].setIfInBounds 0 (.bool v)).setIfInBounds 1 (.int .u64 H)).setIfInBounds 2 (.int .u64 L)).setIfInBounds 3 (.int .i64 n) = #[.bool v, .int .u64 H, .int .u64 L, .int .i64 n] := rfl
  rw [e3] at r3
  have b2 := hb1.trans (hb.mono hb1.size)
  exact bodyPost_ret (Rt.results_row_tmp rfl _ _ _ 26 _ (0, 0) _ rfl r3 Tryd.underlying26 rfl rfl) rfl ⟨rfl, by (repeat (first | exact Below.refl _ _ | assumption | refine Below.alloc ?_ (by simp <;> omega) _ | refine Below.setCell ?_ (by simp <;> omega) _ | refine Below.drew ?_))⟩
end Go.Proofs
set_option linter.unusedSimpArgs false
namespace Go.Proofs
open Go.Shelf Go.RowKit Go.Lib Go.Rt Go.Nam
theorem Rt.run_storeVar_row {P : Program} (w : World) (B : Nat) (ty t : TypeId) (cs old : Array Value) (hB : Rt.Row w B t old) (hl : cs.size = old.size) (hi : (P.info? ty).map (·.size) = some cs.size) (h1 : cs.all (·.oneCell') = true) :
    (storeVar ty ⟨B, 0, none⟩ (.agg cs)).run P w = .ok () (w.setCells B 0 cs.toList) :=
  run_storeVar_mid w B 0 ty cs (fun j hj => ⟨by
    have : ∃ x, old[j]? = some x := ⟨_, Array.getElem?_eq_getElem (by omega)⟩
    obtain ⟨x, hx⟩ := this
    rw [hB.cell (0 + j) (by rw [Nat.zero_add]; exact hx)]; rfl, hB.free _⟩) hi h1
theorem Rt.setCells_heap (B : Nat) : ∀ (vs : List Value) (o : Nat) (w : World) (b : Nat), b ≠ B → (w.setCells B o vs).heap[b]? = w.heap[b]?
  | [], _, _, _, _ => rfl
  | v :: r, o, w, b, h => by
    rw [World.setCells, Rt.setCells_heap B r (o + 1) _ b h, Below.heap_setCell _ _ _ _ (by simpa using h)]
theorem Rt.setCells_size (B : Nat) : ∀ (vs : List Value) (o : Nat) (w : World), (w.setCells B o vs).heap.size = w.heap.size
  | [], _, _ => rfl
  | v :: r, o, w => by rw [World.setCells, Rt.setCells_size B r (o + 1)]; simp [World.setCell]
theorem Rt.setCells_below (B : Nat) {B0 : Nat} {x : World} : ∀ (vs : List Value) (o : Nat) (w : World), B0 ≤ B → Below B0 x w → Below B0 x (w.setCells B o vs)
  | [], _, _, _, h => h
  | v :: r, o, w, hb, h => by rw [World.setCells]; exact Rt.setCells_below B r (o + 1) _ hb (h.setCell (p := ⟨B, o, none⟩) hb v)
theorem Rt.setCells_row (B : Nat) (t : TypeId) : ∀ (l pre old : List Value) (w : World), old.length = l.length → Rt.Row w B t (pre ++ old).toArray → Rt.Row (w.setCells B pre.length l) B t (pre ++ l).toArray
  | [], pre, old, w, hl, h => by
    have : old = [] := List.length_eq_zero_iff.1 (by simpa using hl)
    subst this; exact h
  | z :: l, pre, old, w, hl, h => by
    match old, hl with
    | y :: old, hl =>
      have h1 := h.set pre.length z
      rw [List.setIfInBounds_toArray, List.set_append_right _ _ (Nat.le_refl _), Nat.sub_self, List.set_cons_zero] at h1
      have h2 := Rt.setCells_row B t l (pre ++ [z]) old (w.setCell ⟨B, pre.length, none⟩ z) (by simpa using hl) (by simpa using h1)
      rw [World.setCells]
      simpa using h2
theorem Rt.store_at {P : Program} {ops : Array Oper} {rest : List Oper} {o : Oper} {a : Act} {w : World} {Q : Exit → Act → World → Prop} (ty : TypeId) {x v : Operand} (ho : o.op = .store ty x v)
    (B : Nat) (hx : a.eval x = .pointer (some ⟨B, 0, none⟩)) {cs : Array Value} (hv : a.eval v = .agg cs) (hw : Region.wanted o (yielded ops a.tmps) = true) {t : TypeId} {old : Array Value} (hB : Rt.Row w B t old) (hl : cs.size = old.size) (hi : (P.info? ty).map (·.size) = some cs.size) (h1 : cs.all (·.oneCell') = true)
    (h : ∀ w', Rt.Row w' B t cs → w'.heap.size = w.heap.size → (∀ b, b ≠ B → w'.heap[b]? = w.heap[b]?) → (∀ (B0 : Nat) (x : World), B0 ≤ B → Below B0 x w → Below B0 x w') → wpList P ops Q rest (a.put o.dst undef) w') : wpList P ops Q (o :: rest) a w := by
  refine BigFrame.wpList_want hw fun K hK => ?_
  have hr := h _ (by
    have e := Rt.setCells_row B t cs.toList [] old.toList w (by simp [hl]) (by simpa using hB)
    simpa using e) (Rt.setCells_size B cs.toList 0 w) (Rt.setCells_heap B cs.toList 0 w) (fun B0 x => Rt.setCells_below B cs.toList 0 w)
  unfold Oper.wp execOp
  simp only [ho, hx, hv, Instr.storeAt, Instr.sureAddr, Sem.run_bind, Sem.run_pure, Result.andThen_ok, Rt.run_storeVar_row w B ty t cs old hB hl hi h1]
  exact hK _ _ hr
end Go.Proofs
