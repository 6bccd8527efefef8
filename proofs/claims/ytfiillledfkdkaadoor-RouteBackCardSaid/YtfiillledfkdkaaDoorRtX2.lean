/- Names: the walks of the functions. Names: the walks of Valid, part. Names: the walks of the document's Valid, of both folds. Names: the walks of both orders. Prefixes' walks. Prefixes' walks: the reference's. The reference's cut: its loop. The reference's Right of a prefix. Certificates: may one be. -/
import Derived.Test.YtfiillledfkdkaaDoorRtX0
import Derived.Test.YtfiillledfkdkaaDoorRtX1
import Derived.WalkKit
import Derived.Below
import Derived.Lib.Walk
import Derived.Lib.OthersKept
import Derived.Laws.RangeAny
import Derived.Laws.BitsLemmas
import Derived.Deep.DeepFit
import Derived.Outline
import Derived.Lib.Hide
import Derived.RegionTactic
import Derived.Deep.QuietTactic
import Derived.BigQuiet
import Derived.WalkLawsBesides
import Derived.WalkSpells
import Derived.Handy
set_option linter.unusedVariables false
set_option linter.unusedSimpArgs false
namespace Go.Proofs
open Go.Shelf Go.RowKit Go.Lib Go.Nam

theorem Nam.decode_pos (s : ByteArray) (pos : Nat) : decodeL (s.data.toList.drop pos) = Utf8.decode s pos := decodeL_drop s pos
theorem Nam.drop_ne (s : ByteArray) (pos : Nat) (h : pos < s.size) : s.data.toList.drop pos ≠ [] := by
  intro e
  have := congrArg List.length e
  rw [List.length_drop, ← Lib.size_eq, List.length_nil] at this
  omega
theorem Nam.drop_end (s : ByteArray) (pos : Nat) (h : ¬ pos < s.size) : s.data.toList.drop pos = [] :=
  List.drop_eq_nil_of_le (by rw [← Lib.size_eq]; omega)
theorem Nam.count_pos (s : ByteArray) (pos : Nat) (h : pos < s.size) : count (s.data.toList.drop pos) = count (s.data.toList.drop (pos + (Utf8.decode s pos).2)) + 1 := by
  rw [count_step _ (Nam.drop_ne s pos h), Nam.decode_pos, List.drop_drop]

set_option maxHeartbeats 1000000 in
set_option maxRecDepth 100000 in
theorem Nam.Count (s : ByteArray) (w : World) (hs : s.size ≤ 140737488351232) (hT : Utf8Tabs 0 1 w) :
    Calls Tryd.prog 62 #[.string s] w fun e w' => e = .returned (.tuple #[.int .i64 (count s.data.toList), .bool (good s.data.toList)]) ∧ Below w.heap.size w w' := by
  have hcl := count_le s.data.toList
  rw [← Lib.size_eq] at hcl
  have Hg := Lib.hid (validD_good s.data.toList)
  have hk0 : (w.iter s 0).heap[w.heap.size]? = some (.stringIter s 0) := World.iter_heap w s 0
  go_enter Tryd.func62, Tryd.ntmps62
  go_wp2
  go_loopw [4] (fun n wr => ∃ (pos k : Nat), n = .int .i64 k ∧ wr.heap[w.heap.size]? = some (.stringIter s pos) ∧ Below w.heap.size w wr ∧ Hid (k + count (s.data.toList.drop pos) = count s.data.toList)) (fun _ wr => s.size - wr.iterPos w.heap.size)
  case atStart => exact ⟨0, 0, rfl, hk0, (Below.refl _ w).alloc (Nat.le_refl _) _, Lib.hid (by simp)⟩
  case round =>
    obtain ⟨pos, k, rfl, hit, hbw, HK⟩ := hrel
    have hkb : k ≤ s.size := by have := HK.out; omega
    have hsz : w.heap.size < wr.heap.size := (Array.getElem?_eq_some_iff.1 hit).1
    by_cases hp : pos < s.size
    · have hnx : ∀ ty, (Instr.next (.pointer (some ⟨w.heap.size, 0, none⟩)) true ty).run Tryd.prog wr = _ := fun ty => Lib.run_next_any_at wr w.heap.size s pos ty hit hp
      have hwd := Lib.width_pos s pos
      have hit2 := Lib.iterAt_heap wr w.heap.size s pos (pos + (Utf8.decode s pos).2) hit
      have hbw2 := Lib.below_iterAt hbw (k := w.heap.size) (by omega) s (pos + (Utf8.decode s pos).2)
      go_wp2
      go_roundw
      case rel =>
        exact ⟨pos + (Utf8.decode s pos).2, k + 1, by go_num, hit2, hbw2, Lib.hid (by have := HK.out; rw [Nam.count_pos s pos hp] at this; omega)⟩
      case measure =>
        simp only [World.iterPos, hit2, hit]
        omega
    · have hnx : ∀ ty, (Instr.next (.pointer (some ⟨w.heap.size, 0, none⟩)) true ty).run Tryd.prog wr = _ := fun ty => Lib.run_next_end_at wr w.heap.size s pos ty hit hp
      have hT2 := Utf8Tabs_below hT hbw
      go_wp2_with (go_at_call 76; go_fit (Tryd.utf8_ValidString s wr (by omega) hT2); rintro e w' ⟨rfl, hb⟩)
      go_ret2
      have h1 := HK.out
      rw [Nam.drop_end s pos hp, count_nil, Nat.add_zero] at h1
      rw [h1, Hg.out]
      exact ⟨rfl, hbw.trans (hb.mono (by omega))⟩

theorem Nam.decode_tail (s : ByteArray) (pos : Nat) (h : pos < s.size) : decodeGo (s.extract pos s.size) = Utf8.decode s pos := by
  have hz : (s.extract pos s.size).size ≠ 0 := by rw [Lib.ext_size]; omega
  unfold decodeGo
  rw [if_neg hz, ← Nam.decode_pos, ← Nam.decode_pos, Lib.ext_list]; rfl
theorem Nam.good_pos (s : ByteArray) (pos : Nat) (h : pos < s.size) : good (s.data.toList.drop pos) = (!bad (Utf8.decode s pos) && good (s.data.toList.drop (pos + (Utf8.decode s pos).2))) := by
  rw [good_step _ (Nam.drop_ne s pos h), Nam.decode_pos, List.drop_drop]
theorem Nam.pos_le (s : ByteArray) (pos : Nat) (h : pos < s.size) : pos + (Utf8.decode s pos).2 ≤ s.size := by
  have := decodeL_le _ (Nam.drop_ne s pos h)
  rw [Nam.decode_pos, List.length_drop, ← Lib.size_eq] at this
  omega

set_option maxHeartbeats 1000000 in
set_option maxRecDepth 100000 in
theorem Nam.CountR (s : ByteArray) (w : World) (hs : s.size ≤ 140737488351232) (hT : Utf8Tabs 0 1 w) :
    Calls Tryd.prog 65 #[.string s] w fun e w' => e = .returned (.tuple #[.int .i64 (count s.data.toList), .bool (good s.data.toList)]) ∧ Below w.heap.size w w' := by
  have hcl := count_le s.data.toList
  rw [← Lib.size_eq] at hcl
  go_enter Tryd.func65, Tryd.ntmps65
  go_wp2
  go_loopw [4, 5, 6] (fun n ok i wr => ∃ (pos k : Nat) (b : Bool), n = .int .i64 k ∧ ok = .bool b ∧ i = .int .i64 pos ∧ pos ≤ s.size ∧ Below w.heap.size w wr ∧ Hid (k + count (s.data.toList.drop pos) = count s.data.toList) ∧ Hid ((b && good (s.data.toList.drop pos)) = good s.data.toList)) (fun _ _ i _ => s.size - (RowKit.intOf i).toNat)
  case atStart => exact ⟨0, 0, true, rfl, rfl, rfl, by omega, Below.refl _ w, Lib.hid (by simp), Lib.hid (by simp)⟩
  case round =>
    obtain ⟨pos, k, b, rfl, rfl, rfl, hpl, hbw, HK, HG⟩ := hrel
    have hkb : k ≤ s.size := by have := HK.out; omega
    by_cases hp : pos < s.size
    · have hT2 := Utf8Tabs_below hT hbw
      have hwd := Lib.width_pos s pos
      have hle := Nam.pos_le s pos hp
      have hc := Tryd.utf8_DecodeRuneInString (s.extract pos s.size) wr hT2
      rw [Nam.decode_tail s pos hp] at hc
      have hc' := Nam.count_pos s pos hp
      have hg' := Nam.good_pos s pos hp
      have hu := HK.out
      have hv := HG.out
      rw [hc'] at hu
      rw [hg'] at hv
      have HU := Lib.hid hu
      have HV := Lib.hid hv
      clear hu hv hc' hg'
      unfold bad at HV
      generalize (Utf8.decode s pos).1 = r at hc HV
      generalize (Utf8.decode s pos).2 = d at hc HV HU hwd hle
      go_wp2_with (go_at_call 68; go_fit hc; rintro e w' ⟨rfl, hb⟩)
      all_goals go_roundw
      case rel =>
        have hb1 : b = true := by assumption
        have hr1 : (r : Int) = 65533 := by assumption
        refine ⟨pos + d, k + 1, decide (1 < (d : Int)), by go_num, rfl, by go_num, hle, hbw.trans (hb.mono (by have := hbw.size; omega)), Lib.hid (by have := HU.out; omega), Lib.hid ?_⟩
        rw [← HV.out, hb1]
        have e1 : (r == 65533) = true := by simp; omega
        have e2 : (!(d == 1)) = decide (1 < (d : Int)) := by
          by_cases h : d = 1
          · subst h; decide
          · have : 1 < (d : Int) := by omega
            simp [h, this]
        rw [e1, Bool.true_and, Bool.true_and, e2]
      case measure => simp [RowKit.intOf]; omega
      case rel =>
        have hb1 : b = true := by assumption
        have hr1 : ¬ (r : Int) = 65533 := by assumption
        refine ⟨pos + d, k + 1, true, by go_num, rfl, by go_num, hle, hbw.trans (hb.mono (by have := hbw.size; omega)), Lib.hid (by have := HU.out; omega), Lib.hid ?_⟩
        rw [← HV.out, hb1]
        have e1 : (r == 65533) = false := by simp; omega
        rw [e1, Bool.false_and, Bool.not_false, Bool.true_and, Bool.true_and]
      case measure => simp [RowKit.intOf]; omega
      case rel =>
        have hb1 : ¬ b = true := by assumption
        refine ⟨pos + d, k + 1, false, by go_num, rfl, by go_num, hle, hbw.trans (hb.mono (by have := hbw.size; omega)), Lib.hid (by have := HU.out; omega), Lib.hid ?_⟩
        rw [← HV.out, show b = false by simpa using hb1]
        rfl
      case measure => simp [RowKit.intOf]; omega
    · go_wp2
      go_ret2
      have h1 := HK.out
      have h2 := HG.out
      rw [Nam.drop_end s pos hp, count_nil, Nat.add_zero] at h1
      rw [Nam.drop_end s pos hp, good_nil, Bool.and_true] at h2
      rw [h1, h2]
      exact ⟨rfl, hbw⟩
end Go.Proofs
namespace Go.Proofs
open Go.Shelf Go.RowKit Go.Lib Go.Nam
theorem Nam.retB {a b : Bool} (h : a = b) : Ending.returned (.bool a) = .returned (.bool b) := by rw [h]

theorem Nam.part (r : Nat) (w : World) : Calls Tryd.prog 63 #[.int .i32 r] w fun e w' => e = .returned (.bool (partR r)) ∧ w = w' := by
  go_enter Tryd.func63, Tryd.ntmps63
  go_wp2
  all_goals
    go_ret
    refine ⟨Nam.retB ?_, rfl⟩
    unfold partR
    rw [Bool.eq_iff_iff]
    simp
    omega

theorem Nam.get0 (s : ByteArray) (h : 0 < s.size) : (s.data.toList.getD 0 0) = s[0] := by
  rw [Lib.getD_get!']
  exact getElem!_pos s.data 0 h
theorem Nam.runes_pos (s : ByteArray) (pos : Nat) (h : pos < s.size) : (runes (s.data.toList.drop pos)).all partR = (partR (Utf8.decode s pos).1 && (runes (s.data.toList.drop (pos + (Utf8.decode s pos).2))).all partR) := by
  rw [runes_step _ (Nam.drop_ne s pos h), Nam.decode_pos, List.drop_drop, List.all_cons]

set_option maxHeartbeats 1000000 in
set_option maxRecDepth 100000 in
theorem Nam.Valid (s : ByteArray) (w : World) (hs : s.size ≤ 140737488351232) (hT : Utf8Tabs 0 1 w) :
    Calls Tryd.prog 32 #[.string s] w fun e w' => e = .returned (.bool (validN s.data.toList)) ∧ Below w.heap.size w w' := by
  have hc := Nam.Count s w hs hT
  obtain ⟨C, hC⟩ : ∃ C, count s.data.toList = C := ⟨_, rfl⟩
  obtain ⟨G, hG⟩ : ∃ G, good s.data.toList = G := ⟨_, rfl⟩
  have hcl := count_le s.data.toList
  rw [← Lib.size_eq] at hcl
  rw [hC, hG] at hc
  rw [hC] at hcl
  have HC := Lib.hid hC
  have HG := Lib.hid hG
  clear hC hG
  obtain ⟨V, hV⟩ : ∃ V, validN s.data.toList = V := ⟨_, rfl⟩
  rw [hV]
  unfold validN at hV
  rw [HC.out, HG.out] at hV
  have HV := Lib.hid hV
  clear hV
  by_cases hz : s.size = 0
  · obtain rfl : C = 0 := by omega
    go_enter Tryd.func32, Tryd.ntmps32
    go_wp2_with (go_at_call 62; go_fit hc; rintro e w' ⟨rfl, hb⟩)
    all_goals
      go_ret
      refine ⟨Nam.retB ?_, hb⟩
      rw [← HV.out]
      simp
  · have hz' : (0 : Int) < (s.size : Int) := by omega
    go_enter Tryd.func32, Tryd.ntmps32
    go_wp2_with (go_at_call 62; go_fit hc; rintro e w' ⟨rfl, hb⟩)
    · go_ret
      refine ⟨Nam.retB ?_, hb⟩
      have h45 : (s[0].toNat : Int) = 45 := by
        have : ((C : Int) < 1 ∨ 16 < (C : Int)) ∨ ((s[0].toNat : Int) == 45) = true := by assumption
        simp only [beq_iff_eq] at this
        omega
      rw [← HV.out, Nam.get0 s (by omega)]
      have : (s[0].toNat == 45) = true := by simp; omega
      rw [this]
      simp
    · rename_i hall K1 a1
      have hgt : G = true := by assumption
      have hfin : Hid (V = (runes s.data.toList).all partR) := by
        apply Lib.hid
        rw [← HV.out, Nam.get0 s (by omega), hgt]
        have e1 : (s[0].toNat == 45) = false := by
          have := hall.2
          simp at this ⊢
          omega
        rw [e1, decide_eq_true (show 1 ≤ C by omega), decide_eq_true (show C ≤ 16 by omega)]
        simp
      have hk0 : (w'.iter s 0).heap[w'.heap.size]? = some (.stringIter s 0) := World.iter_heap w' s 0
      clear hall
      have hbs := hb.size
      go_wp2
      go_loopw [6] (fun _ wr => ∃ (pos : Nat), wr.heap[w'.heap.size]? = some (.stringIter s pos) ∧ Below w.heap.size w wr ∧ Hid (V = (runes (s.data.toList.drop pos)).all partR)) (fun _ wr => s.size - wr.iterPos w'.heap.size)
      case atStart => exact ⟨0, hk0, hb.alloc hbs _, by simpa using hfin⟩
      case round =>
        obtain ⟨pos, hit, hbw, HK⟩ := hrel
        have hsz : w'.heap.size < wr.heap.size := (Array.getElem?_eq_some_iff.1 hit).1
        by_cases hp : pos < s.size
        · have hnx : ∀ ty, (Instr.next (.pointer (some ⟨w'.heap.size, 0, none⟩)) true ty).run Tryd.prog wr = _ := fun ty => Lib.run_next_any_at wr w'.heap.size s pos ty hit hp
          have hwd := Lib.width_pos s pos
          have hd1 := decode_le s pos
          have hit2 := Lib.iterAt_heap wr w'.heap.size s pos (pos + (Utf8.decode s pos).2) hit
          have hbw2 := Lib.below_iterAt hbw (k := w'.heap.size) (by omega) s (pos + (Utf8.decode s pos).2)
          have hst := HK.out
          rw [Nam.runes_pos s pos hp] at hst
          have HST := Lib.hid hst
          clear hst
          have hpart := Nam.part (Utf8.decode s pos).1 (wr.iterAt w'.heap.size s (pos + (Utf8.decode s pos).2))
          obtain ⟨Q, hQ⟩ : ∃ Q, partR (Utf8.decode s pos).1 = Q := ⟨_, rfl⟩
          rw [hQ] at hpart HST
          have HQ := Lib.hid hQ
          clear hQ
          go_wp2_with (go_at_call 63; go_fit hpart; rintro e w2 ⟨rfl, rfl⟩)
          · have hq : (!Q) = true := by assumption
            go_ret
            refine ⟨Nam.retB ?_, hbw2⟩
            rw [HST.out, show Q = false by simpa using hq]
            rfl
          · have hq : (!Q) = false := by assumption
            go_roundw
            case rel =>
              refine ⟨pos + (Utf8.decode s pos).2, hit2, hbw2, ?_⟩
              have := HST.out
              rw [show Q = true by simpa using hq, Bool.true_and] at this
              exact Lib.hid this
            case measure =>
              simp only [World.iterPos, hit2, hit]
              omega
        · have hnx : ∀ ty, (Instr.next (.pointer (some ⟨w'.heap.size, 0, none⟩)) true ty).run Tryd.prog wr = _ := fun ty => Lib.run_next_end_at wr w'.heap.size s pos ty hit hp
          go_wp2
          go_ret
          refine ⟨Nam.retB ?_, hbw⟩
          rw [HK.out, Nam.drop_end s pos hp]
          rfl
    all_goals
      go_ret
      refine ⟨Nam.retB ?_, hb⟩
      rw [← HV.out]
    · rw [decide_eq_false (show ¬ C ≤ 16 by omega)]; simp
    · rw [decide_eq_false (show ¬ 1 ≤ C by omega)]; simp
    · have : ¬ G = true := by assumption
      rw [show G = false by simpa using this]; simp
end Go.Proofs
set_option linter.unusedSimpArgs false
namespace Go.Proofs
open Go.Shelf Go.RowKit Go.Lib Go.Nam
theorem Nam.all_pos (s : ByteArray) (pos : Nat) (h : pos < s.size) : (s.data.toList.drop pos).all (fun c => partR c.toNat) = (partR (s[pos]).toNat && (s.data.toList.drop (pos + 1)).all fun c => partR c.toNat) := by
  have hl : pos < s.data.toList.length := by rw [← Lib.size_eq]; exact h
  rw [List.drop_eq_getElem_cons hl, List.all_cons]
  rfl

set_option maxHeartbeats 1000000 in
set_option maxRecDepth 100000 in
theorem Nam.ValidR (s : ByteArray) (w : World) (hs : s.size ≤ 140737488351232) (hT : Utf8Tabs 0 1 w) :
    Calls Tryd.prog 36 #[.string s] w fun e w' => e = .returned (.bool (validN s.data.toList)) ∧ Below w.heap.size w w' := by
  have hc := Nam.CountR s w hs hT
  obtain ⟨C, hC⟩ : ∃ C, count s.data.toList = C := ⟨_, rfl⟩
  obtain ⟨G, hG⟩ : ∃ G, good s.data.toList = G := ⟨_, rfl⟩
  have hcl := count_le s.data.toList
  rw [← Lib.size_eq] at hcl
  rw [hC, hG] at hc
  rw [hC] at hcl
  have HC := Lib.hid hC
  have HG := Lib.hid hG
  clear hC hG
  obtain ⟨V, hV⟩ : ∃ V, validN s.data.toList = V := ⟨_, rfl⟩
  rw [hV]
  rw [← valid_same] at hV
  unfold validB at hV
  rw [HC.out, HG.out] at hV
  have HV := Lib.hid hV
  clear hV
  by_cases hz : s.size = 0
  · obtain rfl : C = 0 := by omega
    go_enter Tryd.func36, Tryd.ntmps36
    go_wp2_with (go_at_call 65; go_fit hc; rintro e w' ⟨rfl, hb⟩)
    all_goals
      go_ret
      refine ⟨Nam.retB ?_, hb⟩
      rw [← HV.out]
      simp
  · have hz' : (0 : Int) < (s.size : Int) := by omega
    go_enter Tryd.func36, Tryd.ntmps36
    go_wp2_with (go_at_call 65; go_fit hc; rintro e w' ⟨rfl, hb⟩)
    · go_ret
      refine ⟨Nam.retB ?_, hb⟩
      have h45 : (s[0].toNat : Int) = 45 := by
        have : ((C : Int) < 1 ∨ 16 < (C : Int)) ∨ ((s[0].toNat : Int) == 45) = true := by assumption
        simp only [beq_iff_eq] at this
        omega
      rw [← HV.out, Nam.get0 s (by omega)]
      have : (s[0].toNat == 45) = true := by simp; omega
      rw [this]
      simp
    · rename_i hall K1 a1
      have hgt : G = true := by assumption
      have hfin : Hid (V = s.data.toList.all fun c => partR c.toNat) := by
        apply Lib.hid
        rw [← HV.out, Nam.get0 s (by omega), hgt]
        have e1 : (s[0].toNat == 45) = false := by
          have := hall.2
          simp at this ⊢
          omega
        rw [e1, decide_eq_true (show 1 ≤ C by omega), decide_eq_true (show C ≤ 16 by omega)]
        simp
      clear hall
      go_wp2
      go_loop [5] (fun i => ∃ (pos : Nat), i = .int .i64 pos ∧ Hid (V = (s.data.toList.drop pos).all fun c => partR c.toNat)) (fun i => s.size - (RowKit.intOf i).toNat)
      case atStart => exact ⟨0, rfl, by simpa using hfin⟩
      case round =>
        obtain ⟨pos, rfl, HK⟩ := hrel
        by_cases hp : pos < s.size
        · have hst := HK.out
          rw [Nam.all_pos s pos hp] at hst
          have HST := Lib.hid hst
          clear hst
          go_wp2
          all_goals first
            | (go_ret
               refine ⟨Nam.retB ?_, hb⟩
               have hq : partR (s[pos]).toNat = false := by
                 clear HK HST HC HG HV hc hb
                 simp only [Bool.not_eq_eq_eq_not, Bool.not_true, Bool.not_false, decide_eq_false_iff_not, decide_eq_true_eq, beq_eq_false_iff_ne, beq_iff_eq, ne_eq] at *
                 unfold partR
                 simp only [Bool.or_eq_false_iff, Bool.and_eq_false_iff, decide_eq_false_iff_not, beq_eq_false_iff_ne, ne_eq]
                 omega
               rw [HST.out, hq]
               rfl)
            | (go_round
               case rel =>
                 refine ⟨pos + 1, by go_num, ?_⟩
                 have hq : partR (s[pos]).toNat = true := by
                   clear HK HST HC HG HV hc hb
                   simp only [Bool.not_eq_eq_eq_not, Bool.not_true, Bool.not_false, decide_eq_false_iff_not, decide_eq_true_eq, beq_eq_false_iff_ne, beq_iff_eq, ne_eq] at *
                   unfold partR
                   simp only [Bool.or_eq_true, Bool.and_eq_true, decide_eq_true_eq, beq_iff_eq]
                   omega
                 have := HST.out
                 rw [hq, Bool.true_and] at this
                 exact Lib.hid this
               case measure => simp [RowKit.intOf]; omega)
        · go_wp2
          go_ret
          refine ⟨Nam.retB ?_, hb⟩
          rw [HK.out, Nam.drop_end s pos hp]
          rfl
    all_goals
      go_ret
      refine ⟨Nam.retB ?_, hb⟩
      rw [← HV.out]
    · rw [decide_eq_false (show ¬ C ≤ 16 by omega)]; simp
    · rw [decide_eq_false (show ¬ 1 ≤ C by omega)]; simp
    · have : ¬ G = true := by assumption
      rw [show G = false by simpa using this]; simp
end Go.Proofs
set_option linter.unusedSimpArgs false
namespace Go.Proofs
open Go.Shelf Go.RowKit Go.Lib Go.Nam

def Nam.strLen : Value → Nat
  | .string s => s.size
  | _ => 0
theorem Nam.ext_pos (x : ByteArray) (k : Nat) : (x.extract k x.size).data.toList = x.data.toList.drop k := Lib.ext_list x k
theorem Nam.decode_whole (x : ByteArray) (h : x.size ≠ 0) : decodeGo x = decodeL x.data.toList := by
  unfold decodeGo; rw [if_neg h, ← Nam.decode_pos, List.drop_zero]
theorem Nam.ne_nil (x : ByteArray) (h : x.size ≠ 0) : x.data.toList ≠ [] := by
  intro e; rw [Lib.size_eq, e] at h; exact h rfl
theorem Nam.is_nil (x : ByteArray) (h : x.size = 0) : x.data.toList = [] := List.length_eq_zero_iff.1 (by rw [← Lib.size_eq]; exact h)
theorem Nam.isEmpty_of (x : ByteArray) (h : x.size = 0) : x.toList.isEmpty = true := by
  rw [Lib.toList_data, Nam.is_nil x h]; rfl
theorem Nam.isEmpty_not (x : ByteArray) (h : x.size ≠ 0) : x.toList.isEmpty = false := by
  rw [Lib.toList_data]
  cases hh : x.data.toList with
  | nil => exact absurd hh (Nam.ne_nil x h)
  | cons _ _ => rfl

theorem Nam.cmp (p q c : Int) (h : Lib.compareInt (min p 1) (min q 1) = c) (w : World) :
    Calls Tryd.prog 39 #[.int .i64 (min p 1), .int .i64 (min q 1)] w fun e w' => e = .returned (.int .i64 c) ∧ w = w' := by
  subst h
  exact (Tryd.cmp_Compare_int _ _ w).mono fun _ _ ⟨h1, h2⟩ => ⟨h1, h2.symm⟩

set_option maxHeartbeats 2000000 in
set_option maxRecDepth 100000 in
theorem Nam.Less (a b : ByteArray) (w : World) (hsa : a.size ≤ 140737488351232) (hsb : b.size ≤ 140737488351232) (hT : Utf8Tabs 0 1 w) :
    Calls Tryd.prog 40 #[.string a, .string b] w fun e w' => e = .returned (.bool (less a.data.toList b.data.toList)) ∧ Below w.heap.size w w' := by
  unfold less
  obtain ⟨D, hD⟩ : ∃ D, decide (compareBytes a.data.toList b.data.toList < 0) = D := ⟨_, rfl⟩
  rw [hD]
  have HD := Lib.hid hD
  clear hD
  obtain ⟨V, hV⟩ : ∃ V, lessL D a.data.toList b.data.toList = V := ⟨_, rfl⟩
  rw [hV]
  have HV := Lib.hid hV
  clear hV
  go_enter Tryd.func40, Tryd.ntmps40
  go_wp2
  go_loopw [5, 6] (fun u v wr => ∃ (x y : ByteArray), u = .string x ∧ v = .string y ∧ x.size ≤ 140737488351232 ∧ y.size ≤ 140737488351232 ∧ Below w.heap.size w wr ∧ Hid (lessL D x.data.toList y.data.toList = V)) (fun u _ _ => Nam.strLen u)
  case atStart => exact ⟨a, b, rfl, rfl, hsa, hsb, Below.refl _ w, HV⟩
  case round =>
    obtain ⟨x, y, rfl, rfl, hx, hy, hbw, HK⟩ := hrel
    by_cases hx0 : x.size = 0
    · have he := Nam.isEmpty_of x hx0
      have hempty := Nam.is_nil x hx0
      by_cases hy0 : y.size = 0
      · have hf := Nam.isEmpty_of y hy0
        have hcm := Nam.cmp 0 0 0 (by decide) wr
        have hst := Tryd.strings_Compare a b wr
        have hk := HK.out
        rw [hempty, Nam.is_nil y hy0] at hk
        have HK2 := Lib.hid hk
        clear hk hempty
        go_wp2_with (first | (go_at_call 39; go_fit hcm; rintro e w2 ⟨rfl, rfl⟩) | (go_at_call 69; go_fit hst; rintro e w2 ⟨rfl, rfl⟩))
        go_ret
        refine ⟨Nam.retB ?_, hbw⟩
        rw [← HK2.out, ← HD.out]
        rfl
      · have hf := Nam.isEmpty_not y hy0
        have hcm := Nam.cmp 0 (y.size : Int) (-1) (by unfold Lib.compareInt; rw [if_pos (by omega)]) wr
        have hk := HK.out
        rw [hempty] at hk
        have hk2 : lessL D [] y.data.toList = true := by
          unfold lessL
          rw [runes_step _ (Nam.ne_nil y hy0)]
          rfl
        rw [hk2] at hk
        have HK2 := Lib.hid hk
        clear hk hk2 hempty
        go_wp2_with (go_at_call 39; go_fit hcm; rintro e w2 ⟨rfl, rfl⟩)
        go_ret
        exact ⟨Nam.retB (by rw [← HK2.out]), hbw⟩
    · have he := Nam.isEmpty_not x hx0
      by_cases hy0 : y.size = 0
      · have hf := Nam.isEmpty_of y hy0
        have hcm := Nam.cmp (x.size : Int) 0 1 (by unfold Lib.compareInt; rw [if_neg (by omega), if_pos (by omega)]) wr
        have hk := HK.out
        rw [Nam.is_nil y hy0] at hk
        have hk2 : lessL D x.data.toList [] = false := by
          unfold lessL
          rw [runes_step _ (Nam.ne_nil x hx0)]
          rfl
        rw [hk2] at hk
        have HK2 := Lib.hid hk
        clear hk hk2
        go_wp2_with (go_at_call 39; go_fit hcm; rintro e w2 ⟨rfl, rfl⟩)
        go_ret
        exact ⟨Nam.retB (by rw [← HK2.out]), hbw⟩
      · have hf := Nam.isEmpty_not y hy0
        have hT2 := Utf8Tabs_below hT hbw
        have hc := Tryd.utf8_DecodeRuneInString x wr hT2
        have hlex := decodeL_le _ (Nam.ne_nil x hx0)
        have hley := decodeL_le _ (Nam.ne_nil y hy0)
        rw [← Lib.size_eq] at hlex hley
        have hwx := decodeL_width x.data.toList
        have hwy := decodeL_width y.data.toList
        have hst := lessL_step D _ _ (Nam.ne_nil x hx0) (Nam.ne_nil y hy0)
        rw [← Nam.ext_pos, ← Nam.ext_pos, HK.out] at hst
        rw [Nam.decode_whole x hx0] at hc
        have hc2 : ∀ w2, Utf8Tabs 0 1 w2 → _ := fun w2 h => Tryd.utf8_DecodeRuneInString y w2 h
        rw [Nam.decode_whole y hy0] at hc2
        generalize (decodeL x.data.toList).1 = r at hc hst
        generalize (decodeL x.data.toList).2 = n at hc hst hlex hwx
        generalize (decodeL y.data.toList).1 = q at hc2 hst
        generalize (decodeL y.data.toList).2 = k at hc2 hst hley hwy
        have HST := Lib.hid hst
        clear hst
        have hnx : (n : Int) ≤ (x.size : Int) := by omega
        have hky : (k : Int) ≤ (y.size : Int) := by omega
        go_wp2_with (go_at_call 68; first | (go_fit hc; rintro e w2 ⟨rfl, hb⟩; have hT3 := Utf8Tabs_below hT2 hb) | (go_fit (hc2 _ hT3); rintro e w3 ⟨rfl, hb3⟩))
        · go_ret
          have hne : ¬ (r : Int) = (q : Int) := by
            have h : ((r : Int) != (q : Int)) = true := by assumption
            simpa using h
          refine ⟨Nam.retB ?_, hbw.trans ((hb.mono (by have := hbw.size; omega)).trans (hb3.mono (by have := hbw.size; have := hb.size; omega)))⟩
          rw [HST.out, if_neg (by omega), decide_eq_decide]
        · have heq : (r : Int) = (q : Int) := by
            have h : ((r : Int) != (q : Int)) = false := by assumption
            simpa using h
          have hrel2 : Hid (lessL D (x.extract n x.size).data.toList (y.extract k y.size).data.toList = V) := by
            have := HST.out
            rw [if_pos (by omega)] at this
            exact Lib.hid this.symm
          have hbz : Below w.heap.size w w3 := hbw.trans ((hb.mono (by have := hbw.size; omega)).trans (hb3.mono (by have := hbw.size; have := hb.size; omega)))
          clear heq
          go_quiet (fail)
          go_wp2
          go_roundw
          case rel => exact ⟨_, _, rfl, rfl, by rw [Lib.ext_size]; omega, by rw [Lib.ext_size]; omega, ⟨hbz.os, hbz.tape, hbz.output, hbz.size, hbz.block⟩, hrel2⟩
          case measure =>
            show (x.extract n x.size).size < x.size
            rw [Lib.ext_size]; omega
theorem Nam.less_lists : ∀ a b : List UInt8, Op.bytesLess a b = decide (compareBytes a b < 0)
  | [], [] => rfl
  | [], _ :: _ => rfl
  | _ :: _, [] => rfl
  | x :: a, y :: b => by
    have ih := Nam.less_lists a b
    have e0 : Op.bytesLess (x :: a) (y :: b) = (decide (x < y) || (x == y && Op.bytesLess a b)) := rfl
    rw [e0]
    by_cases h1 : x < y
    · have e : compareBytes (x :: a) (y :: b) = -1 := by simp [compareBytes, h1]
      rw [e]; simp [h1]
    · by_cases h2 : y < x
      · have hne : ¬ x = y := fun e => h1 (e ▸ h2)
        have e : compareBytes (x :: a) (y :: b) = 1 := by simp [compareBytes, h1, h2]
        rw [e]; simp [h1, hne]
      · have he : x = y := by
          apply UInt8.toNat.inj
          rw [UInt8.lt_iff_toNat_lt] at h1 h2
          omega
        have e : compareBytes (x :: a) (y :: b) = compareBytes a b := by simp [compareBytes, h1, h2]
        rw [e]
        subst he
        simp [ih]
theorem Nam.less_bytes (a b : ByteArray) : Op.bytesLess a.toList b.toList = decide (compareBytes a.data.toList b.data.toList < 0) := by
  rw [Lib.toList_data, Lib.toList_data]; exact Nam.less_lists _ _
set_option maxHeartbeats 2000000 in
set_option maxRecDepth 100000 in
theorem Nam.LessR (a b : ByteArray) (w : World) (hsa : a.size ≤ 140737488351232) (hsb : b.size ≤ 140737488351232) (hT : Utf8Tabs 0 1 w) :
    Calls Tryd.prog 41 #[.string a, .string b] w fun e w' => e = .returned (.bool (less a.data.toList b.data.toList)) ∧ Below w.heap.size w w' := by
  unfold less
  obtain ⟨D, hD⟩ : ∃ D, decide (compareBytes a.data.toList b.data.toList < 0) = D := ⟨_, rfl⟩
  rw [hD]
  have HD := Lib.hid hD
  clear hD
  obtain ⟨V, hV⟩ : ∃ V, lessL D a.data.toList b.data.toList = V := ⟨_, rfl⟩
  rw [hV]
  have HV := Lib.hid hV
  clear hV
  go_enter Tryd.func41, Tryd.ntmps41
  go_wp2
  go_loopw [5, 6] (fun u v wr => ∃ (x y : ByteArray), u = .string x ∧ v = .string y ∧ x.size ≤ 140737488351232 ∧ y.size ≤ 140737488351232 ∧ Below w.heap.size w wr ∧ Hid (lessL D x.data.toList y.data.toList = V)) (fun u _ _ => Nam.strLen u)
  case atStart => exact ⟨a, b, rfl, rfl, hsa, hsb, Below.refl _ w, HV⟩
  case round =>
    obtain ⟨x, y, rfl, rfl, hx, hy, hbw, HK⟩ := hrel
    by_cases hx0 : x.size = 0
    · have he := Nam.isEmpty_of x hx0
      have hempty := Nam.is_nil x hx0
      by_cases hy0 : y.size = 0
      · have hf := Nam.isEmpty_of y hy0
        have hk := HK.out
        rw [hempty, Nam.is_nil y hy0] at hk
        have HK2 := Lib.hid hk
        clear hk hempty
        go_wp2
        go_ret
        refine ⟨Nam.retB ?_, hbw⟩
        rw [← HK2.out, ← HD.out]
        exact Nam.less_bytes a b
      · have hf := Nam.isEmpty_not y hy0
        have hk := HK.out
        rw [hempty] at hk
        have hk2 : lessL D [] y.data.toList = true := by
          unfold lessL
          rw [runes_step _ (Nam.ne_nil y hy0)]
          rfl
        rw [hk2] at hk
        have HK2 := Lib.hid hk
        clear hk hk2 hempty
        go_wp2
        go_ret
        exact ⟨Nam.retB (by rw [← HK2.out]), hbw⟩
    · have he := Nam.isEmpty_not x hx0
      by_cases hy0 : y.size = 0
      · have hf := Nam.isEmpty_of y hy0
        have hk := HK.out
        rw [Nam.is_nil y hy0] at hk
        have hk2 : lessL D x.data.toList [] = false := by
          unfold lessL
          rw [runes_step _ (Nam.ne_nil x hx0)]
          rfl
        rw [hk2] at hk
        have HK2 := Lib.hid hk
        clear hk hk2
        go_wp2
        go_ret
        exact ⟨Nam.retB (by rw [← HK2.out]), hbw⟩
      · have hf := Nam.isEmpty_not y hy0
        have hT2 := Utf8Tabs_below hT hbw
        have hc := Tryd.utf8_DecodeRuneInString x wr hT2
        have hlex := decodeL_le _ (Nam.ne_nil x hx0)
        have hley := decodeL_le _ (Nam.ne_nil y hy0)
        rw [← Lib.size_eq] at hlex hley
        have hwx := decodeL_width x.data.toList
        have hwy := decodeL_width y.data.toList
        have hst := lessL_step D _ _ (Nam.ne_nil x hx0) (Nam.ne_nil y hy0)
        rw [← Nam.ext_pos, ← Nam.ext_pos, HK.out] at hst
        rw [Nam.decode_whole x hx0] at hc
        have hc2 : ∀ w2, Utf8Tabs 0 1 w2 → _ := fun w2 h => Tryd.utf8_DecodeRuneInString y w2 h
        rw [Nam.decode_whole y hy0] at hc2
        generalize (decodeL x.data.toList).1 = r at hc hst
        generalize (decodeL x.data.toList).2 = n at hc hst hlex hwx
        generalize (decodeL y.data.toList).1 = q at hc2 hst
        generalize (decodeL y.data.toList).2 = k at hc2 hst hley hwy
        have HST := Lib.hid hst
        clear hst
        have hnx : (n : Int) ≤ (x.size : Int) := by omega
        have hky : (k : Int) ≤ (y.size : Int) := by omega
        go_wp2_with (go_at_call 68; first | (go_fit hc; rintro e w2 ⟨rfl, hb⟩; have hT3 := Utf8Tabs_below hT2 hb) | (go_fit (hc2 _ hT3); rintro e w3 ⟨rfl, hb3⟩))
        · go_ret
          have hne : ¬ (r : Int) = (q : Int) := by
            have h : ((r : Int) != (q : Int)) = true := by assumption
            simpa using h
          refine ⟨Nam.retB ?_, hbw.trans ((hb.mono (by have := hbw.size; omega)).trans (hb3.mono (by have := hbw.size; have := hb.size; omega)))⟩
          rw [HST.out, if_neg (by omega), decide_eq_decide]
        · have heq : (r : Int) = (q : Int) := by
            have h : ((r : Int) != (q : Int)) = false := by assumption
            simpa using h
          have hrel2 : Hid (lessL D (x.extract n x.size).data.toList (y.extract k y.size).data.toList = V) := by
            have := HST.out
            rw [if_pos (by omega)] at this
            exact Lib.hid this.symm
          have hbz : Below w.heap.size w w3 := hbw.trans ((hb.mono (by have := hbw.size; omega)).trans (hb3.mono (by have := hbw.size; have := hb.size; omega)))
          clear heq
          go_quiet (fail)
          go_wp2
          go_roundw
          case rel => exact ⟨_, _, rfl, rfl, by rw [Lib.ext_size]; omega, by rw [Lib.ext_size]; omega, ⟨hbz.os, hbz.tape, hbz.output, hbz.size, hbz.block⟩, hrel2⟩
          case measure =>
            show (x.extract n x.size).size < x.size
            rw [Lib.ext_size]; omega
end Go.Proofs
set_option linter.unusedSimpArgs false
namespace Go.Proofs
open Go.Shelf Go.RowKit Go.Lib Go.Rt

/-- A world behind some others, below which nothing has turned. -/
structure Rt.After (w1 : World) where
  w : World
  hb : Below w1.heap.size w1 w
instance Rt.afterNon (w1 : World) : Nonempty (Rt.After w1) := ⟨⟨w1, Below.refl _ _⟩⟩
theorem Rt.After.cell {w1 : World} {p : Addr} {x : Value} (h : w1.cell? p = some x) : ∀ u : Rt.After w1, u.w.cell? p = some x := fun u =>
  (u.hb.cell (World.block_lt_of_cell? w1 p h)).trans h
theorem Rt.up {P : Program} {f : FuncId} {args : Array Value} {w1 : World} {u : Rt.After w1} {v : Value}
    (h : Calls P f args u.w fun e w' => e = .returned v ∧ Below u.w.heap.size u.w w') : Calls P f args u.w fun e w' => e = .returned v ∧ ∃ u' : Rt.After w1, w' = u'.w :=
  h.mono fun _ w' ⟨h1, h2⟩ => ⟨h1, ⟨w', u.hb.trans (h2.mono u.hb.size)⟩, rfl⟩
theorem Rt.after_elim {w w' : World} (h : ∃ u : Rt.After w, w' = u.w) : Below w.heap.size w w' := by
  obtain ⟨u, rfl⟩ := h; exact u.hb
theorem Rt.wp_region_calm {P : Program} {id : Nat} {Q : Exit → Act → World → Prop} {a : Act} {w : World} {l : List Oper} (hm : P.follows .mixedOrders = true) (hB : Region.lexB .any l.toArray = true)
    (h : wpQuiet P l.toArray (fun w' => ∃ u : Rt.After w, w' = u.w) (fun a' => ∀ w', (∃ u : Rt.After w, w' = u.w) → Q .normal a' w') l a) : (Code.region id l.toArray true).wp P Q a w :=
  wp_region_quiet (C := fun w' => ∃ u : Rt.After w, w' = u.w) hm hB ⟨⟨_, (Below.refl _ _).drew⟩, rfl⟩ (by simpa using h)
def Rt.wide (v : Bool) : Int := if v then 128 else 32
abbrev Rt.adr (v : Bool) (hi lo : Int) : Value := .agg #[.bool v, .int .u64 hi, .int .u64 lo]
set_option maxHeartbeats 1000000 in
set_option maxRecDepth 100000 in
theorem Rt.width (v : Bool) (hi lo : Int) (w : World) : Calls Tryd.prog 60 #[Rt.adr v hi lo] w fun e w' => e = .returned (.int .i64 (Rt.wide v)) ∧ Below w.heap.size w w' := by
  unfold Rt.wide Rt.adr
  go_enter Tryd.func60, Tryd.ntmps60
  cases v
  · go_wp2
    all_goals (first | (rename_i h; exact absurd h (by decide)) | (go_ret; exact ⟨rfl, by (repeat (first | exact Below.refl _ _ | assumption | refine Below.alloc ?_ (by simp <;> omega) _ | refine Below.setCell ?_ (by simp <;> omega) _ | refine Below.drew ?_))⟩))
  · go_wp2
    go_ret
    exact ⟨rfl, by (repeat (first | exact Below.refl _ _ | assumption | refine Below.alloc ?_ (by simp <;> omega) _ | refine Below.setCell ?_ (by simp <;> omega) _ | refine Below.drew ?_))⟩
set_option maxHeartbeats 1000000 in
set_option maxRecDepth 100000 in
theorem Rt.masked (v : Bool) (hi lo len : Int) (w : World) (h0 : 0 ≤ hi) (h1 : hi < 18446744073709551616) (h2 : 0 ≤ lo) (h3 : lo < 18446744073709551616) (hl : len < 9223372036854775808) (hl0 : -9223372036854775808 ≤ len) :
    Calls Tryd.prog 61 #[Rt.adr v hi lo, .int .i64 len] w fun e w' => e = .returned (Rt.adr v (mHi hi len) (mLo lo len)) ∧ Below w.heap.size w w' := by
  unfold Rt.adr
  go_enter Tryd.func61, Tryd.ntmps61
  unfold mHi mLo
  by_cases c1 : len ≤ 0
  · rw [if_pos c1, if_pos (by omega)]
    go_wp2
    go_returns
    exact ⟨rfl, by (repeat (first | exact Below.refl _ _ | assumption | refine Below.alloc ?_ (by simp <;> omega) _ | refine Below.setCell ?_ (by simp <;> omega) _ | refine Below.drew ?_))⟩
  · by_cases c2 : len < 64
    · have hm := mask_walk hi (64 - len).toNat h0 h1 (by omega)
      rw [if_neg c1, if_pos c2, if_pos c2, ← hm]
      clear hm
      go_wp2
      go_returns
      exact ⟨rfl, by (repeat (first | exact Below.refl _ _ | assumption | refine Below.alloc ?_ (by simp <;> omega) _ | refine Below.setCell ?_ (by simp <;> omega) _ | refine Below.drew ?_))⟩
    · by_cases c3 : len < 128
      · have hm := mask_walk lo (128 - len).toNat h2 h3 (by omega)
        rw [if_neg c1, if_neg c2, if_neg c2, if_pos c3, ← hm]
        clear hm
        go_wp2
        go_returns
        exact ⟨rfl, by (repeat (first | exact Below.refl _ _ | assumption | refine Below.alloc ?_ (by simp <;> omega) _ | refine Below.setCell ?_ (by simp <;> omega) _ | refine Below.drew ?_))⟩
      · rw [if_neg c1, if_neg c2, if_neg c2, if_neg c3]
        go_wp2
        go_returns
        exact ⟨rfl, by (repeat (first | exact Below.refl _ _ | assumption | refine Below.alloc ?_ (by simp <;> omega) _ | refine Below.setCell ?_ (by simp <;> omega) _ | refine Below.drew ?_))⟩
end Go.Proofs
namespace Go.Proofs
open Go.Shelf Go.RowKit Go.Lib Go.Rt
theorem Rt.box4 (w : World) (a b c d : Value) (t : TypeId) : ∃ w1, w.alloc (.cells #[a, b, c, d] t) = w1 ∧ (w1.cell? ⟨w.heap.size, 0, none⟩ = some a ∧ w1.cell? ⟨w.heap.size, 1, none⟩ = some b ∧ w1.cell? ⟨w.heap.size, 2, none⟩ = some c ∧ w1.cell? ⟨w.heap.size, 3, none⟩ = some d) ∧ Below w.heap.size w w1 ∧ w.heap.size < w1.heap.size ∧ w.heap.size ≤ w1.heap.size := by
  have hn := heap_alloc_new w (.cells #[a, b, c, d] t)
  exact ⟨_, rfl, ⟨(cell_of_row _ _ _ _ _ _ hn), (cell_of_row _ _ _ _ _ _ hn), (cell_of_row _ _ _ _ _ _ hn), (cell_of_row _ _ _ _ _ _ hn)⟩, (Below.refl _ _).alloc (Nat.le_refl _) _, by simp, by simp⟩
def Rt.pR (v : Bool) (hi lo len : Int) : Bool := decide (0 ≤ len) && decide (len ≤ Rt.wide v) && decide (hi = mHi hi len ∧ lo = mLo lo len)
set_option maxHeartbeats 1000000 in
set_option maxRecDepth 100000 in
theorem Rt.pRight (v : Bool) (hi lo len : Int) (w : World) (h0 : 0 ≤ hi) (h1 : hi < 18446744073709551616) (h2 : 0 ≤ lo) (h3 : lo < 18446744073709551616) (hl : len < 9223372036854775808) (hl0 : -9223372036854775808 ≤ len) :
    Calls Tryd.prog 30 #[.agg #[.bool v, .int .u64 hi, .int .u64 lo, .int .i64 len]] w fun e w' => e = .returned (.bool (Rt.pR v hi lo len)) ∧ Below w.heap.size w w' := by
  have hw := fun w => Rt.width v hi lo w
  have hm := fun w => Rt.masked v hi lo len w h0 h1 h2 h3 hl hl0
  unfold Rt.pR
  generalize Rt.wide v = W at *
  generalize mHi hi len = H at *
  generalize mLo lo len = L at *
  unfold Rt.adr at hw hm
  obtain ⟨w1, e1, hS⟩ := Rt.box4 w (.bool v) (.int .u64 hi) (.int .u64 lo) (.int .i64 len) 26
  have hS1 := Lib.hid hS
  clear hS
  go_enter Tryd.func30, Tryd.ntmps30
  obtain ⟨⟨f0, f1, f2, f3⟩, hb1, -⟩ := hS1.out
  have F0 := Rt.After.cell f0
  have F1 := Rt.After.cell f1
  have F2 := Rt.After.cell f2
  have F3 := Rt.After.cell f3
  clear f0 f1 f2 f3
  by_cases c1 : 0 ≤ len
  · by_cases c2 : len ≤ W
    · by_cases c3 : hi = H
      · subst c3
        by_cases c4 : lo = L
        · subst c4
          go_wp2
          (refine Rt.wp_region_calm (by kernel_rfl) (by kernel_rfl) ?_; (repeat (go_big_quiet_step (first | (go_at_call 60; exact Rt.up (hw _)) | (go_at_call 61; exact Rt.up (hm _)) | fail))); refine wpQuiet_nil ?_; intro wn hwn; have hbn := Rt.after_elim hwn; clear hwn)
          go_wp2
          go_ret
          refine ⟨?_, hb1.trans (hbn.mono hb1.size)⟩
          simp [c1, c2]
        · have d4 := beq_eq_false_iff_ne.2 c4
          go_wp2
          (refine Rt.wp_region_calm (by kernel_rfl) (by kernel_rfl) ?_; (repeat (go_big_quiet_step (first | (go_at_call 60; exact Rt.up (hw _)) | (go_at_call 61; exact Rt.up (hm _)) | fail))); refine wpQuiet_nil ?_; intro wn hwn; have hbn := Rt.after_elim hwn; clear hwn)
          go_wp2
          go_ret
          refine ⟨?_, hb1.trans (hbn.mono hb1.size)⟩
          simp [c4]
      · have d3 := beq_eq_false_iff_ne.2 c3
        go_wp2
        (refine Rt.wp_region_calm (by kernel_rfl) (by kernel_rfl) ?_; (repeat (go_big_quiet_step (first | (go_at_call 60; exact Rt.up (hw _)) | (go_at_call 61; exact Rt.up (hm _)) | fail))); refine wpQuiet_nil ?_; intro wn hwn; have hbn := Rt.after_elim hwn; clear hwn)
        go_wp2
        go_ret
        refine ⟨?_, hb1.trans (hbn.mono hb1.size)⟩
        simp [c3]
    · have d2 := decide_eq_false c2
      have c2' : W < len := by omega
      go_wp2
      (refine Rt.wp_region_calm (by kernel_rfl) (by kernel_rfl) ?_; (repeat (go_big_quiet_step (first | (go_at_call 60; exact Rt.up (hw _)) | (go_at_call 61; exact Rt.up (hm _)) | fail))); refine wpQuiet_nil ?_; intro wn hwn; have hbn := Rt.after_elim hwn; clear hwn)
      go_wp2
      go_ret
      refine ⟨?_, hb1.trans (hbn.mono hb1.size)⟩
      simp
      intros; omega
  · have d1 := decide_eq_false c1
    have c1' : len < 0 := by omega
    go_wp2
    (refine Rt.wp_region_calm (by kernel_rfl) (by kernel_rfl) ?_; (repeat (go_big_quiet_step (first | (go_at_call 60; exact Rt.up (hw _)) | (go_at_call 61; exact Rt.up (hm _)) | fail))); refine wpQuiet_nil ?_; intro wn hwn; have hbn := Rt.after_elim hwn; clear hwn)
    go_wp2
    go_ret
    refine ⟨?_, hb1.trans (hbn.mono hb1.size)⟩
    simp
    intros; omega
end Go.Proofs
set_option linter.unusedSimpArgs false
namespace Go.Proofs
open Go.Shelf Go.RowKit Go.Lib Go.Rt

theorem Rt.and_one (x : Int) (h0 : 0 ≤ x) (h1 : x < 18446744073709551616) : wrap64 (bits .and .u64 x 1) = x % 2 := by
  obtain ⟨n, rfl⟩ := Int.eq_ofNat_of_zero_le h0
  have h := u64_and_nat n 1 (by omega) (by decide)
  rw [show ((1 : Nat) : Int) = 1 by rfl] at h
  rw [h, Nat.and_one_is_mod]
  have : n % 2 < 2 := Nat.mod_lt _ (by decide)
  unfold wrap64
  omega
theorem Rt.shr_in (x : Int) (k : Nat) (h0 : 0 ≤ x) (h1 : x < 18446744073709551616) : 0 ≤ x / 2 ^ k ∧ x / 2 ^ k < 18446744073709551616 := by
  have hp : (0 : Int) < 2 ^ k := Int.pow_pos (by decide)
  have a := Int.ediv_nonneg h0 (Int.le_of_lt hp)
  have b := Int.ediv_le_self (2 ^ k) h0
  exact ⟨a, by omega⟩
set_option maxHeartbeats 1000000 in
set_option maxRecDepth 100000 in
theorem Rt.wideR (v : Bool) (w : World) : Calls Tryd.prog 58 #[.bool v] w fun e w' => e = .returned (.int .i64 (Rt.wide v)) ∧ w' = w := by
  unfold Rt.wide
  go_enter Tryd.func58, Tryd.ntmps58
  cases v
  · go_wp2
    all_goals (first | (rename_i h; exact absurd h (by decide)) | (go_ret; exact ⟨rfl, rfl⟩))
  · go_wp2
    go_ret
    exact ⟨rfl, rfl⟩
def Rt.bit (hi lo i : Int) : Int := if i < 64 then hi / 2 ^ (63 - i).toNat % 2 else lo / 2 ^ (127 - i).toNat % 2
set_option maxHeartbeats 1000000 in
set_option maxRecDepth 100000 in
theorem Rt.bitR (v : Bool) (hi lo i : Int) (w : World) (h0 : 0 ≤ hi) (h1 : hi < 18446744073709551616) (h2 : 0 ≤ lo) (h3 : lo < 18446744073709551616) (hi0 : 0 ≤ i) (hiw : i < Rt.wide v) :
    Calls Tryd.prog 75 #[Rt.adr v hi lo, .int .i64 i] w fun e w' => e = .returned (.int .i64 (Rt.bit hi lo i)) ∧ Below w.heap.size w w' := by
  have hw := Rt.wideR v
  have hww : Rt.wide v ≤ 128 := by unfold Rt.wide; split <;> decide
  generalize Rt.wide v = W at *
  unfold Rt.adr Rt.bit
  have z1 := Rt.shr_in hi (63 - i).toNat h0 h1
  have z2 := Rt.shr_in lo (127 - i).toNat h2 h3
  have y1 := Lib.hid (Rt.and_one _ z1.1 z1.2)
  have y2 := Lib.hid (Rt.and_one _ z2.1 z2.2)
  clear z1 z2
  go_enter Tryd.func75, Tryd.ntmps75
  by_cases c : i < 64
  · rw [if_pos c]
    go_wp2_with (go_at_call 58; go_fit (hw _); rintro e w2 ⟨rfl, rfl⟩)
    go_ret
    exact ⟨congrArg (fun z => Ending.returned (Value.int .i64 z)) y1.out, by (repeat (first | exact Below.refl _ _ | assumption | refine Below.alloc ?_ (by simp <;> omega) _ | refine Below.setCell ?_ (by simp <;> omega) _ | refine Below.drew ?_))⟩
  · rw [if_neg c]
    go_wp2_with (go_at_call 58; go_fit (hw _); rintro e w2 ⟨rfl, rfl⟩)
    go_ret
    exact ⟨congrArg (fun z => Ending.returned (Value.int .i64 z)) y2.out, by (repeat (first | exact Below.refl _ _ | assumption | refine Below.alloc ?_ (by simp <;> omega) _ | refine Below.setCell ?_ (by simp <;> omega) _ | refine Below.drew ?_))⟩

/-- A block of its own that holds these cells. -/
def Rt.Row (w : World) (B : Nat) (t : TypeId) (cs : Array Value) : Prop := w.heap[B]? = some (.cells cs t (0, 0))
theorem Rt.Row.cell {w : World} {B : Nat} {t : TypeId} {cs : Array Value} (h : Rt.Row w B t cs) (k : Nat) {x : Value} (hk : cs[k]? = some x) : w.cell? ⟨B, k, none⟩ = some x := by
  rw [cell_of_row w B k cs t (0, 0) h]; exact hk
theorem Rt.Row.free {w : World} {B : Nat} {t : TypeId} {cs : Array Value} (h : Rt.Row w B t cs) (k : Nat) : w.frozen? ⟨B, k, none⟩ = false := by
  unfold Rt.Row at h
  simp [World.frozen?, h]
theorem Rt.Row.set {w : World} {B : Nat} {t : TypeId} {cs : Array Value} (h : Rt.Row w B t cs) (k : Nat) (z : Value) : Rt.Row (w.setCell ⟨B, k, none⟩ z) B t (cs.setIfInBounds k z) := by
  unfold Rt.Row at h ⊢
  simp only [World.setCell, Array.getElem?_modify, if_pos]
  rw [h]
  rfl
theorem Rt.Row.other {w : World} {B : Nat} {t : TypeId} {cs : Array Value} (h : Rt.Row w B t cs) {p : Addr} (hp : p.block ≠ B) (v : Value) : Rt.Row (w.setCell p v) B t cs := by
  unfold Rt.Row at h ⊢
  rw [Below.heap_setCell _ _ _ _ (fun e => hp e.symm)]; exact h
theorem Rt.Row.new (w : World) (t : TypeId) (cs : Array Value) : Rt.Row (w.alloc (.cells cs t)) w.heap.size t cs := heap_alloc_new w _
theorem Rt.Row.lt {w : World} {B : Nat} {t : TypeId} {cs : Array Value} (h : Rt.Row w B t cs) : B < w.heap.size := (Array.getElem?_eq_some_iff.1 h).1
theorem Rt.Row.keep {w w' : World} {B : Nat} {t : TypeId} {cs : Array Value} (h : Rt.Row w B t cs) (k : Below w.heap.size w w') : Rt.Row w' B t cs := (k.block B h.lt).trans h
theorem Rt.Row.alloc {w : World} {B : Nat} {t : TypeId} {cs : Array Value} (h : Rt.Row w B t cs) (o : Obj) : Rt.Row (w.alloc o) B t cs := (Below.heap_alloc w o B h.lt).trans h
theorem Rt.Row.drew {w : World} {B : Nat} {t : TypeId} {cs : Array Value} (h : Rt.Row w B t cs) : Rt.Row w.drew B t cs := h
end Go.Proofs
set_option linter.unusedSimpArgs false
namespace Go.Proofs
open Go.Shelf Go.RowKit Go.Lib Go.Rt

set_option maxHeartbeats 2000000 in
set_option maxRecDepth 100000 in
theorem Rt.cut (v : Bool) (hi lo n : Int) (w : World) (h0 : 0 ≤ hi) (h1 : hi < 18446744073709551616) (h2 : 0 ≤ lo) (h3 : lo < 18446744073709551616) (hn0 : 0 ≤ n) (hnw : n ≤ Rt.wide v) :
    Calls Tryd.prog 59 #[Rt.adr v hi lo, .int .i64 n] w fun e w' => e = .returned (Rt.adr v (mHi hi n) (mLo lo n)) ∧ Below w.heap.size w w' := by
  have hww : Rt.wide v ≤ 128 := by unfold Rt.wide; split <;> decide
  have hn : n ≤ 128 := by omega
  have hbit := fun i w => Rt.bitR v hi lo i w h0 h1 h2 h3
  have HNW := Lib.hid hnw
  clear hnw hww
  unfold Rt.adr at hbit ⊢
  go_enter Tryd.func59, Tryd.ntmps59
  go_wp2
  go_loopw [6] (fun u wr => ∃ i : Int, u = .int .i64 i ∧ 0 ≤ i ∧ i ≤ n ∧ Below w.heap.size w wr ∧ w.heap.size + 1 + 1 < wr.heap.size ∧ Rt.Row wr w.heap.size 24 #[.bool v, .int .u64 hi, .int .u64 lo] ∧ Rt.Row wr (w.heap.size + 1) 24 #[.bool false, .int .u64 0, .int .u64 0] ∧ Rt.Row wr (w.heap.size + 1 + 1) 24 #[.bool v, .int .u64 (mHi hi i), .int .u64 (mLo lo i)]) (fun u _ => (n - Go.RowKit.intOf u).toNat)
  case atStart =>
    refine ⟨0, rfl, by omega, hn0, by (repeat (first | exact Below.refl _ _ | assumption | refine Below.alloc ?_ (by simp <;> omega) _ | refine Below.setCell ?_ (by simp <;> omega) _ | refine Below.drew ?_)), by simp, ?_, ?_, ?_⟩
    · exact ((Rt.Row.new w 24 _).alloc _).alloc _
    · have h := (Rt.Row.new (w.alloc (.cells #[.bool v, .int .u64 hi, .int .u64 lo] 24)) 24 #[.bool false, .int .u64 0, .int .u64 0])
      simp at h
      exact h.alloc _
    · have h := (Rt.Row.new ((w.alloc (.cells #[.bool v, .int .u64 hi, .int .u64 lo] 24)).alloc (.cells #[.bool false, .int .u64 0, .int .u64 0] 24)) 24 #[.bool v, .int .u64 0, .int .u64 0])
      simp at h
      exact h
  case round =>
    obtain ⟨i, rfl, i0, i1, hbw, hlt, r0, r1, r2⟩ := hrel
    have c0 := r0.cell 0 rfl
    have c1 := r0.cell 1 rfl
    have c2 := r0.cell 2 rfl
    by_cases c : i < n
    · have hc := hbit i wr i0 (by have := HNW.out; omega)
      by_cases ci : i < 64
      · have h01 : hi / 2 ^ (63 - i).toNat % 2 = 0 ∨ hi / 2 ^ (63 - i).toNat % 2 = 1 := by omega
        rcases h01 with hb0 | hb1
        · have hv : Rt.bit hi lo i = 0 := by unfold Rt.bit; rw [if_pos ci]; exact hb0
          rw [hv] at hc
          have hx := hi_same h0 h1 i i0 ci hb0
          have hy : mLo lo (i + 1) = mLo lo i := by rw [mLo_small h2 h3 _ (by omega), mLo_small h2 h3 _ (by omega)]
          have HX := Lib.hid hx
          have HY := Lib.hid hy
          clear hx hy hv hb0
          go_wp2_with (go_at_call 75; go_fit hc; rintro e w2 ⟨rfl, hb⟩; have q0 := r0.keep hb; have q1 := r1.keep hb; have q2 := r2.keep hb)
          go_roundw
          case rel => exact ⟨_, rfl, by omega, by omega, hbw.trans (hb.mono hbw.size), Nat.lt_of_lt_of_le hlt hb.size, q0, q1, by first | (rw [HX.out, HY.out]; exact q2)⟩
          case measure => show (n - (i + 1)).toNat < (n - i).toNat; omega
        · have hv : Rt.bit hi lo i = 1 := by unfold Rt.bit; rw [if_pos ci]; exact hb1
          rw [hv] at hc
          have hx := hi_next h0 h1 i i0 ci hb1
          have hy : mLo lo (i + 1) = mLo lo i := by rw [mLo_small h2 h3 _ (by omega), mLo_small h2 h3 _ (by omega)]
          have HX := Lib.hid hx
          have HY := Lib.hid hy
          clear hx hy hv hb1
          go_wp2_with (go_at_call 75; go_fit hc; rintro e w2 ⟨rfl, hb⟩; have q0 := r0.keep hb; have q1 := r1.keep hb; have q2 := r2.keep hb; have f1 : w2.cell? ⟨w.heap.size + 1 + 1, 1, none⟩ = some (.int .u64 (mHi hi i)) := q2.cell 1 rfl; have k1 := q2.free 1)
          go_region
          all_goals (
            go_wp2
            go_roundw
            case rel => exact ⟨_, rfl, by omega, by omega, (hbw.trans (hb.mono hbw.size)).drew.setCell (by simp; omega) _, (by have := hb.size; simp; omega), (q0.drew.other (by simp; omega) _), (q1.drew.other (by simp) _), by have q3 := q2.drew.set 1 (.int .u64 (mHi hi (i + 1))); rw [HY.out]; rw [HX.out]; exact q3⟩
            case measure => show (n - (i + 1)).toNat < (n - i).toNat; omega)
      · have h01 : lo / 2 ^ (127 - i).toNat % 2 = 0 ∨ lo / 2 ^ (127 - i).toNat % 2 = 1 := by omega
        rcases h01 with hb0 | hb1
        · have hv : Rt.bit hi lo i = 0 := by unfold Rt.bit; rw [if_neg ci]; exact hb0
          rw [hv] at hc
          have hx := lo_same h2 h3 i (by omega) (by omega) hb0
          have hy : mHi hi (i + 1) = mHi hi i := by rw [mHi_big _ _ (by omega), mHi_big _ _ (by omega)]
          have HX := Lib.hid hx
          have HY := Lib.hid hy
          clear hx hy hv hb0
          go_wp2_with (go_at_call 75; go_fit hc; rintro e w2 ⟨rfl, hb⟩; have q0 := r0.keep hb; have q1 := r1.keep hb; have q2 := r2.keep hb)
          go_roundw
          case rel => exact ⟨_, rfl, by omega, by omega, hbw.trans (hb.mono hbw.size), Nat.lt_of_lt_of_le hlt hb.size, q0, q1, by first | (rw [HX.out, HY.out]; exact q2)⟩
          case measure => show (n - (i + 1)).toNat < (n - i).toNat; omega
        · have hv : Rt.bit hi lo i = 1 := by unfold Rt.bit; rw [if_neg ci]; exact hb1
          rw [hv] at hc
          have hx := lo_next h2 h3 i (by omega) (by omega) hb1
          have hy : mHi hi (i + 1) = mHi hi i := by rw [mHi_big _ _ (by omega), mHi_big _ _ (by omega)]
          have HX := Lib.hid hx
          have HY := Lib.hid hy
          clear hx hy hv hb1
          go_wp2_with (go_at_call 75; go_fit hc; rintro e w2 ⟨rfl, hb⟩; have q0 := r0.keep hb; have q1 := r1.keep hb; have q2 := r2.keep hb; have f2 : w2.cell? ⟨w.heap.size + 1 + 1, 2, none⟩ = some (.int .u64 (mLo lo i)) := q2.cell 2 rfl; have k2 := q2.free 2)
          go_region
          all_goals (
            go_wp2
            go_roundw
            case rel => exact ⟨_, rfl, by omega, by omega, (hbw.trans (hb.mono hbw.size)).drew.setCell (by simp; omega) _, (by have := hb.size; simp; omega), (q0.drew.other (by simp; omega) _), (q1.drew.other (by simp) _), by have q3 := q2.drew.set 2 (.int .u64 (mLo lo (i + 1))); rw [HY.out]; rw [HX.out]; exact q3⟩
            case measure => show (n - (i + 1)).toNat < (n - i).toNat; omega)
    · have : i = n := by omega
      subst this
      have f0 := r2.cell 0 rfl
      have f1 := r2.cell 1 rfl
      have f2 := r2.cell 2 rfl
      have g0 := r1.cell 0 rfl
      have g1 := r1.cell 1 rfl
      have g2 := r1.cell 2 rfl
      have k0 := r1.free 0
      have k1 := r1.free 1
      have k2 := r1.free 2
      go_wp2
      have r3 := ((r1.set 0 (.bool v)).set 1 (.int .u64 (mHi hi i))).set 2 (.int .u64 (mLo lo i))
      have e3 : ((#[Value.bool false, .int .u64 0, .int .u64 0].setIfInBounds 0 (.bool v)).setIfInBounds 1 (.int .u64 (mHi hi i))).setIfInBounds 2 (.int .u64 (mLo lo i)) = #[.bool v, .int .u64 (mHi hi i), .int .u64 (mLo lo i)] := rfl
      rw [e3] at r3
      exact bodyPost_ret (v := Rt.adr v (mHi hi i) (mLo lo i)) (results_cell_row rfl _ _ _ 24 _ (0, 0) _ rfl r3 rfl rfl rfl) rfl ⟨rfl, by (repeat (first | exact Below.refl _ _ | assumption | refine Below.alloc ?_ (by simp <;> omega) _ | refine Below.setCell ?_ (by simp <;> omega) _ | refine Below.drew ?_))⟩
end Go.Proofs
set_option linter.unusedSimpArgs false
namespace Go.Proofs
open Go.Shelf Go.RowKit Go.Lib Go.Rt
theorem Rt.wideB (v : Bool) (w : World) : Calls Tryd.prog 58 #[.bool v] w fun e w' => e = .returned (.int .i64 (Rt.wide v)) ∧ Below w.heap.size w w' :=
  (Rt.wideR v w).mono fun _ _ ⟨h1, h2⟩ => ⟨h1, h2 ▸ Below.refl _ _⟩
set_option maxHeartbeats 1000000 in
set_option maxRecDepth 100000 in
theorem Rt.pRightR (v : Bool) (hi lo len : Int) (w : World) (h0 : 0 ≤ hi) (h1 : hi < 18446744073709551616) (h2 : 0 ≤ lo) (h3 : lo < 18446744073709551616) :
    Calls Tryd.prog 34 #[.agg #[.bool v, .int .u64 hi, .int .u64 lo, .int .i64 len]] w fun e w' => e = .returned (.bool (Rt.pR v hi lo len)) ∧ Below w.heap.size w w' := by
  have hww := Rt.wideB v
  have hm := fun a b w => Rt.cut v hi lo len w h0 h1 h2 h3 a b
  unfold Rt.pR
  generalize Rt.wide v = W at *
  generalize mHi hi len = H at *
  generalize mLo lo len = L at *
  unfold Rt.adr at hm
  obtain ⟨w1, e1, hS⟩ := Rt.box4 w (.bool v) (.int .u64 hi) (.int .u64 lo) (.int .i64 len) 26
  have hS1 := Lib.hid hS
  clear hS
  go_enter Tryd.func34, Tryd.ntmps34
  obtain ⟨⟨f0, f1, f2, f3⟩, hb1, -⟩ := hS1.out
  have F0 := Rt.After.cell f0
  have F1 := Rt.After.cell f1
  have F2 := Rt.After.cell f2
  have F3 := Rt.After.cell f3
  clear f0 f1 f2 f3
  by_cases c1 : 0 ≤ len
  · by_cases c2 : len ≤ W
    · by_cases c3 : hi = H
      · subst c3
        by_cases c4 : lo = L
        · subst c4
          go_wp2
          (refine Rt.wp_region_calm (by kernel_rfl) (by kernel_rfl) ?_; (repeat (go_big_quiet_step (first | (go_at_call 58; exact Rt.up (hww _)) | (go_at_call 59; exact Rt.up (hm c1 c2 _)) | fail))); refine wpQuiet_nil ?_; intro wn hwn; have hbn := Rt.after_elim hwn; clear hwn)
          go_wp2
          go_ret
          refine ⟨?_, hb1.trans (hbn.mono hb1.size)⟩
          simp [c1, c2]
        · have d4 := beq_eq_false_iff_ne.2 (fun e => c4 (Eq.symm e))
          go_wp2
          (refine Rt.wp_region_calm (by kernel_rfl) (by kernel_rfl) ?_; (repeat (go_big_quiet_step (first | (go_at_call 58; exact Rt.up (hww _)) | (go_at_call 59; exact Rt.up (hm c1 c2 _)) | fail))); refine wpQuiet_nil ?_; intro wn hwn; have hbn := Rt.after_elim hwn; clear hwn)
          go_wp2
          go_ret
          refine ⟨?_, hb1.trans (hbn.mono hb1.size)⟩
          simp [c4]
      · have d3 := beq_eq_false_iff_ne.2 (fun e => c3 (Eq.symm e))
        go_wp2
        (refine Rt.wp_region_calm (by kernel_rfl) (by kernel_rfl) ?_; (repeat (go_big_quiet_step (first | (go_at_call 58; exact Rt.up (hww _)) | (go_at_call 59; exact Rt.up (hm c1 c2 _)) | fail))); refine wpQuiet_nil ?_; intro wn hwn; have hbn := Rt.after_elim hwn; clear hwn)
        go_wp2
        go_ret
        refine ⟨?_, hb1.trans (hbn.mono hb1.size)⟩
        simp [c3]
    · have d2 := decide_eq_false c2
      have c2' : W < len := by omega
      go_wp2
      (refine Rt.wp_region_calm (by kernel_rfl) (by kernel_rfl) ?_; (repeat (go_big_quiet_step (first | (go_at_call 58; exact Rt.up (hww _)) | fail))); refine wpQuiet_nil ?_; intro wn hwn; have hbn := Rt.after_elim hwn; clear hwn)
      go_wp2
      go_ret
      refine ⟨?_, hb1.trans (hbn.mono hb1.size)⟩
      simp
      intros; omega
  · have d1 := decide_eq_false c1
    have c1' : len < 0 := by omega
    go_wp2
    (refine Rt.wp_region_calm (by kernel_rfl) (by kernel_rfl) ?_; (repeat (go_big_quiet_step (first | (go_at_call 58; exact Rt.up (hww _)) | fail))); refine wpQuiet_nil ?_; intro wn hwn; have hbn := Rt.after_elim hwn; clear hwn)
    go_wp2
    go_ret
    refine ⟨?_, hb1.trans (hbn.mono hb1.size)⟩
    simp
    intros; omega
end Go.Proofs
set_option linter.unusedSimpArgs false
namespace Go.Proofs
open Go.Shelf Go.RowKit Go.Lib Go.Rt Go.Nam
/-- A certificate's cells. -/
structure Rt.Crt (cs : Array Value) (st : ByteArray) (v : Bool) (hi lo len mx fr ti se : Int) : Prop where
  size : cs.size = 73
  c0 : cs[0]? = some (.string st)
  c1 : cs[1]? = some (.bool v)
  c2 : cs[2]? = some (.int .u64 hi)
  c3 : cs[3]? = some (.int .u64 lo)
  c4 : cs[4]? = some (.int .i64 len)
  c5 : cs[5]? = some (.int .i64 mx)
  c6 : cs[6]? = some (.int .u64 fr)
  c7 : cs[7]? = some (.int .u64 ti)
  c8 : cs[8]? = some (.int .u32 se)
/-- The numbers of one are in range. -/
structure Rt.CrtIn (st : ByteArray) (hi lo len mx fr ti se : Int) : Prop where
  st : st.size ≤ 140737488351232
  h0 : 0 ≤ hi
  h1 : hi < 18446744073709551616
  h2 : 0 ≤ lo
  h3 : lo < 18446744073709551616
  l0 : -9223372036854775808 ≤ len
  l1 : len < 9223372036854775808
  m0 : -9223372036854775808 ≤ mx
  m1 : mx < 9223372036854775808
  f0 : 0 ≤ fr
  f1 : fr < 18446744073709551616
  t0 : 0 ≤ ti
  t1 : ti < 18446744073709551616
  s0 : 0 ≤ se
  s1 : se < 4294967296
theorem Rt.box (w : World) (cs : Array Value) (t : TypeId) : ∃ w1, w.alloc (.cells cs t) = w1 ∧ Rt.Row w1 w.heap.size t cs ∧ Below w.heap.size w w1 ∧ w.heap.size < w1.heap.size :=
  ⟨_, rfl, Rt.Row.new w t cs, (Below.refl _ _).alloc (Nat.le_refl _) _, by simp⟩
def Rt.cR (st : ByteArray) (v : Bool) (hi lo len mx fr ti : Int) : Bool := validN st.data.toList && Rt.pR v hi lo len && decide (len ≤ mx) && decide (mx ≤ Rt.wide v) && decide (fr ≤ ti)
set_option maxHeartbeats 1000000 in
set_option maxRecDepth 100000 in
theorem Rt.certRight (cs : Array Value) (st : ByteArray) (v : Bool) (hi lo len mx fr ti se : Int) (w : World) (hC : Rt.Crt cs st v hi lo len mx fr ti se) (hI : Rt.CrtIn st hi lo len mx fr ti se) (hT : Utf8Tabs 0 1 w) :
    Calls Tryd.prog 31 #[.agg cs] w fun e w' => e = .returned (.bool (Rt.cR st v hi lo len mx fr ti)) ∧ Below w.heap.size w w' := by
  have hv := fun w => Nam.Valid st w hI.st
  have hp := fun w => Rt.pRight v hi lo len w hI.h0 hI.h1 hI.h2 hI.h3 hI.l1 hI.l0
  have HC := Lib.hid hC
  have hs := hC.size
  clear hC hI
  unfold Rt.cR Rt.wide
  generalize validN st.data.toList = V at *
  generalize Rt.pR v hi lo len = PR at *
  obtain ⟨w1, e1, r1, hb1, hlt⟩ := Rt.box w cs 31
  have hT1 := Utf8Tabs_below hT hb1
  have f0 := r1.cell 0 HC.out.c0
  have f1 := r1.cell 1 HC.out.c1
  go_enter Tryd.func31, Tryd.ntmps31
  cases v
  all_goals cases V
  all_goals cases PR
  all_goals (
    go_wp2_with (first
      | (go_at_call 32; go_fit (hv _ hT1); rintro e w2 ⟨rfl, hb⟩; have q2 := r1.keep hb; have b2 := hb1.trans (hb.mono hb1.size); have g1 := q2.cell 1 HC.out.c1; have g2 := q2.cell 2 HC.out.c2; have g3 := q2.cell 3 HC.out.c3; have g4 := q2.cell 4 HC.out.c4; have g5 := q2.cell 5 HC.out.c5; have g6 := q2.cell 6 HC.out.c6; have g7 := q2.cell 7 HC.out.c7)
      | (go_at_call 30; go_fit (hp _); rintro e w3 ⟨rfl, hb3⟩; have q3 := q2.keep hb3; have b3 := b2.trans (hb3.mono b2.size); have k4 := q3.cell 4 HC.out.c4; have k5 := q3.cell 5 HC.out.c5; have k6 := q3.cell 6 HC.out.c6; have k7 := q3.cell 7 HC.out.c7)))
  all_goals (go_ret; refine ⟨Nam.retB ?_, by assumption⟩)
  all_goals (first | rfl | (simp; done) | (simp; intros; omega))
set_option maxHeartbeats 1000000 in
set_option maxRecDepth 100000 in
theorem Rt.certRightR (cs : Array Value) (st : ByteArray) (v : Bool) (hi lo len mx fr ti se : Int) (w : World) (hC : Rt.Crt cs st v hi lo len mx fr ti se) (hI : Rt.CrtIn st hi lo len mx fr ti se) (hT : Utf8Tabs 0 1 w) :
    Calls Tryd.prog 35 #[.agg cs] w fun e w' => e = .returned (.bool (Rt.cR st v hi lo len mx fr ti)) ∧ Below w.heap.size w w' := by
  have hv := fun w => Nam.ValidR st w hI.st
  have hp := fun w => Rt.pRightR v hi lo len w hI.h0 hI.h1 hI.h2 hI.h3
  have hw := Rt.wideB v
  have HC := Lib.hid hC
  have hs := hC.size
  clear hC hI
  unfold Rt.cR
  generalize Rt.wide v = W at *
  generalize validN st.data.toList = V at *
  generalize Rt.pR v hi lo len = PR at *
  obtain ⟨w1, e1, r1, hb1, hlt⟩ := Rt.box w cs 31
  have hT1 := Utf8Tabs_below hT hb1
  have f0 := Rt.After.cell (r1.cell 0 HC.out.c0)
  have f1 := Rt.After.cell (r1.cell 1 HC.out.c1)
  have f2 := Rt.After.cell (r1.cell 2 HC.out.c2)
  have f3 := Rt.After.cell (r1.cell 3 HC.out.c3)
  have f4 := Rt.After.cell (r1.cell 4 HC.out.c4)
  have f5 := Rt.After.cell (r1.cell 5 HC.out.c5)
  have f6 := Rt.After.cell (r1.cell 6 HC.out.c6)
  have f7 := Rt.After.cell (r1.cell 7 HC.out.c7)
  go_enter Tryd.func35, Tryd.ntmps35
  cases V
  · go_wp2
    (refine Rt.wp_region_calm (by kernel_rfl) (by kernel_rfl) ?_; (repeat (go_big_quiet_step (first | (go_at_call 36; exact Rt.up (hv _ (Utf8Tabs_below hT1 (Rt.After.hb _)))) | (go_at_call 34; exact Rt.up (hp _)) | (go_at_call 58; exact Rt.up (hw _)) | fail))); refine wpQuiet_nil ?_; intro wn hwn; have hbn := Rt.after_elim hwn; clear hwn)
    go_wp2
    go_ret
    refine ⟨Nam.retB ?_, hb1.trans (hbn.mono hb1.size)⟩
    first | rfl | (simp; done) | (simp; intros; omega)
  · cases PR
    · go_wp2
      (refine Rt.wp_region_calm (by kernel_rfl) (by kernel_rfl) ?_; (repeat (go_big_quiet_step (first | (go_at_call 36; exact Rt.up (hv _ (Utf8Tabs_below hT1 (Rt.After.hb _)))) | (go_at_call 34; exact Rt.up (hp _)) | (go_at_call 58; exact Rt.up (hw _)) | fail))); refine wpQuiet_nil ?_; intro wn hwn; have hbn := Rt.after_elim hwn; clear hwn)
      go_wp2
      go_ret
      refine ⟨Nam.retB ?_, hb1.trans (hbn.mono hb1.size)⟩
      first | rfl | (simp; done) | (simp; intros; omega)
    · by_cases c1 : len ≤ mx
      · by_cases c2 : mx ≤ W
        · go_wp2
          (refine Rt.wp_region_calm (by kernel_rfl) (by kernel_rfl) ?_; (repeat (go_big_quiet_step (first | (go_at_call 36; exact Rt.up (hv _ (Utf8Tabs_below hT1 (Rt.After.hb _)))) | (go_at_call 34; exact Rt.up (hp _)) | (go_at_call 58; exact Rt.up (hw _)) | fail))); refine wpQuiet_nil ?_; intro wn hwn; have hbn := Rt.after_elim hwn; clear hwn)
          go_wp2
          go_ret
          refine ⟨Nam.retB ?_, hb1.trans (hbn.mono hb1.size)⟩
          first | rfl | (simp; done) | (simp; intros; omega)
        · have d2 := decide_eq_false c2
          have d2' : W < mx := by omega
          go_wp2
          (refine Rt.wp_region_calm (by kernel_rfl) (by kernel_rfl) ?_; (repeat (go_big_quiet_step (first | (go_at_call 36; exact Rt.up (hv _ (Utf8Tabs_below hT1 (Rt.After.hb _)))) | (go_at_call 34; exact Rt.up (hp _)) | (go_at_call 58; exact Rt.up (hw _)) | fail))); refine wpQuiet_nil ?_; intro wn hwn; have hbn := Rt.after_elim hwn; clear hwn)
          go_wp2
          go_ret
          refine ⟨Nam.retB ?_, hb1.trans (hbn.mono hb1.size)⟩
          first | rfl | (simp; done) | (simp; intros; omega)
      · have d1 := decide_eq_false c1
        have d1' : mx < len := by omega
        go_wp2
        (refine Rt.wp_region_calm (by kernel_rfl) (by kernel_rfl) ?_; (repeat (go_big_quiet_step (first | (go_at_call 36; exact Rt.up (hv _ (Utf8Tabs_below hT1 (Rt.After.hb _)))) | (go_at_call 34; exact Rt.up (hp _)) | (go_at_call 58; exact Rt.up (hw _)) | fail))); refine wpQuiet_nil ?_; intro wn hwn; have hbn := Rt.after_elim hwn; clear hwn)
        go_wp2
        go_ret
        refine ⟨Nam.retB ?_, hb1.trans (hbn.mono hb1.size)⟩
        first | rfl | (simp; done) | (simp; intros; omega)
end Go.Proofs
