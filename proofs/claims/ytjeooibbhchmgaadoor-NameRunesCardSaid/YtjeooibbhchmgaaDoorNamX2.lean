/- DERIVED: THE SHELF's CONTRACTS AT THIS DUMP, IN PLAIN WORDS (tools/lay-plain.mjs out of 'TrydShelf.lean', which tools/lay-shelf.mjs wrote): THE SAME DECLARATIONS UNDER THE SAME NAMES: 'import', 'namespace', 'open', 'def', 'theorem' AND NOTHING ELSE: no command of the shelf's: FOR A HAND-IN. Each laying: the table of numbers ('.._ren') and one theorem, a field a fact of the dump's own or the kernel's comparison; each contract: ONE APPLICATION. Names: the walks of the functions. Names: the walks of Valid, part. Names: the walks of the document's Valid, of both folds. Names: the walks of both folds. Names: the walks of both clips. Names: the walks of both orders. -/
import Derived.Shelf.Small.Strs
import Derived.Shelf.Small.Wraps
import Derived.Shelf.Unicode.DecodeSlow
import Derived.Shelf.Unicode.DecodeAny
import Derived.Shelf.Unicode.ValidAny
import Derived.Test.YtjeooibbhchmgaaDoorProg
import Derived.Test.YtjeooibbhchmgaaDoorNamX1
import Derived.WalkKit
import Derived.Below
import Derived.Lib.Walk
import Derived.Lib.OthersKept
import Derived.Laws.RangeAny
import Derived.Laws.BitsLemmas
import Derived.Deep.DeepFit
import Derived.Outline
import Derived.Lib.Hide
import Derived.Laws.IdiomStrings
import Derived.RegionTactic
import Derived.Deep.QuietTactic
import Derived.BigQuiet
import Derived.WalkLawsBesides
import Derived.WalkSpells
namespace Go.Proofs
open Go.Shelf
def Tryd.lays213_ren : Go.Shelf.Ren := ⟨fun | 213 => 30 | 265 => 31 | n => n, fun | 9 => 9 | 3 => 3 | n => n, fun | n => n⟩
theorem Tryd.lays213 : Go.Proofs.Lays.n213 Tryd.prog Tryd.lays213_ren := {
  mixed := by kernel_rfl
  f213 := Tryd.func30.trans (congrArg some (by kernel_rfl))
  f265 := Tryd.func31.trans (congrArg some (by kernel_rfl))
  t3 := Tryd.underlying3
  a3 := Tryd.isAgg3
  z3 := Tryd.sizeOf3
  v3 := Tryd.zeroValue3
  t9 := Tryd.underlying9
  a9 := Tryd.isAgg9
  z9 := Tryd.sizeOf9
  v9 := Tryd.zeroValue9 }
open Go.RowKit in
/-- internal/bytealg.CompareString (what strings.Compare calls): IT RETURNS 'Lib.compareBytes a b'; the world is as it was. (LAID: no walk: one application.) -/
theorem Tryd.bytealg_CompareString (a b : ByteArray) (w : World) :
    Calls Tryd.prog 30 #[.string a, .string b] w fun e w' => e = .returned (.int .i64 (Lib.compareBytes a.data.toList b.data.toList)) ∧ w' = w := Any.bytealg_CompareString Tryd.lays213 a b w
def Tryd.lays106_ren : Go.Shelf.Ren := ⟨fun | 106 => 26 | 213 => 30 | 265 => 31 | n => n, fun | 9 => 9 | 3 => 3 | n => n, fun | n => n⟩
theorem Tryd.lays106 : Go.Proofs.Lays.n106 Tryd.prog Tryd.lays106_ren := {
  mixed := by kernel_rfl
  f106 := Tryd.func26.trans (congrArg some (by kernel_rfl))
  f213 := Tryd.func30.trans (congrArg some (by kernel_rfl))
  f265 := Tryd.func31.trans (congrArg some (by kernel_rfl))
  t3 := Tryd.underlying3
  a3 := Tryd.isAgg3
  z3 := Tryd.sizeOf3
  v3 := Tryd.zeroValue3
  t9 := Tryd.underlying9
  a9 := Tryd.isAgg9
  z9 := Tryd.sizeOf9
  v9 := Tryd.zeroValue9 }
open Go.RowKit in
/-- strings.Compare: "Compare returns an integer comparing two strings lexicographically. The result will be 0 if a == b, -1 if a < b, and +1 if a > b.": IT RETURNS 'Lib.compareBytes a b'; the world is as it was. (LAID: no walk: one application.) -/
theorem Tryd.strings_Compare (a b : ByteArray) (w : World) :
    Calls Tryd.prog 26 #[.string a, .string b] w fun e w' => e = .returned (.int .i64 (Lib.compareBytes a.data.toList b.data.toList)) ∧ w' = w := Any.strings_Compare Tryd.lays106 a b w
def Tryd.lays215_ren : Go.Shelf.Ren := ⟨fun | 215 => 29 | n => n, fun | 3 => 3 | 4 => 4 | n => n, fun | n => n⟩
theorem Tryd.lays215 : Go.Proofs.Lays.n215 Tryd.prog Tryd.lays215_ren := {
  mixed := by kernel_rfl
  f215 := Tryd.func29.trans (congrArg some (by kernel_rfl))
  t3 := Tryd.underlying3
  a3 := Tryd.isAgg3
  z3 := Tryd.sizeOf3
  v3 := Tryd.zeroValue3
  t4 := Tryd.underlying4
  a4 := Tryd.isAgg4
  z4 := Tryd.sizeOf4
  v4 := Tryd.zeroValue4 }
open Go.RowKit in
/-- cmp.isNaN at int: 'x != x': false. (LAID: no walk: one application.) -/
theorem Tryd.cmp_isNaN_int (x : Int) (w : World) :
    Calls Tryd.prog 29 #[.int .i64 x] w fun e w' => e = .returned (.bool false) ∧ w' = w := Any.cmp_isNaN_int Tryd.lays215 x w
def Tryd.lays122_ren : Go.Shelf.Ren := ⟨fun | 122 => 25 | 215 => 29 | n => n, fun | 3 => 3 | 4 => 4 | n => n, fun | n => n⟩
theorem Tryd.lays122 : Go.Proofs.Lays.n122 Tryd.prog Tryd.lays122_ren := {
  mixed := by kernel_rfl
  f122 := Tryd.func25.trans (congrArg some (by kernel_rfl))
  f215 := Tryd.func29.trans (congrArg some (by kernel_rfl))
  t3 := Tryd.underlying3
  a3 := Tryd.isAgg3
  z3 := Tryd.sizeOf3
  v3 := Tryd.zeroValue3
  t4 := Tryd.underlying4
  a4 := Tryd.isAgg4
  z4 := Tryd.sizeOf4
  v4 := Tryd.zeroValue4 }
open Go.RowKit in
/-- cmp.Compare at int: "Compare returns -1 if x is less than y, 0 if x equals y, +1 if x is greater than y.": IT RETURNS 'Lib.compareInt x y'; the world is as it was. (LAID: no walk: one application.) -/
theorem Tryd.cmp_Compare_int (x y : Int) (w : World) :
    Calls Tryd.prog 25 #[.int .i64 x, .int .i64 y] w fun e w' => e = .returned (.int .i64 (Lib.compareInt x y)) ∧ w' = w := Any.cmp_Compare_int Tryd.lays122 x y w
def Tryd.lays260_ren : Go.Shelf.Ren := ⟨fun | 260 => 28 | n => n, fun | 9 => 9 | 21 => 21 | 3 => 3 | 4 => 4 | 5 => 5 | 119 => 45 | 0 => 0 | 46 => 49 | 139 => 48 | 138 => 47 | n => n, fun | 3 => 0 | 4 => 1 | n => n⟩
theorem Tryd.lays260 : Go.Proofs.Lays.n260 Tryd.prog Tryd.lays260_ren := {
  mixed := by kernel_rfl
  f260 := Tryd.func28.trans (congrArg some (by kernel_rfl))
  t0 := Tryd.underlying0
  a0 := Tryd.isAgg0
  z0 := Tryd.sizeOf0
  v0 := Tryd.zeroValue0
  t3 := Tryd.underlying3
  a3 := Tryd.isAgg3
  z3 := Tryd.sizeOf3
  v3 := Tryd.zeroValue3
  t4 := Tryd.underlying4
  a4 := Tryd.isAgg4
  z4 := Tryd.sizeOf4
  v4 := Tryd.zeroValue4
  t5 := Tryd.underlying5
  a5 := Tryd.isAgg5
  z5 := Tryd.sizeOf5
  v5 := Tryd.zeroValue5
  t9 := Tryd.underlying9
  a9 := Tryd.isAgg9
  z9 := Tryd.sizeOf9
  v9 := Tryd.zeroValue9
  t21 := Tryd.underlying21
  a21 := Tryd.isAgg21
  z21 := Tryd.sizeOf21
  v21 := Tryd.zeroValue21
  t46 := Tryd.underlying49
  a46 := Tryd.isAgg49
  z46 := Tryd.sizeOf49
  v46 := Tryd.zeroValue49
  t119 := Tryd.underlying45
  a119 := Tryd.isAgg45
  z119 := Tryd.sizeOf45
  t138 := Tryd.underlying47
  a138 := Tryd.isAgg47
  z138 := Tryd.sizeOf47
  v138 := Tryd.zeroValue47
  t139 := Tryd.underlying48
  a139 := Tryd.isAgg48
  z139 := Tryd.sizeOf48
  v139 := Tryd.zeroValue48
  g3 := by kernel_rfl
  g4 := by kernel_rfl }
open Go.RowKit Go.Lib in
theorem Tryd.utf8_decodeRuneInStringSlow (s : ByteArray) (w : World) (hT : Lib.Utf8Tabs 0 1 w) :
    Calls Tryd.prog 28 #[.string s] w fun e w' => e = .returned (.tuple #[.int .i32 (Lib.decodeGo s).1, .int .i64 (Lib.decodeGo s).2]) ∧ Below w.heap.size w w' := Any.utf8_decodeRuneInStringSlow Tryd.lays260 s w hT
def Tryd.lays197_ren : Go.Shelf.Ren := ⟨fun | 197 => 23 | 260 => 28 | n => n, fun | 9 => 9 | 21 => 21 | 3 => 3 | 4 => 4 | 5 => 5 | 105 => 39 | 119 => 45 | 0 => 0 | 46 => 49 | 139 => 48 | 138 => 47 | n => n, fun | 3 => 0 | 4 => 1 | n => n⟩
theorem Tryd.lays197 : Go.Proofs.Lays.n197 Tryd.prog Tryd.lays197_ren := {
  mixed := by kernel_rfl
  f197 := Tryd.func23.trans (congrArg some (by kernel_rfl))
  f260 := Tryd.func28.trans (congrArg some (by kernel_rfl))
  t0 := Tryd.underlying0
  a0 := Tryd.isAgg0
  z0 := Tryd.sizeOf0
  v0 := Tryd.zeroValue0
  t3 := Tryd.underlying3
  a3 := Tryd.isAgg3
  z3 := Tryd.sizeOf3
  v3 := Tryd.zeroValue3
  t4 := Tryd.underlying4
  a4 := Tryd.isAgg4
  z4 := Tryd.sizeOf4
  v4 := Tryd.zeroValue4
  t5 := Tryd.underlying5
  a5 := Tryd.isAgg5
  z5 := Tryd.sizeOf5
  v5 := Tryd.zeroValue5
  t9 := Tryd.underlying9
  a9 := Tryd.isAgg9
  z9 := Tryd.sizeOf9
  v9 := Tryd.zeroValue9
  t21 := Tryd.underlying21
  a21 := Tryd.isAgg21
  z21 := Tryd.sizeOf21
  v21 := Tryd.zeroValue21
  t46 := Tryd.underlying49
  a46 := Tryd.isAgg49
  z46 := Tryd.sizeOf49
  v46 := Tryd.zeroValue49
  t105 := Tryd.underlying39
  a105 := Tryd.isAgg39
  z105 := Tryd.sizeOf39
  v105 := Tryd.zeroValue39
  t119 := Tryd.underlying45
  a119 := Tryd.isAgg45
  z119 := Tryd.sizeOf45
  t138 := Tryd.underlying47
  a138 := Tryd.isAgg47
  z138 := Tryd.sizeOf47
  v138 := Tryd.zeroValue47
  t139 := Tryd.underlying48
  a139 := Tryd.isAgg48
  z139 := Tryd.sizeOf48
  v139 := Tryd.zeroValue48
  g3 := by kernel_rfl
  g4 := by kernel_rfl }
open Go.RowKit Go.Lib in
/-- **unicode/utf8.DecodeRuneInString AT EVERY STRING.** (LAID: no walk: one application.) -/
theorem Tryd.utf8_DecodeRuneInString (s : ByteArray) (w : World) (hT : Lib.Utf8Tabs 0 1 w) :
    Calls Tryd.prog 23 #[.string s] w fun e w' => e = .returned (.tuple #[.int .i32 (Lib.decodeGo s).1, .int .i64 (Lib.decodeGo s).2]) ∧ Below w.heap.size w w' := Any.utf8_DecodeRuneInString Tryd.lays197 s w hT
def Tryd.lays196_ren : Go.Shelf.Ren := ⟨fun | 196 => 22 | 259 => 27 | n => n, fun | 9 => 9 | 4 => 4 | 3 => 3 | 5 => 5 | 12 => 12 | 119 => 45 | 0 => 0 | 46 => 49 | 139 => 48 | 138 => 47 | 53 => 51 | n => n, fun | 3 => 0 | 4 => 1 | n => n⟩
theorem Tryd.lays196 : Go.Proofs.Lays.n196 Tryd.prog Tryd.lays196_ren := {
  mixed := by kernel_rfl
  f196 := Tryd.func22.trans (congrArg some (by kernel_rfl))
  f259 := Tryd.func27.trans (congrArg some (by kernel_rfl))
  t0 := Tryd.underlying0
  a0 := Tryd.isAgg0
  z0 := Tryd.sizeOf0
  v0 := Tryd.zeroValue0
  t3 := Tryd.underlying3
  a3 := Tryd.isAgg3
  z3 := Tryd.sizeOf3
  v3 := Tryd.zeroValue3
  t4 := Tryd.underlying4
  a4 := Tryd.isAgg4
  z4 := Tryd.sizeOf4
  v4 := Tryd.zeroValue4
  t5 := Tryd.underlying5
  a5 := Tryd.isAgg5
  z5 := Tryd.sizeOf5
  v5 := Tryd.zeroValue5
  t9 := Tryd.underlying9
  a9 := Tryd.isAgg9
  z9 := Tryd.sizeOf9
  v9 := Tryd.zeroValue9
  t12 := Tryd.underlying12
  a12 := Tryd.isAgg12
  z12 := Tryd.sizeOf12
  v12 := Tryd.zeroValue12
  t46 := Tryd.underlying49
  a46 := Tryd.isAgg49
  z46 := Tryd.sizeOf49
  v46 := Tryd.zeroValue49
  t53 := Tryd.underlying51
  a53 := Tryd.isAgg51
  z53 := Tryd.sizeOf51
  v53 := Tryd.zeroValue51
  t119 := Tryd.underlying45
  a119 := Tryd.isAgg45
  z119 := Tryd.sizeOf45
  t138 := Tryd.underlying47
  a138 := Tryd.isAgg47
  z138 := Tryd.sizeOf47
  v138 := Tryd.zeroValue47
  t139 := Tryd.underlying48
  a139 := Tryd.isAgg48
  z139 := Tryd.sizeOf48
  v139 := Tryd.zeroValue48
  g3 := by kernel_rfl
  g4 := by kernel_rfl }
open Go.RowKit Go.Lib in
theorem Tryd.utf8_ValidString (s : ByteArray) (w : World) (hs : s.size ≤ 9223372036854775807) (hT : Lib.Utf8Tabs 0 1 w) :
    Calls Tryd.prog 22 #[.string s] w fun e w' => e = .returned (.bool (Lib.validD s.data.toList)) ∧ Below w.heap.size w w' := Any.utf8_ValidString Tryd.lays196 s w hs hT
end Go.Proofs
namespace Go.Proofs
open Go.Shelf Go.RowKit Go.Lib Go.Nam

theorem Nam.decode_pos (s : ByteArray) (pos : Nat) : decodeL (s.data.toList.drop pos) = Utf8.decode s pos := decodeL_drop s pos
theorem Nam.drop_ne (s : ByteArray) (pos : Nat) (h : pos < s.size) : s.data.toList.drop pos ≠ [] := by
  intro e
  have := congrArg List.length e
  rw [List.length_drop, ← Lib.size_eq, List.length_nil] at this
  omega
theorem Nam.drop_end (s : ByteArray) (pos : Nat) (h : ¬ pos < s.size) : s.data.toList.drop pos = [] :=
  List.drop_eq_nil_of_le (by rw [← Lib.size_eq]; omega)
theorem Nam.count_pos (s : ByteArray) (pos : Nat) (h : pos < s.size) : count (s.data.toList.drop pos) = count (s.data.toList.drop (pos + (Utf8.decode s pos).2)) + 1 := by
  rw [count_step _ (Nam.drop_ne s pos h), Nam.decode_pos, List.drop_drop]

set_option maxHeartbeats 1000000 in
set_option maxRecDepth 100000 in
theorem Nam.Count (s : ByteArray) (w : World) (hs : s.size ≤ 140737488351232) (hT : Utf8Tabs 0 1 w) :
    Calls Tryd.prog 12 #[.string s] w fun e w' => e = .returned (.tuple #[.int .i64 (count s.data.toList), .bool (good s.data.toList)]) ∧ Below w.heap.size w w' := by
  have hcl := count_le s.data.toList
  rw [← Lib.size_eq] at hcl
  have Hg := Lib.hid (validD_good s.data.toList)
  have hk0 : (w.iter s 0).heap[w.heap.size]? = some (.stringIter s 0) := World.iter_heap w s 0
  go_enter Tryd.func12, Tryd.ntmps12
  go_wp2
  go_loopw [4] (fun n wr => ∃ (pos k : Nat), n = .int .i64 k ∧ wr.heap[w.heap.size]? = some (.stringIter s pos) ∧ Below w.heap.size w wr ∧ Hid (k + count (s.data.toList.drop pos) = count s.data.toList)) (fun _ wr => s.size - wr.iterPos w.heap.size)
  case atStart => exact ⟨0, 0, rfl, hk0, (Below.refl _ w).alloc (Nat.le_refl _) _, Lib.hid (by simp)⟩
  case round =>
    obtain ⟨pos, k, rfl, hit, hbw, HK⟩ := hrel
    have hkb : k ≤ s.size := by have := HK.out; omega
    have hsz : w.heap.size < wr.heap.size := (Array.getElem?_eq_some_iff.1 hit).1
    by_cases hp : pos < s.size
    · have hnx : ∀ ty, (Instr.next (.pointer (some ⟨w.heap.size, 0, none⟩)) true ty).run Tryd.prog wr = _ := fun ty => Lib.run_next_any_at wr w.heap.size s pos ty hit hp
      have hwd := Lib.width_pos s pos
      have hit2 := Lib.iterAt_heap wr w.heap.size s pos (pos + (Utf8.decode s pos).2) hit
      have hbw2 := Lib.below_iterAt hbw (k := w.heap.size) (by omega) s (pos + (Utf8.decode s pos).2)
      go_wp2
      go_roundw
      case rel =>
        exact ⟨pos + (Utf8.decode s pos).2, k + 1, by go_num, hit2, hbw2, Lib.hid (by have := HK.out; rw [Nam.count_pos s pos hp] at this; omega)⟩
      case measure =>
        simp only [World.iterPos, hit2, hit]
        omega
    · have hnx : ∀ ty, (Instr.next (.pointer (some ⟨w.heap.size, 0, none⟩)) true ty).run Tryd.prog wr = _ := fun ty => Lib.run_next_end_at wr w.heap.size s pos ty hit hp
      have hT2 := Utf8Tabs_below hT hbw
      go_wp2_with (go_at_call 22; go_fit (Tryd.utf8_ValidString s wr (by omega) hT2); rintro e w' ⟨rfl, hb⟩)
      go_ret2
      have h1 := HK.out
      rw [Nam.drop_end s pos hp, count_nil, Nat.add_zero] at h1
      rw [h1, Hg.out]
      exact ⟨rfl, hbw.trans (hb.mono (by omega))⟩

theorem Nam.decode_tail (s : ByteArray) (pos : Nat) (h : pos < s.size) : decodeGo (s.extract pos s.size) = Utf8.decode s pos := by
  have hz : (s.extract pos s.size).size ≠ 0 := by rw [Lib.ext_size]; omega
  unfold decodeGo
  rw [if_neg hz, ← Nam.decode_pos, ← Nam.decode_pos, Lib.ext_list]; rfl
theorem Nam.good_pos (s : ByteArray) (pos : Nat) (h : pos < s.size) : good (s.data.toList.drop pos) = (!bad (Utf8.decode s pos) && good (s.data.toList.drop (pos + (Utf8.decode s pos).2))) := by
  rw [good_step _ (Nam.drop_ne s pos h), Nam.decode_pos, List.drop_drop]
theorem Nam.pos_le (s : ByteArray) (pos : Nat) (h : pos < s.size) : pos + (Utf8.decode s pos).2 ≤ s.size := by
  have := decodeL_le _ (Nam.drop_ne s pos h)
  rw [Nam.decode_pos, List.length_drop, ← Lib.size_eq] at this
  omega

set_option maxHeartbeats 1000000 in
set_option maxRecDepth 100000 in
theorem Nam.CountR (s : ByteArray) (w : World) (hs : s.size ≤ 140737488351232) (hT : Utf8Tabs 0 1 w) :
    Calls Tryd.prog 13 #[.string s] w fun e w' => e = .returned (.tuple #[.int .i64 (count s.data.toList), .bool (good s.data.toList)]) ∧ Below w.heap.size w w' := by
  have hcl := count_le s.data.toList
  rw [← Lib.size_eq] at hcl
  go_enter Tryd.func13, Tryd.ntmps13
  go_wp2
  go_loopw [4, 5, 6] (fun n ok i wr => ∃ (pos k : Nat) (b : Bool), n = .int .i64 k ∧ ok = .bool b ∧ i = .int .i64 pos ∧ pos ≤ s.size ∧ Below w.heap.size w wr ∧ Hid (k + count (s.data.toList.drop pos) = count s.data.toList) ∧ Hid ((b && good (s.data.toList.drop pos)) = good s.data.toList)) (fun _ _ i _ => s.size - (RowKit.intOf i).toNat)
  case atStart => exact ⟨0, 0, true, rfl, rfl, rfl, by omega, Below.refl _ w, Lib.hid (by simp), Lib.hid (by simp)⟩
  case round =>
    obtain ⟨pos, k, b, rfl, rfl, rfl, hpl, hbw, HK, HG⟩ := hrel
    have hkb : k ≤ s.size := by have := HK.out; omega
    by_cases hp : pos < s.size
    · have hT2 := Utf8Tabs_below hT hbw
      have hwd := Lib.width_pos s pos
      have hle := Nam.pos_le s pos hp
      have hc := Tryd.utf8_DecodeRuneInString (s.extract pos s.size) wr hT2
      rw [Nam.decode_tail s pos hp] at hc
      have hc' := Nam.count_pos s pos hp
      have hg' := Nam.good_pos s pos hp
      have hu := HK.out
      have hv := HG.out
      rw [hc'] at hu
      rw [hg'] at hv
      have HU := Lib.hid hu
      have HV := Lib.hid hv
      clear hu hv hc' hg'
      unfold bad at HV
      generalize (Utf8.decode s pos).1 = r at hc HV
      generalize (Utf8.decode s pos).2 = d at hc HV HU hwd hle
      go_wp2_with (go_at_call 23; go_fit hc; rintro e w' ⟨rfl, hb⟩)
      all_goals go_roundw
      case rel =>
        have hb1 : b = true := by assumption
        have hr1 : (r : Int) = 65533 := by assumption
        refine ⟨pos + d, k + 1, decide (1 < (d : Int)), by go_num, rfl, by go_num, hle, hbw.trans (hb.mono (by have := hbw.size; omega)), Lib.hid (by have := HU.out; omega), Lib.hid ?_⟩
        rw [← HV.out, hb1]
        have e1 : (r == 65533) = true := by simp; omega
        have e2 : (!(d == 1)) = decide (1 < (d : Int)) := by
          by_cases h : d = 1
          · subst h; decide
          · have : 1 < (d : Int) := by omega
            simp [h, this]
        rw [e1, Bool.true_and, Bool.true_and, e2]
      case measure => simp [RowKit.intOf]; omega
      case rel =>
        have hb1 : b = true := by assumption
        have hr1 : ¬ (r : Int) = 65533 := by assumption
        refine ⟨pos + d, k + 1, true, by go_num, rfl, by go_num, hle, hbw.trans (hb.mono (by have := hbw.size; omega)), Lib.hid (by have := HU.out; omega), Lib.hid ?_⟩
        rw [← HV.out, hb1]
        have e1 : (r == 65533) = false := by simp; omega
        rw [e1, Bool.false_and, Bool.not_false, Bool.true_and, Bool.true_and]
      case measure => simp [RowKit.intOf]; omega
      case rel =>
        have hb1 : ¬ b = true := by assumption
        refine ⟨pos + d, k + 1, false, by go_num, rfl, by go_num, hle, hbw.trans (hb.mono (by have := hbw.size; omega)), Lib.hid (by have := HU.out; omega), Lib.hid ?_⟩
        rw [← HV.out, show b = false by simpa using hb1]
        rfl
      case measure => simp [RowKit.intOf]; omega
    · go_wp2
      go_ret2
      have h1 := HK.out
      have h2 := HG.out
      rw [Nam.drop_end s pos hp, count_nil, Nat.add_zero] at h1
      rw [Nam.drop_end s pos hp, good_nil, Bool.and_true] at h2
      rw [h1, h2]
      exact ⟨rfl, hbw⟩
end Go.Proofs
namespace Go.Proofs
open Go.Shelf Go.RowKit Go.Lib Go.Nam
theorem Nam.retB {a b : Bool} (h : a = b) : Ending.returned (.bool a) = .returned (.bool b) := by rw [h]

theorem Nam.part (r : Nat) (w : World) : Calls Tryd.prog 24 #[.int .i32 r] w fun e w' => e = .returned (.bool (partR r)) ∧ w = w' := by
  go_enter Tryd.func24, Tryd.ntmps24
  go_wp2
  all_goals
    go_ret
    refine ⟨Nam.retB ?_, rfl⟩
    unfold partR
    rw [Bool.eq_iff_iff]
    simp
    omega

theorem Nam.get0 (s : ByteArray) (h : 0 < s.size) : (s.data.toList.getD 0 0) = s[0] := by
  rw [Lib.getD_get!']
  exact getElem!_pos s.data 0 h
theorem Nam.runes_pos (s : ByteArray) (pos : Nat) (h : pos < s.size) : (runes (s.data.toList.drop pos)).all partR = (partR (Utf8.decode s pos).1 && (runes (s.data.toList.drop (pos + (Utf8.decode s pos).2))).all partR) := by
  rw [runes_step _ (Nam.drop_ne s pos h), Nam.decode_pos, List.drop_drop, List.all_cons]

set_option maxHeartbeats 1000000 in
set_option maxRecDepth 100000 in
theorem Nam.Valid (s : ByteArray) (w : World) (hs : s.size ≤ 140737488351232) (hT : Utf8Tabs 0 1 w) :
    Calls Tryd.prog 14 #[.string s] w fun e w' => e = .returned (.bool (validN s.data.toList)) ∧ Below w.heap.size w w' := by
  have hc := Nam.Count s w hs hT
  obtain ⟨C, hC⟩ : ∃ C, count s.data.toList = C := ⟨_, rfl⟩
  obtain ⟨G, hG⟩ : ∃ G, good s.data.toList = G := ⟨_, rfl⟩
  have hcl := count_le s.data.toList
  rw [← Lib.size_eq] at hcl
  rw [hC, hG] at hc
  rw [hC] at hcl
  have HC := Lib.hid hC
  have HG := Lib.hid hG
  clear hC hG
  obtain ⟨V, hV⟩ : ∃ V, validN s.data.toList = V := ⟨_, rfl⟩
  rw [hV]
  unfold validN at hV
  rw [HC.out, HG.out] at hV
  have HV := Lib.hid hV
  clear hV
  by_cases hz : s.size = 0
  · obtain rfl : C = 0 := by omega
    go_enter Tryd.func14, Tryd.ntmps14
    go_wp2_with (go_at_call 12; go_fit hc; rintro e w' ⟨rfl, hb⟩)
    all_goals
      go_ret
      refine ⟨Nam.retB ?_, hb⟩
      rw [← HV.out]
      simp
  · have hz' : (0 : Int) < (s.size : Int) := by omega
    go_enter Tryd.func14, Tryd.ntmps14
    go_wp2_with (go_at_call 12; go_fit hc; rintro e w' ⟨rfl, hb⟩)
    · go_ret
      refine ⟨Nam.retB ?_, hb⟩
      have h45 : (s[0].toNat : Int) = 45 := by
        have : ((C : Int) < 1 ∨ 16 < (C : Int)) ∨ ((s[0].toNat : Int) == 45) = true := by assumption
        simp only [beq_iff_eq] at this
        omega
      rw [← HV.out, Nam.get0 s (by omega)]
      have : (s[0].toNat == 45) = true := by simp; omega
      rw [this]
      simp
    · rename_i hall K1 a1
      have hgt : G = true := by assumption
      have hfin : Hid (V = (runes s.data.toList).all partR) := by
        apply Lib.hid
        rw [← HV.out, Nam.get0 s (by omega), hgt]
        have e1 : (s[0].toNat == 45) = false := by
          have := hall.2
          simp at this ⊢
          omega
        rw [e1, decide_eq_true (show 1 ≤ C by omega), decide_eq_true (show C ≤ 16 by omega)]
        simp
      have hk0 : (w'.iter s 0).heap[w'.heap.size]? = some (.stringIter s 0) := World.iter_heap w' s 0
      clear hall
      have hbs := hb.size
      go_wp2
      go_loopw [6] (fun _ wr => ∃ (pos : Nat), wr.heap[w'.heap.size]? = some (.stringIter s pos) ∧ Below w.heap.size w wr ∧ Hid (V = (runes (s.data.toList.drop pos)).all partR)) (fun _ wr => s.size - wr.iterPos w'.heap.size)
      case atStart => exact ⟨0, hk0, hb.alloc hbs _, by simpa using hfin⟩
      case round =>
        obtain ⟨pos, hit, hbw, HK⟩ := hrel
        have hsz : w'.heap.size < wr.heap.size := (Array.getElem?_eq_some_iff.1 hit).1
        by_cases hp : pos < s.size
        · have hnx : ∀ ty, (Instr.next (.pointer (some ⟨w'.heap.size, 0, none⟩)) true ty).run Tryd.prog wr = _ := fun ty => Lib.run_next_any_at wr w'.heap.size s pos ty hit hp
          have hwd := Lib.width_pos s pos
          have hd1 := decode_le s pos
          have hit2 := Lib.iterAt_heap wr w'.heap.size s pos (pos + (Utf8.decode s pos).2) hit
          have hbw2 := Lib.below_iterAt hbw (k := w'.heap.size) (by omega) s (pos + (Utf8.decode s pos).2)
          have hst := HK.out
          rw [Nam.runes_pos s pos hp] at hst
          have HST := Lib.hid hst
          clear hst
          have hpart := Nam.part (Utf8.decode s pos).1 (wr.iterAt w'.heap.size s (pos + (Utf8.decode s pos).2))
          obtain ⟨Q, hQ⟩ : ∃ Q, partR (Utf8.decode s pos).1 = Q := ⟨_, rfl⟩
          rw [hQ] at hpart HST
          have HQ := Lib.hid hQ
          clear hQ
          go_wp2_with (go_at_call 24; go_fit hpart; rintro e w2 ⟨rfl, rfl⟩)
          · have hq : (!Q) = true := by assumption
            go_ret
            refine ⟨Nam.retB ?_, hbw2⟩
            rw [HST.out, show Q = false by simpa using hq]
            rfl
          · have hq : (!Q) = false := by assumption
            go_roundw
            case rel =>
              refine ⟨pos + (Utf8.decode s pos).2, hit2, hbw2, ?_⟩
              have := HST.out
              rw [show Q = true by simpa using hq, Bool.true_and] at this
              exact Lib.hid this
            case measure =>
              simp only [World.iterPos, hit2, hit]
              omega
        · have hnx : ∀ ty, (Instr.next (.pointer (some ⟨w'.heap.size, 0, none⟩)) true ty).run Tryd.prog wr = _ := fun ty => Lib.run_next_end_at wr w'.heap.size s pos ty hit hp
          go_wp2
          go_ret
          refine ⟨Nam.retB ?_, hbw⟩
          rw [HK.out, Nam.drop_end s pos hp]
          rfl
    all_goals
      go_ret
      refine ⟨Nam.retB ?_, hb⟩
      rw [← HV.out]
    · rw [decide_eq_false (show ¬ C ≤ 16 by omega)]; simp
    · rw [decide_eq_false (show ¬ 1 ≤ C by omega)]; simp
    · have : ¬ G = true := by assumption
      rw [show G = false by simpa using this]; simp
end Go.Proofs
set_option linter.unusedSimpArgs false
namespace Go.Proofs
open Go.Shelf Go.RowKit Go.Lib Go.Nam
theorem Nam.all_pos (s : ByteArray) (pos : Nat) (h : pos < s.size) : (s.data.toList.drop pos).all (fun c => partR c.toNat) = (partR (s[pos]).toNat && (s.data.toList.drop (pos + 1)).all fun c => partR c.toNat) := by
  have hl : pos < s.data.toList.length := by rw [← Lib.size_eq]; exact h
  rw [List.drop_eq_getElem_cons hl, List.all_cons]
  rfl

set_option maxHeartbeats 1000000 in
set_option maxRecDepth 100000 in
theorem Nam.ValidR (s : ByteArray) (w : World) (hs : s.size ≤ 140737488351232) (hT : Utf8Tabs 0 1 w) :
    Calls Tryd.prog 15 #[.string s] w fun e w' => e = .returned (.bool (validN s.data.toList)) ∧ Below w.heap.size w w' := by
  have hc := Nam.CountR s w hs hT
  obtain ⟨C, hC⟩ : ∃ C, count s.data.toList = C := ⟨_, rfl⟩
  obtain ⟨G, hG⟩ : ∃ G, good s.data.toList = G := ⟨_, rfl⟩
  have hcl := count_le s.data.toList
  rw [← Lib.size_eq] at hcl
  rw [hC, hG] at hc
  rw [hC] at hcl
  have HC := Lib.hid hC
  have HG := Lib.hid hG
  clear hC hG
  obtain ⟨V, hV⟩ : ∃ V, validN s.data.toList = V := ⟨_, rfl⟩
  rw [hV]
  rw [← valid_same] at hV
  unfold validB at hV
  rw [HC.out, HG.out] at hV
  have HV := Lib.hid hV
  clear hV
  by_cases hz : s.size = 0
  · obtain rfl : C = 0 := by omega
    go_enter Tryd.func15, Tryd.ntmps15
    go_wp2_with (go_at_call 13; go_fit hc; rintro e w' ⟨rfl, hb⟩)
    all_goals
      go_ret
      refine ⟨Nam.retB ?_, hb⟩
      rw [← HV.out]
      simp
  · have hz' : (0 : Int) < (s.size : Int) := by omega
    go_enter Tryd.func15, Tryd.ntmps15
    go_wp2_with (go_at_call 13; go_fit hc; rintro e w' ⟨rfl, hb⟩)
    · go_ret
      refine ⟨Nam.retB ?_, hb⟩
      have h45 : (s[0].toNat : Int) = 45 := by
        have : ((C : Int) < 1 ∨ 16 < (C : Int)) ∨ ((s[0].toNat : Int) == 45) = true := by assumption
        simp only [beq_iff_eq] at this
        omega
      rw [← HV.out, Nam.get0 s (by omega)]
      have : (s[0].toNat == 45) = true := by simp; omega
      rw [this]
      simp
    · rename_i hall K1 a1
      have hgt : G = true := by assumption
      have hfin : Hid (V = s.data.toList.all fun c => partR c.toNat) := by
        apply Lib.hid
        rw [← HV.out, Nam.get0 s (by omega), hgt]
        have e1 : (s[0].toNat == 45) = false := by
          have := hall.2
          simp at this ⊢
          omega
        rw [e1, decide_eq_true (show 1 ≤ C by omega), decide_eq_true (show C ≤ 16 by omega)]
        simp
      clear hall
      go_wp2
      go_loop [5] (fun i => ∃ (pos : Nat), i = .int .i64 pos ∧ Hid (V = (s.data.toList.drop pos).all fun c => partR c.toNat)) (fun i => s.size - (RowKit.intOf i).toNat)
      case atStart => exact ⟨0, rfl, by simpa using hfin⟩
      case round =>
        obtain ⟨pos, rfl, HK⟩ := hrel
        by_cases hp : pos < s.size
        · have hst := HK.out
          rw [Nam.all_pos s pos hp] at hst
          have HST := Lib.hid hst
          clear hst
          go_wp2
          all_goals first
            | (go_ret
               refine ⟨Nam.retB ?_, hb⟩
               have hq : partR (s[pos]).toNat = false := by
                 clear HK HST HC HG HV hc hb
                 simp only [Bool.not_eq_eq_eq_not, Bool.not_true, Bool.not_false, decide_eq_false_iff_not, decide_eq_true_eq, beq_eq_false_iff_ne, beq_iff_eq, ne_eq] at *
                 unfold partR
                 simp only [Bool.or_eq_false_iff, Bool.and_eq_false_iff, decide_eq_false_iff_not, beq_eq_false_iff_ne, ne_eq]
                 omega
               rw [HST.out, hq]
               rfl)
            | (go_round
               case rel =>
                 refine ⟨pos + 1, by go_num, ?_⟩
                 have hq : partR (s[pos]).toNat = true := by
                   clear HK HST HC HG HV hc hb
                   simp only [Bool.not_eq_eq_eq_not, Bool.not_true, Bool.not_false, decide_eq_false_iff_not, decide_eq_true_eq, beq_eq_false_iff_ne, beq_iff_eq, ne_eq] at *
                   unfold partR
                   simp only [Bool.or_eq_true, Bool.and_eq_true, decide_eq_true_eq, beq_iff_eq]
                   omega
                 have := HST.out
                 rw [hq, Bool.true_and] at this
                 exact Lib.hid this
               case measure => simp [RowKit.intOf]; omega)
        · go_wp2
          go_ret
          refine ⟨Nam.retB ?_, hb⟩
          rw [HK.out, Nam.drop_end s pos hp]
          rfl
    all_goals
      go_ret
      refine ⟨Nam.retB ?_, hb⟩
      rw [← HV.out]
    · rw [decide_eq_false (show ¬ C ≤ 16 by omega)]; simp
    · rw [decide_eq_false (show ¬ 1 ≤ C by omega)]; simp
    · have : ¬ G = true := by assumption
      rw [show G = false by simpa using this]; simp
end Go.Proofs
set_option linter.unusedSimpArgs false
namespace Go.Proofs
open Go.Shelf Go.RowKit Go.Lib Go.Nam

/-- A block's cells from 0 on are these bytes, and may be written. -/
def Nam.Row (B : Nat) (l : List UInt8) (w : World) : Prop :=
  ∀ j, j < l.length → w.cell? ⟨B, j, none⟩ = some (.int .u8 ((l.getD j 0).toNat : Int)) ∧ w.frozen? ⟨B, j, none⟩ = false
theorem Nam.Row.set {B : Nat} {l : List UInt8} {w : World} (h : Nam.Row B l w) (i : Nat) (hi : i < l.length) (c : UInt8) :
    Nam.Row B (l.set i c) (w.setCell ⟨B, i, none⟩ (.int .u8 (c.toNat : Int))) := by
  intro j hj
  rw [List.length_set] at hj
  have hh := h j hj
  refine ⟨?_, ?_⟩
  · by_cases e : i = j
    · subst e
      rw [World.cell?_setCell_same _ _ _ hh.1]
      simp [hi]
    · rw [World.cell?_setCell_other _ _ _ _ (show (⟨B, i, none⟩ : Addr) ≠ ⟨B, j, none⟩ by simp [e]), hh.1]
      simp [List.getD, e]
  · rw [World.frozen?_setCell]; exact hh.2
theorem Nam.conv (w : World) (s : ByteArray) : ∃ (cap : Nat) (W0 : World), (convert 9 34 (.string s)).run Tryd.prog w = .ok (.slice (some ⟨w.heap.size, 0, none⟩) s.size cap) W0 ∧
    Nam.Row w.heap.size s.data.toList W0 ∧ Below w.heap.size w W0 ∧ w.heap.size < W0.heap.size := by
  refine ⟨_, _, run_bytes_of_string (P := Tryd.prog) w 9 34 5 s Tryd.underlying9 Tryd.underlying34 Tryd.underlying5, ?_, ?_, ?_⟩
  · generalize grownCap w s.size 0 5 = cap
    intro j hj
    rw [← Lib.size_eq] at hj
    have hh : (w.drew.alloc (.cells (bytesRow s cap) 5 ((bytesRow s cap).size, (bytesRow s cap).size + 1))).heap[w.heap.size]? = some (.cells (bytesRow s cap) 5 ((bytesRow s cap).size, (bytesRow s cap).size + 1)) := by
      show (w.heap.push _)[w.heap.size]? = _
      simp
    constructor
    · simp only [World.cell?, hh]
      simp [bytesRow, Array.getElem?_append, List.getD, hj]
    · have hlt : j < (bytesRow s cap).size := by simp [bytesRow]; omega
      simp only [World.frozen?, hh]
      simp
      omega
  · exact (Below.refl _ w).drew.alloc (Nat.le_refl _) _
  · show w.heap.size < (w.heap.push _).size
    simp
theorem Nam.conv_back {B : Nat} {l : List UInt8} {w : World} (h : Nam.Row B l w) (n cap : Nat) (hn : l.length = n) :
    (convert 34 9 (.slice (some ⟨B, 0, none⟩) n cap)).run Tryd.prog w = .ok (.string ⟨l.toArray⟩) w := by
  subst hn
  refine run_convert_bytes_back w 34 9 5 ⟨B, 0, none⟩ cap l Tryd.underlying34 Tryd.underlying5 Tryd.underlying9 fun j hj => ?_
  have := (h j hj).1
  have e : (Addr.add ⟨B, 0, none⟩ j) = ⟨B, j, none⟩ := by rw [Addr.add_lit, Nat.zero_add]
  rw [e, this]
  simp [List.getD, hj]
/-- The first k bytes folded. -/
def Nam.part_fold (l : List UInt8) (k : Nat) : List UInt8 := fold (l.take k) ++ l.drop k
theorem Nam.part_fold_len (l : List UInt8) (k : Nat) : (Nam.part_fold l k).length = l.length := by
  unfold Nam.part_fold fold
  rw [List.length_append, List.length_map, ← List.length_append, List.take_append_drop]
theorem Nam.part_fold_at (l : List UInt8) (k : Nat) (hk : k < l.length) : (Nam.part_fold l k).getD k 0 = l[k] := by
  unfold Nam.part_fold
  have hl : (fold (l.take k)).length = k := by rw [fold_length, List.length_take]; omega
  simp only [List.getD]
  rw [List.getElem?_append_right (by omega), hl, Nat.sub_self, List.getElem?_drop]
  simp [hk]
theorem Nam.part_fold_succ (l : List UInt8) (k : Nat) (hk : k < l.length) : Nam.part_fold l (k + 1) = (Nam.part_fold l k).set k (foldB l[k]) := by
  unfold Nam.part_fold
  have hl : (fold (l.take k)).length = k := by rw [fold_length, List.length_take]; omega
  rw [List.set_append_right _ _ (by omega), hl, Nat.sub_self, List.drop_eq_getElem_cons hk, List.set_cons_zero]
  rw [← List.take_append_getElem hk]
  unfold fold
  rw [List.map_append, List.append_assoc]
  rfl
theorem Nam.set_same (l : List UInt8) (k : Nat) (hk : k < l.length) : l.set k (l.getD k 0) = l := by
  apply List.ext_getElem?
  intro i
  rw [List.getElem?_set]
  split
  · rename_i e; subst e; simp [List.getD, hk]
  · rfl

set_option maxHeartbeats 1000000 in
set_option maxRecDepth 100000 in
theorem Nam.Fold (s : ByteArray) (w : World) (hs : s.size ≤ 140737488351232) :
    Calls Tryd.prog 16 #[.string s] w fun e w' => e = .returned (.string ⟨(fold s.data.toList).toArray⟩) ∧ Below w.heap.size w w' := by
  obtain ⟨cap, W0, hconv, hrow, hbel, hsz0⟩ := Nam.conv w s
  have hL := Lib.size_eq s
  obtain ⟨l, hl⟩ : ∃ l, s.data.toList = l := ⟨_, rfl⟩
  rw [hl] at hrow hL ⊢
  have HL := Lib.hid hL.symm
  clear hl hL
  go_enter Tryd.func16, Tryd.ntmps16
  go_wp2
  go_loopw [10] (fun i wr => ∃ k : Nat, i = .int .i64 k ∧ k ≤ s.size ∧ Nam.Row w.heap.size (Nam.part_fold l k) wr ∧ Below w.heap.size w wr) (fun i _ => s.size - (RowKit.intOf i).toNat)
  case atStart => exact ⟨0, rfl, Nat.zero_le _, by simpa [Nam.part_fold, fold] using hrow, hbel⟩
  case round =>
    obtain ⟨k, rfl, hk, hr, hbw⟩ := hrel
    by_cases hlt : k < s.size
    · have hkl : k < l.length := by rw [HL.out]; exact hlt
      have hrk := hr k (by rw [Nam.part_fold_len]; exact hkl)
      have hsame := Nam.set_same (Nam.part_fold l k) k (by rw [Nam.part_fold_len]; exact hkl)
      rw [Nam.part_fold_at l k hkl] at hrk hsame
      have HN := Lib.hid hsame
      clear hsame
      obtain ⟨hcell, hfree⟩ := hrk
      have hset := fun c => hr.set k (by rw [Nam.part_fold_len]; exact hkl) c
      have HS := Lib.hid (Nam.part_fold_succ l k hkl)
      have hfb := foldB_toNat (l[k])
      unfold foldB at HS hfb
      have hc256 := (l[k]).toNat_lt
      generalize l[k] = c at hcell hset HS HN hfb hc256
      have HF := Lib.hid hfb
      clear hfb
      go_wp2
      all_goals go_roundw
      case rel =>
        have h1 : (65 : Int) ≤ (c.toNat : Int) := by assumption
        have h2 : (c.toNat : Int) ≤ 90 := by assumption
        refine ⟨k + 1, by go_num, by omega, ?_, hbw.setCell (Nat.le_refl _) _⟩
        have e := HF.out
        rw [if_pos (by omega)] at e
        have e2 := HS.out
        rw [if_pos (by omega)] at e2
        have e3 := hset (c + 32)
        rw [if_pos (by omega)] at e
        rw [e, ← e2] at e3
        rw [show (c.toNat : Int) - 65 + 97 = ((c.toNat + 32 : Nat) : Int) by omega]
        exact e3
      case measure => simp [RowKit.intOf]; omega
      case rel =>
        have h2 : 90 < (c.toNat : Int) := by assumption
        refine ⟨k + 1, by go_num, by omega, ?_, hbw⟩
        have e2 := HS.out
        rw [if_neg (by omega), HN.out] at e2
        rw [e2]; exact hr
      case measure => simp [RowKit.intOf]; omega
      case rel =>
        have h2 : ¬ (65 : Int) ≤ (c.toNat : Int) := by assumption
        refine ⟨k + 1, by go_num, by omega, ?_, hbw⟩
        have e2 := HS.out
        rw [if_neg (by omega), HN.out] at e2
        rw [e2]; exact hr
      case measure => simp [RowKit.intOf]; omega
    · obtain rfl : k = s.size := by omega
      have hp : Nam.part_fold l s.size = fold l := by
        unfold Nam.part_fold
        rw [List.take_of_length_le (by rw [HL.out]; omega), List.drop_eq_nil_of_le (by rw [HL.out]; omega), List.append_nil]
      rw [hp] at hr
      have hback := Nam.conv_back hr s.size cap (by rw [fold_length]; exact HL.out)
      clear hp
      go_wp2
      go_ret
      exact ⟨rfl, hbw⟩
set_option maxHeartbeats 1000000 in
set_option maxRecDepth 100000 in
theorem Nam.FoldR (s : ByteArray) (w : World) (hs : s.size ≤ 140737488351232) :
    Calls Tryd.prog 17 #[.string s] w fun e w' => e = .returned (.string ⟨(fold s.data.toList).toArray⟩) ∧ Below w.heap.size w w' := by
  obtain ⟨cap, W0, hconv, hrow, hbel, hsz0⟩ := Nam.conv w s
  have hL := Lib.size_eq s
  obtain ⟨l, hl⟩ : ∃ l, s.data.toList = l := ⟨_, rfl⟩
  rw [hl] at hrow hL ⊢
  have HL := Lib.hid hL.symm
  clear hl hL
  go_enter Tryd.func17, Tryd.ntmps17
  go_wp2
  go_loopw [4] (fun i wr => ∃ k : Nat, i = .int .i64 k ∧ k ≤ s.size ∧ Nam.Row w.heap.size (Nam.part_fold l k) wr ∧ Below w.heap.size w wr) (fun i _ => s.size - (RowKit.intOf i).toNat)
  case atStart => exact ⟨0, rfl, Nat.zero_le _, by simpa [Nam.part_fold, fold] using hrow, hbel⟩
  case round =>
    obtain ⟨k, rfl, hk, hr, hbw⟩ := hrel
    by_cases hlt : k < s.size
    · have hkl : k < l.length := by rw [HL.out]; exact hlt
      have hrk := hr k (by rw [Nam.part_fold_len]; exact hkl)
      have hsame := Nam.set_same (Nam.part_fold l k) k (by rw [Nam.part_fold_len]; exact hkl)
      rw [Nam.part_fold_at l k hkl] at hrk hsame
      have HN := Lib.hid hsame
      clear hsame
      obtain ⟨hcell, hfree⟩ := hrk
      have hset := fun c => hr.set k (by rw [Nam.part_fold_len]; exact hkl) c
      have HS := Lib.hid (Nam.part_fold_succ l k hkl)
      have hfb := foldB_toNat (l[k])
      unfold foldB at HS hfb
      have hc256 := (l[k]).toNat_lt
      generalize l[k] = c at hcell hset HS HN hfb hc256
      have HF := Lib.hid hfb
      clear hfb
      go_wp2
      all_goals go_roundw
      case rel =>
        have h1 : (65 : Int) ≤ (c.toNat : Int) := by assumption
        have h2 : (c.toNat : Int) ≤ 90 := by assumption
        refine ⟨k + 1, by go_num, by omega, ?_, hbw.setCell (Nat.le_refl _) _⟩
        have e := HF.out
        rw [if_pos (by omega)] at e
        have e2 := HS.out
        rw [if_pos (by omega)] at e2
        have e3 := hset (c + 32)
        rw [if_pos (by omega)] at e
        rw [e, ← e2] at e3
        rw [show (c.toNat : Int) + 32 = ((c.toNat + 32 : Nat) : Int) by omega]
        exact e3
      case measure => simp [RowKit.intOf]; omega
      case rel =>
        have h2 : 90 < (c.toNat : Int) := by assumption
        refine ⟨k + 1, by go_num, by omega, ?_, hbw⟩
        have e2 := HS.out
        rw [if_neg (by omega), HN.out] at e2
        rw [e2]; exact hr
      case measure => simp [RowKit.intOf]; omega
      case rel =>
        have h2 : ¬ (65 : Int) ≤ (c.toNat : Int) := by assumption
        refine ⟨k + 1, by go_num, by omega, ?_, hbw⟩
        have e2 := HS.out
        rw [if_neg (by omega), HN.out] at e2
        rw [e2]; exact hr
      case measure => simp [RowKit.intOf]; omega
    · obtain rfl : k = s.size := by omega
      have hp : Nam.part_fold l s.size = fold l := by
        unfold Nam.part_fold
        rw [List.take_of_length_le (by rw [HL.out]; omega), List.drop_eq_nil_of_le (by rw [HL.out]; omega), List.append_nil]
      rw [hp] at hr
      have hback := Nam.conv_back hr s.size cap (by rw [fold_length]; exact HL.out)
      clear hp
      go_wp2
      go_ret
      exact ⟨rfl, hbw⟩
end Go.Proofs
set_option linter.unusedSimpArgs false
namespace Go.Proofs
open Go.Shelf Go.RowKit Go.Lib Go.Nam

theorem Nam.mk_list (s : ByteArray) : (⟨s.data.toList.toArray⟩ : ByteArray) = s := by cases s; simp
theorem Nam.mk_take (s : ByteArray) (k : Nat) : (⟨(s.data.toList.take k).toArray⟩ : ByteArray) = s.extract 0 k := by
  rw [← Nam.mk_list (s.extract 0 k), Lib.extract_data]
  simp
/-- How far a text is clipped. -/
def Nam.upto (n : Int) (l : List UInt8) : Nat := width ((steps l).take n.toNat)
theorem Nam.upto_end (n : Int) : Nam.upto n [] = 0 := by simp [Nam.upto, steps_nil, width]
theorem Nam.upto_zero (n : Int) (h : n ≤ 0) (l : List UInt8) : Nam.upto n l = 0 := by
  unfold Nam.upto; rw [Int.toNat_of_nonpos h]; simp [width]
theorem Nam.upto_pos (s : ByteArray) (pos : Nat) (h : pos < s.size) (n : Int) (hn : 0 < n) :
    Nam.upto n (s.data.toList.drop pos) = (Utf8.decode s pos).2 + Nam.upto (n - 1) (s.data.toList.drop (pos + (Utf8.decode s pos).2)) := by
  unfold Nam.upto
  obtain ⟨k, hk⟩ : ∃ k : Nat, n.toNat = k + 1 := ⟨n.toNat - 1, by omega⟩
  rw [steps_step _ (Nam.drop_ne s pos h), hk, List.take_succ_cons, width, Nam.decode_pos, List.drop_drop, show (n - 1).toNat = k by omega]
theorem Nam.clip_upto (s : ByteArray) (n : Int) (k : Nat) (h : Nam.upto n s.data.toList = k) : (⟨(clip n s.data.toList).toArray⟩ : ByteArray) = s.extract 0 k := by
  unfold clip; unfold Nam.upto at h; rw [h, Nam.mk_take]
theorem Nam.extract_all (s : ByteArray) : s.extract 0 s.size = s := by
  rw [← Nam.mk_take, Lib.size_eq, List.take_length, Nam.mk_list]

set_option maxHeartbeats 1000000 in
set_option maxRecDepth 100000 in
theorem Nam.Clip (s : ByteArray) (n : Int) (w : World) (_hs : s.size ≤ 140737488351232) (hn : -9223372036854775808 ≤ n) (hn2 : n ≤ 9223372036854775807) :
    Calls Tryd.prog 18 #[.string s, .int .i64 n] w fun e w' => e = .returned (.string ⟨(clip n s.data.toList).toArray⟩) ∧ Below w.heap.size w w' := by
  have hk0 : (w.iter s 0).heap[w.heap.size]? = some (.stringIter s 0) := World.iter_heap w s 0
  have HC := fun k (h : Nam.upto n s.data.toList = k) => Lib.hid (Nam.clip_upto s n k h)
  obtain ⟨V, hV⟩ : ∃ V : ByteArray, (⟨(clip n s.data.toList).toArray⟩ : ByteArray) = V := ⟨_, rfl⟩
  rw [hV] at HC ⊢
  clear hV
  go_enter Tryd.func18, Tryd.ntmps18
  go_wp2
  go_loopw [1] (fun v wr => ∃ (pos : Nat) (m : Int), v = .int .i64 m ∧ -9223372036854775808 ≤ m ∧ m ≤ 9223372036854775807 ∧ pos ≤ s.size ∧ wr.heap[w.heap.size]? = some (.stringIter s pos) ∧ Below w.heap.size w wr ∧ Hid (pos + Nam.upto m (s.data.toList.drop pos) = Nam.upto n s.data.toList)) (fun _ wr => s.size - wr.iterPos w.heap.size)
  case atStart => exact ⟨0, n, rfl, hn, hn2, Nat.zero_le _, hk0, (Below.refl _ w).alloc (Nat.le_refl _) _, Lib.hid (by simp)⟩
  case round =>
    obtain ⟨pos, m, rfl, hm1, hm2, hps, hit, hbw, HK⟩ := hrel
    have hsz : w.heap.size < wr.heap.size := (Array.getElem?_eq_some_iff.1 hit).1
    by_cases hp : pos < s.size
    · have hnx : ∀ ty, (Instr.next (.pointer (some ⟨w.heap.size, 0, none⟩)) true ty).run Tryd.prog wr = _ := fun ty => Lib.run_next_any_at wr w.heap.size s pos ty hit hp
      have hwd := Lib.width_pos s pos
      have hle := Nam.pos_le s pos hp
      have hit2 := Lib.iterAt_heap wr w.heap.size s pos (pos + (Utf8.decode s pos).2) hit
      have hbw2 := Lib.below_iterAt hbw (k := w.heap.size) (by omega) s (pos + (Utf8.decode s pos).2)
      have HU := fun h => Lib.hid (Nam.upto_pos s pos hp m h)
      by_cases h0 : m ≤ 0
      · go_wp2
        go_ret
        have h1 := HK.out
        rw [Nam.upto_zero m h0, Nat.add_zero] at h1
        have := (HC pos h1.symm).out
        exact ⟨by rw [this]; rfl, hbw2⟩
      · go_wp2
        go_roundw
        case rel =>
          refine ⟨pos + (Utf8.decode s pos).2, m - 1, rfl, by omega, by omega, hle, hit2, hbw2, Lib.hid ?_⟩
          have := HK.out
          rw [(HU (by omega)).out] at this
          omega
        case measure =>
          simp only [World.iterPos, hit2, hit]
          omega
    · have hnx : ∀ ty, (Instr.next (.pointer (some ⟨w.heap.size, 0, none⟩)) true ty).run Tryd.prog wr = _ := fun ty => Lib.run_next_end_at wr w.heap.size s pos ty hit hp
      go_wp2
      go_ret
      have h1 := HK.out
      rw [Nam.drop_end s pos hp, Nam.upto_end, Nat.add_zero, show pos = s.size by omega] at h1
      have := (HC s.size h1.symm).out
      rw [Nam.extract_all] at this
      exact ⟨by rw [this]; rfl, hbw⟩

set_option maxHeartbeats 1000000 in
set_option maxRecDepth 100000 in
theorem Nam.ClipR (s : ByteArray) (n : Int) (w : World) (hs : s.size ≤ 140737488351232) (hn : -9223372036854775808 ≤ n) (hn2 : n ≤ 9223372036854775807) (hT : Utf8Tabs 0 1 w) :
    Calls Tryd.prog 19 #[.string s, .int .i64 n] w fun e w' => e = .returned (.string ⟨(clip n s.data.toList).toArray⟩) ∧ Below w.heap.size w w' := by
  have HC := fun k (h : Nam.upto n s.data.toList = k) => Lib.hid (Nam.clip_upto s n k h)
  obtain ⟨V, hV⟩ : ∃ V : ByteArray, (⟨(clip n s.data.toList).toArray⟩ : ByteArray) = V := ⟨_, rfl⟩
  rw [hV] at HC ⊢
  clear hV
  go_enter Tryd.func19, Tryd.ntmps19
  go_wp2
  go_loopw [1, 5] (fun v i wr => ∃ (pos : Nat) (m : Int), v = .int .i64 m ∧ i = .int .i64 pos ∧ -9223372036854775808 ≤ m ∧ m ≤ 9223372036854775807 ∧ pos ≤ s.size ∧ Below w.heap.size w wr ∧ Hid (pos + Nam.upto m (s.data.toList.drop pos) = Nam.upto n s.data.toList)) (fun _ i _ => s.size - (RowKit.intOf i).toNat)
  case atStart => exact ⟨0, n, rfl, rfl, hn, hn2, Nat.zero_le _, Below.refl _ w, Lib.hid (by simp)⟩
  case round =>
    obtain ⟨pos, m, rfl, rfl, hm1, hm2, hps, hbw, HK⟩ := hrel
    by_cases h0 : m ≤ 0
    · go_wp2
      go_ret
      have h1 := HK.out
      rw [Nam.upto_zero m h0, Nat.add_zero] at h1
      have := (HC pos h1.symm).out
      exact ⟨by rw [this]; rfl, hbw⟩
    · have h0' : 0 < m := by omega
      by_cases hp : pos < s.size
      · have hT2 := Utf8Tabs_below hT hbw
        have hwd := Lib.width_pos s pos
        have hle := Nam.pos_le s pos hp
        have hc := Tryd.utf8_DecodeRuneInString (s.extract pos s.size) wr hT2
        rw [Nam.decode_tail s pos hp] at hc
        have hu := Nam.upto_pos s pos hp m h0'
        have hv := HK.out
        rw [hu] at hv
        have HU := Lib.hid hv
        clear hu hv
        generalize (Utf8.decode s pos).1 = r at hc
        generalize (Utf8.decode s pos).2 = d at hc HU hwd hle
        go_wp2_with (go_at_call 23; go_fit hc; rintro e w' ⟨rfl, hb⟩)
        go_roundw
        case rel =>
          exact ⟨pos + d, m - 1, rfl, by go_num, by omega, by omega, hle, hbw.trans (hb.mono (by have := hbw.size; omega)), Lib.hid (by have := HU.out; omega)⟩
        case measure => simp [RowKit.intOf]; omega
      · go_wp2
        go_ret
        have h1 := HK.out
        rw [Nam.drop_end s pos hp, Nam.upto_end, Nat.add_zero] at h1
        have := (HC pos h1.symm).out
        exact ⟨by rw [this]; rfl, hbw⟩
end Go.Proofs
set_option linter.unusedSimpArgs false
namespace Go.Proofs
open Go.Shelf Go.RowKit Go.Lib Go.Nam

def Nam.strLen : Value → Nat
  | .string s => s.size
  | _ => 0
theorem Nam.ext_pos (x : ByteArray) (k : Nat) : (x.extract k x.size).data.toList = x.data.toList.drop k := Lib.ext_list x k
theorem Nam.decode_whole (x : ByteArray) (h : x.size ≠ 0) : decodeGo x = decodeL x.data.toList := by
  unfold decodeGo; rw [if_neg h, ← Nam.decode_pos, List.drop_zero]
theorem Nam.ne_nil (x : ByteArray) (h : x.size ≠ 0) : x.data.toList ≠ [] := by
  intro e; rw [Lib.size_eq, e] at h; exact h rfl
theorem Nam.is_nil (x : ByteArray) (h : x.size = 0) : x.data.toList = [] := List.length_eq_zero_iff.1 (by rw [← Lib.size_eq]; exact h)
theorem Nam.isEmpty_of (x : ByteArray) (h : x.size = 0) : x.toList.isEmpty = true := by
  rw [Lib.toList_data, Nam.is_nil x h]; rfl
theorem Nam.isEmpty_not (x : ByteArray) (h : x.size ≠ 0) : x.toList.isEmpty = false := by
  rw [Lib.toList_data]
  cases hh : x.data.toList with
  | nil => exact absurd hh (Nam.ne_nil x h)
  | cons _ _ => rfl

theorem Nam.cmp (p q c : Int) (h : Lib.compareInt (min p 1) (min q 1) = c) (w : World) :
    Calls Tryd.prog 25 #[.int .i64 (min p 1), .int .i64 (min q 1)] w fun e w' => e = .returned (.int .i64 c) ∧ w = w' := by
  subst h
  exact (Tryd.cmp_Compare_int _ _ w).mono fun _ _ ⟨h1, h2⟩ => ⟨h1, h2.symm⟩

set_option maxHeartbeats 2000000 in
set_option maxRecDepth 100000 in
theorem Nam.Less (a b : ByteArray) (w : World) (hsa : a.size ≤ 140737488351232) (hsb : b.size ≤ 140737488351232) (hT : Utf8Tabs 0 1 w) :
    Calls Tryd.prog 20 #[.string a, .string b] w fun e w' => e = .returned (.bool (less a.data.toList b.data.toList)) ∧ Below w.heap.size w w' := by
  unfold less
  obtain ⟨D, hD⟩ : ∃ D, decide (compareBytes a.data.toList b.data.toList < 0) = D := ⟨_, rfl⟩
  rw [hD]
  have HD := Lib.hid hD
  clear hD
  obtain ⟨V, hV⟩ : ∃ V, lessL D a.data.toList b.data.toList = V := ⟨_, rfl⟩
  rw [hV]
  have HV := Lib.hid hV
  clear hV
  go_enter Tryd.func20, Tryd.ntmps20
  go_wp2
  go_loopw [5, 6] (fun u v wr => ∃ (x y : ByteArray), u = .string x ∧ v = .string y ∧ x.size ≤ 140737488351232 ∧ y.size ≤ 140737488351232 ∧ Below w.heap.size w wr ∧ Hid (lessL D x.data.toList y.data.toList = V)) (fun u _ _ => Nam.strLen u)
  case atStart => exact ⟨a, b, rfl, rfl, hsa, hsb, Below.refl _ w, HV⟩
  case round =>
    obtain ⟨x, y, rfl, rfl, hx, hy, hbw, HK⟩ := hrel
    by_cases hx0 : x.size = 0
    · have he := Nam.isEmpty_of x hx0
      have hempty := Nam.is_nil x hx0
      by_cases hy0 : y.size = 0
      · have hf := Nam.isEmpty_of y hy0
        have hcm := Nam.cmp 0 0 0 (by decide) wr
        have hst := Tryd.strings_Compare a b wr
        have hk := HK.out
        rw [hempty, Nam.is_nil y hy0] at hk
        have HK2 := Lib.hid hk
        clear hk hempty
        go_wp2_with (first | (go_at_call 25; go_fit hcm; rintro e w2 ⟨rfl, rfl⟩) | (go_at_call 26; go_fit hst; rintro e w2 ⟨rfl, rfl⟩))
        go_ret
        refine ⟨Nam.retB ?_, hbw⟩
        rw [← HK2.out, ← HD.out]
        rfl
      · have hf := Nam.isEmpty_not y hy0
        have hcm := Nam.cmp 0 (y.size : Int) (-1) (by unfold Lib.compareInt; rw [if_pos (by omega)]) wr
        have hk := HK.out
        rw [hempty] at hk
        have hk2 : lessL D [] y.data.toList = true := by
          unfold lessL
          rw [runes_step _ (Nam.ne_nil y hy0)]
          rfl
        rw [hk2] at hk
        have HK2 := Lib.hid hk
        clear hk hk2 hempty
        go_wp2_with (go_at_call 25; go_fit hcm; rintro e w2 ⟨rfl, rfl⟩)
        go_ret
        exact ⟨Nam.retB (by rw [← HK2.out]), hbw⟩
    · have he := Nam.isEmpty_not x hx0
      by_cases hy0 : y.size = 0
      · have hf := Nam.isEmpty_of y hy0
        have hcm := Nam.cmp (x.size : Int) 0 1 (by unfold Lib.compareInt; rw [if_neg (by omega), if_pos (by omega)]) wr
        have hk := HK.out
        rw [Nam.is_nil y hy0] at hk
        have hk2 : lessL D x.data.toList [] = false := by
          unfold lessL
          rw [runes_step _ (Nam.ne_nil x hx0)]
          rfl
        rw [hk2] at hk
        have HK2 := Lib.hid hk
        clear hk hk2
        go_wp2_with (go_at_call 25; go_fit hcm; rintro e w2 ⟨rfl, rfl⟩)
        go_ret
        exact ⟨Nam.retB (by rw [← HK2.out]), hbw⟩
      · have hf := Nam.isEmpty_not y hy0
        have hT2 := Utf8Tabs_below hT hbw
        have hc := Tryd.utf8_DecodeRuneInString x wr hT2
        have hlex := decodeL_le _ (Nam.ne_nil x hx0)
        have hley := decodeL_le _ (Nam.ne_nil y hy0)
        rw [← Lib.size_eq] at hlex hley
        have hwx := decodeL_width x.data.toList
        have hwy := decodeL_width y.data.toList
        have hst := lessL_step D _ _ (Nam.ne_nil x hx0) (Nam.ne_nil y hy0)
        rw [← Nam.ext_pos, ← Nam.ext_pos, HK.out] at hst
        rw [Nam.decode_whole x hx0] at hc
        have hc2 : ∀ w2, Utf8Tabs 0 1 w2 → _ := fun w2 h => Tryd.utf8_DecodeRuneInString y w2 h
        rw [Nam.decode_whole y hy0] at hc2
        generalize (decodeL x.data.toList).1 = r at hc hst
        generalize (decodeL x.data.toList).2 = n at hc hst hlex hwx
        generalize (decodeL y.data.toList).1 = q at hc2 hst
        generalize (decodeL y.data.toList).2 = k at hc2 hst hley hwy
        have HST := Lib.hid hst
        clear hst
        have hnx : (n : Int) ≤ (x.size : Int) := by omega
        have hky : (k : Int) ≤ (y.size : Int) := by omega
        go_wp2_with (go_at_call 23; first | (go_fit hc; rintro e w2 ⟨rfl, hb⟩; have hT3 := Utf8Tabs_below hT2 hb) | (go_fit (hc2 _ hT3); rintro e w3 ⟨rfl, hb3⟩))
        · go_ret
          have hne : ¬ (r : Int) = (q : Int) := by
            have h : ((r : Int) != (q : Int)) = true := by assumption
            simpa using h
          refine ⟨Nam.retB ?_, hbw.trans ((hb.mono (by have := hbw.size; omega)).trans (hb3.mono (by have := hbw.size; have := hb.size; omega)))⟩
          rw [HST.out, if_neg (by omega), decide_eq_decide]
        · have heq : (r : Int) = (q : Int) := by
            have h : ((r : Int) != (q : Int)) = false := by assumption
            simpa using h
          have hrel2 : Hid (lessL D (x.extract n x.size).data.toList (y.extract k y.size).data.toList = V) := by
            have := HST.out
            rw [if_pos (by omega)] at this
            exact Lib.hid this.symm
          have hbz : Below w.heap.size w w3 := hbw.trans ((hb.mono (by have := hbw.size; omega)).trans (hb3.mono (by have := hbw.size; have := hb.size; omega)))
          clear heq
          go_quiet (fail)
          go_wp2
          go_roundw
          case rel => exact ⟨_, _, rfl, rfl, by rw [Lib.ext_size]; omega, by rw [Lib.ext_size]; omega, ⟨hbz.os, hbz.tape, hbz.output, hbz.size, hbz.block⟩, hrel2⟩
          case measure =>
            show (x.extract n x.size).size < x.size
            rw [Lib.ext_size]; omega
theorem Nam.less_lists : ∀ a b : List UInt8, Op.bytesLess a b = decide (compareBytes a b < 0)
  | [], [] => rfl
  | [], _ :: _ => rfl
  | _ :: _, [] => rfl
  | x :: a, y :: b => by
    have ih := Nam.less_lists a b
    have e0 : Op.bytesLess (x :: a) (y :: b) = (decide (x < y) || (x == y && Op.bytesLess a b)) := rfl
    rw [e0]
    by_cases h1 : x < y
    · have e : compareBytes (x :: a) (y :: b) = -1 := by simp [compareBytes, h1]
      rw [e]; simp [h1]
    · by_cases h2 : y < x
      · have hne : ¬ x = y := fun e => h1 (e ▸ h2)
        have e : compareBytes (x :: a) (y :: b) = 1 := by simp [compareBytes, h1, h2]
        rw [e]; simp [h1, hne]
      · have he : x = y := by
          apply UInt8.toNat.inj
          rw [UInt8.lt_iff_toNat_lt] at h1 h2
          omega
        have e : compareBytes (x :: a) (y :: b) = compareBytes a b := by simp [compareBytes, h1, h2]
        rw [e]
        subst he
        simp [ih]
theorem Nam.less_bytes (a b : ByteArray) : Op.bytesLess a.toList b.toList = decide (compareBytes a.data.toList b.data.toList < 0) := by
  rw [Lib.toList_data, Lib.toList_data]; exact Nam.less_lists _ _
set_option maxHeartbeats 2000000 in
set_option maxRecDepth 100000 in
theorem Nam.LessR (a b : ByteArray) (w : World) (hsa : a.size ≤ 140737488351232) (hsb : b.size ≤ 140737488351232) (hT : Utf8Tabs 0 1 w) :
    Calls Tryd.prog 21 #[.string a, .string b] w fun e w' => e = .returned (.bool (less a.data.toList b.data.toList)) ∧ Below w.heap.size w w' := by
  unfold less
  obtain ⟨D, hD⟩ : ∃ D, decide (compareBytes a.data.toList b.data.toList < 0) = D := ⟨_, rfl⟩
  rw [hD]
  have HD := Lib.hid hD
  clear hD
  obtain ⟨V, hV⟩ : ∃ V, lessL D a.data.toList b.data.toList = V := ⟨_, rfl⟩
  rw [hV]
  have HV := Lib.hid hV
  clear hV
  go_enter Tryd.func21, Tryd.ntmps21
  go_wp2
  go_loopw [5, 6] (fun u v wr => ∃ (x y : ByteArray), u = .string x ∧ v = .string y ∧ x.size ≤ 140737488351232 ∧ y.size ≤ 140737488351232 ∧ Below w.heap.size w wr ∧ Hid (lessL D x.data.toList y.data.toList = V)) (fun u _ _ => Nam.strLen u)
  case atStart => exact ⟨a, b, rfl, rfl, hsa, hsb, Below.refl _ w, HV⟩
  case round =>
    obtain ⟨x, y, rfl, rfl, hx, hy, hbw, HK⟩ := hrel
    by_cases hx0 : x.size = 0
    · have he := Nam.isEmpty_of x hx0
      have hempty := Nam.is_nil x hx0
      by_cases hy0 : y.size = 0
      · have hf := Nam.isEmpty_of y hy0
        have hk := HK.out
        rw [hempty, Nam.is_nil y hy0] at hk
        have HK2 := Lib.hid hk
        clear hk hempty
        go_wp2
        go_ret
        refine ⟨Nam.retB ?_, hbw⟩
        rw [← HK2.out, ← HD.out]
        exact Nam.less_bytes a b
      · have hf := Nam.isEmpty_not y hy0
        have hk := HK.out
        rw [hempty] at hk
        have hk2 : lessL D [] y.data.toList = true := by
          unfold lessL
          rw [runes_step _ (Nam.ne_nil y hy0)]
          rfl
        rw [hk2] at hk
        have HK2 := Lib.hid hk
        clear hk hk2 hempty
        go_wp2
        go_ret
        exact ⟨Nam.retB (by rw [← HK2.out]), hbw⟩
    · have he := Nam.isEmpty_not x hx0
      by_cases hy0 : y.size = 0
      · have hf := Nam.isEmpty_of y hy0
        have hk := HK.out
        rw [Nam.is_nil y hy0] at hk
        have hk2 : lessL D x.data.toList [] = false := by
          unfold lessL
          rw [runes_step _ (Nam.ne_nil x hx0)]
          rfl
        rw [hk2] at hk
        have HK2 := Lib.hid hk
        clear hk hk2
        go_wp2
        go_ret
        exact ⟨Nam.retB (by rw [← HK2.out]), hbw⟩
      · have hf := Nam.isEmpty_not y hy0
        have hT2 := Utf8Tabs_below hT hbw
        have hc := Tryd.utf8_DecodeRuneInString x wr hT2
        have hlex := decodeL_le _ (Nam.ne_nil x hx0)
        have hley := decodeL_le _ (Nam.ne_nil y hy0)
        rw [← Lib.size_eq] at hlex hley
        have hwx := decodeL_width x.data.toList
        have hwy := decodeL_width y.data.toList
        have hst := lessL_step D _ _ (Nam.ne_nil x hx0) (Nam.ne_nil y hy0)
        rw [← Nam.ext_pos, ← Nam.ext_pos, HK.out] at hst
        rw [Nam.decode_whole x hx0] at hc
        have hc2 : ∀ w2, Utf8Tabs 0 1 w2 → _ := fun w2 h => Tryd.utf8_DecodeRuneInString y w2 h
        rw [Nam.decode_whole y hy0] at hc2
        generalize (decodeL x.data.toList).1 = r at hc hst
        generalize (decodeL x.data.toList).2 = n at hc hst hlex hwx
        generalize (decodeL y.data.toList).1 = q at hc2 hst
        generalize (decodeL y.data.toList).2 = k at hc2 hst hley hwy
        have HST := Lib.hid hst
        clear hst
        have hnx : (n : Int) ≤ (x.size : Int) := by omega
        have hky : (k : Int) ≤ (y.size : Int) := by omega
        go_wp2_with (go_at_call 23; first | (go_fit hc; rintro e w2 ⟨rfl, hb⟩; have hT3 := Utf8Tabs_below hT2 hb) | (go_fit (hc2 _ hT3); rintro e w3 ⟨rfl, hb3⟩))
        · go_ret
          have hne : ¬ (r : Int) = (q : Int) := by
            have h : ((r : Int) != (q : Int)) = true := by assumption
            simpa using h
          refine ⟨Nam.retB ?_, hbw.trans ((hb.mono (by have := hbw.size; omega)).trans (hb3.mono (by have := hbw.size; have := hb.size; omega)))⟩
          rw [HST.out, if_neg (by omega), decide_eq_decide]
        · have heq : (r : Int) = (q : Int) := by
            have h : ((r : Int) != (q : Int)) = false := by assumption
            simpa using h
          have hrel2 : Hid (lessL D (x.extract n x.size).data.toList (y.extract k y.size).data.toList = V) := by
            have := HST.out
            rw [if_pos (by omega)] at this
            exact Lib.hid this.symm
          have hbz : Below w.heap.size w w3 := hbw.trans ((hb.mono (by have := hbw.size; omega)).trans (hb3.mono (by have := hbw.size; have := hb.size; omega)))
          clear heq
          go_quiet (fail)
          go_wp2
          go_roundw
          case rel => exact ⟨_, _, rfl, rfl, by rw [Lib.ext_size]; omega, by rw [Lib.ext_size]; omega, ⟨hbz.os, hbz.tape, hbz.output, hbz.size, hbz.block⟩, hrel2⟩
          case measure =>
            show (x.extract n x.size).size < x.size
            rw [Lib.ext_size]; omega
end Go.Proofs
