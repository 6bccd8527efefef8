/- The rest by the order, bit by bit: plain. The rest by the order: the walks. A whole array stored. The rest by the order: the walk of Scalar. The sum by the order: the walk of ScalarAdd. The sum by the order, as the engine's entry. A number's point and another's make that of their sum. -/
import Derived.Test.YtibldmjnddppaaaPfdX1
import Derived.Test.YtibldmjnddppaaaProg
import Derived.WalkKit
import Derived.Below
import Derived.RowKit3
import Derived.Lib.Walk
import Derived.Lib.Hide
import Derived.Laws.BitsLemmas
import Derived.Laws.BitsAllLaws
import Derived.Laws.Rows
import Derived.Deep.DeepFit
import Derived.Outline
import Derived.RegionTactic
import Derived.Deep.QuietTactic
import Derived.BigQuiet
import Derived.WalkLawsBesides
import Derived.WalkSpells
import Derived.Laws.IdiomCopy
import Derived.Test.YtibldmjnddppaaaPntX6
namespace Go.Fld
open Go Go.Sim

def byteL (l : List Int) : Prop := ∀ y ∈ l, 0 ≤ y ∧ y < 256
theorem byteL.app {a b : List Int} (ha : byteL a) (hb : byteL b) : byteL (a ++ b) := fun y hy => (List.mem_append.1 hy).elim (ha y) (hb y)
theorem byteL.take {a : List Int} (h : byteL a) (k : Nat) : byteL (a.take k) := fun y hy => h y (List.mem_of_mem_take hy)
theorem byteL.drop {a : List Int} (h : byteL a) (k : Nat) : byteL (a.drop k) := fun y hy => h y (List.mem_of_mem_drop hy)
theorem valD_app (b : Int) : ∀ (a c : List Int), valD b (a ++ c) = valD b a + b ^ a.length * valD b c
  | [], c => by simp [valD]
  | x :: a, c => by
    simp only [List.cons_append, valD, valD_app b a c, List.length_cons]
    rw [Int.pow_succ', Int.mul_add, Int.mul_assoc]; omega
theorem valD_lt8 : ∀ (l : List Int), byteL l → valD 256 l < 256 ^ l.length
  | [], _ => by simp [valD]
  | a :: l, h => by
    have ha := h a (by simp)
    have := valD_lt8 l fun y hy => h y (by simp [hy])
    simp only [valD, List.length_cons]
    rw [Int.pow_succ']
    omega

/-- twice, and a bit -/
def shl : Int → List Int → List Int × Int
  | c, [] => ([], c)
  | c, x :: r => ((2 * x % 256 + c) :: (shl (x / 128) r).1, (shl (x / 128) r).2)
theorem shl_val : ∀ (c : Int) (l : List Int), byteL l → valD 256 (shl c l).1 + 256 ^ l.length * (shl c l).2 = 2 * valD 256 l + c
  | c, [], _ => by simp [shl, valD]
  | c, x :: r, h => by
    have hx := h x (by simp)
    have ih := shl_val (x / 128) r fun y hy => h y (by simp [hy])
    simp only [shl, valD, List.length_cons]
    rw [Int.pow_succ', Int.mul_assoc]
    omega
theorem shl_app : ∀ (c : Int) (a : List Int) (x : Int), shl c (a ++ [x]) = ((shl c a).1 ++ [2 * x % 256 + (shl c a).2], x / 128)
  | c, [], x => rfl
  | c, y :: a, x => by simp [shl, shl_app (y / 128) a x]
theorem shl_len : ∀ (c : Int) (l : List Int), (shl c l).1.length = l.length
  | c, [] => rfl
  | c, x :: r => by simp [shl, shl_len]
theorem shl_in : ∀ (c : Int) (l : List Int), byteL l → 0 ≤ c → c ≤ 1 → byteL (shl c l).1 ∧ 0 ≤ (shl c l).2 ∧ (shl c l).2 ≤ 1
  | c, [], _, h0, h1 => ⟨fun y hy => by simp [shl] at hy, h0, h1⟩
  | c, x :: r, h, h0, h1 => by
    have hx := h x (by simp)
    obtain ⟨i1, i2, i3⟩ := shl_in (x / 128) r (fun y hy => h y (by simp [hy])) (by omega) (by omega)
    refine ⟨fun y hy => ?_, i2, i3⟩
    simp only [shl, List.mem_cons] at hy
    rcases hy with rfl | hy
    · omega
    · exact i1 y hy

/-- less another number -/
def sbl : Int → List Int → List Int → List Int × Int
  | o, x :: a, y :: b => if x - y - o < 0 then ((x - y - o + 256) :: (sbl 1 a b).1, (sbl 1 a b).2) else ((x - y - o) :: (sbl 0 a b).1, (sbl 0 a b).2)
  | o, _, _ => ([], o)
theorem sbl_val : ∀ (o : Int) (a b : List Int), a.length = b.length → valD 256 (sbl o a b).1 - 256 ^ a.length * (sbl o a b).2 = valD 256 a - valD 256 b - o
  | o, [], [], _ => by simp [sbl, valD]
  | o, [], _ :: _, h => by simp at h
  | o, _ :: _, [], h => by simp at h
  | o, x :: a, y :: b, h => by
    have i0 := sbl_val 0 a b (by simpa using h)
    have i1 := sbl_val 1 a b (by simpa using h)
    simp only [sbl, List.length_cons]
    rw [Int.pow_succ', Int.mul_assoc]
    split <;> simp only [valD] <;> omega
theorem sbl_app : ∀ (o : Int) (a b : List Int) (x y : Int), a.length = b.length → sbl o (a ++ [x]) (b ++ [y]) = ((sbl o a b).1 ++ [if x - y - (sbl o a b).2 < 0 then x - y - (sbl o a b).2 + 256 else x - y - (sbl o a b).2], if x - y - (sbl o a b).2 < 0 then 1 else 0)
  | o, [], [], x, y, _ => by
    by_cases h : x - y - o < 0
    · simp [sbl, h]
    · simp [sbl, h]
  | o, [], _ :: _, x, y, h => by simp at h
  | o, _ :: _, [], x, y, h => by simp at h
  | o, u :: a, v :: b, x, y, h => by
    have h' : a.length = b.length := by simpa using h
    simp only [List.cons_append, sbl]
    split
    · rw [sbl_app 1 a b x y h']; rfl
    · rw [sbl_app 0 a b x y h']; rfl
theorem sbl_len : ∀ (o : Int) (a b : List Int), a.length = b.length → (sbl o a b).1.length = a.length
  | o, [], [], _ => rfl
  | o, [], _ :: _, h => by simp at h
  | o, _ :: _, [], h => by simp at h
  | o, x :: a, y :: b, h => by
    simp only [sbl]
    split <;> simp [sbl_len _ a b (by simpa using h)]
theorem sbl_in : ∀ (o : Int) (a b : List Int), a.length = b.length → byteL a → byteL b → 0 ≤ o → o ≤ 1 → byteL (sbl o a b).1 ∧ 0 ≤ (sbl o a b).2 ∧ (sbl o a b).2 ≤ 1
  | o, [], [], _, _, _, h0, h1 => ⟨fun y hy => by simp [sbl] at hy, h0, h1⟩
  | o, [], _ :: _, h, _, _, _, _ => by simp at h
  | o, _ :: _, [], h, _, _, _, _ => by simp at h
  | o, x :: a, y :: b, h, ha, hb, h0, h1 => by
    have hx := ha x (by simp)
    have hy := hb y (by simp)
    have i0 := sbl_in 0 a b (by simpa using h) (fun z hz => ha z (by simp [hz])) (fun z hz => hb z (by simp [hz])) (by omega) (by omega)
    have i1 := sbl_in 1 a b (by simpa using h) (fun z hz => ha z (by simp [hz])) (fun z hz => hb z (by simp [hz])) (by omega) (by omega)
    simp only [sbl]
    split
    · refine ⟨fun z hz => ?_, i1.2⟩
      simp only [List.mem_cons] at hz
      rcases hz with rfl | hz
      · omega
      · exact i1.1 z hz
    · refine ⟨fun z hz => ?_, i0.2⟩
      simp only [List.mem_cons] at hz
      rcases hz with rfl | hz
      · omega
      · exact i0.1 z hz

/-- The highest digits decide. -/
theorem lt_top (a b u : List Int) (x y : Int) (h : a.length = b.length) (ha : byteL a) (hb : byteL b) : (x < y → valD 256 (a ++ x :: u) < valD 256 (b ++ y :: u)) ∧ (y < x → valD 256 (b ++ y :: u) < valD 256 (a ++ x :: u)) := by
  have h1 := valD_lt8 a ha
  have h2 := valD_lt8 b hb
  have h3 := valD_nonneg (show (0 : Int) < 256 by decide) a ha
  have h4 := valD_nonneg (show (0 : Int) < 256 by decide) b hb
  have hp : (0 : Int) < 256 ^ a.length := Int.pow_pos (by decide)
  rw [valD_app, valD_app, ← h] at *
  simp only [valD]
  rw [Int.mul_add, Int.mul_add]
  generalize (256 : Int) ^ a.length = p at *
  constructor
  · intro hxy
    have := Int.mul_le_mul_of_nonneg_left (show x + 1 ≤ y by omega) (Int.le_of_lt hp)
    rw [Int.mul_add] at this
    omega
  · intro hxy
    have := Int.mul_le_mul_of_nonneg_left (show y + 1 ≤ x by omega) (Int.le_of_lt hp)
    rw [Int.mul_add] at this
    omega

/-- A bit of a number. -/
theorem bit_at (l : List Int) (h : byteL l) (i : Nat) (hi : i / 8 < l.length) : valD 256 l / 2 ^ i % 2 = l.getD (i / 8) 0 / 2 ^ (i % 8) % 2 := by
  have e : l = l.take (i / 8) ++ (l[i / 8] :: l.drop (i / 8 + 1)) := by
    rw [← List.drop_eq_getElem_cons hi, List.take_append_drop]
  have hg : l.getD (i / 8) 0 = l[i / 8] := by simp [List.getD, hi]
  rw [hg]
  have hx := h l[i / 8] (List.getElem_mem _)
  have h1 := valD_lt8 (l.take (i / 8)) (h.take _)
  have h3 := valD_nonneg (show (0 : Int) < 256 by decide) (l.take (i / 8)) (h.take _)
  have hl : (l.take (i / 8)).length = i / 8 := by rw [List.length_take]; omega
  have hv : valD 256 l = valD 256 (l.take (i / 8)) + 256 ^ (i / 8) * (l[i / 8] + 256 * valD 256 (l.drop (i / 8 + 1))) := by
    have := valD_app 256 (l.take (i / 8)) (l[i / 8] :: l.drop (i / 8 + 1))
    rw [← e, hl] at this
    exact this
  rw [hl] at h1
  generalize valD 256 (l.take (i / 8)) = lo at *
  generalize valD 256 (l.drop (i / 8 + 1)) = hi' at *
  generalize l[i / 8] = x at *
  have hp : (0 : Int) < 256 ^ (i / 8) := Int.pow_pos (by decide)
  have e2 : (2 : Int) ^ i = 256 ^ (i / 8) * 2 ^ (i % 8) := by
    have : (256 : Int) = 2 ^ 8 := by decide
    rw [this, ← Int.pow_mul, ← Int.pow_add]
    congr 1; omega
  rw [hv, e2, ← Int.ediv_ediv_of_nonneg (Int.le_of_lt hp), Int.add_mul_ediv_left _ _ (by omega), Int.ediv_eq_zero_of_lt h3 h1, Int.zero_add]
  have h8 : i % 8 < 8 := by omega
  generalize i % 8 = j at *
  have : j = 0 ∨ j = 1 ∨ j = 2 ∨ j = 3 ∨ j = 4 ∨ j = 5 ∨ j = 6 ∨ j = 7 := by omega
  rcases this with rfl | rfl | rfl | rfl | rfl | rfl | rfl | rfl <;> omega

/-- the order -/
def LLn : Int := 7237005577332262213973186563042994240857116359379907606001950938285454250989
/-- The rest of a number, a bit more each time. -/
theorem rest_step (V : Int) (i : Nat) (c r : Int) (hc : V / 2 ^ i % 2 = c) (hr : r = V / 2 ^ (i + 1) % LLn) : (if 2 * r + c < LLn then 2 * r + c else 2 * r + c - LLn) = V / 2 ^ i % LLn := by
  have e : V / 2 ^ (i + 1) = V / 2 ^ i / 2 := by
    rw [Int.pow_succ, Int.ediv_ediv_of_nonneg (Int.le_of_lt (Int.pow_pos (by decide)))]
  rw [e] at hr
  generalize V / 2 ^ i = X at *
  unfold LLn at *
  have h1 : (2 * r + c) % 7237005577332262213973186563042994240857116359379907606001950938285454250989 = X % 7237005577332262213973186563042994240857116359379907606001950938285454250989 := by omega
  have : 0 ≤ r ∧ r < 7237005577332262213973186563042994240857116359379907606001950938285454250989 := by omega
  have : 0 ≤ c ∧ c ≤ 1 := by omega
  split <;> omega
end Go.Fld
set_option linter.unusedSimpArgs false
namespace Go.Proofs.Sc
open Go Go.RowKit Go.Fld

/-- Bytes as cells. -/
def ar (l : List Int) : Array Value := (l.map (Value.int .u8)).toArray
theorem ar_size (l : List Int) : (ar l).size = l.length := by simp [ar]
theorem ar_get (l : List Int) (k : Nat) : (ar l)[k]? = (l[k]?).map (Value.int .u8) := by simp [ar]
/-- Of what was there nothing has turned, nor what may be written. -/
def G (w w' : World) : Prop := Below w.heap.size w w' ∧ ∀ a, w'.frozen? a = w.frozen? a
theorem G.refl (w : World) : G w w := ⟨Below.refl _ _, fun _ => rfl⟩
theorem G.trans {a b c : World} (h : G a b) (k : G b c) : G a c := ⟨h.1.trans (k.1.mono h.1.size), fun x => (k.2 x).trans (h.2 x)⟩
theorem frozen_alloc (w : World) (c : Array Value) (t : TypeId) (a : Addr) : (w.alloc (.cells c t)).frozen? a = w.frozen? a := (Grown.alloc (Grown.refl w) c t).2.1 a
theorem G.alloc {a w : World} (h : G a w) (c : Array Value) (t : TypeId) : G a (w.alloc (.cells c t)) :=
  ⟨h.1.alloc h.1.size _, fun x => (frozen_alloc w c t x).trans (h.2 x)⟩
theorem G.setCell {a w : World} (h : G a w) {p : Addr} (hp : a.heap.size ≤ p.block) (v : Value) : G a (w.setCell p v) :=
  ⟨h.1.setCell hp v, fun x => (World.frozen?_setCell _ _ _ _).trans (h.2 x)⟩
theorem G.drewN {a w : World} (h : G a w) (n : Nat) : G a (w.drewN n) := ⟨⟨h.1.os, h.1.tape, h.1.output, h.1.size, h.1.block⟩, h.2⟩
theorem G.drew {a w : World} (h : G a w) : G a w.drew := ⟨⟨h.1.os, h.1.tape, h.1.output, h.1.size, h.1.block⟩, h.2⟩

/-- A block of its own that holds these bytes. -/
def Blk (w : World) (B : Nat) (t : TypeId) (l : List Int) : Prop := w.heap[B]? = some (.cells (ar l) t (0, 0))
theorem Blk.cell {w : World} {B : Nat} {t : TypeId} {l : List Int} (h : Blk w B t l) (k : Nat) (hk : k < l.length) : w.cell? ⟨B, k, none⟩ = some (.int .u8 (l.getD k 0)) := by
  unfold Blk at h
  simp only [World.cell?, h]
  simp [ar_get, List.getD, hk]
theorem Blk.free {w : World} {B : Nat} {t : TypeId} {l : List Int} (h : Blk w B t l) (k : Nat) : w.frozen? ⟨B, k, none⟩ = false := by
  unfold Blk at h
  simp [World.frozen?, h]
theorem Blk.set {w : World} {B : Nat} {t : TypeId} {l : List Int} (h : Blk w B t l) (k : Nat) (z : Int) : Blk (w.setCell ⟨B, k, none⟩ (.int .u8 z)) B t (l.set k z) := by
  unfold Blk at h ⊢
  simp only [World.setCell, Array.getElem?_modify, if_pos]
  rw [h]
  simp [ar, List.map_set]
theorem Blk.other {w : World} {B : Nat} {t : TypeId} {l : List Int} (h : Blk w B t l) {p : Addr} (hp : p.block ≠ B) (v : Value) : Blk (w.setCell p v) B t l := by
  unfold Blk at h ⊢
  rw [Below.heap_setCell _ _ _ _ (fun e => hp e.symm)]; exact h
theorem Blk.new (w : World) (t : TypeId) (l : List Int) : Blk (w.alloc (.cells (ar l) t)) w.heap.size t l := heap_alloc_new w _
theorem Blk.lt {w : World} {B : Nat} {t : TypeId} {l : List Int} (h : Blk w B t l) : B < w.heap.size := (Array.getElem?_eq_some_iff.1 h).1
theorem Blk.keep {w w' : World} {B : Nat} {t : TypeId} {l : List Int} (h : Blk w B t l) (k : Below w.heap.size w w') : Blk w' B t l := (k.block B h.lt).trans h
theorem Blk.drewN {w : World} {B : Nat} {t : TypeId} {l : List Int} (h : Blk w B t l) (n : Nat) : Blk (w.drewN n) B t l := h
theorem Blk.alloc {w : World} {B : Nat} {t : TypeId} {l : List Int} (h : Blk w B t l) (o : Obj) : Blk (w.alloc o) B t l := (Below.heap_alloc w o B h.lt).trans h

theorem retB {a b : Bool} (h : a = b) : Ending.returned (.bool a) = .returned (.bool b) := by rw [h]
/-! ### below -/
theorem drop_top (l : List Int) (j : Nat) (h : j < l.length) : l = l.take j ++ l.getD j 0 :: l.drop (j + 1) := by
  have : l.getD j 0 = l[j] := by simp [List.getD, h]
  rw [this, ← List.drop_eq_getElem_cons h, List.take_append_drop]
theorem drop_at (l : List Int) (j : Nat) (h : j < l.length) : l.drop j = l.getD j 0 :: l.drop (j + 1) := by
  have : l.getD j 0 = l[j] := by simp [List.getD, h]
  rw [this, ← List.drop_eq_getElem_cons h]
theorem getD_in {l : List Int} (h : byteL l) (j : Nat) : 0 ≤ l.getD j 0 ∧ l.getD j 0 < 256 := by
  by_cases hj : j < l.length
  · rw [List.getD_eq_getElem?_getD, List.getElem?_eq_getElem hj]; exact h _ (List.getElem_mem _)
  · rw [List.getD_eq_getElem?_getD, List.getElem?_eq_none (by omega)]; simp

set_option maxHeartbeats 1000000 in
set_option maxRecDepth 100000 in
theorem below (a b : List Int) (ha : a.length = 32) (hb : b.length = 32) (ra : byteL a) (rb : byteL b) (w : World) :
    Calls Try.prog 59 #[.agg (ar a), .agg (ar b)] w fun e w' => e = .returned (.bool (decide (valD 256 a < valD 256 b))) ∧ G w w' := by
  obtain ⟨V, hV⟩ : ∃ V, decide (valD 256 a < valD 256 b) = V := ⟨_, rfl⟩
  rw [hV]
  have HV := Lib.hid hV
  clear hV
  have HA := Lib.hid ha
  have HB := Lib.hid hb
  have b1 : Blk (w.alloc (.cells (ar a) 22)) w.heap.size 22 a := Blk.new w 22 a
  have b2 : Blk ((w.alloc (.cells (ar a) 22)).alloc (.cells (ar b) 22)) (w.heap.size + 1) 22 b := by
    have h := Blk.new (w.alloc (.cells (ar a) 22)) 22 b
    simpa using h
  have b3 := b1.alloc (.cells (ar b) 22)
  have sa := ar_size a
  have sb := ar_size b
  rw [ha] at sa
  rw [hb] at sb
  clear ha hb b1
  go_enter Try.func59, Try.ntmps59
  go_wp2
  go_loopw [5] (fun i wr => ∃ z : Int, i = .int .i64 z ∧ -1 ≤ z ∧ z ≤ 31 ∧ Hid (a.drop (z + 1).toNat = b.drop (z + 1).toNat) ∧ Hid (Blk wr w.heap.size 22 a) ∧ Hid (Blk wr (w.heap.size + 1) 22 b) ∧ Hid (G w wr)) (fun i _ => ((RowKit.intOf i) + 1).toNat)
  case atStart => exact ⟨31, rfl, by omega, by omega, Lib.hid (by rw [List.drop_eq_nil_of_le (by rw [HA.out]; decide), List.drop_eq_nil_of_le (by rw [HB.out]; decide)]), Lib.hid b3, Lib.hid b2, Lib.hid (((G.refl w).alloc _ _).alloc _ _)⟩
  case round =>
    obtain ⟨z, rfl, hz0, hz1, HD, H1, H2, H3⟩ := hrel
    by_cases hz : z < 0
    · have hge : ¬ (0 : Int) ≤ z := by omega
      go_wp2
      go_ret
      refine ⟨?_, H3.out⟩
      have hd := HD.out
      rw [show (z + 1).toNat = 0 by omega, List.drop_zero, List.drop_zero] at hd
      rw [← HV.out, hd, decide_eq_false (by omega)]
      rfl
    · obtain ⟨j, rfl⟩ : ∃ j : Nat, z = (j : Int) := ⟨z.toNat, by omega⟩
      have hj : j < 32 := by omega
      have hc1 := H1.out.cell j (by rw [HA.out]; exact hj)
      have hc2 := H2.out.cell j (by rw [HB.out]; exact hj)
      have i1 := getD_in ra j
      have i2 := getD_in rb j
      have ea := drop_top a j (by rw [HA.out]; exact hj)
      have eb := drop_top b j (by rw [HB.out]; exact hj)
      have hd := HD.out
      rw [show ((j : Int) + 1).toNat = j + 1 by omega] at hd
      rw [hd] at ea
      have htop := lt_top (a.take j) (b.take j) (b.drop (j + 1)) (a.getD j 0) (b.getD j 0) (by rw [List.length_take, List.length_take, HA.out, HB.out]) (ra.take j) (rb.take j)
      rw [← ea, ← eb] at htop
      have HT := Lib.hid htop
      have HE : Hid (a.getD j 0 = b.getD j 0 → a.drop j = b.drop j) := Lib.hid fun h => by
        rw [drop_at a j (by rw [HA.out]; exact hj), drop_at b j (by rw [HB.out]; exact hj), hd, h]
      clear htop hd ea eb
      generalize a.getD j 0 = x at hc1 i1 HT HE
      generalize b.getD j 0 = y at hc2 i2 HT HE
      have hjz : (0 : Int) ≤ (j : Int) := by omega
      have hj32 : (j : Int) < 32 := by omega
      by_cases hxy : x = y
      · subst hxy
        go_wp2
        go_quiet (fail)
        go_wp2
        go_roundw
        case rel => exact ⟨(j : Int) - 1, rfl, by omega, by omega, Lib.hid (by rw [show ((j : Int) - 1 + 1).toNat = j by omega]; first | exact HE.out rfl | exact HE.out trivial), Lib.hid (H1.out.drewN _), Lib.hid (H2.out.drewN _), Lib.hid (H3.out.drewN _)⟩
        case measure => simp [RowKit.intOf]
      · go_wp2
        go_quiet (fail)
        go_wp2
        go_quiet (fail)
        go_wp2
        go_ret
        refine ⟨retB ?_, ?_⟩
        · rw [← HV.out, decide_eq_decide]
          have := HT.out
          constructor
          · exact this.1
          · intro hv
            by_cases hlt : x < y
            · exact hlt
            · exact absurd (this.2 (by omega)) (by omega)
        · simp only [World.drewN_drewN]
          exact H3.out.drewN _
end Go.Proofs.Sc
set_option linter.unusedSimpArgs false
namespace Go.Proofs.Sc
open Go Go.RowKit Go.Fld
variable {P : Program}

theorem run_storeVar_row (w : World) (B : Nat) (ty t : TypeId) (l old : List Int) (hB : Blk w B t old) (hl : l.length = old.length) (hi : (P.info? ty).map (·.size) = some l.length) :
    (storeVar ty ⟨B, 0, none⟩ (.agg (ar l))).run P w = .ok () (w.setCells B 0 (ar l).toList) := by
  have hs := run_storeCells_cells (P := P) B 0 (ar l).toList 0 w (fun j hj => by
      rw [Array.length_toList, ar_size] at hj
      rw [Nat.add_zero, Nat.zero_add, hB.cell j (by omega)]; rfl)
    (fun j hj => hB.free _) (fun v hv => by
      simp only [ar, List.toList_toArray, List.mem_map] at hv
      obtain ⟨z, _, rfl⟩ := hv
      rfl)
  cases hq : P.info? ty with
  | none => simp [hq] at hi
  | some i =>
    have hz : i.size = l.length := by simpa [hq] using hi
    have hc : (Value.agg (ar l)).cells.size = l.length := by simp [Value.cells, ar]
    have hc2 : (Value.agg (ar l)).cells = ar l := by simp [Value.cells]
    rw [Nat.add_zero] at hs
    simp [storeVar, Sem.run_bind, sizeOf, typeInfo, hq, hz, hc2, ar_size, hs, Sem.run_pure]
theorem wp_store_row {o : Oper} {a : Act} {w : World} {K : Act → World → Prop} {Q : Exit → Act → World → Prop} (ty : TypeId) (x v : Operand) (ho : o.op = .store ty x v)
    (B : Nat) (hx : a.eval x = .pointer (some ⟨B, 0, none⟩)) (t : TypeId) (l old : List Int) (hv : a.eval v = .agg (ar l)) (hB : Blk w B t old) (hl : l.length = old.length) (hi : (P.info? ty).map (·.size) = some l.length)
    (h : K (a.put o.dst undef) (w.setCells B 0 (ar l).toList)) : o.wp P a w K Q := by
  unfold Oper.wp execOp
  simp only [ho, hx, hv, Instr.storeAt, Instr.sureAddr, Sem.run_bind, Sem.run_pure, Result.andThen_ok, run_storeVar_row w B ty t l old hB hl hi]
  exact h
theorem setCells_heap (B : Nat) : ∀ (vs : List Value) (o : Nat) (w : World) (b : Nat), b ≠ B → (w.setCells B o vs).heap[b]? = w.heap[b]?
  | [], _, _, _, _ => rfl
  | v :: r, o, w, b, h => by
    rw [World.setCells, setCells_heap B r (o + 1) _ b h, Below.heap_setCell _ _ _ _ (by simpa using h)]
theorem setCells_size (B : Nat) : ∀ (vs : List Value) (o : Nat) (w : World), (w.setCells B o vs).heap.size = w.heap.size
  | [], _, _ => rfl
  | v :: r, o, w => by rw [World.setCells, setCells_size B r (o + 1)]; simp [World.setCell]
theorem setCells_G (B : Nat) {x : World} : ∀ (vs : List Value) (o : Nat) (w : World), x.heap.size ≤ B → G x w → G x (w.setCells B o vs)
  | [], _, _, _, h => h
  | v :: r, o, w, hb, h => by rw [World.setCells]; exact setCells_G B r (o + 1) _ hb (h.setCell (p := ⟨B, o, none⟩) hb v)
theorem setCells_blk (B : Nat) (t : TypeId) : ∀ (l pre old : List Int) (w : World), old.length = l.length → Blk w B t (pre ++ old) → Blk (w.setCells B pre.length (l.map (Value.int .u8))) B t (pre ++ l)
  | [], pre, old, w, hl, h => by
    have : old = [] := List.length_eq_zero_iff.1 (by simpa using hl)
    subst this; exact h
  | z :: l, pre, old, w, hl, h => by
    match old, hl with
    | y :: old, hl =>
      have h1 := h.set pre.length z
      rw [List.set_append_right _ _ (Nat.le_refl _), Nat.sub_self, List.set_cons_zero] at h1
      have h2 := setCells_blk B t l (pre ++ [z]) old (w.setCell ⟨B, pre.length, none⟩ (.int .u8 z)) (by simpa using hl) (by simpa using h1)
      rw [List.map_cons, World.setCells]
      simpa using h2
theorem wpList_store_row {ops : Array Oper} {rest : List Oper} {o : Oper} {a : Act} {w : World} {Q : Exit → Act → World → Prop} (hgd : o.guard = none) (ty : TypeId) (x v : Operand) (ho : o.op = .store ty x v)
    (B : Nat) (hx : a.eval x = .pointer (some ⟨B, 0, none⟩)) (t : TypeId) (l old : List Int) (hv : a.eval v = .agg (ar l)) (hB : Blk w B t old) (hl : l.length = old.length) (hi : (P.info? ty).map (·.size) = some l.length)
    (h : ∀ w', Blk w' B t l → w'.heap.size = w.heap.size → (∀ b, b ≠ B → w'.heap[b]? = w.heap[b]?) → (∀ x, x.heap.size ≤ B → G x w → G x w') → wpList P ops Q rest (a.put o.dst undef) w') : wpList P ops Q (o :: rest) a w := by
  refine wpList_plain hgd fun _ hK => wp_store_row ty x v ho B hx t l old hv hB hl hi (hK _ _ (h _ ?_ (setCells_size _ _ _ _) (setCells_heap B _ _ _) (fun x => setCells_G B _ _ _)))
  have := setCells_blk B t l [] old w hl.symm hB
  simpa [ar] using this
end Go.Proofs.Sc
set_option linter.unusedSimpArgs false
namespace Go.Proofs.Sc
open Go Go.RowKit Go.Fld

def LL32 : List Int := [237, 211, 245, 92, 26, 99, 18, 88, 214, 156, 247, 162, 222, 249, 222, 20, 0, 0, 0, 0, 0, 0, 0, 0, 0, 0, 0, 0, 0, 0, 0, 16]
theorem LL_len : LL32.length = 32 := rfl
theorem LL_in : byteL LL32 := by unfold byteL LL32; decide
theorem LL_val : valD 256 LL32 = LLn := by decide +kernel
set_option maxRecDepth 100000 in
theorem or_low : ∀ (q : Fin 128) (d : Fin 2), bits .or .u8 ((q.val : Int) * 2) (d.val : Int) = (q.val : Int) * 2 + (d.val : Int) := by decide +kernel
theorem or_bit (y d : Int) (_h0 : 0 ≤ y) (_h1 : y < 256) (d0 : 0 ≤ d) (d1 : d ≤ 1) : bits .or .u8 (y * 2 % 256) d = 2 * y % 256 + d := by
  obtain ⟨e, he⟩ : ∃ e : Nat, d = (e : Int) := ⟨d.toNat, by omega⟩
  obtain ⟨q, hq⟩ : ∃ q : Nat, y % 128 = (q : Int) := ⟨(y % 128).toNat, by omega⟩
  have := or_low ⟨q, by omega⟩ ⟨e, by omega⟩
  have e1 : y * 2 % 256 = (q : Int) * 2 := by omega
  rw [e1, he, this]
  show (q : Int) * 2 + (e : Int) = _
  omega
theorem take_at (l : List Int) (k : Nat) (h : k < l.length) : l.take (k + 1) = l.take k ++ [l.getD k 0] := by
  rw [List.take_succ_eq_append_getElem h]
  congr 2
  simp [List.getD, h]
theorem size22 : (Try.prog.info? 22).map (·.size) = some 32 := by kernel_rfl
set_option maxHeartbeats 1000000 in
set_option maxRecDepth 100000 in
theorem order (w : World) : Calls Try.prog 58 #[] w fun e w' => e = .returned (.agg (ar LL32)) ∧ G w w' := by
  have hz : Blk (w.alloc (.cells (ar (List.replicate 32 0)) 22)) w.heap.size 22 (List.replicate 32 0) := Blk.new w 22 _
  have hg : G w (w.alloc (.cells (ar (List.replicate 32 0)) 22)) := (G.refl w).alloc _ _
  go_enter Try.func58, Try.ntmps58
  go_wp2_with (refine wpList_store_row rfl 22 _ _ rfl w.heap.size rfl 22 LL32 (List.replicate 32 0) rfl hz rfl size22 ?_; intro w1 h1 h2 h3 h4)
  exact bodyPost_ret (v := .agg (ar LL32)) (results_cell_row rfl _ _ _ 22 _ (0, 0) _ rfl h1 Try.underlying22 rfl (by rw [ar_size]; exact size22)) rfl ⟨rfl, h4 w (Nat.le_refl _) hg⟩

set_option maxHeartbeats 4000000 in
set_option maxRecDepth 100000 in
theorem scalar (Bb off n cap : Nat) (b : List Int) (w : World) (hn : b.length = n) (hn2 : n ≤ 1099511627776) (rb : byteL b) (_hcap : n ≤ cap) (hB : Bb < w.heap.size) (hc : ∀ k, k < n → w.cell? ⟨Bb, off + k, none⟩ = some (.int .u8 (b.getD k 0))) :
    Calls Try.prog 35 #[.slice (some ⟨Bb, off, none⟩) n cap] w fun e w' => e = .returned (.agg (ar (digs 256 32 (valD 256 b % LLn)))) ∧ G w w' := by
  have HC := Lib.hid hc
  have HN := Lib.hid hn
  clear hc hn
  have ho := order
  have z0 : Blk (w.alloc (.cells (ar (List.replicate 32 0)) 22)) w.heap.size 22 (List.replicate 32 0) := Blk.new w 22 _
  have z1 : Blk ((w.alloc (.cells (ar (List.replicate 32 0)) 22)).alloc (.cells (ar (List.replicate 32 0)) 22)) (w.heap.size + 1) 22 (List.replicate 32 0) := by
    have h := Blk.new (w.alloc (.cells (ar (List.replicate 32 0)) 22)) 22 (List.replicate 32 0)
    simpa using h
  have z2 := z0.alloc (.cells (ar (List.replicate 32 0)) 22)
  have g1 : G w ((w.alloc (.cells (ar (List.replicate 32 0)) 22)).alloc (.cells (ar (List.replicate 32 0)) 22)) := ((G.refl w).alloc _ _).alloc _ _
  have hsz : ((w.alloc (.cells (ar (List.replicate 32 0)) 22)).alloc (.cells (ar (List.replicate 32 0)) 22)).heap.size = w.heap.size + 2 := by simp
  have Z1 := Lib.hid z1
  have Z2 := Lib.hid z2
  have G1 := Lib.hid g1
  have HS := Lib.hid hsz
  clear z0 z1 z2 g1 hsz
  have start : ∀ w2 w3, G ((w.alloc (.cells (ar (List.replicate 32 0)) 22)).alloc (.cells (ar (List.replicate 32 0)) 22)) w2 → (∀ b, b ≠ w2.heap.size → w3.heap[b]? = (w2.alloc (.cells (ar (List.replicate 32 0)) 22)).heap[b]?) → w3.heap.size = (w2.alloc (.cells (ar (List.replicate 32 0)) 22)).heap.size →
      (∀ x : World, x.heap.size ≤ w2.heap.size → G x (w2.alloc (.cells (ar (List.replicate 32 0)) 22)) → G x w3) →
      w.heap.size + 2 ≤ w2.heap.size ∧ Blk w3 w.heap.size 22 (List.replicate 32 0) ∧ Blk w3 (w.heap.size + 1) 22 (List.replicate 32 0) ∧ G w w3 := by
    intro w2 w3 g2 hb hs hg
    have hz2 : w.heap.size + 2 ≤ w2.heap.size := by have := g2.1.size; rw [HS.out] at this; exact this
    refine ⟨hz2, ?_, ?_, hg w (by omega) ((G1.out.trans g2).alloc _ _)⟩
    · unfold Blk; rw [hb _ (by omega)]; exact (Z2.out.keep g2.1).alloc _
    · unfold Blk; rw [hb _ (by omega)]; exact (Z1.out.keep g2.1).alloc _
  obtain ⟨V, hV⟩ : ∃ V, valD 256 b = V := ⟨_, rfl⟩
  have hV0 := valD_nonneg (show (0 : Int) < 256 by decide) b rb
  have hV1 := valD_lt8 b rb
  rw [hV] at hV0 hV1 ⊢
  have HV0 := Lib.hid hV0
  have HV1 := Lib.hid hV1
  have HV := Lib.hid hV
  clear hV0 hV1 hV
  go_enter Try.func35, Try.ntmps35
  go_wp2_with (first
    | (go_at_call 58; go_fit (ho _); rintro e w2 ⟨rfl, hg⟩)
    | (refine wpList_store_row rfl 22 _ _ rfl w2.heap.size rfl 22 LL32 (List.replicate 32 0) rfl (Blk.new w2 22 (List.replicate 32 0)) rfl size22 ?_; intro w3 h1 h2 h3 h4; obtain ⟨hz2, k0, k1, kg⟩ := start w2 w3 hg h3 h2 h4))
  have K0 := Lib.hid k0
  have K1 := Lib.hid k1
  have KG := Lib.hid kg
  have KN := Lib.hid h1
  clear h1 h2 h3 h4 hg start k0 k1 kg ho
  have hbn : w.heap.size + 2 ≤ w2.heap.size := hz2
  generalize w2.heap.size = Bn at hbn KN
  clear hz2
  go_loopw [5] (fun i wr => ∃ (z : Int) (r : List Int), i = .int .i64 z ∧ -1 ≤ z ∧ z < 8 * n ∧ Hid (r.length = 32) ∧ byteL r ∧ Hid (valD 256 r = V / 2 ^ (z + 1).toNat % LLn) ∧ Hid (Blk wr w.heap.size 22 (List.replicate 32 0)) ∧ Hid (Blk wr (w.heap.size + 1) 22 r) ∧ Hid (Blk wr Bn 22 LL32) ∧ Hid (G w wr)) (fun i _ => ((RowKit.intOf i) + 1).toNat)
  case atStart =>
    refine ⟨8 * n - 1, List.replicate 32 0, rfl, by omega, by omega, Lib.hid rfl, by unfold byteL; decide, Lib.hid ?_, K0, K1, KN, KG⟩
    rw [show (8 * (n : Int) - 1 + 1).toNat = 8 * n by omega, Int.pow_mul, show (2 : Int) ^ 8 = 256 from rfl, ← HN.out, Int.ediv_eq_zero_of_lt HV0.out HV1.out]
    decide
  case round =>
    clear K0 K1 KG KN
    obtain ⟨z, r, rfl, hz0, hz1, HL, rr, HR, H0, H1, HB, HG⟩ := hrel
    by_cases hz : z < 0
    · have hge : ¬ (0 : Int) ≤ z := by omega
      go_wp2_with (first
        | (refine wpList_load_row rfl 22 _ rfl (w.heap.size + 1) rfl 22 (ar r) (0, 0) _ H1.out Try.underlying22 rfl (by rw [ar_size, HL.out]; exact size22) ?_)
        | (refine wpList_store_row rfl 22 _ _ rfl w.heap.size rfl 22 r (List.replicate 32 0) rfl H0.out (by rw [HL.out]; rfl) (by rw [HL.out]; exact size22) ?_; intro w4 h1 h2 h3 h4))
      refine bodyPost_ret (v := .agg (ar r)) (results_cell_row rfl _ _ _ 22 _ (0, 0) _ rfl h1 Try.underlying22 rfl (by rw [ar_size, HL.out]; exact size22)) rfl ⟨?_, h4 w (Nat.le_refl _) HG.out⟩
      have := HR.out
      rw [show (z + 1).toNat = 0 by omega, Int.pow_zero, Int.ediv_one] at this
      rw [← this, ← HL.out, digs_valD (by decide) r rr]
    · obtain ⟨j, rfl⟩ : ∃ j : Nat, z = (j : Int) := ⟨z.toNat, by omega⟩
      have hjn : j / 8 < n := by omega
      have hc0 := (HG.out.1.cell (p := ⟨Bb, off + j / 8, none⟩) hB).trans (HC.out (j / 8) hjn)
      have hin := getD_in rb (j / 8)
      have hbit := bit_at b rb j (by rw [HN.out]; exact hjn)
      rw [HV.out] at hbit
      have hstep := rest_step V j _ (valD 256 r) hbit (by have := HR.out; rw [show ((j : Int) + 1).toNat = j + 1 by omega] at this; exact this)
      have hm : bits .and .u8 (b.getD (j / 8) 0 / 2 ^ (j % 8)) 1 = b.getD (j / 8) 0 / 2 ^ (j % 8) % 2 := bits_mask .u8 8 (by decide) wraps_u8 1 (by decide) _ (Int.ediv_nonneg hin.1 (Int.le_of_lt (Int.pow_pos (by decide)))) (Int.lt_of_le_of_lt (Int.ediv_le_self _ hin.1) (by have := hin.2; exact this))
      have hc01 : 0 ≤ b.getD (j / 8) 0 / 2 ^ (j % 8) % 2 ∧ b.getD (j / 8) 0 / 2 ^ (j % 8) % 2 ≤ 1 := by omega
      have HST := Lib.hid hstep
      clear hstep hbit
      generalize b.getD (j / 8) 0 = x at hc0 hin hm hc01 HST
      generalize x / 2 ^ (j % 8) % 2 = c at hm hc01 HST
      have hje : (0 : Int) ≤ (j : Int) := by omega
      go_wp2
      obtain ⟨wo, rfl⟩ : ∃ wo : World, wo = wr := ⟨_, rfl⟩
      go_loopw [6, 7] (fun u v wr => ∃ k : Nat, u = .int .u8 (shl c (r.take k)).2 ∧ v = .int .i64 k ∧ k ≤ 32 ∧ Hid (Blk wr w.heap.size 22 (List.replicate 32 0)) ∧ Hid (Blk wr (w.heap.size + 1) 22 ((shl c (r.take k)).1 ++ r.drop k)) ∧ Hid (Blk wr Bn 22 LL32) ∧ Hid (G w wr)) (fun _ v _ => (32 - (RowKit.intOf v)).toNat)
      case atStart => exact ⟨0, by simp [shl], rfl, by omega, H0, by simpa [shl] using H1, HB, HG⟩
      case round =>
        clear hc0 H0 H1 HB HG
        obtain ⟨k, rfl, rfl, hk, H0, H1, HB, HG⟩ := hrel
        by_cases hlt : k < 32
        · have hlen : ((shl c (r.take k)).1 ++ r.drop k).length = 32 := by rw [List.length_append, shl_len, ← List.length_append, List.take_append_drop]; exact HL.out
          have hg : ((shl c (r.take k)).1 ++ r.drop k).getD k 0 = r.getD k 0 := by
            have hkl : (shl c (r.take k)).1.length = k := by rw [shl_len, List.length_take, HL.out]; omega
            simp only [List.getD]
            rw [List.getElem?_append_right (by omega), hkl, Nat.sub_self, List.getElem?_drop]
            simp
          have hcell := H1.out.cell k (by omega)
          rw [hg] at hcell
          have hfree := H1.out.free k
          have hci := shl_in c (r.take k) (rr.take k) hc01.1 hc01.2
          have hxi := getD_in rr k
          have hkz : (k : Int) < 32 := by omega
          have HN1 := Lib.hid (shl_app c (r.take k) (r.getD k 0))
          have hset := fun z => H1.out.set k z
          have hse : ∀ z, ((shl c (r.take k)).1 ++ r.drop k).set k z = (shl c (r.take k)).1 ++ [z] ++ r.drop (k + 1) := by
            intro z
            have hkl : (shl c (r.take k)).1.length = k := by rw [shl_len, List.length_take, HL.out]; omega
            rw [List.set_append_right _ _ (by omega), hkl, Nat.sub_self, drop_at r k (by rw [HL.out]; exact hlt), List.set_cons_zero]
            simp
          have HSE := Lib.hid hse
          have HSET := Lib.hid hset
          have HTK : Hid (r.take (k + 1) = r.take k ++ [r.getD k 0]) := Lib.hid (by
            rw [List.take_succ_eq_append_getElem (by rw [HL.out]; exact hlt)]
            simp [List.getD, HL.out, hlt])
          obtain ⟨ci0, ci1, ci2⟩ := hci
          clear hlen hg hset hse ci0
          generalize r.getD k 0 = y at hcell hxi HN1 HTK
          generalize hcd : (shl c (r.take k)).2 = d at ci1 ci2 HN1
          have HCD := Lib.hid hcd
          clear hcd
          go_wp2
          go_roundw
          case rel =>
            have hor := or_bit y d hxi.1 hxi.2 ci1 ci2
            have hn1 := HN1.out
            refine ⟨k + 1, ?_, by go_num, by omega, Lib.hid (H0.out.other (by show w.heap.size + 1 ≠ _; omega) _), Lib.hid ?_, Lib.hid (HB.out.other (by show w.heap.size + 1 ≠ _; omega) _), Lib.hid (HG.out.setCell (by show _ ≤ w.heap.size + 1; omega) _)⟩
            · rw [HTK.out, hn1]
            · rw [hor, HTK.out, hn1]
              have := HSET.out (2 * y % 256 + d)
              rw [HSE.out] at this
              exact this
          case measure => simp [RowKit.intOf]; omega
        · obtain rfl : k = 32 := by omega
          have ht : r.take 32 = r := List.take_of_length_le (by rw [HL.out]; omega)
          have hd : r.drop 32 = [] := List.drop_eq_nil_of_le (by rw [HL.out]; omega)
          rw [ht, hd, List.append_nil] at H1
          have hv := shl_val c r rr
          have hi := shl_in c r rr hc01.1 hc01.2
          have hl1 : (shl c r).1.length = 32 := by rw [shl_len]; exact HL.out
          have hrL : 0 ≤ valD 256 r ∧ valD 256 r < LLn := by
            have := HR.out
            unfold LLn at *
            omega
          have h0 : (shl c r).2 = 0 ∧ valD 256 (shl c r).1 = 2 * valD 256 r + c := by
            have hl2 := valD_lt8 _ hi.1
            have hl3 := valD_nonneg (show (0 : Int) < 256 by decide) _ hi.1
            rw [HL.out] at hv
            rw [hl1] at hl2
            have e : (256 : Int) ^ 32 = 115792089237316195423570985008687907853269984665640564039457584007913129639936 := by decide
            rw [e] at hv hl2
            unfold LLn at hrL
            have h1 := hi.2.1
            have h2 := hi.2.2
            constructor <;> omega
          obtain ⟨R1, hR1⟩ : ∃ R1, (shl c r).1 = R1 := ⟨_, rfl⟩
          have hin1 := hi.1
          rw [hR1] at H1 h0 hl1 hin1
          have HL1 := Lib.hid hl1
          have HV1' := Lib.hid h0.2
          have hbl := fun w2 => below R1 LL32 hl1 rfl hin1 LL_in w2
          rw [LL_val, h0.2] at hbl
          clear hv hi hl1 hrL h0 hR1 ht hd
          have HST2 := HST
          generalize 2 * valD 256 r + c = T at HST2 HV1' hbl
          by_cases hlt2 : T < LLn
          · have hbl2 : ∀ w2, Calls Try.prog 59 #[.agg (ar R1), .agg (ar LL32)] w2 fun e w' => e = .returned (.bool true) ∧ G w2 w' := by
              intro w2
              have := hbl w2
              rw [decide_eq_true hlt2] at this
              exact this
            have HT2 : Hid (T = V / 2 ^ j % LLn) := Lib.hid (by have := HST2.out; rw [if_pos hlt2] at this; exact this)
            clear hbl hlt2
            go_wp2_with (first
              | (refine wpList_load_row rfl 22 _ rfl (w.heap.size + 1) rfl 22 (ar R1) (0, 0) _ H1.out Try.underlying22 rfl (by rw [ar_size, HL1.out]; exact size22) ?_)
              | (refine wpList_load_row rfl 22 _ rfl Bn rfl 22 (ar LL32) (0, 0) _ HB.out Try.underlying22 rfl (by rw [ar_size]; exact size22) ?_)
              | (go_at_call 59; go_fit (hbl2 _); rintro e w4 ⟨rfl, hg4⟩))
            go_roundw
            case rel =>
              refine ⟨(j : Int) - 1, R1, rfl, by omega, by omega, HL1, hin1, Lib.hid ?_, Lib.hid (H0.out.keep hg4.1), Lib.hid (H1.out.keep hg4.1), Lib.hid (HB.out.keep hg4.1), Lib.hid (HG.out.trans hg4)⟩
              rw [show ((j : Int) - 1 + 1).toNat = j by omega, HV1'.out]; exact HT2.out
            case measure => simp [RowKit.intOf]
          · have hbl2 : ∀ w2, Calls Try.prog 59 #[.agg (ar R1), .agg (ar LL32)] w2 fun e w' => e = .returned (.bool false) ∧ G w2 w' := by
              intro w2
              have := hbl w2
              rw [decide_eq_false hlt2] at this
              exact this
            have HT2 : Hid (T - LLn = V / 2 ^ j % LLn) := Lib.hid (by have := HST2.out; rw [if_neg hlt2] at this; exact this)
            have HGE : Hid (¬ T < LLn) := Lib.hid hlt2
            clear hbl hlt2
            go_wp2_with (first
              | (refine wpList_load_row rfl 22 _ rfl (w.heap.size + 1) rfl 22 (ar R1) (0, 0) _ H1.out Try.underlying22 rfl (by rw [ar_size, HL1.out]; exact size22) ?_)
              | (refine wpList_load_row rfl 22 _ rfl Bn rfl 22 (ar LL32) (0, 0) _ HB.out Try.underlying22 rfl (by rw [ar_size]; exact size22) ?_)
              | (go_at_call 59; go_fit (hbl2 _); rintro e w4 ⟨rfl, hg4⟩))
            have K0 := Lib.hid (H0.out.keep hg4.1)
            have K1 := Lib.hid (H1.out.keep hg4.1)
            have KB := Lib.hid (HB.out.keep hg4.1)
            have KG := Lib.hid (HG.out.trans hg4)
            clear hg4 hbl2 H0 H1 HB HG
            obtain ⟨wi, rfl⟩ : ∃ wi : World, wi = w4 := ⟨_, rfl⟩
            go_loopw [9, 10] (fun u v wr => ∃ k : Nat, u = .int .i64 (sbl 0 (R1.take k) (LL32.take k)).2 ∧ v = .int .i64 k ∧ k ≤ 32 ∧ Hid (Blk wr w.heap.size 22 (List.replicate 32 0)) ∧ Hid (Blk wr (w.heap.size + 1) 22 ((sbl 0 (R1.take k) (LL32.take k)).1 ++ R1.drop k)) ∧ Hid (Blk wr Bn 22 LL32) ∧ Hid (G w wr)) (fun _ v _ => (32 - (RowKit.intOf v)).toNat)
            case atStart => exact ⟨0, by simp [sbl], rfl, by omega, K0, by simpa [sbl] using K1, KB, KG⟩
            case round =>
              clear K0 K1 KB KG
              obtain ⟨k, rfl, rfl, hk, H0, H1, HB, HG⟩ := hrel
              have htl : (R1.take k).length = (LL32.take k).length := by rw [List.length_take, List.length_take, HL1.out]; rfl
              have hsl : (sbl 0 (R1.take k) (LL32.take k)).1.length = k := by rw [sbl_len _ _ _ htl, List.length_take, HL1.out]; omega
              by_cases hlt : k < 32
              · have hkz : (k : Int) < 32 := by omega
                have hg : ((sbl 0 (R1.take k) (LL32.take k)).1 ++ R1.drop k).getD k 0 = R1.getD k 0 := by
                  simp only [List.getD]
                  rw [List.getElem?_append_right (by omega), hsl, Nat.sub_self, List.getElem?_drop]
                  simp
                have hcell := H1.out.cell k (by rw [List.length_append, hsl, List.length_drop, HL1.out]; omega)
                rw [hg] at hcell
                have hcell2 := HB.out.cell k (by exact hlt)
                have hfree := H1.out.free k
                have hsi := sbl_in 0 (R1.take k) (LL32.take k) htl (hin1.take k) (LL_in.take k) (by omega) (by omega)
                have hxi := getD_in hin1 k
                have hyi := getD_in LL_in k
                have HN1 := Lib.hid (sbl_app 0 (R1.take k) (LL32.take k) (R1.getD k 0) (LL32.getD k 0) htl)
                have HSET := Lib.hid (fun z => H1.out.set k z)
                have HSE : Hid (∀ z, ((sbl 0 (R1.take k) (LL32.take k)).1 ++ R1.drop k).set k z = (sbl 0 (R1.take k) (LL32.take k)).1 ++ [z] ++ R1.drop (k + 1)) := Lib.hid (by
                  intro z
                  rw [List.set_append_right _ _ (by omega), hsl, Nat.sub_self, drop_at R1 k (by rw [HL1.out]; exact hlt), List.set_cons_zero]
                  simp)
                have HTK : Hid (R1.take (k + 1) = R1.take k ++ [R1.getD k 0]) := Lib.hid (take_at R1 k (by rw [HL1.out]; exact hlt))
                have HTL : Hid (LL32.take (k + 1) = LL32.take k ++ [LL32.getD k 0]) := Lib.hid (take_at LL32 k hlt)
                obtain ⟨si0, si1, si2⟩ := hsi
                clear hg hsl htl si0
                generalize R1.getD k 0 = p at hcell hxi HN1 HTK
                generalize LL32.getD k 0 = q at hcell2 hyi HN1 HTL
                generalize (sbl 0 (R1.take k) (LL32.take k)).2 = d at si1 si2 HN1
                by_cases hneg : p - q - d < 0
                · have HN2 := HN1.out
                  rw [if_pos hneg, if_pos hneg] at HN2
                  have HN3 := Lib.hid HN2
                  clear HN2 HN1
                  go_wp2
                  go_quiet (fail)
                  go_wp2
                  go_roundw
                  case rel =>
                    refine ⟨k + 1, ?_, by go_num, by omega, Lib.hid ((H0.out.drewN _).other (by show w.heap.size + 1 ≠ _; omega) _), Lib.hid ?_, Lib.hid ((HB.out.drewN _).other (by show w.heap.size + 1 ≠ _; omega) _), Lib.hid ((HG.out.drewN _).setCell (by show _ ≤ w.heap.size + 1; omega) _)⟩
                    · rw [HTK.out, HTL.out, HN3.out]
                    · rw [HTK.out, HTL.out, HN3.out]
                      have := (H1.out.drewN nq).set k (p - q - d + 256)
                      rw [HSE.out] at this
                      exact this
                  case measure => simp [RowKit.intOf]; omega
                · have HN2 := HN1.out
                  rw [if_neg hneg, if_neg hneg] at HN2
                  have HN3 := Lib.hid HN2
                  clear HN2 HN1
                  have hneg' : 0 ≤ p - q - d := by omega
                  go_wp2
                  go_quiet (fail)
                  go_wp2
                  go_roundw
                  case rel =>
                    refine ⟨k + 1, ?_, by go_num, by omega, Lib.hid ((H0.out.drewN _).other (by show w.heap.size + 1 ≠ _; omega) _), Lib.hid ?_, Lib.hid ((HB.out.drewN _).other (by show w.heap.size + 1 ≠ _; omega) _), Lib.hid ((HG.out.drewN _).setCell (by show _ ≤ w.heap.size + 1; omega) _)⟩
                    · rw [HTK.out, HTL.out, HN3.out]
                    · rw [HTK.out, HTL.out, HN3.out]
                      have := (H1.out.drewN nq).set k (p - q - d)
                      rw [HSE.out] at this
                      exact this
                  case measure => simp [RowKit.intOf]; omega
              · obtain rfl : k = 32 := by omega
                have ht : R1.take 32 = R1 := List.take_of_length_le (by rw [HL1.out]; omega)
                have hd : R1.drop 32 = [] := List.drop_eq_nil_of_le (by rw [HL1.out]; omega)
                have ht2 : LL32.take 32 = LL32 := rfl
                rw [ht, ht2, hd, List.append_nil] at H1
                have hv := sbl_val 0 R1 LL32 (by rw [HL1.out]; rfl)
                have hi := sbl_in 0 R1 LL32 (by rw [HL1.out]; rfl) hin1 LL_in (by omega) (by omega)
                have hl1 : (sbl 0 R1 LL32).1.length = 32 := by rw [sbl_len _ _ _ (by rw [HL1.out]; rfl)]; exact HL1.out
                have hval : valD 256 (sbl 0 R1 LL32).1 = T - LLn := by
                  have hl2 := valD_lt8 _ hi.1
                  have hl3 := valD_nonneg (show (0 : Int) < 256 by decide) _ hi.1
                  have hl4 := valD_lt8 _ hin1
                  rw [hl1] at hl2
                  rw [HL1.out] at hl4 hv
                  rw [LL_val, HV1'.out] at hv
                  rw [HV1'.out] at hl4
                  have e : (256 : Int) ^ 32 = 115792089237316195423570985008687907853269984665640564039457584007913129639936 := by decide
                  rw [e] at hv hl2 hl4
                  have h1 := hi.2.1
                  have h2 := hi.2.2
                  have h3 := HGE.out
                  omega
                obtain ⟨R2, hR2⟩ : ∃ R2, (sbl 0 R1 LL32).1 = R2 := ⟨_, rfl⟩
                have hin2 := hi.1
                rw [hR2] at H1 hl1 hval hin2
                have HL2 := Lib.hid hl1
                have HV2 := Lib.hid hval
                clear hv hi hl1 hval hR2 ht hd ht2 htl hsl
                go_wp2
                go_roundw
                case rel =>
                  refine ⟨(j : Int) - 1, R2, rfl, by omega, by omega, HL2, hin2, Lib.hid ?_, H0, H1, HB, HG⟩
                  rw [show ((j : Int) - 1 + 1).toNat = j by omega, HV2.out]; exact HT2.out
                case measure => simp [RowKit.intOf]
end Go.Proofs.Sc
set_option linter.unusedSimpArgs false
namespace Go.Proofs.Sc
open Go Go.RowKit Go.Fld

/-- a sum, and what is carried -/
def adl : Int → List Int → List Int → List Int × Int
  | c, x :: a, y :: b => ((c + (x + y)) % 256 :: (adl ((c + (x + y)) / 256) a b).1, (adl ((c + (x + y)) / 256) a b).2)
  | c, _, _ => ([], c)
theorem adl_val : ∀ (c : Int) (a b : List Int), a.length = b.length → valD 256 (adl c a b).1 + 256 ^ a.length * (adl c a b).2 = valD 256 a + valD 256 b + c
  | c, [], [], _ => by simp [adl, valD]
  | c, [], _ :: _, h => by simp at h
  | c, _ :: _, [], h => by simp at h
  | c, x :: a, y :: b, h => by
    have i0 := adl_val ((c + (x + y)) / 256) a b (by simpa using h)
    simp only [adl, List.length_cons, valD]
    rw [Int.pow_succ', Int.mul_assoc]
    omega
theorem adl_app : ∀ (c : Int) (a b : List Int) (x y : Int), a.length = b.length → adl c (a ++ [x]) (b ++ [y]) = ((adl c a b).1 ++ [((adl c a b).2 + (x + y)) % 256], ((adl c a b).2 + (x + y)) / 256)
  | c, [], [], x, y, _ => by simp [adl]
  | c, [], _ :: _, x, y, h => by simp at h
  | c, _ :: _, [], x, y, h => by simp at h
  | c, u :: a, v :: b, x, y, h => by
    have h' : a.length = b.length := by simpa using h
    simp only [List.cons_append, adl]
    rw [adl_app _ a b x y h']
theorem adl_len : ∀ (c : Int) (a b : List Int), a.length = b.length → (adl c a b).1.length = a.length
  | c, [], [], _ => rfl
  | c, [], _ :: _, h => by simp at h
  | c, _ :: _, [], h => by simp at h
  | c, x :: a, y :: b, h => by simp [adl, adl_len _ a b (by simpa using h)]
theorem adl_in : ∀ (c : Int) (a b : List Int), a.length = b.length → byteL a → byteL b → 0 ≤ c → c ≤ 1 → byteL (adl c a b).1 ∧ 0 ≤ (adl c a b).2 ∧ (adl c a b).2 ≤ 1
  | c, [], [], _, _, _, h0, h1 => ⟨fun y hy => by simp [adl] at hy, h0, h1⟩
  | c, [], _ :: _, h, _, _, _, _ => by simp at h
  | c, _ :: _, [], h, _, _, _, _ => by simp at h
  | c, x :: a, y :: b, h, ha, hb, h0, h1 => by
    have hx := ha x (by simp)
    have hy := hb y (by simp)
    have i0 := adl_in ((c + (x + y)) / 256) a b (by simpa using h) (fun z hz => ha z (by simp [hz])) (fun z hz => hb z (by simp [hz])) (by omega) (by omega)
    simp only [adl]
    refine ⟨fun z hz => ?_, i0.2⟩
    simp only [List.mem_cons] at hz
    rcases hz with rfl | hz
    · omega
    · exact i0.1 z hz

set_option maxHeartbeats 4000000 in
set_option maxRecDepth 100000 in
theorem scalarAdd (a b : List Int) (w : World) (ha : a.length = 32) (hb : b.length = 32) (ra : byteL a) (rb : byteL b) :
    Calls Try.prog 17 #[.agg (ar a), .agg (ar b)] w fun e w' => e = .returned (.agg (ar (digs 256 32 ((valD 256 a + valD 256 b) % LLn)))) ∧ G w w' := by
  have HA := Lib.hid ha
  have HB := Lib.hid hb
  have sa := ar_size a
  have sb := ar_size b
  rw [ha] at sa
  rw [hb] at sb
  clear ha hb
  obtain ⟨w1, hw1⟩ : ∃ w1, w.alloc (.cells (ar a) 22) = w1 := ⟨_, rfl⟩
  obtain ⟨w2, hw2⟩ : ∃ w2, w1.alloc (.cells (ar b) 22) = w2 := ⟨_, rfl⟩
  obtain ⟨w3, hw3⟩ : ∃ w3, w2.alloc (.cells (ar (List.replicate 32 0)) 22) = w3 := ⟨_, rfl⟩
  obtain ⟨w4, hw4⟩ : ∃ w4, w3.alloc (.cells (ar (List.replicate 33 0)) 61) = w4 := ⟨_, rfl⟩
  have z1 : w1.heap.size = w.heap.size + 1 := by rw [← hw1]; simp
  have z2 : w2.heap.size = w.heap.size + 1 + 1 := by rw [← hw2]; simp [z1]
  have z3 : w3.heap.size = w.heap.size + 1 + 1 + 1 := by rw [← hw3]; simp [z2]
  have k1 : Blk w4 w.heap.size 22 a := by
    rw [← hw4, ← hw3, ← hw2, ← hw1]; exact (((Blk.new w 22 a).alloc _).alloc _).alloc _
  have k2 : Blk w4 (w.heap.size + 1) 22 b := by
    rw [← hw4, ← hw3, ← hw2, ← z1]; exact ((Blk.new w1 22 b).alloc _).alloc _
  have k3 : Blk w4 (w.heap.size + 1 + 1) 22 (List.replicate 32 0) := by
    rw [← hw4, ← hw3, ← z2]; exact (Blk.new w2 22 _).alloc _
  have k4 : Blk w4 (w.heap.size + 1 + 1 + 1) 61 (List.replicate 33 0) := by
    rw [← hw4, ← z3]; exact Blk.new w3 61 _
  have kg : G w w4 := by
    rw [← hw4, ← hw3, ← hw2, ← hw1]; exact ((((G.refl w).alloc _ _).alloc _ _).alloc _ _).alloc _ _
  have hw : ((((w.alloc (.cells (ar a) 22)).alloc (.cells (ar b) 22)).alloc (.cells (ar (List.replicate 32 0)) 22)).alloc (.cells (ar (List.replicate 33 0)) 61)) = w4 := by rw [hw1, hw2, hw3, hw4]
  have K1 := Lib.hid k1
  have K2 := Lib.hid k2
  have K3 := Lib.hid k3
  have K4 := Lib.hid k4
  have KG := Lib.hid kg
  have HW := Lib.hid hw
  rw [← hw] at K1 K2 K3 K4 KG
  clear HW hw1 hw2 hw3 hw4 z1 z2 z3 k1 k2 k3 k4 kg hw w1 w2 w3 w4
  obtain ⟨U, hU⟩ : ∃ U, digs 256 32 ((valD 256 a + valD 256 b) % LLn) = U := ⟨_, rfl⟩
  have hUl : U.length = 32 := by rw [← hU, digs_len]
  rw [hU]
  have HU := Lib.hid hUl
  have HUU := Lib.hid hU
  clear hU hUl
  go_enter Try.func17, Try.ntmps17
  go_wp2
  go_loopw [6, 7] (fun u v wr => ∃ k : Nat, u = .int .i64 (adl 0 (a.take k) (b.take k)).2 ∧ v = .int .i64 k ∧ k ≤ 32 ∧ Hid (Blk wr w.heap.size 22 a) ∧ Hid (Blk wr (w.heap.size + 1) 22 b) ∧ Hid (Blk wr (w.heap.size + 1 + 1) 22 (List.replicate 32 0)) ∧ Hid (Blk wr (w.heap.size + 1 + 1 + 1) 61 ((adl 0 (a.take k) (b.take k)).1 ++ List.replicate (33 - k) 0)) ∧ Hid (G w wr)) (fun _ v _ => (32 - (RowKit.intOf v)).toNat)
  case atStart => exact ⟨0, by simp [adl], rfl, by omega, K1, K2, K3, K4, KG⟩
  case round =>
    clear K1 K2 K3 K4 KG
    obtain ⟨k, rfl, rfl, hk, H1, H2, H3, H4, HG⟩ := hrel
    have htl : (a.take k).length = (b.take k).length := by rw [List.length_take, List.length_take, HA.out, HB.out]
    have hsl : (adl 0 (a.take k) (b.take k)).1.length = k := by rw [adl_len _ _ _ htl, List.length_take, HA.out]; omega
    have hsi := adl_in 0 (a.take k) (b.take k) htl (ra.take k) (rb.take k) (by omega) (by omega)
    obtain ⟨si0, si1, si2⟩ := hsi
    by_cases hlt : k < 32
    · have hkz : (k : Int) < 32 := by omega
      have hkz3 : (k : Int) < 33 := by omega
      have hc1 := H1.out.cell k (by rw [HA.out]; exact hlt)
      have hc2 := H2.out.cell k (by rw [HB.out]; exact hlt)
      have hc4 := H4.out.cell k (by rw [List.length_append, hsl, List.length_replicate]; omega)
      have hfree := H4.out.free k
      have hxi := getD_in ra k
      have hyi := getD_in rb k
      have HN1 := Lib.hid (adl_app 0 (a.take k) (b.take k) (a.getD k 0) (b.getD k 0) htl)
      have HSE : Hid (∀ z, ((adl 0 (a.take k) (b.take k)).1 ++ List.replicate (33 - k) 0).set k z = (adl 0 (a.take k) (b.take k)).1 ++ [z] ++ List.replicate (33 - (k + 1)) 0) := Lib.hid (by
        intro z
        rw [List.set_append_right _ _ (by omega), hsl, Nat.sub_self, show 33 - k = (33 - (k + 1)) + 1 by omega, List.replicate_succ, List.set_cons_zero]
        simp)
      have HTK := Lib.hid (take_at a k (by rw [HA.out]; exact hlt))
      have HTL := Lib.hid (take_at b k (by rw [HB.out]; exact hlt))
      clear hsl htl si0
      generalize a.getD k 0 = p at hc1 hxi HN1 HTK
      generalize b.getD k 0 = q at hc2 hyi HN1 HTL
      generalize ((adl 0 (a.take k) (b.take k)).1 ++ List.replicate (33 - k) 0).getD k 0 = old at hc4
      generalize (adl 0 (a.take k) (b.take k)).2 = d at si1 si2 HN1
      go_wp2
      go_quiet (fail)
      go_wp2
      go_roundw
      case rel =>
        refine ⟨k + 1, ?_, by go_num, by omega, Lib.hid ((H1.out.drewN _).other (by show w.heap.size + 1 + 1 + 1 ≠ _; omega) _), Lib.hid ((H2.out.drewN _).other (by show w.heap.size + 1 + 1 + 1 ≠ _; omega) _), Lib.hid ((H3.out.drewN _).other (by show w.heap.size + 1 + 1 + 1 ≠ _; omega) _), Lib.hid ?_, Lib.hid ((HG.out.drewN _).setCell (by show _ ≤ w.heap.size + 1 + 1 + 1; omega) _)⟩
        · rw [HTK.out, HTL.out, HN1.out]
        · rw [HTK.out, HTL.out, HN1.out]
          have := (H4.out.drewN nq).set k ((d + (p + q)) % 256)
          rw [HSE.out] at this
          exact this
      case measure => simp [RowKit.intOf]; omega
    · obtain rfl : k = 32 := by omega
      have ht : a.take 32 = a := List.take_of_length_le (by rw [HA.out]; omega)
      have ht2 : b.take 32 = b := List.take_of_length_le (by rw [HB.out]; omega)
      rw [ht, ht2] at hsl si0 si1 si2 H4
      have hv := adl_val 0 a b (by rw [HA.out, HB.out])
      rw [HA.out] at hv
      have hc4 := H4.out.cell 32 (by rw [List.length_append, hsl]; simp)
      have hfree := H4.out.free 32
      obtain ⟨T, hT⟩ : ∃ T, (adl 0 a b).1 ++ [(adl 0 a b).2] = T := ⟨_, rfl⟩
      have hTl : T.length = 33 := by rw [← hT, List.length_append, hsl]; rfl
      have hTi : byteL T := by
        rw [← hT]
        refine si0.app fun y hy => ?_
        rw [List.mem_singleton.1 hy]; omega
      have hTv : valD 256 T = valD 256 a + valD 256 b := by
        rw [← hT, valD_app, hsl]
        simp only [valD, Int.mul_zero, Int.add_zero]
        omega
      have hset : Blk (wr.setCell ⟨w.heap.size + 1 + 1 + 1, 32, none⟩ (.int .u8 (adl 0 a b).2)) (w.heap.size + 1 + 1 + 1) 61 T := by
        have := H4.out.set 32 (adl 0 a b).2
        rw [List.set_append_right _ _ (by omega), hsl] at this
        rw [← hT]
        exact this
      have HSET := Lib.hid hset
      have H3' := Lib.hid (H3.out.other (p := ⟨w.heap.size + 1 + 1 + 1, 32, none⟩) (by show w.heap.size + 1 + 1 + 1 ≠ _; omega) (.int .u8 (adl 0 a b).2))
      have HG' := Lib.hid (HG.out.setCell (p := ⟨w.heap.size + 1 + 1 + 1, 32, none⟩) (by show _ ≤ w.heap.size + 1 + 1 + 1; omega) (.int .u8 (adl 0 a b).2))
      rw [ht, ht2]
      generalize (adl 0 a b).2 = d at si1 si2 hc4 HSET H3' HG'
      generalize ((adl 0 a b).1 ++ List.replicate (33 - 32) 0).getD 32 0 = old at hc4
      clear hset hv hT hsl si0 htl ht ht2
      have hd256 : d < 256 := by omega
      have hsc := scalar (w.heap.size + 1 + 1 + 1) 0 33 33 T (wr.setCell ⟨w.heap.size + 1 + 1 + 1, 32, none⟩ (.int .u8 d)) hTl (by omega) hTi (by omega) HSET.out.lt (fun k hk => by rw [Nat.zero_add]; exact HSET.out.cell k (by rw [hTl]; exact hk))
      rw [hTv] at hsc
      rw [HUU.out] at hsc
      clear hTv hTl
      go_wp2_with (first
        | (go_at_call 35; go_fit hsc; rintro e w5 ⟨rfl, hg5⟩; have L3 := Lib.hid (H3'.out.keep hg5.1); have LG := Lib.hid (HG'.out.trans hg5))
        | (refine wpList_store_row rfl 22 _ _ rfl (w.heap.size + 1 + 1) rfl 22 U (List.replicate 32 0) rfl L3.out (by rw [HU.out]; rfl) (by rw [HU.out]; exact size22) ?_; intro w6 h1 h2 h3 h4))
      exact bodyPost_ret (v := .agg (ar U)) (results_cell_row rfl _ _ _ 22 _ (0, 0) _ rfl h1 Try.underlying22 rfl (by rw [ar_size, HU.out]; exact size22)) rfl ⟨rfl, h4 w (by omega) LG.out⟩
end Go.Proofs.Sc
namespace Go.Proofs.Ytibldmjnddppaaa.Fld
open Go Go.Sim
open Go.Proofs Go.Fld

def sadL (a b : List Int) : List Int := digs 256 32 ((valD 256 a + valD 256 b) % LLn)
def C17 : CFn := ⟨[.arr .u8 32, .arr .u8 32], .arr .u8 32, fun _ => true, fun hs => [.l (sadL (hl hs 0) (hl hs 1))]⟩
theorem digs_in : ∀ (n : Nat) (v : Int), byteL (digs 256 n v)
  | 0, _ => fun y hy => by simp [digs] at hy
  | n + 1, v => fun y hy => by
    simp only [digs, List.mem_cons] at hy
    rcases hy with rfl | hy
    · omega
    · exact digs_in n _ y hy
theorem ar_cells (l : List Int) (h : l.length = 32) : (arrCells .u8 32 l).toArray = Sc.ar l := by
  unfold arrCells Sc.ar
  congr 1
  apply List.ext_getElem?
  intro i
  by_cases hi : i < 32
  · rw [List.getElem?_map, List.getElem?_range hi, List.getElem?_map, List.getElem?_eq_getElem (by omega)]
    simp [List.getD, h, hi]
  · rw [List.getElem?_eq_none (by simp; omega), List.getElem?_eq_none (by simp; omega)]
theorem wf_byte {l : List Int} (h : (AV.arr .u8 32 l).wf) : l.length = 32 ∧ byteL l := by
  simp only [AV.wf] at h
  refine ⟨h.1, fun y hy => ?_⟩
  obtain ⟨j, hj, rfl⟩ := List.getElem_of_mem hy
  have := h.2 j (by omega)
  have e : l.getD j 0 = l[j] := by simp [List.getD, hj]
  rw [e] at this
  simp only [inK] at this
  omega
theorem byte_wf {l : List Int} (h : l.length = 32) (hb : byteL l) : (AV.arr .u8 32 l).wf := by
  simp only [AV.wf]
  refine ⟨h, fun j hj => ?_⟩
  have := Sc.getD_in hb j
  simp only [inK]
  omega
theorem same_of {w w' : World} (h : Sc.G w w') : Same w w' :=
  ⟨h.1.os, h.1.tape, h.1.output, h.1.size, fun b hb _ => h.1.block b hb, fun b c e fz hb => by
    have hlt := (Array.getElem?_eq_some_iff.1 hb).1
    exact ⟨c, (h.1.block b hlt).trans hb, rfl, fun _ _ => rfl⟩, h.2⟩
theorem core17 {args : List AV} {v : AV} (h : C17.sem.run args some = some v) : ∃ a b, args = [.arr .u8 32 a, .arr .u8 32 b] ∧ v = .arr .u8 32 (sadL a b) := by
  simp only [CFn.sem] at h
  cases hm : matchPs C17.ins args with
  | none => simp [hm] at h
  | some hs =>
    simp only [hm] at h
    have hb := build_matchs C17.ins args hs [] [] hm
    simp only [List.nil_append, List.append_nil, List.length_nil] at hb
    refine ⟨hl hs 0, hl hs 1, ?_, ?_⟩
    · have := congrArg Prod.fst hb
      exact this.symm
    · have h2 : some (buildP (C17.fn hs) C17.out 0).1 = some v := h
      exact (Option.some.inj h2).symm
theorem callable17 : Callable Try.prog 17 := ⟨Try.f17, codeOf Try.f17, Try.func17, by kernel_rfl, by kernel_rfl⟩
theorem cok17 : EntryOk Try.prog 17 (.pure C17.sem) := by
  refine ⟨trivial, ⟨fun β args K => ?_, fun args v hv m hm => ?_, fun args v hv hw => ?_⟩, fun args v hv hw ρ w => .inl ⟨callable17, ?_⟩⟩
  · simp only [CFn.sem]
    cases matchPs C17.ins args with
    | none => rfl
    | some hs => rfl
  · obtain ⟨a, b, rfl, rfl⟩ := core17 hv
    simp [AV.has] at hm
  · obtain ⟨a, b, rfl, rfl⟩ := core17 hv
    exact byte_wf (digs_len _ _ _) (digs_in _ _)
  · obtain ⟨a, b, rfl, rfl⟩ := core17 hv
    obtain ⟨la, ha⟩ := wf_byte (hw (.arr .u8 32 a) (by simp))
    obtain ⟨lb, hb⟩ := wf_byte (hw (.arr .u8 32 b) (by simp))
    have h := Sc.scalarAdd a b w la lb ha hb
    have e : ([AV.arr .u8 32 a, AV.arr .u8 32 b].map (AV.enc ρ)).toArray = #[.agg (Sc.ar a), .agg (Sc.ar b)] := by
      simp only [List.map_cons, List.map_nil, AV.enc, ar_cells a la, ar_cells b lb]
    rw [e]
    refine h.mono fun e w' ⟨h1, h2⟩ => ⟨?_, same_of h2⟩
    rw [h1]
    simp only [AV.enc, ar_cells _ (show (sadL a b).length = 32 from digs_len _ _ _)]
    rfl
end Go.Proofs.Ytibldmjnddppaaa.Fld
set_option linter.unusedVariables false
set_option maxRecDepth 100000
namespace Go.Proofs.Ytibldmjnddppaaa.Fld
open Go Go.Sim
open Go.Proofs Go.Fld

noncomputable def env5 : List (FuncId × Entry) := [(8, .pure C8.sem), (12, .pure C12.sem), (16, .pure C16.sem), (17, .pure C17.sem)]
theorem envOk5 : EnvOk Try.prog (envOf env5) := envOf_ok (all_cons cok8 (all_cons cok12 (all_cons cok16 (all_cons cok17 (all_nil)))))
noncomputable def raw5 (a0 : List Int) (a1 : List Int) : Option (List Hv) := let x1 : List Int := encM (timesM (a0) baseM 256 noM); let x2 : List Int := encM (timesM (a1) baseM 256 noM); bif okM (x1) && okM (x2) then (some [.b (arrEq 32 (if okM (x1) && okM (x2) then encM (sumM (pM (x1)) (pM (x2))) else dg32 0) (encM (timesM (sadL a0 a1) baseM 256 noM)))]) else (some [.b (false)])
theorem l5 : LamOk Try.prog (lamOf []) (codeOf Try.f5) := lamOk_nil
theorem ev5 (a0 : List Int) (a1 : List Int) : evalF Try.prog (envOf env5) (lamOf []) 70 Try.f5 (codeOf Try.f5) [.arr .u8 32 a0, .arr .u8 32 a1] [] 0 (fun v _ => matchP .bool v) = raw5 a0 a1 := by kernel_rfl

/-- the bits' number is the bytes' -/
theorem bitsN_is (k : List Int) (hk : k.length = 32) (hb : byteL k) : ∀ (n : Nat) (a : Nat), n ≤ 256 → ((bitsN k n a : Nat) : Int) = (a : Int) * 2 ^ n + valD 256 k % 2 ^ n
  | 0, a, _ => by simp [bitsN]
  | n + 1, a, h => by
    simp only [bitsN]
    rw [bitsN_is k hk hb n _ (by omega)]
    have hbit := Go.Fld.bit_at k hb n (by rw [hk]; omega)
    have h0 := valD_nonneg (show (0 : Int) < 256 by decide) k hb
    generalize valD 256 k = v at *
    have hp : (0 : Int) < 2 ^ n := Int.pow_pos (by decide)
    have e : v % 2 ^ (n + 1) = v % 2 ^ n + 2 ^ n * (v / 2 ^ n % 2) := by
      rw [Int.pow_succ]
      exact (emod_mul hp (by decide)).symm
    have eb : ((bif bitK k n then 1 else 0 : Nat) : Int) = v / 2 ^ n % 2 := by
      unfold bitK
      rw [← hbit]
      by_cases h1 : v / 2 ^ n % 2 = 1
      · rw [h1]; rfl
      · have : v / 2 ^ n % 2 = 0 := by omega
        rw [this]; rfl
    rw [e, Int.natCast_add, eb, Int.pow_succ, Int.natCast_add]
    generalize v / 2 ^ n % 2 = b
    generalize v % 2 ^ n = r
    generalize (2 : Int) ^ n = p at *
    rw [Int.add_mul, Int.add_mul, Int.mul_comm b p, ← Int.mul_assoc, Int.mul_comm ((a : Int) * p) 2]
    omega
theorem bitsN_whole (k : List Int) (hk : k.length = 32) (hb : byteL k) : ((bitsN k 256 0 : Nat) : Int) = valD 256 k := by
  rw [bitsN_is k hk hb 256 0 (Nat.le_refl _)]
  have h1 := valD_lt8 k hb
  have h0 := valD_nonneg (show (0 : Int) < 256 by decide) k hb
  rw [hk] at h1
  have e : (256 : Int) ^ 32 = 2 ^ 256 := by decide
  rw [e] at h1
  rw [Int.emod_eq_of_lt h0 h1]
  simp
theorem LL_same : LL = Sc.LL32 := by decide
theorem nt_order (m : Nat) : PE (nt baseP m) (nt baseP (m % LLn.toNat)) := by
  have hL : (bitsN LL 256 0 : Nat) = LLn.toNat := by
    have := bitsN_whole LL rfl (by rw [LL_same]; exact Sc.LL_in)
    rw [LL_same, Sc.LL_val] at this
    rw [LL_same]
    omega
  have hO := ord_nt
  rw [hL] at hO
  have hb : OnP baseP := on_base
  have e : m = LLn.toNat * (m / LLn.toNat) + m % LLn.toNat := (Nat.div_add_mod _ _).symm
  generalize m / LLn.toNat = q at e
  generalize m % LLn.toNat = r at *
  subst e
  refine (nt_add hb (LLn.toNat * q) r).trans ?_
  generalize LLn.toNat = l at *
  have h1 : PE (nt baseP (l * q)) o0 := (nt_mul hb l q).trans ((nt_cong (hb.nt l) on_o0 hO q).trans (nt_o0 q))
  exact (ad_cong (hb.nt _) (hb.nt _) on_o0 (hb.nt _) h1 (PE.refl _)).trans (zero_ad (hb.nt _))
theorem law5 (a b : List Int) (w0 : a.length = 32) (r0 : ∀ y ∈ a, inK .u8 y) (w1 : b.length = 32) (r1 : ∀ y ∈ b, inK .u8 y) : raw5 a b = some [.b true] := by
  have ra : byteL a := fun y hy => by have := r0 y hy; simp only [inK] at this; omega
  have rb : byteL b := fun y hy => by have := r1 y hy; simp only [inK] at this; omega
  unfold raw5
  rw [base_enc, base_enc, base_enc]
  obtain ⟨h1, h2⟩ := base_nt a
  obtain ⟨k1, k2⟩ := base_nt b
  obtain ⟨s1, s2⟩ := base_nt (sadL a b)
  have hs : bitsN (sadL a b) 256 0 = (bitsN a 256 0 + bitsN b 256 0) % LLn.toNat := by
    have e1 := bitsN_whole a w0 ra
    have e2 := bitsN_whole b w1 rb
    have e3 := bitsN_whole (sadL a b) (digs_len _ _ _) (digs_in _ _)
    have e4 : valD 256 (sadL a b) = (valD 256 a + valD 256 b) % LLn := by
      unfold sadL
      rw [valD_digs (by decide), Int.emod_eq_of_lt (Int.emod_nonneg _ (by decide)) (Int.lt_trans (Int.emod_lt_of_pos _ (by decide)) (by decide))]
    rw [e4, ← e1, ← e2] at e3
    have : LLn = ((LLn.toNat : Nat) : Int) := by decide
    rw [this] at e3
    exact_mod_cast e3
  rw [hs] at s1
  have hb : OnP baseP := on_base
  have key : PE (ad (timesA a BX BY 256 (0, 1)) (timesA b BX BY 256 (0, 1))) (timesA (sadL a b) BX BY 256 (0, 1)) :=
    (ad_cong h2 k2 (hb.nt _) (hb.nt _) h1 k1).trans ((nt_add hb _ _).symm.trans ((nt_order _).trans s1.symm))
  generalize timesA a BX BY 256 (0, 1) = q at *
  generalize timesA b BX BY 256 (0, 1) = r at *
  generalize timesA (sadL a b) BX BY 256 (0, 1) = s at *
  have o1 : On q.1 q.2 := h2
  have o2 : On r.1 r.2 := k2
  dsimp only
  rw [enc_ok o1, enc_ok o2, Bool.and_self, cond_true, if_pos rfl, sum_enc o1 o2]
  have := encP key
  simp only [ad] at this
  rw [this, arrEq_self]
end Go.Proofs.Ytibldmjnddppaaa.Fld
