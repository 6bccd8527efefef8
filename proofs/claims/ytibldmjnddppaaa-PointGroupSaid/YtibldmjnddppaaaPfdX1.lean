/- Digits: no program in sight. What the small functions of numbers come to. What loading bytes comes to. A row of a product; sums and differences; the rest. The rest, the sum, the difference. The product of all its bits. -/
import Derived.Test.YtibldmjnddppaaaSimX2
import Derived.Test.YtibldmjnddppaaaProg
namespace Go.Fld
open Go Go.Sim

theorem emod_mul {v b c : Int} (hb : 0 < b) (hc : 0 < c) : v % b + b * (v / b % c) = v % (b * c) := by
  have e1 := Int.emod_add_mul_ediv v b
  have e2 := Int.emod_add_mul_ediv (v / b) c
  have r1 := Int.emod_nonneg v (show b ≠ 0 by omega)
  have r2 := Int.emod_lt_of_pos v hb
  have r3 := Int.emod_nonneg (v / b) (show c ≠ 0 by omega)
  have r4 := Int.emod_lt_of_pos (v / b) hc
  generalize v % b = x at e1 r1 r2 ⊢
  generalize hw : v / b = w at e1 e2 r3 r4 ⊢
  generalize w % c = y at e2 r3 r4 ⊢
  generalize w / c = z at e2
  subst e2
  rw [← e1, show x + b * (y + c * z) = x + b * y + b * c * z by rw [Int.mul_add, Int.mul_assoc, Int.add_assoc], Int.add_mul_emod_self_left, Int.emod_eq_of_lt]
  · have := Int.mul_nonneg (Int.le_of_lt hb) r3; omega
  · have : b * (y + 1) ≤ b * c := Int.mul_le_mul_of_nonneg_left (by omega) (by omega)
    rw [Int.mul_add] at this; omega

/-- the digits of a number, the lowest first -/
def digs (b : Int) : Nat → Int → List Int
  | 0, _ => []
  | n + 1, v => v % b :: digs b n (v / b)

/-- the number of digits -/
def valD (b : Int) : List Int → Int
  | [] => 0
  | a :: l => a + b * valD b l

theorem digs_len (b : Int) : ∀ n v, (digs b n v).length = n
  | 0, _ => rfl
  | n + 1, v => by simp [digs, digs_len b n]

theorem valD_digs {b : Int} (hb : 0 < b) : ∀ (n : Nat) (v : Int), valD b (digs b n v) = v % b ^ n
  | 0, v => by simp [digs, valD]
  | n + 1, v => by
    simp only [digs, valD, valD_digs hb n]
    rw [Int.pow_succ', emod_mul hb (Int.pow_pos hb)]

theorem digs_valD {b : Int} (hb : 0 < b) : ∀ (l : List Int), (∀ y ∈ l, 0 ≤ y ∧ y < b) → digs b l.length (valD b l) = l
  | [], _ => rfl
  | a :: l, h => by
    have ha := h a (by simp)
    simp only [List.length_cons, digs, valD]
    rw [Int.add_mul_emod_self_left, Int.emod_eq_of_lt ha.1 ha.2, Int.add_mul_ediv_left _ _ (by omega), Int.ediv_eq_zero_of_lt ha.1 ha.2, Int.zero_add, digs_valD hb l fun y hy => h y (by simp [hy])]

theorem digs_eq {b : Int} (hb : 0 < b) {l : List Int} {v : Int} {n : Nat} (hl : l.length = n) (h : ∀ y ∈ l, 0 ≤ y ∧ y < b) (hv : valD b l = v) : digs b n v = l := by
  subst hl hv; exact digs_valD hb l h

theorem valD_nonneg {b : Int} (hb : 0 < b) : ∀ (l : List Int), (∀ y ∈ l, 0 ≤ y ∧ y < b) → 0 ≤ valD b l
  | [], _ => by simp [valD]
  | a :: l, h => by
    have ha := h a (by simp)
    have := valD_nonneg hb l fun y hy => h y (by simp [hy])
    have := Int.mul_nonneg (Int.le_of_lt hb) this
    simp only [valD]; omega

theorem valD_lt {b : Int} (hb : 0 < b) : ∀ (l : List Int), (∀ y ∈ l, 0 ≤ y ∧ y < b) → valD b l < b ^ l.length
  | [], _ => by simp [valD]
  | a :: l, h => by
    have ha := h a (by simp)
    have h1 := valD_lt hb l fun y hy => h y (by simp [hy])
    have h2 : b * (valD b l + 1) ≤ b * b ^ l.length := Int.mul_le_mul_of_nonneg_left (by omega) (by omega)
    simp only [valD, List.length_cons, Int.pow_succ']
    rw [Int.mul_add] at h2
    omega

theorem digs_range {b : Int} (hb : 0 < b) : ∀ (n : Nat) (v : Int), ∀ y ∈ digs b n v, 0 ≤ y ∧ y < b
  | 0, _, y, h => by simp [digs] at h
  | n + 1, v, y, h => by
    simp only [digs, List.mem_cons] at h
    rcases h with rfl | h
    · exact ⟨Int.emod_nonneg _ (by omega), Int.emod_lt_of_pos _ hb⟩
    · exact digs_range hb n _ y h

abbrev B64 : Int := 18446744073709551616
/-- a number of 256 bits in limbs of 64 -/
def dg4 (v : Int) : List Int := digs 18446744073709551616 4 v
def v4 (l : List Int) : Int := valD 18446744073709551616 l
/-- twice as many -/
def dg8 (v : Int) : List Int := digs 18446744073709551616 8 v
def v8 (l : List Int) : Int := valD 18446744073709551616 l
/-- bytes -/
def dg32 (v : Int) : List Int := digs 256 32 v
def v32 (l : List Int) : Int := valD 256 l
/-- limbs of 16 bits -/
def dg16 (v : Int) : List Int := digs 65536 16 v
def v16 (l : List Int) : Int := valD 65536 l

abbrev Q : Int := 115792089237316195423570985008687907853269984665640564039457584007913129639936
/-- 2^255 - 19 -/
abbrev p : Int := 57896044618658097711785492504343953926634992332820282019728792003956564819949

theorem v4_dg4 (v : Int) : v4 (dg4 v) = v % Q := by
  unfold v4 dg4; rw [valD_digs (by decide)]; rfl
theorem v4_in {v : Int} (h : 0 ≤ v) (h' : v < Q) : v4 (dg4 v) = v := by rw [v4_dg4, Int.emod_eq_of_lt h h']
theorem v32_dg32 (v : Int) : v32 (dg32 v) = v % Q := by
  unfold v32 dg32; rw [valD_digs (by decide)]; rfl
theorem v32_in {v : Int} (h : 0 ≤ v) (h' : v < Q) : v32 (dg32 v) = v := by rw [v32_dg32, Int.emod_eq_of_lt h h']
theorem v16_dg16 (v : Int) : v16 (dg16 v) = v % Q := by
  unfold v16 dg16; rw [valD_digs (by decide)]; rfl
theorem v16_in {v : Int} (h : 0 ≤ v) (h' : v < Q) : v16 (dg16 v) = v := by rw [v16_dg16, Int.emod_eq_of_lt h h']

theorem dg4_v4 {l : List Int} (hl : l.length = 4) (h : ∀ y ∈ l, 0 ≤ y ∧ y < 18446744073709551616) : dg4 (v4 l) = l := digs_eq (by decide) hl h rfl
theorem dg32_v32 {l : List Int} (hl : l.length = 32) (h : ∀ y ∈ l, 0 ≤ y ∧ y < 256) : dg32 (v32 l) = l := digs_eq (by decide) hl h rfl
theorem dg16_v16 {l : List Int} (hl : l.length = 16) (h : ∀ y ∈ l, 0 ≤ y ∧ y < 65536) : dg16 (v16 l) = l := digs_eq (by decide) hl h rfl

theorem v4_lo {l : List Int} (h : ∀ y ∈ l, 0 ≤ y ∧ y < 18446744073709551616) : 0 ≤ v4 l := valD_nonneg (by decide) l h
theorem v4_hi {l : List Int} (hl : l.length = 4) (h : ∀ y ∈ l, 0 ≤ y ∧ y < 18446744073709551616) : v4 l < Q := by
  have := valD_lt (b := 18446744073709551616) (by decide) l h
  rw [hl] at this; exact this
theorem v32_lo {l : List Int} (h : ∀ y ∈ l, 0 ≤ y ∧ y < 256) : 0 ≤ v32 l := valD_nonneg (by decide) l h
theorem v32_hi {l : List Int} (hl : l.length = 32) (h : ∀ y ∈ l, 0 ≤ y ∧ y < 256) : v32 l < Q := by
  have := valD_lt (b := 256) (by decide) l h
  rw [hl] at this; exact this

theorem v16_lo {l : List Int} (h : ∀ y ∈ l, 0 ≤ y ∧ y < 65536) : 0 ≤ v16 l := valD_nonneg (by decide) l h
theorem v16_hi {l : List Int} (hl : l.length = 16) (h : ∀ y ∈ l, 0 ≤ y ∧ y < 65536) : v16 l < Q := by
  have := valD_lt (b := 65536) (by decide) l h
  rw [hl] at this; exact this
/-! carries and borrows -/
theorem add64S_eq {x y c : Int} (hx : 0 ≤ x) (hy : 0 ≤ y) (hc : 0 ≤ c) : add64S x y c = (x + y + c) % 18446744073709551616 := by unfold add64S; omega
theorem add64C_eq {x y c : Int} (hx : 0 ≤ x) (hy : 0 ≤ y) (hc : 0 ≤ c) : add64C x y c = (x + y + c) / 18446744073709551616 := by unfold add64C; omega
theorem sub64D_eq {x y c : Int} (hx : 0 ≤ x) (hx' : x < 18446744073709551616) (hy : 0 ≤ y) (hy' : y < 18446744073709551616) (hc : 0 ≤ c) (hc' : c ≤ 1) :
    sub64D x y c = (x - y - c) % 18446744073709551616 := by unfold sub64D; omega
theorem sub64B_eq {x y c : Int} (hx : 0 ≤ x) (hy : 0 ≤ y) (hc : 0 ≤ c) : sub64B x y c = if x - y - c < 0 then 1 else 0 := by
  unfold sub64B
  by_cases h : x.toNat < y.toNat + c.toNat
  · rw [if_pos h, if_pos (by omega)]
  · rw [if_neg h, if_neg (by omega)]
theorem bit01_of {c : Int} (h : c ≤ 1) : bit01 c = true := by unfold bit01; rw [Nat.ble_eq]; omega

/-! bits -/
theorem ofInt_nat (w a : Nat) (h : a < 2 ^ w) : (BitVec.ofInt w (a : Int)).toNat = a := by
  rw [BitVec.ofInt_natCast, BitVec.toNat_ofNat, Nat.mod_eq_of_lt h]

theorem orI_nat {a b : Nat} (ha : a < 2 ^ 64) (hb : b < 2 ^ 64) : orI .u64 (a : Int) (b : Int) = ((a ||| b : Nat) : Int) := by
  unfold orI
  have h := Nat.or_lt_two_pow ha hb
  rw [wr_eq, BitVec.toNat_or, show IntKind.u64.bits = 64 from rfl, ofInt_nat 64 a ha, ofInt_nat 64 b hb]
  simp only [wr]
  exact Int.emod_eq_of_lt (by omega) (by omega)
theorem andI_nat {a b : Nat} (ha : a < 2 ^ 64) (hb : b < 2 ^ 64) : andI .u64 (a : Int) (b : Int) = ((a &&& b : Nat) : Int) := by
  unfold andI
  have h := Nat.and_lt_two_pow a hb
  rw [wr_eq, BitVec.toNat_and, show IntKind.u64.bits = 64 from rfl, ofInt_nat 64 a ha, ofInt_nat 64 b hb]
  simp only [wr]
  exact Int.emod_eq_of_lt (by omega) (by omega)
theorem orI_nat8 {a b : Nat} (ha : a < 2 ^ 8) (hb : b < 2 ^ 8) : orI .u8 (a : Int) (b : Int) = ((a ||| b : Nat) : Int) := by
  unfold orI
  have h := Nat.or_lt_two_pow ha hb
  rw [wr_eq, BitVec.toNat_or, show IntKind.u8.bits = 8 from rfl, ofInt_nat 8 a ha, ofInt_nat 8 b hb]
  simp only [wr]
  exact Int.emod_eq_of_lt (by omega) (by omega)
theorem andI_nat8 {a b : Nat} (ha : a < 2 ^ 8) (hb : b < 2 ^ 8) : andI .u8 (a : Int) (b : Int) = ((a &&& b : Nat) : Int) := by
  unfold andI
  have h := Nat.and_lt_two_pow a hb
  rw [wr_eq, BitVec.toNat_and, show IntKind.u8.bits = 8 from rfl, ofInt_nat 8 a ha, ofInt_nat 8 b hb]
  simp only [wr]
  exact Int.emod_eq_of_lt (by omega) (by omega)

/-- what lies above is added -/
theorem orI_add (m : Nat) {M x y : Int} (hM : ((2 ^ m : Nat) : Int) = M) (hx : 0 ≤ x) (hx' : x < M) (hy : 0 ≤ y) (hs : x + y * M < 18446744073709551616) : orI .u64 x (y * M) = x + y * M := by
  obtain ⟨a, rfl⟩ := Int.eq_ofNat_of_zero_le hx
  obtain ⟨b, rfl⟩ := Int.eq_ofNat_of_zero_le hy
  subst hM
  have hb2 : ((b : Int) * ((2 ^ m : Nat) : Int)) = ((b * 2 ^ m : Nat) : Int) := (Int.natCast_mul _ _).symm
  rw [hb2] at hs ⊢
  have ha : a < 2 ^ m := by omega
  rw [orI_nat (by omega) (by omega), Nat.or_comm, Nat.mul_comm, ← Nat.two_pow_add_eq_or_of_lt ha]
  omega
/-- the lowest bits -/
theorem andI_mod (m : Nat) {M x : Int} (hM : ((2 ^ m : Nat) : Int) = M) (hm : m ≤ 64) (hx : 0 ≤ x) (hx' : x < 18446744073709551616) : andI .u64 x (M - 1) = x % M := by
  obtain ⟨a, rfl⟩ := Int.eq_ofNat_of_zero_le hx
  subst hM
  have h1 : (1 : Nat) ≤ 2 ^ m := Nat.one_le_two_pow
  have h2 : 2 ^ m ≤ 2 ^ 64 := Nat.pow_le_pow_right (by omega) hm
  rw [show ((2 ^ m : Nat) : Int) - 1 = ((2 ^ m - 1 : Nat) : Int) by omega, andI_nat (by omega) (by omega), Nat.and_two_pow_sub_one_eq_mod]
  omega

theorem digs_mod {b : Int} (hb : 0 < b) : ∀ (n : Nat) (v : Int), digs b n (v % b ^ n) = digs b n v := by
  intro n v
  have h := digs_valD hb (digs b n v) (digs_range hb n v)
  rw [digs_len, valD_digs hb] at h
  exact h
theorem dg4_add (v k : Int) : dg4 (v + Q * k) = dg4 v := by
  unfold dg4
  rw [← digs_mod (by decide) 4 (v + Q * k), ← digs_mod (by decide) 4 v]
  congr 1
  exact Int.add_mul_emod_self_left v Q k
theorem dg16_add (v k : Int) : dg16 (v + Q * k) = dg16 v := by
  unfold dg16
  rw [← digs_mod (by decide) 16 (v + Q * k), ← digs_mod (by decide) 16 v]
  congr 1
  exact Int.add_mul_emod_self_left v Q k
theorem dg4_mod (v : Int) : dg4 (v % Q) = dg4 v := digs_mod (by decide) 4 v

/-- what is above 2^256 folded in -/
def fo (v : Int) : Int := v % Q + 38 * (v / Q)
/-- what is below 0 -/
def bo (v : Int) : Int := if v < 0 then v + Q - 38 else v
theorem fo_mod (v : Int) : fo v % p = v % p := by simp only [fo, Q, p]; omega
theorem bo_mod (v : Int) : bo v % p = v % p := by simp only [bo, Q, p]; split <;> omega

/-- a row added -/
def rowW (x : List Int) (at' : Int) (a : List Int) (b : Int) : List Int := dg8 (v8 x + 18446744073709551616 ^ at'.toNat * (v4 a * b))

/-- a product, as the program has it -/
def pr (x y : Int) : Int := fo (fo (fo (x * y)))
theorem pr_mod (x y : Int) : pr x y % p = x * y % p := by unfold pr; rw [fo_mod, fo_mod, fo_mod]
theorem pr_in {x y : Int} (hx : 0 ≤ x) (hx' : x < Q) (hy : 0 ≤ y) (hy' : y < Q) : 0 ≤ pr x y ∧ pr x y < Q := by
  unfold pr
  simp only [Q] at hx' hy'
  have h1 : x * y ≤ 115792089237316195423570985008687907853269984665640564039457584007913129639935 * y := Int.mul_le_mul_of_nonneg_right (by omega) hy
  have h0 := Int.mul_nonneg hx hy
  have hX : x * y < 13407807929942597099574024998205846127479365820592393377723561443721764030073546976801874298166903427690031858186486050853753882811946569946433649006084096 := by omega
  generalize x * y = X at *
  simp only [fo, Q]
  omega
/-- a power, bit by bit from the highest of 'n' on -/
def powF (a e : Int) : Nat → Int → Int
  | 0, x => x
  | n + 1, x => powF a e n (if e / 2 ^ n % 2 = 1 then pr (pr x x) a else pr x x)
theorem powF_in {a e : Int} (ha : 0 ≤ a) (ha' : a < Q) : ∀ (n : Nat) (x : Int), 0 ≤ x → x < Q → 0 ≤ powF a e n x ∧ powF a e n x < Q
  | 0, x, h, h' => ⟨h, h'⟩
  | n + 1, x, h, h' => by
    have h1 := pr_in h h' h h'
    have h2 := pr_in h1.1 h1.2 ha ha'
    simp only [powF]
    apply powF_in ha ha' n <;> split <;> omega
theorem pow_emod (a m : Int) : ∀ n : Nat, (a % m) ^ n % m = a ^ n % m
  | 0 => by simp
  | n + 1 => by rw [Int.pow_succ, Int.pow_succ, Int.mul_emod, pow_emod a m n, Int.emod_emod, ← Int.mul_emod]
theorem powF_mod {a e : Int} : ∀ (n : Nat) (x : Int), powF a e n x % p = x ^ (2 ^ n) * a ^ (e % 2 ^ n).toNat % p
  | 0, x => by simp [powF, Int.emod_one, Int.pow_succ]
  | n + 1, x => by
    simp only [powF]
    rw [powF_mod n]
    have hp : (0 : Int) < 2 ^ n := Int.pow_pos (by decide)
    have e1 : e % 2 ^ (n + 1) = e % 2 ^ n + 2 ^ n * (e / 2 ^ n % 2) := by rw [Int.pow_succ, ← emod_mul hp (by decide)]
    have r1 := Int.emod_nonneg e (show (2 : Int) ^ n ≠ 0 by omega)
    have hpn : ((2 : Int) ^ n).toNat = 2 ^ n := by
      rw [show (2 : Int) ^ n = ((2 ^ n : Nat) : Int) by push_cast; rfl]; rfl
    have hsq : pr x x % p = x ^ 2 % p := by rw [pr_mod]; congr 1; grind
    by_cases h : e / 2 ^ n % 2 = 1
    · rw [if_pos h, e1, h, Int.mul_one]
      have e2 : (e % 2 ^ n + 2 ^ n).toNat = (e % 2 ^ n).toNat + 2 ^ n := by rw [Int.toNat_add r1 (by omega), hpn]
      have key : pr (pr x x) a % p = x ^ 2 * a % p := by rw [pr_mod, Int.mul_emod, hsq, ← Int.mul_emod]
      rw [e2, Int.mul_emod, ← pow_emod, key, pow_emod, ← Int.mul_emod]
      congr 1
      rw [Int.mul_pow, ← Int.pow_mul, Int.pow_add, ← Nat.pow_succ']
      grind
    · have h0 : e / 2 ^ n % 2 = 0 := by omega
      rw [if_neg h, e1, h0, Int.mul_zero, Int.add_zero, Int.mul_emod, ← pow_emod, hsq, pow_emod, ← Int.mul_emod, ← Int.pow_mul, ← Nat.pow_succ']
end Go.Fld
set_option linter.unusedVariables false
set_option maxRecDepth 100000
namespace Go.Proofs.Ytibldmjnddppaaa.Fld
open Go Go.Sim
open Go.Proofs

theorem mix : Try.prog.follows .mixedOrders = true := by kernel_rfl
theorem ok73 : EntryOk Try.prog 73 (.pure sub64F.sem) := sub64_ok Try.func73 (by kernel_rfl) (by kernel_rfl) (by kernel_rfl) (by kernel_rfl)
theorem ok75 : EntryOk Try.prog 75 (.pure add64F.sem) := add64_ok Try.func75 (by kernel_rfl) (by kernel_rfl) (by kernel_rfl) (by kernel_rfl)
/-! ### 61: towpath/field.prime (pure) -/
noncomputable def env61 : List (FuncId × Entry) := []
theorem envOk61 : EnvOk Try.prog (envOf env61) := envOf_ok (all_nil)
def raw61  : Option (List Hv) := some [.l ([18446744073709551597, 18446744073709551615, 18446744073709551615, 9223372036854775807])]
theorem l61 : LamOk Try.prog (lamOf []) (codeOf Try.f61) := lamOk_nil
def G61 : GFn := ⟨[], .arr .u64 4, apH [] raw61⟩
theorem ok61 : EntryOk Try.prog 61 (.pure G61.sem) := gfn_pure (u := 70) envOk61 mix Try.func61 (by kernel_rfl) (by kernel_rfl) l61 G61 (by kernel_rfl) (by kernel_rfl) [] rfl (by show _ = _; kernel_rfl)
/-! ### 38: towpath/field.Small (pure) -/
noncomputable def env38 : List (FuncId × Entry) := []
theorem envOk38 : EnvOk Try.prog (envOf env38) := envOf_ok (all_nil)
def raw38 (a0 : Int) : Option (List Hv) := some [.l ([a0, 0, 0, 0])]
theorem l38 : LamOk Try.prog (lamOf []) (codeOf Try.f38) := lamOk_nil
def G38 : GFn := ⟨[.int .u64], .arr .u64 4, apH [.i] raw38⟩
theorem ok38 : EntryOk Try.prog 38 (.pure G38.sem) := gfn_pure (u := 70) envOk38 mix Try.func38 (by kernel_rfl) (by kernel_rfl) l38 G38 (by kernel_rfl) (by kernel_rfl) [.i] rfl (fun a0 => by show _ = _; kernel_rfl)
theorem at38 (a0 : Int) : G38.fn [.i a0] = raw38 a0 := (congrFun (show G38.fn = apH [.i] raw38 from rfl) _).trans ((fun F => rfl : ∀ F : Int → Option (List Hv), apH [.i] F [.i a0] = F a0) raw38)
/-! ### 37: towpath/field.Load (pure) -/
noncomputable def env37 : List (FuncId × Entry) := []
theorem envOk37 : EnvOk Try.prog (envOf env37) := envOf_ok (all_nil)
def raw37 (a0_0 a0_1 a0_2 a0_3 a0_4 a0_5 a0_6 a0_7 a0_8 a0_9 a0_10 a0_11 a0_12 a0_13 a0_14 a0_15 a0_16 a0_17 a0_18 a0_19 a0_20 a0_21 a0_22 a0_23 a0_24 a0_25 a0_26 a0_27 a0_28 a0_29 a0_30 a0_31 : Int) : Option (List Hv) := some [.l ([orI .u64 (orI .u64 (orI .u64 (orI .u64 (orI .u64 (orI .u64 (orI .u64 (orI .u64 (0) (wr .u64 ((wr .u64 (a0_0)) * 1))) (wr .u64 ((wr .u64 (a0_1)) * 256))) (wr .u64 ((wr .u64 (a0_2)) * 65536))) (wr .u64 ((wr .u64 (a0_3)) * 16777216))) (wr .u64 ((wr .u64 (a0_4)) * 4294967296))) (wr .u64 ((wr .u64 (a0_5)) * 1099511627776))) (wr .u64 ((wr .u64 (a0_6)) * 281474976710656))) (wr .u64 ((wr .u64 (a0_7)) * 72057594037927936)), orI .u64 (orI .u64 (orI .u64 (orI .u64 (orI .u64 (orI .u64 (orI .u64 (orI .u64 (0) (wr .u64 ((wr .u64 (a0_8)) * 1))) (wr .u64 ((wr .u64 (a0_9)) * 256))) (wr .u64 ((wr .u64 (a0_10)) * 65536))) (wr .u64 ((wr .u64 (a0_11)) * 16777216))) (wr .u64 ((wr .u64 (a0_12)) * 4294967296))) (wr .u64 ((wr .u64 (a0_13)) * 1099511627776))) (wr .u64 ((wr .u64 (a0_14)) * 281474976710656))) (wr .u64 ((wr .u64 (a0_15)) * 72057594037927936)), orI .u64 (orI .u64 (orI .u64 (orI .u64 (orI .u64 (orI .u64 (orI .u64 (orI .u64 (0) (wr .u64 ((wr .u64 (a0_16)) * 1))) (wr .u64 ((wr .u64 (a0_17)) * 256))) (wr .u64 ((wr .u64 (a0_18)) * 65536))) (wr .u64 ((wr .u64 (a0_19)) * 16777216))) (wr .u64 ((wr .u64 (a0_20)) * 4294967296))) (wr .u64 ((wr .u64 (a0_21)) * 1099511627776))) (wr .u64 ((wr .u64 (a0_22)) * 281474976710656))) (wr .u64 ((wr .u64 (a0_23)) * 72057594037927936)), orI .u64 (orI .u64 (orI .u64 (orI .u64 (orI .u64 (orI .u64 (orI .u64 (orI .u64 (0) (wr .u64 ((wr .u64 (a0_24)) * 1))) (wr .u64 ((wr .u64 (a0_25)) * 256))) (wr .u64 ((wr .u64 (a0_26)) * 65536))) (wr .u64 ((wr .u64 (a0_27)) * 16777216))) (wr .u64 ((wr .u64 (a0_28)) * 4294967296))) (wr .u64 ((wr .u64 (a0_29)) * 1099511627776))) (wr .u64 ((wr .u64 (a0_30)) * 281474976710656))) (wr .u64 ((wr .u64 (a0_31)) * 72057594037927936))])]
theorem l37 : LamOk Try.prog (lamOf []) (codeOf Try.f37) := lamOk_nil
def G37 : GFn := ⟨[.arr .u8 32], .arr .u64 4, apH [.x 32] raw37⟩
theorem ok37 : EntryOk Try.prog 37 (.pure G37.sem) := gfn_pure (u := 70) envOk37 mix Try.func37 (by kernel_rfl) (by kernel_rfl) l37 G37 (by kernel_rfl) (by kernel_rfl) [.x 32] rfl (fun a0_0 a0_1 a0_2 a0_3 a0_4 a0_5 a0_6 a0_7 a0_8 a0_9 a0_10 a0_11 a0_12 a0_13 a0_14 a0_15 a0_16 a0_17 a0_18 a0_19 a0_20 a0_21 a0_22 a0_23 a0_24 a0_25 a0_26 a0_27 a0_28 a0_29 a0_30 a0_31 => by show _ = _; kernel_rfl)
theorem at37 (a0_0 a0_1 a0_2 a0_3 a0_4 a0_5 a0_6 a0_7 a0_8 a0_9 a0_10 a0_11 a0_12 a0_13 a0_14 a0_15 a0_16 a0_17 a0_18 a0_19 a0_20 a0_21 a0_22 a0_23 a0_24 a0_25 a0_26 a0_27 a0_28 a0_29 a0_30 a0_31 : Int) : G37.fn [.l [a0_0, a0_1, a0_2, a0_3, a0_4, a0_5, a0_6, a0_7, a0_8, a0_9, a0_10, a0_11, a0_12, a0_13, a0_14, a0_15, a0_16, a0_17, a0_18, a0_19, a0_20, a0_21, a0_22, a0_23, a0_24, a0_25, a0_26, a0_27, a0_28, a0_29, a0_30, a0_31]] = raw37 a0_0 a0_1 a0_2 a0_3 a0_4 a0_5 a0_6 a0_7 a0_8 a0_9 a0_10 a0_11 a0_12 a0_13 a0_14 a0_15 a0_16 a0_17 a0_18 a0_19 a0_20 a0_21 a0_22 a0_23 a0_24 a0_25 a0_26 a0_27 a0_28 a0_29 a0_30 a0_31 := (congrFun (show G37.fn = apH [.x 32] raw37 from rfl) _).trans ((fun F => rfl : ∀ F : Int → Int → Int → Int → Int → Int → Int → Int → Int → Int → Int → Int → Int → Int → Int → Int → Int → Int → Int → Int → Int → Int → Int → Int → Int → Int → Int → Int → Int → Int → Int → Int → Option (List Hv), apH [.x 32] F [.l [a0_0, a0_1, a0_2, a0_3, a0_4, a0_5, a0_6, a0_7, a0_8, a0_9, a0_10, a0_11, a0_12, a0_13, a0_14, a0_15, a0_16, a0_17, a0_18, a0_19, a0_20, a0_21, a0_22, a0_23, a0_24, a0_25, a0_26, a0_27, a0_28, a0_29, a0_30, a0_31]] = F a0_0 a0_1 a0_2 a0_3 a0_4 a0_5 a0_6 a0_7 a0_8 a0_9 a0_10 a0_11 a0_12 a0_13 a0_14 a0_15 a0_16 a0_17 a0_18 a0_19 a0_20 a0_21 a0_22 a0_23 a0_24 a0_25 a0_26 a0_27 a0_28 a0_29 a0_30 a0_31) raw37)
/-! ### 60: towpath/field.less (pure) -/
noncomputable def env60 : List (FuncId × Entry) := []
theorem envOk60 : EnvOk Try.prog (envOf env60) := envOf_ok (all_nil)
def raw60 (a0_0 a0_1 a0_2 a0_3 : Int) (a1_0 a1_1 a1_2 a1_3 : Int) : Option (List Hv) := bif (a0_3) != (a1_3) then (some [.b (decide ((a0_3) < (a1_3)))]) else (bif (a0_2) != (a1_2) then (some [.b (decide ((a0_2) < (a1_2)))]) else (bif (a0_1) != (a1_1) then (some [.b (decide ((a0_1) < (a1_1)))]) else (bif (a0_0) != (a1_0) then (some [.b (decide ((a0_0) < (a1_0)))]) else (some [.b (false)]))))
theorem l60 : LamOk Try.prog (lamOf []) (codeOf Try.f60) := lamOk_nil
def G60 : GFn := ⟨[.arr .u64 4, .arr .u64 4], .bool, apH [.x 4, .x 4] raw60⟩
theorem ok60 : EntryOk Try.prog 60 (.pure G60.sem) := gfn_pure (u := 70) envOk60 mix Try.func60 (by kernel_rfl) (by kernel_rfl) l60 G60 (by kernel_rfl) (by kernel_rfl) [.x 4, .x 4] rfl (fun a0_0 a0_1 a0_2 a0_3 a1_0 a1_1 a1_2 a1_3 => by show _ = _; kernel_rfl)
theorem at60 (a0_0 a0_1 a0_2 a0_3 : Int) (a1_0 a1_1 a1_2 a1_3 : Int) : G60.fn [.l [a0_0, a0_1, a0_2, a0_3], .l [a1_0, a1_1, a1_2, a1_3]] = raw60 a0_0 a0_1 a0_2 a0_3 a1_0 a1_1 a1_2 a1_3 := (congrFun (show G60.fn = apH [.x 4, .x 4] raw60 from rfl) _).trans ((fun F => rfl : ∀ F : Int → Int → Int → Int → Int → Int → Int → Int → Option (List Hv), apH [.x 4, .x 4] F [.l [a0_0, a0_1, a0_2, a0_3], .l [a1_0, a1_1, a1_2, a1_3]] = F a0_0 a0_1 a0_2 a0_3 a1_0 a1_1 a1_2 a1_3) raw60)
/-! ### 55: towpath/field.minus (pure) -/
noncomputable def env55 : List (FuncId × Entry) := [(73, .pure sub64F.sem)]
theorem envOk55 : EnvOk Try.prog (envOf env55) := envOf_ok (all_cons ok73 (all_nil))
def raw55 (a0_0 a0_1 a0_2 a0_3 : Int) (a1_0 a1_1 a1_2 a1_3 : Int) : Option (List Hv) := let x1 : Int := sub64B (a0_0) (a1_0) (0); bif bit01 (x1) then (let x2 : Int := sub64B (a0_1) (a1_1) (x1); bif bit01 (x2) then (let x3 : Int := sub64B (a0_2) (a1_2) (x2); bif bit01 (x3) then (some [.l ([sub64D (a0_0) (a1_0) (0), sub64D (a0_1) (a1_1) (x1), sub64D (a0_2) (a1_2) (x2), sub64D (a0_3) (a1_3) (x3)]), .i (sub64B (a0_3) (a1_3) (x3))]) else none) else none) else none
theorem l55 : LamOk Try.prog (lamOf []) (codeOf Try.f55) := lamOk_nil
def G55 : GFn := ⟨[.arr .u64 4, .arr .u64 4], .tup [.arr .u64 4, .int .u64], apH [.x 4, .x 4] raw55⟩
theorem ok55 : EntryOk Try.prog 55 (.pure G55.sem) := gfn_pure (u := 70) envOk55 mix Try.func55 (by kernel_rfl) (by kernel_rfl) l55 G55 (by kernel_rfl) (by kernel_rfl) [.x 4, .x 4] rfl (fun a0_0 a0_1 a0_2 a0_3 a1_0 a1_1 a1_2 a1_3 => by show _ = _; kernel_rfl)
theorem at55 (a0_0 a0_1 a0_2 a0_3 : Int) (a1_0 a1_1 a1_2 a1_3 : Int) : G55.fn [.l [a0_0, a0_1, a0_2, a0_3], .l [a1_0, a1_1, a1_2, a1_3]] = raw55 a0_0 a0_1 a0_2 a0_3 a1_0 a1_1 a1_2 a1_3 := (congrFun (show G55.fn = apH [.x 4, .x 4] raw55 from rfl) _).trans ((fun F => rfl : ∀ F : Int → Int → Int → Int → Int → Int → Int → Int → Option (List Hv), apH [.x 4, .x 4] F [.l [a0_0, a0_1, a0_2, a0_3], .l [a1_0, a1_1, a1_2, a1_3]] = F a0_0 a0_1 a0_2 a0_3 a1_0 a1_1 a1_2 a1_3) raw55)
/-! ### 64: towpath/field.plus (pure) -/
noncomputable def env64 : List (FuncId × Entry) := [(75, .pure add64F.sem)]
theorem envOk64 : EnvOk Try.prog (envOf env64) := envOf_ok (all_cons ok75 (all_nil))
def raw64 (a0_0 a0_1 a0_2 a0_3 : Int) (a1_0 a1_1 a1_2 a1_3 : Int) : Option (List Hv) := let x1 : Int := add64C (a0_0) (a1_0) (0); bif bit01 (x1) then (let x2 : Int := add64C (a0_1) (a1_1) (x1); bif bit01 (x2) then (let x3 : Int := add64C (a0_2) (a1_2) (x2); bif bit01 (x3) then (some [.l ([add64S (a0_0) (a1_0) (0), add64S (a0_1) (a1_1) (x1), add64S (a0_2) (a1_2) (x2), add64S (a0_3) (a1_3) (x3)]), .i (add64C (a0_3) (a1_3) (x3))]) else none) else none) else none
theorem l64 : LamOk Try.prog (lamOf []) (codeOf Try.f64) := lamOk_nil
def G64 : GFn := ⟨[.arr .u64 4, .arr .u64 4], .tup [.arr .u64 4, .int .u64], apH [.x 4, .x 4] raw64⟩
theorem ok64 : EntryOk Try.prog 64 (.pure G64.sem) := gfn_pure (u := 70) envOk64 mix Try.func64 (by kernel_rfl) (by kernel_rfl) l64 G64 (by kernel_rfl) (by kernel_rfl) [.x 4, .x 4] rfl (fun a0_0 a0_1 a0_2 a0_3 a1_0 a1_1 a1_2 a1_3 => by show _ = _; kernel_rfl)
theorem at64 (a0_0 a0_1 a0_2 a0_3 : Int) (a1_0 a1_1 a1_2 a1_3 : Int) : G64.fn [.l [a0_0, a0_1, a0_2, a0_3], .l [a1_0, a1_1, a1_2, a1_3]] = raw64 a0_0 a0_1 a0_2 a0_3 a1_0 a1_1 a1_2 a1_3 := (congrFun (show G64.fn = apH [.x 4, .x 4] raw64 from rfl) _).trans ((fun F => rfl : ∀ F : Int → Int → Int → Int → Int → Int → Int → Int → Option (List Hv), apH [.x 4, .x 4] F [.l [a0_0, a0_1, a0_2, a0_3], .l [a1_0, a1_1, a1_2, a1_3]] = F a0_0 a0_1 a0_2 a0_3 a1_0 a1_1 a1_2 a1_3) raw64)
/-! ### 66: towpath/field.shifted (pure) -/
noncomputable def env66 : List (FuncId × Entry) := []
theorem envOk66 : EnvOk Try.prog (envOf env66) := envOf_ok (all_nil)
def raw66 (a0_0 a0_1 a0_2 a0_3 : Int) (a1 : Int) : Option (List Hv) := bif decide ((a1) < 0) then none else (let x1 : Int := wr .u64 ((64) - (a1)); bif decide ((x1) < 0) then none else (bif decide ((a1) < 0) then none else (let x2 : Int := wr .u64 ((64) - (a1)); bif decide ((x2) < 0) then none else (bif decide ((a1) < 0) then none else (let x3 : Int := wr .u64 ((64) - (a1)); bif decide ((x3) < 0) then none else (bif decide ((a1) < 0) then none else (some [.l ([orI .u64 ((a0_0) / (2 ^ (min (a1).toNat 64))) (wr .u64 ((a0_1) * 2 ^ (min (x1).toNat 64))), orI .u64 ((a0_1) / (2 ^ (min (a1).toNat 64))) (wr .u64 ((a0_2) * 2 ^ (min (x2).toNat 64))), orI .u64 ((a0_2) / (2 ^ (min (a1).toNat 64))) (wr .u64 ((a0_3) * 2 ^ (min (x3).toNat 64))), (a0_3) / (2 ^ (min (a1).toNat 64))])])))))))
theorem l66 : LamOk Try.prog (lamOf []) (codeOf Try.f66) := lamOk_nil
def G66 : GFn := ⟨[.arr .u64 4, .int .u64], .arr .u64 4, apH [.x 4, .i] raw66⟩
theorem ok66 : EntryOk Try.prog 66 (.pure G66.sem) := gfn_pure (u := 70) envOk66 mix Try.func66 (by kernel_rfl) (by kernel_rfl) l66 G66 (by kernel_rfl) (by kernel_rfl) [.x 4, .i] rfl (fun a0_0 a0_1 a0_2 a0_3 a1 => by show _ = _; kernel_rfl)
theorem at66 (a0_0 a0_1 a0_2 a0_3 : Int) (a1 : Int) : G66.fn [.l [a0_0, a0_1, a0_2, a0_3], .i a1] = raw66 a0_0 a0_1 a0_2 a0_3 a1 := (congrFun (show G66.fn = apH [.x 4, .i] raw66 from rfl) _).trans ((fun F => rfl : ∀ F : Int → Int → Int → Int → Int → Option (List Hv), apH [.x 4, .i] F [.l [a0_0, a0_1, a0_2, a0_3], .i a1] = F a0_0 a0_1 a0_2 a0_3 a1) raw66)
/-! ### 74: math/bits.Mul64 (pure) -/
noncomputable def env74 : List (FuncId × Entry) := []
theorem envOk74 : EnvOk Try.prog (envOf env74) := envOf_ok (all_nil)
def raw74 (a0 : Int) (a1 : Int) : Option (List Hv) := let x1 : Int := (a0) / 4294967296; let x2 : Int := (a1) / 4294967296; let x3 : Int := andI .u64 (a1) (4294967295); let x4 : Int := andI .u64 (a0) (4294967295); let x5 : Int := wr .u64 ((wr .u64 ((x1) * (x3))) + ((wr .u64 ((x4) * (x3))) / 4294967296)); some [.i (wr .u64 ((wr .u64 ((wr .u64 ((x1) * (x2))) + ((x5) / 4294967296))) + ((wr .u64 ((andI .u64 (x5) (4294967295)) + (wr .u64 ((x4) * (x2))))) / 4294967296))), .i (wr .u64 ((a0) * (a1)))]
theorem l74 : LamOk Try.prog (lamOf []) (codeOf Try.f74) := lamOk_nil
def G74 : GFn := ⟨[.int .u64, .int .u64], .tup [.int .u64, .int .u64], apH [.i, .i] raw74⟩
theorem ok74 : EntryOk Try.prog 74 (.pure G74.sem) := gfn_pure (u := 70) envOk74 mix Try.func74 (by kernel_rfl) (by kernel_rfl) l74 G74 (by kernel_rfl) (by kernel_rfl) [.i, .i] rfl (fun a0 a1 => by show _ = _; kernel_rfl)
theorem at74 (a0 : Int) (a1 : Int) : G74.fn [.i a0, .i a1] = raw74 a0 a1 := (congrFun (show G74.fn = apH [.i, .i] raw74 from rfl) _).trans ((fun F => rfl : ∀ F : Int → Int → Option (List Hv), apH [.i, .i] F [.i a0, .i a1] = F a0 a1) raw74)
/-! ### 0: towpath/scalar.Clamp (pure) -/
/-! ### 0: towpath/towpathref1.Clamp (pure) -/
/-! ### 45: towpath/towpathref1.load (pure) -/
noncomputable def env45 : List (FuncId × Entry) := []
theorem envOk45 : EnvOk Try.prog (envOf env45) := envOf_ok (all_nil)
def raw45 (a0_0 a0_1 a0_2 a0_3 a0_4 a0_5 a0_6 a0_7 a0_8 a0_9 a0_10 a0_11 a0_12 a0_13 a0_14 a0_15 a0_16 a0_17 a0_18 a0_19 a0_20 a0_21 a0_22 a0_23 a0_24 a0_25 a0_26 a0_27 a0_28 a0_29 a0_30 a0_31 : Int) : Option (List Hv) := some [.l ([orI .u64 (wr .u64 (a0_0)) (wr .u64 ((wr .u64 (a0_1)) * 256)), orI .u64 (wr .u64 (a0_2)) (wr .u64 ((wr .u64 (a0_3)) * 256)), orI .u64 (wr .u64 (a0_4)) (wr .u64 ((wr .u64 (a0_5)) * 256)), orI .u64 (wr .u64 (a0_6)) (wr .u64 ((wr .u64 (a0_7)) * 256)), orI .u64 (wr .u64 (a0_8)) (wr .u64 ((wr .u64 (a0_9)) * 256)), orI .u64 (wr .u64 (a0_10)) (wr .u64 ((wr .u64 (a0_11)) * 256)), orI .u64 (wr .u64 (a0_12)) (wr .u64 ((wr .u64 (a0_13)) * 256)), orI .u64 (wr .u64 (a0_14)) (wr .u64 ((wr .u64 (a0_15)) * 256)), orI .u64 (wr .u64 (a0_16)) (wr .u64 ((wr .u64 (a0_17)) * 256)), orI .u64 (wr .u64 (a0_18)) (wr .u64 ((wr .u64 (a0_19)) * 256)), orI .u64 (wr .u64 (a0_20)) (wr .u64 ((wr .u64 (a0_21)) * 256)), orI .u64 (wr .u64 (a0_22)) (wr .u64 ((wr .u64 (a0_23)) * 256)), orI .u64 (wr .u64 (a0_24)) (wr .u64 ((wr .u64 (a0_25)) * 256)), orI .u64 (wr .u64 (a0_26)) (wr .u64 ((wr .u64 (a0_27)) * 256)), orI .u64 (wr .u64 (a0_28)) (wr .u64 ((wr .u64 (a0_29)) * 256)), orI .u64 (wr .u64 (a0_30)) (wr .u64 ((wr .u64 (a0_31)) * 256))])]
theorem l45 : LamOk Try.prog (lamOf []) (codeOf Try.f45) := lamOk_nil
def G45 : GFn := ⟨[.arr .u8 32], .arr .u64 16, apH [.x 32] raw45⟩
theorem ok45 : EntryOk Try.prog 45 (.pure G45.sem) := gfn_pure (u := 70) envOk45 mix Try.func45 (by kernel_rfl) (by kernel_rfl) l45 G45 (by kernel_rfl) (by kernel_rfl) [.x 32] rfl (fun a0_0 a0_1 a0_2 a0_3 a0_4 a0_5 a0_6 a0_7 a0_8 a0_9 a0_10 a0_11 a0_12 a0_13 a0_14 a0_15 a0_16 a0_17 a0_18 a0_19 a0_20 a0_21 a0_22 a0_23 a0_24 a0_25 a0_26 a0_27 a0_28 a0_29 a0_30 a0_31 => by show _ = _; kernel_rfl)
theorem at45 (a0_0 a0_1 a0_2 a0_3 a0_4 a0_5 a0_6 a0_7 a0_8 a0_9 a0_10 a0_11 a0_12 a0_13 a0_14 a0_15 a0_16 a0_17 a0_18 a0_19 a0_20 a0_21 a0_22 a0_23 a0_24 a0_25 a0_26 a0_27 a0_28 a0_29 a0_30 a0_31 : Int) : G45.fn [.l [a0_0, a0_1, a0_2, a0_3, a0_4, a0_5, a0_6, a0_7, a0_8, a0_9, a0_10, a0_11, a0_12, a0_13, a0_14, a0_15, a0_16, a0_17, a0_18, a0_19, a0_20, a0_21, a0_22, a0_23, a0_24, a0_25, a0_26, a0_27, a0_28, a0_29, a0_30, a0_31]] = raw45 a0_0 a0_1 a0_2 a0_3 a0_4 a0_5 a0_6 a0_7 a0_8 a0_9 a0_10 a0_11 a0_12 a0_13 a0_14 a0_15 a0_16 a0_17 a0_18 a0_19 a0_20 a0_21 a0_22 a0_23 a0_24 a0_25 a0_26 a0_27 a0_28 a0_29 a0_30 a0_31 := (congrFun (show G45.fn = apH [.x 32] raw45 from rfl) _).trans ((fun F => rfl : ∀ F : Int → Int → Int → Int → Int → Int → Int → Int → Int → Int → Int → Int → Int → Int → Int → Int → Int → Int → Int → Int → Int → Int → Int → Int → Int → Int → Int → Int → Int → Int → Int → Int → Option (List Hv), apH [.x 32] F [.l [a0_0, a0_1, a0_2, a0_3, a0_4, a0_5, a0_6, a0_7, a0_8, a0_9, a0_10, a0_11, a0_12, a0_13, a0_14, a0_15, a0_16, a0_17, a0_18, a0_19, a0_20, a0_21, a0_22, a0_23, a0_24, a0_25, a0_26, a0_27, a0_28, a0_29, a0_30, a0_31]] = F a0_0 a0_1 a0_2 a0_3 a0_4 a0_5 a0_6 a0_7 a0_8 a0_9 a0_10 a0_11 a0_12 a0_13 a0_14 a0_15 a0_16 a0_17 a0_18 a0_19 a0_20 a0_21 a0_22 a0_23 a0_24 a0_25 a0_26 a0_27 a0_28 a0_29 a0_30 a0_31) raw45)
/-! ### 48: towpath/towpathref1.small (pure) -/
noncomputable def env48 : List (FuncId × Entry) := []
theorem envOk48 : EnvOk Try.prog (envOf env48) := envOf_ok (all_nil)
def raw48 (a0 : Int) : Option (List Hv) := some [.l ([a0, 0, 0, 0, 0, 0, 0, 0, 0, 0, 0, 0, 0, 0, 0, 0])]
theorem l48 : LamOk Try.prog (lamOf []) (codeOf Try.f48) := lamOk_nil
def G48 : GFn := ⟨[.int .u64], .arr .u64 16, apH [.i] raw48⟩
theorem ok48 : EntryOk Try.prog 48 (.pure G48.sem) := gfn_pure (u := 70) envOk48 mix Try.func48 (by kernel_rfl) (by kernel_rfl) l48 G48 (by kernel_rfl) (by kernel_rfl) [.i] rfl (fun a0 => by show _ = _; kernel_rfl)
theorem at48 (a0 : Int) : G48.fn [.i a0] = raw48 a0 := (congrFun (show G48.fn = apH [.i] raw48 from rfl) _).trans ((fun F => rfl : ∀ F : Int → Option (List Hv), apH [.i] F [.i a0] = F a0) raw48)
end Go.Proofs.Ytibldmjnddppaaa.Fld
set_option linter.unusedVariables false
set_option maxRecDepth 4000
namespace Go.Proofs.Ytibldmjnddppaaa.Fld
open Go Go.Sim Go.Fld

theorem len4 {l : List Int} (h : l.length = 4) : ∃ a b c d, l = [a, b, c, d] := by
  match l, h with
  | [a, b, c, d], _ => exact ⟨a, b, c, d, rfl⟩
theorem in4 {k : IntKind} {a b c d : Int} (h : ∀ y ∈ [a, b, c, d], inK k y) : inK k a ∧ inK k b ∧ inK k c ∧ inK k d :=
  ⟨h a (by simp), h b (by simp), h c (by simp), h d (by simp)⟩
theorem mem4 {Q : Int → Prop} {a b c d : Int} (h0 : Q a) (h1 : Q b) (h2 : Q c) (h3 : Q d) : ∀ y ∈ [a, b, c, d], Q y := by
  intro y hy
  simp only [List.mem_cons, List.not_mem_nil, or_false] at hy
  rcases hy with rfl | rfl | rfl | rfl <;> assumption

/-! p, a small number -/
def C61 : CFn := ⟨[], .arr .u64 4, fun _ => true, fun _ => [.l (dg4 p)]⟩
theorem cok61 : EntryOk Try.prog 61 (.pure C61.sem) := cfn_at rfl rfl rfl ok61 (fun _ => by show some [Hv.l _] = some [Hv.l (dg4 p)]; kernel_rfl)

def C38 : CFn := ⟨[.int .u64], .arr .u64 4, fun _ => true, fun hs => [.l (dg4 (hi hs 0))]⟩
theorem cok38 : EntryOk Try.prog 38 (.pure C38.sem) := cfn_at rfl rfl rfl ok38 (fun a ha _ => by
  simp only [inK] at ha
  show some [Hv.l [a, 0, 0, 0]] = some [Hv.l (dg4 a)]
  rw [show dg4 a = [a, 0, 0, 0] from digs_eq (by decide) rfl (mem4 ha (by omega) (by omega) (by omega)) (by simp [valD])])

/-! below -/
def C60 : CFn := ⟨[.arr .u64 4, .arr .u64 4], .bool, fun _ => true, fun hs => [.b (decide (v4 (hl hs 0) < v4 (hl hs 1)))]⟩
theorem cok60 : EntryOk Try.prog 60 (.pure C60.sem) := cfn_at rfl rfl rfl ok60 (fun x hx rx y hy ry _ => by
  obtain ⟨a, b, c, d, rfl⟩ := len4 hx
  obtain ⟨e, f, g, h, rfl⟩ := len4 hy
  obtain ⟨h0, h1, h2, h3⟩ := in4 rx
  obtain ⟨k0, k1, k2, k3⟩ := in4 ry
  simp only [inK] at h0 h1 h2 h3 k0 k1 k2 k3
  show raw60 a b c d e f g h = some [Hv.b (decide (v4 [a, b, c, d] < v4 [e, f, g, h]))]
  have hv : v4 [a, b, c, d] < v4 [e, f, g, h] ↔ d < h ∨ d = h ∧ (c < g ∨ c = g ∧ (b < f ∨ b = f ∧ a < e)) := by
    simp only [v4, valD]; omega
  rw [show decide (v4 [a, b, c, d] < v4 [e, f, g, h]) = decide (d < h ∨ d = h ∧ (c < g ∨ c = g ∧ (b < f ∨ b = f ∧ a < e))) from decide_eq_decide.2 hv]
  unfold raw60
  by_cases e3 : d = h
  · by_cases e2 : c = g
    · by_cases e1 : b = f
      · by_cases e0 : a = e
        · simp [e3, e2, e1, e0]
        · have : (a != e) = true := by simp [e0]
          simp [e3, e2, e1, this]
      · have : (b != f) = true := by simp [e1]
        simp [e3, e2, e1, this]
    · have : (c != g) = true := by simp [e2]
      simp [e3, e2, this]
  · have : (d != h) = true := by simp [e3]
    simp [e3, this])

/-! the difference, the sum -/
def C55 : CFn := ⟨[.arr .u64 4, .arr .u64 4], .tup [.arr .u64 4, .int .u64], fun _ => true, fun hs => [.l (dg4 (v4 (hl hs 0) - v4 (hl hs 1))), .i (if v4 (hl hs 0) < v4 (hl hs 1) then 1 else 0)]⟩
theorem cok55 : EntryOk Try.prog 55 (.pure C55.sem) := cfn_at rfl rfl rfl ok55 (fun x hx rx y hy ry _ => by
  obtain ⟨a, b, c, d, rfl⟩ := len4 hx
  obtain ⟨e, f, g, h, rfl⟩ := len4 hy
  obtain ⟨h0, h1, h2, h3⟩ := in4 rx
  obtain ⟨k0, k1, k2, k3⟩ := in4 ry
  simp only [inK] at h0 h1 h2 h3 k0 k1 k2 k3
  show raw55 a b c d e f g h = some [Hv.l (dg4 (v4 [a, b, c, d] - v4 [e, f, g, h])), Hv.i (if v4 [a, b, c, d] < v4 [e, f, g, h] then 1 else 0)]
  unfold raw55
  rw [sub64B_eq (x := a) (y := e) (c := 0) (by omega) (by omega) (by omega), sub64D_eq (x := a) (y := e) (c := 0) (by omega) (by omega) (by omega) (by omega) (by omega) (by omega)]
  generalize hb1 : (if a - e - 0 < 0 then (1 : Int) else 0) = b1
  have l1 : 0 ≤ b1 ∧ b1 ≤ 1 := by split at hb1 <;> omega
  simp only [bit01_of l1.2, cond_true]
  rw [sub64B_eq (x := b) (y := f) (c := b1) (by omega) (by omega) (by omega), sub64D_eq (x := b) (y := f) (c := b1) (by omega) (by omega) (by omega) (by omega) (by omega) (by omega)]
  generalize hb2 : (if b - f - b1 < 0 then (1 : Int) else 0) = b2
  have l2 : 0 ≤ b2 ∧ b2 ≤ 1 := by split at hb2 <;> omega
  simp only [bit01_of l2.2, cond_true]
  rw [sub64B_eq (x := c) (y := g) (c := b2) (by omega) (by omega) (by omega), sub64D_eq (x := c) (y := g) (c := b2) (by omega) (by omega) (by omega) (by omega) (by omega) (by omega)]
  generalize hb3 : (if c - g - b2 < 0 then (1 : Int) else 0) = b3
  have l3 : 0 ≤ b3 ∧ b3 ≤ 1 := by split at hb3 <;> omega
  simp only [bit01_of l3.2, cond_true]
  rw [sub64B_eq (x := d) (y := h) (c := b3) (by omega) (by omega) (by omega), sub64D_eq (x := d) (y := h) (c := b3) (by omega) (by omega) (by omega) (by omega) (by omega) (by omega)]
  generalize hb4 : (if d - h - b3 < 0 then (1 : Int) else 0) = b4
  have e1 : (a - e - 0) % 18446744073709551616 = a - e + 18446744073709551616 * b1 := by split at hb1 <;> omega
  have e2 : (b - f - b1) % 18446744073709551616 = b - f - b1 + 18446744073709551616 * b2 := by split at hb2 <;> omega
  have e3 : (c - g - b2) % 18446744073709551616 = c - g - b2 + 18446744073709551616 * b3 := by split at hb3 <;> omega
  have e4 : (d - h - b3) % 18446744073709551616 = d - h - b3 + 18446744073709551616 * b4 := by split at hb4 <;> omega
  have l4 : 0 ≤ b4 ∧ b4 ≤ 1 := by split at hb4 <;> omega
  rw [e1, e2, e3, e4]
  have hval : v4 [a - e + 18446744073709551616 * b1, b - f - b1 + 18446744073709551616 * b2, c - g - b2 + 18446744073709551616 * b3, d - h - b3 + 18446744073709551616 * b4] =
      v4 [a, b, c, d] - v4 [e, f, g, h] + Q * b4 := by simp only [v4, valD, Q]; omega
  have hr : ∀ y ∈ [a - e + 18446744073709551616 * b1, b - f - b1 + 18446744073709551616 * b2, c - g - b2 + 18446744073709551616 * b3, d - h - b3 + 18446744073709551616 * b4], 0 ≤ y ∧ y < 18446744073709551616 :=
    mem4 (by omega) (by omega) (by omega) (by omega)
  have hdg := dg4_v4 rfl hr
  have lo := v4_lo hr
  have hi' := v4_hi rfl hr
  rw [hval] at hdg lo hi'
  have hb4' : (if v4 [a, b, c, d] < v4 [e, f, g, h] then (1 : Int) else 0) = b4 := by
    have t1 := v4_lo (l := [a, b, c, d]) (mem4 h0 h1 h2 h3)
    have t2 := v4_hi (l := [e, f, g, h]) rfl (mem4 k0 k1 k2 k3)
    have t3 := v4_hi (l := [a, b, c, d]) rfl (mem4 h0 h1 h2 h3)
    have t4 := v4_lo (l := [e, f, g, h]) (mem4 k0 k1 k2 k3)
    simp only [Q] at lo hi' t2 t3
    split <;> omega
  rw [hb4', ← hdg]
  have : dg4 (v4 [a, b, c, d] - v4 [e, f, g, h] + Q * b4) = dg4 (v4 [a, b, c, d] - v4 [e, f, g, h]) := dg4_add _ _
  rw [this])

def C64 : CFn := ⟨[.arr .u64 4, .arr .u64 4], .tup [.arr .u64 4, .int .u64], fun _ => true, fun hs => [.l (dg4 (v4 (hl hs 0) + v4 (hl hs 1))), .i ((v4 (hl hs 0) + v4 (hl hs 1)) / Q)]⟩
theorem cok64 : EntryOk Try.prog 64 (.pure C64.sem) := cfn_at rfl rfl rfl ok64 (fun x hx rx y hy ry _ => by
  obtain ⟨a, b, c, d, rfl⟩ := len4 hx
  obtain ⟨e, f, g, h, rfl⟩ := len4 hy
  obtain ⟨h0, h1, h2, h3⟩ := in4 rx
  obtain ⟨k0, k1, k2, k3⟩ := in4 ry
  simp only [inK] at h0 h1 h2 h3 k0 k1 k2 k3
  show raw64 a b c d e f g h = some [Hv.l (dg4 (v4 [a, b, c, d] + v4 [e, f, g, h])), Hv.i ((v4 [a, b, c, d] + v4 [e, f, g, h]) / Q)]
  unfold raw64
  rw [add64C_eq (x := a) (y := e) (c := 0) (by omega) (by omega) (by omega), add64S_eq (x := a) (y := e) (c := 0) (by omega) (by omega) (by omega)]
  generalize hb1 : (a + e + 0) / 18446744073709551616 = b1
  have l1 : 0 ≤ b1 ∧ b1 ≤ 1 := by omega
  simp only [bit01_of l1.2, cond_true]
  rw [add64C_eq (x := b) (y := f) (c := b1) (by omega) (by omega) (by omega), add64S_eq (x := b) (y := f) (c := b1) (by omega) (by omega) (by omega)]
  generalize hb2 : (b + f + b1) / 18446744073709551616 = b2
  have l2 : 0 ≤ b2 ∧ b2 ≤ 1 := by omega
  simp only [bit01_of l2.2, cond_true]
  rw [add64C_eq (x := c) (y := g) (c := b2) (by omega) (by omega) (by omega), add64S_eq (x := c) (y := g) (c := b2) (by omega) (by omega) (by omega)]
  generalize hb3 : (c + g + b2) / 18446744073709551616 = b3
  have l3 : 0 ≤ b3 ∧ b3 ≤ 1 := by omega
  simp only [bit01_of l3.2, cond_true]
  rw [add64C_eq (x := d) (y := h) (c := b3) (by omega) (by omega) (by omega), add64S_eq (x := d) (y := h) (c := b3) (by omega) (by omega) (by omega)]
  generalize hb4 : (d + h + b3) / 18446744073709551616 = b4
  have e1 : (a + e + 0) % 18446744073709551616 = a + e - 18446744073709551616 * b1 := by omega
  have e2 : (b + f + b1) % 18446744073709551616 = b + f + b1 - 18446744073709551616 * b2 := by omega
  have e3 : (c + g + b2) % 18446744073709551616 = c + g + b2 - 18446744073709551616 * b3 := by omega
  have e4 : (d + h + b3) % 18446744073709551616 = d + h + b3 - 18446744073709551616 * b4 := by omega
  have l4 : 0 ≤ b4 ∧ b4 ≤ 1 := by omega
  rw [e1, e2, e3, e4]
  have hval : v4 [a + e - 18446744073709551616 * b1, b + f + b1 - 18446744073709551616 * b2, c + g + b2 - 18446744073709551616 * b3, d + h + b3 - 18446744073709551616 * b4] =
      v4 [a, b, c, d] + v4 [e, f, g, h] + Q * -b4 := by simp only [v4, valD, Q]; omega
  have hr : ∀ y ∈ [a + e - 18446744073709551616 * b1, b + f + b1 - 18446744073709551616 * b2, c + g + b2 - 18446744073709551616 * b3, d + h + b3 - 18446744073709551616 * b4], 0 ≤ y ∧ y < 18446744073709551616 :=
    mem4 (by omega) (by omega) (by omega) (by omega)
  have hdg := dg4_v4 rfl hr
  have lo := v4_lo hr
  have hi' := v4_hi rfl hr
  rw [hval] at hdg lo hi'
  have hb4' : (v4 [a, b, c, d] + v4 [e, f, g, h]) / Q = b4 := by
    simp only [Q] at lo hi' ⊢
    omega
  rw [hb4', ← hdg, dg4_add])
end Go.Proofs.Ytibldmjnddppaaa.Fld
set_option linter.unusedVariables false
set_option maxRecDepth 10000
namespace Go.Proofs.Ytibldmjnddppaaa.Fld
open Go Go.Sim Go.Fld

theorem len32 {l : List Int} (h : l.length = 32) : ∃ a0 a1 a2 a3 a4 a5 a6 a7 a8 a9 a10 a11 a12 a13 a14 a15 a16 a17 a18 a19 a20 a21 a22 a23 a24 a25 a26 a27 a28 a29 a30 a31, l = [a0, a1, a2, a3, a4, a5, a6, a7, a8, a9, a10, a11, a12, a13, a14, a15, a16, a17, a18, a19, a20, a21, a22, a23, a24, a25, a26, a27, a28, a29, a30, a31] := by
  match l, h with
  | [a0, a1, a2, a3, a4, a5, a6, a7, a8, a9, a10, a11, a12, a13, a14, a15, a16, a17, a18, a19, a20, a21, a22, a23, a24, a25, a26, a27, a28, a29, a30, a31], _ => exact ⟨a0, a1, a2, a3, a4, a5, a6, a7, a8, a9, a10, a11, a12, a13, a14, a15, a16, a17, a18, a19, a20, a21, a22, a23, a24, a25, a26, a27, a28, a29, a30, a31, rfl⟩

theorem in32 {a0 a1 a2 a3 a4 a5 a6 a7 a8 a9 a10 a11 a12 a13 a14 a15 a16 a17 a18 a19 a20 a21 a22 a23 a24 a25 a26 a27 a28 a29 a30 a31 : Int} (h : ∀ y ∈ [a0, a1, a2, a3, a4, a5, a6, a7, a8, a9, a10, a11, a12, a13, a14, a15, a16, a17, a18, a19, a20, a21, a22, a23, a24, a25, a26, a27, a28, a29, a30, a31], inK .u8 y) : (0 ≤ a0 ∧ a0 < 256) ∧ (0 ≤ a1 ∧ a1 < 256) ∧ (0 ≤ a2 ∧ a2 < 256) ∧ (0 ≤ a3 ∧ a3 < 256) ∧ (0 ≤ a4 ∧ a4 < 256) ∧ (0 ≤ a5 ∧ a5 < 256) ∧ (0 ≤ a6 ∧ a6 < 256) ∧ (0 ≤ a7 ∧ a7 < 256) ∧ (0 ≤ a8 ∧ a8 < 256) ∧ (0 ≤ a9 ∧ a9 < 256) ∧ (0 ≤ a10 ∧ a10 < 256) ∧ (0 ≤ a11 ∧ a11 < 256) ∧ (0 ≤ a12 ∧ a12 < 256) ∧ (0 ≤ a13 ∧ a13 < 256) ∧ (0 ≤ a14 ∧ a14 < 256) ∧ (0 ≤ a15 ∧ a15 < 256) ∧ (0 ≤ a16 ∧ a16 < 256) ∧ (0 ≤ a17 ∧ a17 < 256) ∧ (0 ≤ a18 ∧ a18 < 256) ∧ (0 ≤ a19 ∧ a19 < 256) ∧ (0 ≤ a20 ∧ a20 < 256) ∧ (0 ≤ a21 ∧ a21 < 256) ∧ (0 ≤ a22 ∧ a22 < 256) ∧ (0 ≤ a23 ∧ a23 < 256) ∧ (0 ≤ a24 ∧ a24 < 256) ∧ (0 ≤ a25 ∧ a25 < 256) ∧ (0 ≤ a26 ∧ a26 < 256) ∧ (0 ≤ a27 ∧ a27 < 256) ∧ (0 ≤ a28 ∧ a28 < 256) ∧ (0 ≤ a29 ∧ a29 < 256) ∧ (0 ≤ a30 ∧ a30 < 256) ∧ (0 ≤ a31 ∧ a31 < 256) := ⟨h a0 (by simp), h a1 (by simp), h a2 (by simp), h a3 (by simp), h a4 (by simp), h a5 (by simp), h a6 (by simp), h a7 (by simp), h a8 (by simp), h a9 (by simp), h a10 (by simp), h a11 (by simp), h a12 (by simp), h a13 (by simp), h a14 (by simp), h a15 (by simp), h a16 (by simp), h a17 (by simp), h a18 (by simp), h a19 (by simp), h a20 (by simp), h a21 (by simp), h a22 (by simp), h a23 (by simp), h a24 (by simp), h a25 (by simp), h a26 (by simp), h a27 (by simp), h a28 (by simp), h a29 (by simp), h a30 (by simp), h a31 (by simp)⟩
theorem mem16 {Q : Int → Prop} {b0 b1 b2 b3 b4 b5 b6 b7 b8 b9 b10 b11 b12 b13 b14 b15 : Int} (h0 : Q b0) (h1 : Q b1) (h2 : Q b2) (h3 : Q b3) (h4 : Q b4) (h5 : Q b5) (h6 : Q b6) (h7 : Q b7) (h8 : Q b8) (h9 : Q b9) (h10 : Q b10) (h11 : Q b11) (h12 : Q b12) (h13 : Q b13) (h14 : Q b14) (h15 : Q b15) : ∀ y ∈ [b0, b1, b2, b3, b4, b5, b6, b7, b8, b9, b10, b11, b12, b13, b14, b15], Q y := by
  intro y hy
  simp only [List.mem_cons, List.not_mem_nil, or_false] at hy
  rcases hy with rfl | rfl | rfl | rfl | rfl | rfl | rfl | rfl | rfl | rfl | rfl | rfl | rfl | rfl | rfl | rfl <;> assumption
theorem wr_u64 {n : Int} (h : 0 ≤ n) (h' : n < 18446744073709551616) : wr .u64 n = n := Int.emod_eq_of_lt h h'
/-- one byte more -/
theorem byteS (m : Nat) {M x y : Int} (hM : ((2 ^ m : Nat) : Int) = M) (hm : M * 256 ≤ 18446744073709551616) (h1 : 1 ≤ M) (hx : 0 ≤ x) (hx' : x < M) (hy : 0 ≤ y) (hy' : y < 256) : orI .u64 x (wr .u64 (wr .u64 y * M)) = x + y * M := by
  have h2 : y * M ≤ 255 * M := Int.mul_le_mul_of_nonneg_right (by omega) (by omega)
  have h3 : 0 ≤ y * M := Int.mul_nonneg hy (by omega)
  rw [wr_u64 (n := y) (by omega) (by omega), wr_u64 (n := y * M) (by omega) (by omega)]
  exact orI_add m hM hx hx' hy (by omega)
theorem limb8 {b0 b1 b2 b3 b4 b5 b6 b7 : Int} (h0 : 0 ≤ b0 ∧ b0 < 256) (h1 : 0 ≤ b1 ∧ b1 < 256) (h2 : 0 ≤ b2 ∧ b2 < 256) (h3 : 0 ≤ b3 ∧ b3 < 256) (h4 : 0 ≤ b4 ∧ b4 < 256) (h5 : 0 ≤ b5 ∧ b5 < 256) (h6 : 0 ≤ b6 ∧ b6 < 256) (h7 : 0 ≤ b7 ∧ b7 < 256) :
    orI .u64 (orI .u64 (orI .u64 (orI .u64 (orI .u64 (orI .u64 (orI .u64 (orI .u64 (0) (wr .u64 ((wr .u64 (b0)) * 1))) (wr .u64 ((wr .u64 (b1)) * 256))) (wr .u64 ((wr .u64 (b2)) * 65536))) (wr .u64 ((wr .u64 (b3)) * 16777216))) (wr .u64 ((wr .u64 (b4)) * 4294967296))) (wr .u64 ((wr .u64 (b5)) * 1099511627776))) (wr .u64 ((wr .u64 (b6)) * 281474976710656))) (wr .u64 ((wr .u64 (b7)) * 72057594037927936)) =
    b0 + b1 * 256 + b2 * 65536 + b3 * 16777216 + b4 * 4294967296 + b5 * 1099511627776 + b6 * 281474976710656 + b7 * 72057594037927936 := by
  rw [byteS 0 (M := 1) (x := 0) rfl (by omega) (by omega) (by omega) (by omega) h0.1 h0.2]
  rw [byteS 8 (M := 256) rfl (by omega) (by omega) (by omega) (by omega) h1.1 h1.2, byteS 16 (M := 65536) rfl (by omega) (by omega) (by omega) (by omega) h2.1 h2.2, byteS 24 (M := 16777216) rfl (by omega) (by omega) (by omega) (by omega) h3.1 h3.2,
    byteS 32 (M := 4294967296) rfl (by omega) (by omega) (by omega) (by omega) h4.1 h4.2, byteS 40 (M := 1099511627776) rfl (by omega) (by omega) (by omega) (by omega) h5.1 h5.2, byteS 48 (M := 281474976710656) rfl (by omega) (by omega) (by omega) (by omega) h6.1 h6.2, byteS 56 (M := 72057594037927936) rfl (by omega) (by omega) (by omega) (by omega) h7.1 h7.2]
  omega
theorem limb2 {b0 b1 : Int} (h0 : 0 ≤ b0 ∧ b0 < 256) (h1 : 0 ≤ b1 ∧ b1 < 256) : orI .u64 (wr .u64 b0) (wr .u64 (wr .u64 b1 * 256)) = b0 + b1 * 256 := by
  rw [wr_u64 (n := b0) (by omega) (by omega), byteS 8 (M := 256) rfl (by omega) (by omega) (by omega) (by omega) h1.1 h1.2]

def C37 : CFn := ⟨[.arr .u8 32], .arr .u64 4, fun _ => true, fun hs => [.l (dg4 (v32 (hl hs 0)))]⟩
theorem cok37 : EntryOk Try.prog 37 (.pure C37.sem) := cfn_at rfl rfl rfl ok37 (fun x hx rx _ => by
  obtain ⟨a0, a1, a2, a3, a4, a5, a6, a7, a8, a9, a10, a11, a12, a13, a14, a15, a16, a17, a18, a19, a20, a21, a22, a23, a24, a25, a26, a27, a28, a29, a30, a31, rfl⟩ := len32 hx
  obtain ⟨h0, h1, h2, h3, h4, h5, h6, h7, h8, h9, h10, h11, h12, h13, h14, h15, h16, h17, h18, h19, h20, h21, h22, h23, h24, h25, h26, h27, h28, h29, h30, h31⟩ := in32 rx
  show raw37 a0 a1 a2 a3 a4 a5 a6 a7 a8 a9 a10 a11 a12 a13 a14 a15 a16 a17 a18 a19 a20 a21 a22 a23 a24 a25 a26 a27 a28 a29 a30 a31 = some [Hv.l (dg4 (v32 [a0, a1, a2, a3, a4, a5, a6, a7, a8, a9, a10, a11, a12, a13, a14, a15, a16, a17, a18, a19, a20, a21, a22, a23, a24, a25, a26, a27, a28, a29, a30, a31]))]
  unfold raw37
  rw [limb8 h0 h1 h2 h3 h4 h5 h6 h7, limb8 h8 h9 h10 h11 h12 h13 h14 h15, limb8 h16 h17 h18 h19 h20 h21 h22 h23, limb8 h24 h25 h26 h27 h28 h29 h30 h31]
  rw [show dg4 (v32 [a0, a1, a2, a3, a4, a5, a6, a7, a8, a9, a10, a11, a12, a13, a14, a15, a16, a17, a18, a19, a20, a21, a22, a23, a24, a25, a26, a27, a28, a29, a30, a31]) = [a0 + a1 * 256 + a2 * 65536 + a3 * 16777216 + a4 * 4294967296 + a5 * 1099511627776 + a6 * 281474976710656 + a7 * 72057594037927936, a8 + a9 * 256 + a10 * 65536 + a11 * 16777216 + a12 * 4294967296 + a13 * 1099511627776 + a14 * 281474976710656 + a15 * 72057594037927936, a16 + a17 * 256 + a18 * 65536 + a19 * 16777216 + a20 * 4294967296 + a21 * 1099511627776 + a22 * 281474976710656 + a23 * 72057594037927936, a24 + a25 * 256 + a26 * 65536 + a27 * 16777216 + a28 * 4294967296 + a29 * 1099511627776 + a30 * 281474976710656 + a31 * 72057594037927936] from digs_eq (by decide) rfl (mem4 (by omega) (by omega) (by omega) (by omega)) (by simp only [v32, valD]; omega)])

def C45 : CFn := ⟨[.arr .u8 32], .arr .u64 16, fun _ => true, fun hs => [.l (dg16 (v32 (hl hs 0)))]⟩
theorem cok45 : EntryOk Try.prog 45 (.pure C45.sem) := cfn_at rfl rfl rfl ok45 (fun x hx rx _ => by
  obtain ⟨a0, a1, a2, a3, a4, a5, a6, a7, a8, a9, a10, a11, a12, a13, a14, a15, a16, a17, a18, a19, a20, a21, a22, a23, a24, a25, a26, a27, a28, a29, a30, a31, rfl⟩ := len32 hx
  obtain ⟨h0, h1, h2, h3, h4, h5, h6, h7, h8, h9, h10, h11, h12, h13, h14, h15, h16, h17, h18, h19, h20, h21, h22, h23, h24, h25, h26, h27, h28, h29, h30, h31⟩ := in32 rx
  show raw45 a0 a1 a2 a3 a4 a5 a6 a7 a8 a9 a10 a11 a12 a13 a14 a15 a16 a17 a18 a19 a20 a21 a22 a23 a24 a25 a26 a27 a28 a29 a30 a31 = some [Hv.l (dg16 (v32 [a0, a1, a2, a3, a4, a5, a6, a7, a8, a9, a10, a11, a12, a13, a14, a15, a16, a17, a18, a19, a20, a21, a22, a23, a24, a25, a26, a27, a28, a29, a30, a31]))]
  unfold raw45
  rw [limb2 h0 h1, limb2 h2 h3, limb2 h4 h5, limb2 h6 h7, limb2 h8 h9, limb2 h10 h11, limb2 h12 h13, limb2 h14 h15, limb2 h16 h17, limb2 h18 h19, limb2 h20 h21, limb2 h22 h23, limb2 h24 h25, limb2 h26 h27, limb2 h28 h29, limb2 h30 h31]
  rw [show dg16 (v32 [a0, a1, a2, a3, a4, a5, a6, a7, a8, a9, a10, a11, a12, a13, a14, a15, a16, a17, a18, a19, a20, a21, a22, a23, a24, a25, a26, a27, a28, a29, a30, a31]) = [a0 + a1 * 256, a2 + a3 * 256, a4 + a5 * 256, a6 + a7 * 256, a8 + a9 * 256, a10 + a11 * 256, a12 + a13 * 256, a14 + a15 * 256, a16 + a17 * 256, a18 + a19 * 256, a20 + a21 * 256, a22 + a23 * 256, a24 + a25 * 256, a26 + a27 * 256, a28 + a29 * 256, a30 + a31 * 256] from digs_eq (by decide) rfl (mem16 (by omega) (by omega) (by omega) (by omega) (by omega) (by omega) (by omega) (by omega) (by omega) (by omega) (by omega) (by omega) (by omega) (by omega) (by omega) (by omega)) (by simp only [v32, valD]; omega)])

def C48 : CFn := ⟨[.int .u64], .arr .u64 16, fun hs => decide (hi hs 0 < 65536), fun hs => [.l (dg16 (hi hs 0))]⟩
theorem cok48 : EntryOk Try.prog 48 (.pure C48.sem) := cfn_at rfl rfl rfl ok48 (fun a ha hg => by
  have hg : a < 65536 := of_decide_eq_true hg
  simp only [inK] at ha
  show some [Hv.l [a, 0, 0, 0, 0, 0, 0, 0, 0, 0, 0, 0, 0, 0, 0, 0]] = some [Hv.l (dg16 a)]
  rw [show dg16 a = [a, 0, 0, 0, 0, 0, 0, 0, 0, 0, 0, 0, 0, 0, 0, 0] from digs_eq (by decide) rfl (mem16 (by omega) (by omega) (by omega) (by omega) (by omega) (by omega) (by omega) (by omega) (by omega) (by omega) (by omega) (by omega) (by omega) (by omega) (by omega) (by omega)) (by simp [valD])])

/-! a product of 128 bits -/
theorem mul_bd {a b : Int} (ha : 0 ≤ a ∧ a ≤ 4294967295) (hb : 0 ≤ b ∧ b ≤ 4294967295) : 0 ≤ a * b ∧ a * b ≤ 18446744065119617025 := by
  refine ⟨Int.mul_nonneg ha.1 hb.1, ?_⟩
  have h1 : a * b ≤ 4294967295 * b := Int.mul_le_mul_of_nonneg_right ha.2 hb.1
  omega

def C74 : CFn := ⟨[.int .u64, .int .u64], .tup [.int .u64, .int .u64], fun _ => true, fun hs => [.i (hi hs 0 * hi hs 1 / 18446744073709551616), .i (hi hs 0 * hi hs 1 % 18446744073709551616)]⟩
theorem cok74 : EntryOk Try.prog 74 (.pure C74.sem) := cfn_at rfl rfl rfl ok74 (fun x hx y hy _ => by
  simp only [inK] at hx hy
  show raw74 x y = some [Hv.i (x * y / 18446744073709551616), Hv.i (x * y % 18446744073709551616)]
  have m1 : andI .u64 x 4294967295 = x % 4294967296 := andI_mod 32 (M := 4294967296) (x := x) rfl (by omega) (by omega) (by omega)
  have m2 : andI .u64 y 4294967295 = y % 4294967296 := andI_mod 32 (M := 4294967296) (x := y) rfl (by omega) (by omega) (by omega)
  unfold raw74
  simp only [m1, m2]
  generalize hx1 : x / 4294967296 = x1
  generalize hy1 : y / 4294967296 = y1
  generalize hx0 : x % 4294967296 = x0
  generalize hy0 : y % 4294967296 = y0
  have ex : x = x1 * 4294967296 + x0 := by omega
  have ey : y = y1 * 4294967296 + y0 := by omega
  have bx1 : 0 ≤ x1 ∧ x1 ≤ 4294967295 := by omega
  have by1 : 0 ≤ y1 ∧ y1 ≤ 4294967295 := by omega
  have bx0 : 0 ≤ x0 ∧ x0 ≤ 4294967295 := by omega
  have by0 : 0 ≤ y0 ∧ y0 ≤ 4294967295 := by omega
  have hA := mul_bd bx1 by0
  have hB := mul_bd bx0 by1
  have hC := mul_bd bx1 by1
  have hD := mul_bd bx0 by0
  have hxy : x * y = x1 * y1 * 18446744073709551616 + (x1 * y0 + x0 * y1) * 4294967296 + x0 * y0 := by
    rw [ex, ey]; grind
  rw [hxy]
  generalize x1 * y0 = A at *
  generalize x0 * y1 = B at *
  generalize x1 * y1 = C at *
  generalize x0 * y0 = D at *
  rw [wr_u64 (n := A) (by omega) (by omega), wr_u64 (n := D) (by omega) (by omega), wr_u64 (n := B) (by omega) (by omega), wr_u64 (n := C) (by omega) (by omega)]
  rw [wr_u64 (n := A + D / 4294967296) (by omega) (by omega)]
  have m3 : andI .u64 (A + D / 4294967296) 4294967295 = (A + D / 4294967296) % 4294967296 := andI_mod 32 (M := 4294967296) rfl (by omega) (by omega) (by omega)
  rw [m3, wr_u64 (n := (A + D / 4294967296) % 4294967296 + B) (by omega) (by omega), wr_u64 (n := C + (A + D / 4294967296) / 4294967296) (by omega) (by omega),
    wr_u64 (n := C + (A + D / 4294967296) / 4294967296 + ((A + D / 4294967296) % 4294967296 + B) / 4294967296) (by omega) (by omega)]
  have e1 : C + (A + D / 4294967296) / 4294967296 + ((A + D / 4294967296) % 4294967296 + B) / 4294967296 = (C * 18446744073709551616 + (A + B) * 4294967296 + D) / 18446744073709551616 := by omega
  rw [e1]
  rfl)
end Go.Proofs.Ytibldmjnddppaaa.Fld
set_option linter.unusedVariables false
set_option maxRecDepth 100000
namespace Go.Proofs.Ytibldmjnddppaaa.Fld
open Go Go.Sim
open Go.Proofs Go.Fld

/-! ### 63: towpath/field.row (recv) -/
noncomputable def env63 : List (FuncId × Entry) := [(74, .pure C74.sem), (75, .pure add64F.sem)]
theorem envOk63 : EnvOk Try.prog (envOf env63) := envOf_ok (all_cons cok74 (all_cons ok75 (all_nil)))
def raw63 (a0_0 a0_1 a0_2 a0_3 a0_4 a0_5 a0_6 a0_7 : Int) (a1 : Int) (a2_0 a2_1 a2_2 a2_3 : Int) (a3 : Int) : Option (List Hv) := let x1 : Int := wr .i64 ((a1) + (0)); bif inB (x1) 8 then (bif Nat.blt (x1).toNat 8 then (let x2 : Int := wr .i64 ((a1) + (0)); bif inB (x2) 8 then (bif Nat.blt (x2).toNat 8 then (let x3 : Int := wr .i64 ((a1) + (1)); bif inB (x3) 8 then (bif Nat.blt (x3).toNat 8 then (let x4 : Int := wr .i64 ((a1) + (1)); bif inB (x4) 8 then (bif Nat.blt (x4).toNat 8 then (let x5 : Int := wr .i64 ((a1) + (2)); bif inB (x5) 8 then (bif Nat.blt (x5).toNat 8 then (let x6 : Int := wr .i64 ((a1) + (2)); bif inB (x6) 8 then (bif Nat.blt (x6).toNat 8 then (let x7 : Int := wr .i64 ((a1) + (3)); bif inB (x7) 8 then (bif Nat.blt (x7).toNat 8 then (let x8 : Int := wr .i64 ((a1) + (3)); bif inB (x8) 8 then (bif Nat.blt (x8).toNat 8 then (let x9 : Int := wr .i64 ((a1) + (4)); bif inB (x9) 8 then (bif Nat.blt (x9).toNat 8 then (let x10 : Int := ([a0_0, a0_1, a0_2, a0_3, a0_4, a0_5, a0_6, a0_7]).getD (x1).toNat 0; let x11 : Int := (a2_0) * (a3) % 18446744073709551616; let x12 : Int := add64S (x11) (0) (0); let x13 : List Int := setP 0 ([a0_0, a0_1, a0_2, a0_3, a0_4, a0_5, a0_6, a0_7]) (x2).toNat (add64S (x10) (x12) (0)); let x14 : Int := (x13).getD (x3).toNat 0; let x15 : Int := (a2_1) * (a3) % 18446744073709551616; let x16 : Int := wr .u64 ((wr .u64 (((a2_0) * (a3) / 18446744073709551616) + (add64C (x11) (0) (0)))) + (add64C (x10) (x12) (0))); let x17 : Int := add64S (x15) (x16) (0); let x18 : List Int := setP 0 (x13) (x4).toNat (add64S (x14) (x17) (0)); let x19 : Int := (x18).getD (x5).toNat 0; let x20 : Int := (a2_2) * (a3) % 18446744073709551616; let x21 : Int := wr .u64 ((wr .u64 (((a2_1) * (a3) / 18446744073709551616) + (add64C (x15) (x16) (0)))) + (add64C (x14) (x17) (0))); let x22 : Int := add64S (x20) (x21) (0); let x23 : List Int := setP 0 (x18) (x6).toNat (add64S (x19) (x22) (0)); let x24 : Int := (x23).getD (x7).toNat 0; let x25 : Int := (a2_3) * (a3) % 18446744073709551616; let x26 : Int := wr .u64 ((wr .u64 (((a2_2) * (a3) / 18446744073709551616) + (add64C (x20) (x21) (0)))) + (add64C (x19) (x22) (0))); let x27 : Int := add64S (x25) (x26) (0); some [.l (setP 0 (setP 0 (x23) (x8).toNat (add64S (x24) (x27) (0))) (x9).toNat (wr .u64 ((wr .u64 (((a2_3) * (a3) / 18446744073709551616) + (add64C (x25) (x26) (0)))) + (add64C (x24) (x27) (0)))))]) else none) else none) else none) else none) else none) else none) else none) else none) else none) else none) else none) else none) else none) else none) else none) else none) else none) else none
theorem l63 : LamOk Try.prog (lamOf []) (codeOf Try.f63) := lamOk_nil
def G63 : GRec := ⟨.arr .u64 8, [.int .i64, .arr .u64 4, .int .u64], .tup [], apH [.x 8, .i, .x 4, .i] raw63⟩
theorem rok63 : G63.rfn.Ok Try.prog (envOf env63) (lamOf []) 70 Try.f63 (codeOf Try.f63) := grec_okx G63 (by kernel_rfl) (by kernel_rfl) (by kernel_rfl) [.x 8, .i, .x 4, .i] rfl (fun a0_0 a0_1 a0_2 a0_3 a0_4 a0_5 a0_6 a0_7 a1 a2_0 a2_1 a2_2 a2_3 a3 => by show _ = _; kernel_rfl)
theorem ok63 : EntryOk Try.prog 63 (.full G63.rfn.full) := fn_full (u := 70) envOk63 mix Try.func63 (by kernel_rfl) (by kernel_rfl) l63 rok63
theorem at63 (a0_0 a0_1 a0_2 a0_3 a0_4 a0_5 a0_6 a0_7 : Int) (a1 : Int) (a2_0 a2_1 a2_2 a2_3 : Int) (a3 : Int) : G63.fn [.l [a0_0, a0_1, a0_2, a0_3, a0_4, a0_5, a0_6, a0_7], .i a1, .l [a2_0, a2_1, a2_2, a2_3], .i a3] = raw63 a0_0 a0_1 a0_2 a0_3 a0_4 a0_5 a0_6 a0_7 a1 a2_0 a2_1 a2_2 a2_3 a3 := (congrFun (show G63.fn = apH [.x 8, .i, .x 4, .i] raw63 from rfl) _).trans ((fun F => rfl : ∀ F : Int → Int → Int → Int → Int → Int → Int → Int → Int → Int → Int → Int → Int → Int → Option (List Hv), apH [.x 8, .i, .x 4, .i] F [.l [a0_0, a0_1, a0_2, a0_3, a0_4, a0_5, a0_6, a0_7], .i a1, .l [a2_0, a2_1, a2_2, a2_3], .i a3] = F a0_0 a0_1 a0_2 a0_3 a0_4 a0_5 a0_6 a0_7 a1 a2_0 a2_1 a2_2 a2_3 a3) raw63)
/-! ### 54: towpath/field.Full (pure) -/
noncomputable def env54 : List (FuncId × Entry) := [(60, .pure C60.sem), (61, .pure C61.sem), (55, .pure C55.sem)]
theorem envOk54 : EnvOk Try.prog (envOf env54) := envOf_ok (all_cons cok60 (all_cons cok61 (all_cons cok55 (all_nil))))
def h54_0 : Tpl := ⟨[none, some (.ptr 0 []), some (.ptr 1 []), some (.ptr 2 []), none, none, none, none, none, none, none, none, none, none, none, none], [some (.arr .u64 4), some (.arr .u64 4), some (.arr .u64 4)], 3⟩
def e54_0 : Tpl := ⟨[none, some (.ptr 0 []), some (.ptr 1 []), none, none, none, none, none, none, none, none, none, none, none, none, none], [some (.arr .u64 4), some (.arr .u64 4)], 3⟩
def t54_0 (z0 : List Int) (z1 : List Int) (z2 : List Int) : Option (Sum (List Hv) (Bool × List Hv)) := bif !(decide (v4 (z0) < v4 (z2))) then (some (.inl [.l (dg4 (v4 (z0) - v4 (z2))), .l (z1), .l (z2)])) else (some (.inr (false, [.l (z0), .l (z1)])))
def g54_0 : StepG := apH [.l, .l, .l] t54_0
theorem g54_0_at (z0 : List Int) (z1 : List Int) (z2 : List Int) : g54_0 [.l z0, .l z1, .l z2] = t54_0 z0 z1 z2 := rfl
theorem l54_0 : LamOk Try.prog (lamOf []) (codeOf Try.f54) := lamOk_nil
theorem b54_0 : BlkSound Try.prog 0 (blkOf (codeOf Try.f54) 0) (loopE h54_0 e54_0 g54_0) := loopE_at (u := 70) envOk54 mix 0 (by kernel_rfl) l54_0 (ks := [.l, .l, .l]) (t := t54_0) (fun _ => rfl) (fun _ => rfl) (fun z0 z1 z2 => by show _ = _; kernel_rfl)
def raw54 (a0 : List Int) : Option (List Hv) := (loopN g54_0 bigN [.l (a0), .l ([0, 0, 0, 0]), .l (dg4 p)]).bind fun r1 => bif r1.1 then none else (some [.l (hl r1.2 0)])
theorem l54 : LamOk Try.prog (lamOf [(0, loopE h54_0 e54_0 g54_0)]) (codeOf Try.f54) := lamOk_of (by kernel_rfl) (blk_cons b54_0 (blk_nil))
def G54 : GFn := ⟨[.arr .u64 4], .arr .u64 4, apH [.l] raw54⟩
theorem ok54 : EntryOk Try.prog 54 (.pure G54.sem) := gfn_pure (u := 70) envOk54 mix Try.func54 (by kernel_rfl) (by kernel_rfl) l54 G54 (by kernel_rfl) (by kernel_rfl) [.l] rfl (fun a0 => by show _ = _; kernel_rfl)
theorem at54 (a0 : List Int) : G54.fn [.l a0] = raw54 a0 := (congrFun (show G54.fn = apH [.l] raw54 from rfl) _).trans ((fun F => rfl : ∀ F : List Int → Option (List Hv), apH [.l] F [.l a0] = F a0) raw54)
/-! ### 41: towpath/field.Sum (pure) -/
noncomputable def env41 : List (FuncId × Entry) := [(64, .pure C64.sem)]
theorem envOk41 : EnvOk Try.prog (envOf env41) := envOf_ok (all_cons cok64 (all_nil))
def h41_0 : Tpl := ⟨[none, none, none, none, some (.ptr 2 []), some (.ptr 3 []), some (.int .u64), none, none, none, none, none, none, none, none, none, none, none, none, none, none, none, none, none], [none, none, some (.arr .u64 4), some (.arr .u64 4)], 4⟩
def e41_0 : Tpl := ⟨[none, none, none, none, some (.ptr 2 []), some (.ptr 3 []), none, none, none, none, none, none, none, none, none, none, none, none, none, none, none, none, none, none], [none, none, some (.arr .u64 4), some (.arr .u64 4)], 4⟩
def t41_0 (z0 : Int) (z1 : List Int) (z2 : List Int) : Option (Sum (List Hv) (Bool × List Hv)) := bif decide ((z0) > (0)) then (let x1 : List Int := [wr .u64 ((z0) * (38)), 0, 0, 0]; some (.inl [.i ((v4 (z2) + v4 (x1)) / Q), .l (z1), .l (dg4 (v4 (z2) + v4 (x1)))])) else (some (.inr (false, [.l (z1), .l (z2)])))
def g41_0 : StepG := apH [.i, .l, .l] t41_0
theorem g41_0_at (z0 : Int) (z1 : List Int) (z2 : List Int) : g41_0 [.i z0, .l z1, .l z2] = t41_0 z0 z1 z2 := rfl
theorem l41_0 : LamOk Try.prog (lamOf []) (codeOf Try.f41) := lamOk_nil
theorem b41_0 : BlkSound Try.prog 0 (blkOf (codeOf Try.f41) 0) (loopE h41_0 e41_0 g41_0) := loopE_at (u := 70) envOk41 mix 0 (by kernel_rfl) l41_0 (ks := [.i, .l, .l]) (t := t41_0) (fun _ => rfl) (fun _ => rfl) (fun z0 z1 z2 => by show _ = _; kernel_rfl)
def raw41 (a0 : List Int) (a1 : List Int) : Option (List Hv) := (loopN g41_0 bigN [.i ((v4 (a0) + v4 (a1)) / Q), .l ([0, 0, 0, 0]), .l (dg4 (v4 (a0) + v4 (a1)))]).bind fun r1 => bif r1.1 then none else (some [.l (hl r1.2 1)])
theorem l41 : LamOk Try.prog (lamOf [(0, loopE h41_0 e41_0 g41_0)]) (codeOf Try.f41) := lamOk_of (by kernel_rfl) (blk_cons b41_0 (blk_nil))
def G41 : GFn := ⟨[.arr .u64 4, .arr .u64 4], .arr .u64 4, apH [.l, .l] raw41⟩
theorem ok41 : EntryOk Try.prog 41 (.pure G41.sem) := gfn_pure (u := 70) envOk41 mix Try.func41 (by kernel_rfl) (by kernel_rfl) l41 G41 (by kernel_rfl) (by kernel_rfl) [.l, .l] rfl (fun a0 a1 => by show _ = _; kernel_rfl)
theorem at41 (a0 : List Int) (a1 : List Int) : G41.fn [.l a0, .l a1] = raw41 a0 a1 := (congrFun (show G41.fn = apH [.l, .l] raw41 from rfl) _).trans ((fun F => rfl : ∀ F : List Int → List Int → Option (List Hv), apH [.l, .l] F [.l a0, .l a1] = F a0 a1) raw41)
/-! ### 31: towpath/field.Diff (pure) -/
noncomputable def env31 : List (FuncId × Entry) := [(55, .pure C55.sem)]
theorem envOk31 : EnvOk Try.prog (envOf env31) := envOf_ok (all_cons cok55 (all_nil))
def h31_0 : Tpl := ⟨[none, none, none, none, some (.ptr 2 []), some (.ptr 3 []), some (.int .u64), none, none, none, none, none, none, none, none, none, none, none, none, none, none, none], [none, none, some (.arr .u64 4), some (.arr .u64 4)], 4⟩
def e31_0 : Tpl := ⟨[none, none, none, none, some (.ptr 2 []), some (.ptr 3 []), none, none, none, none, none, none, none, none, none, none, none, none, none, none, none, none], [none, none, some (.arr .u64 4), some (.arr .u64 4)], 4⟩
def t31_0 (z0 : Int) (z1 : List Int) (z2 : List Int) : Option (Sum (List Hv) (Bool × List Hv)) := bif decide ((z0) > (0)) then (let x1 : List Int := [38, 0, 0, 0]; some (.inl [.i (if v4 (z2) < v4 (x1) then 1 else 0), .l (z1), .l (dg4 (v4 (z2) - v4 (x1)))])) else (some (.inr (false, [.l (z1), .l (z2)])))
def g31_0 : StepG := apH [.i, .l, .l] t31_0
theorem g31_0_at (z0 : Int) (z1 : List Int) (z2 : List Int) : g31_0 [.i z0, .l z1, .l z2] = t31_0 z0 z1 z2 := rfl
theorem l31_0 : LamOk Try.prog (lamOf []) (codeOf Try.f31) := lamOk_nil
theorem b31_0 : BlkSound Try.prog 0 (blkOf (codeOf Try.f31) 0) (loopE h31_0 e31_0 g31_0) := loopE_at (u := 70) envOk31 mix 0 (by kernel_rfl) l31_0 (ks := [.i, .l, .l]) (t := t31_0) (fun _ => rfl) (fun _ => rfl) (fun z0 z1 z2 => by show _ = _; kernel_rfl)
def raw31 (a0 : List Int) (a1 : List Int) : Option (List Hv) := (loopN g31_0 bigN [.i (if v4 (a0) < v4 (a1) then 1 else 0), .l ([0, 0, 0, 0]), .l (dg4 (v4 (a0) - v4 (a1)))]).bind fun r1 => bif r1.1 then none else (some [.l (hl r1.2 1)])
theorem l31 : LamOk Try.prog (lamOf [(0, loopE h31_0 e31_0 g31_0)]) (codeOf Try.f31) := lamOk_of (by kernel_rfl) (blk_cons b31_0 (blk_nil))
def G31 : GFn := ⟨[.arr .u64 4, .arr .u64 4], .arr .u64 4, apH [.l, .l] raw31⟩
theorem ok31 : EntryOk Try.prog 31 (.pure G31.sem) := gfn_pure (u := 70) envOk31 mix Try.func31 (by kernel_rfl) (by kernel_rfl) l31 G31 (by kernel_rfl) (by kernel_rfl) [.l, .l] rfl (fun a0 a1 => by show _ = _; kernel_rfl)
theorem at31 (a0 : List Int) (a1 : List Int) : G31.fn [.l a0, .l a1] = raw31 a0 a1 := (congrFun (show G31.fn = apH [.l, .l] raw31 from rfl) _).trans ((fun F => rfl : ∀ F : List Int → List Int → Option (List Hv), apH [.l, .l] F [.l a0, .l a1] = F a0 a1) raw31)
theorem raw63_f0 (a0_0 a0_1 a0_2 a0_3 a0_4 a0_5 a0_6 a0_7 : Int) (a2_0 a2_1 a2_2 a2_3 : Int) (a3 : Int) : raw63 a0_0 a0_1 a0_2 a0_3 a0_4 a0_5 a0_6 a0_7 0 a2_0 a2_1 a2_2 a2_3 a3 = some [.l ([add64S (a0_0) (add64S ((a2_0) * (a3) % 18446744073709551616) (0) (0)) (0), add64S (a0_1) (add64S ((a2_1) * (a3) % 18446744073709551616) (wr .u64 ((wr .u64 (((a2_0) * (a3) / 18446744073709551616) + (add64C ((a2_0) * (a3) % 18446744073709551616) (0) (0)))) + (add64C (a0_0) (add64S ((a2_0) * (a3) % 18446744073709551616) (0) (0)) (0)))) (0)) (0), add64S (a0_2) (add64S ((a2_2) * (a3) % 18446744073709551616) (wr .u64 ((wr .u64 (((a2_1) * (a3) / 18446744073709551616) + (add64C ((a2_1) * (a3) % 18446744073709551616) (wr .u64 ((wr .u64 (((a2_0) * (a3) / 18446744073709551616) + (add64C ((a2_0) * (a3) % 18446744073709551616) (0) (0)))) + (add64C (a0_0) (add64S ((a2_0) * (a3) % 18446744073709551616) (0) (0)) (0)))) (0)))) + (add64C (a0_1) (add64S ((a2_1) * (a3) % 18446744073709551616) (wr .u64 ((wr .u64 (((a2_0) * (a3) / 18446744073709551616) + (add64C ((a2_0) * (a3) % 18446744073709551616) (0) (0)))) + (add64C (a0_0) (add64S ((a2_0) * (a3) % 18446744073709551616) (0) (0)) (0)))) (0)) (0)))) (0)) (0), add64S (a0_3) (add64S ((a2_3) * (a3) % 18446744073709551616) (wr .u64 ((wr .u64 (((a2_2) * (a3) / 18446744073709551616) + (add64C ((a2_2) * (a3) % 18446744073709551616) (wr .u64 ((wr .u64 (((a2_1) * (a3) / 18446744073709551616) + (add64C ((a2_1) * (a3) % 18446744073709551616) (wr .u64 ((wr .u64 (((a2_0) * (a3) / 18446744073709551616) + (add64C ((a2_0) * (a3) % 18446744073709551616) (0) (0)))) + (add64C (a0_0) (add64S ((a2_0) * (a3) % 18446744073709551616) (0) (0)) (0)))) (0)))) + (add64C (a0_1) (add64S ((a2_1) * (a3) % 18446744073709551616) (wr .u64 ((wr .u64 (((a2_0) * (a3) / 18446744073709551616) + (add64C ((a2_0) * (a3) % 18446744073709551616) (0) (0)))) + (add64C (a0_0) (add64S ((a2_0) * (a3) % 18446744073709551616) (0) (0)) (0)))) (0)) (0)))) (0)))) + (add64C (a0_2) (add64S ((a2_2) * (a3) % 18446744073709551616) (wr .u64 ((wr .u64 (((a2_1) * (a3) / 18446744073709551616) + (add64C ((a2_1) * (a3) % 18446744073709551616) (wr .u64 ((wr .u64 (((a2_0) * (a3) / 18446744073709551616) + (add64C ((a2_0) * (a3) % 18446744073709551616) (0) (0)))) + (add64C (a0_0) (add64S ((a2_0) * (a3) % 18446744073709551616) (0) (0)) (0)))) (0)))) + (add64C (a0_1) (add64S ((a2_1) * (a3) % 18446744073709551616) (wr .u64 ((wr .u64 (((a2_0) * (a3) / 18446744073709551616) + (add64C ((a2_0) * (a3) % 18446744073709551616) (0) (0)))) + (add64C (a0_0) (add64S ((a2_0) * (a3) % 18446744073709551616) (0) (0)) (0)))) (0)) (0)))) (0)) (0)))) (0)) (0), wr .u64 ((wr .u64 (((a2_3) * (a3) / 18446744073709551616) + (add64C ((a2_3) * (a3) % 18446744073709551616) (wr .u64 ((wr .u64 (((a2_2) * (a3) / 18446744073709551616) + (add64C ((a2_2) * (a3) % 18446744073709551616) (wr .u64 ((wr .u64 (((a2_1) * (a3) / 18446744073709551616) + (add64C ((a2_1) * (a3) % 18446744073709551616) (wr .u64 ((wr .u64 (((a2_0) * (a3) / 18446744073709551616) + (add64C ((a2_0) * (a3) % 18446744073709551616) (0) (0)))) + (add64C (a0_0) (add64S ((a2_0) * (a3) % 18446744073709551616) (0) (0)) (0)))) (0)))) + (add64C (a0_1) (add64S ((a2_1) * (a3) % 18446744073709551616) (wr .u64 ((wr .u64 (((a2_0) * (a3) / 18446744073709551616) + (add64C ((a2_0) * (a3) % 18446744073709551616) (0) (0)))) + (add64C (a0_0) (add64S ((a2_0) * (a3) % 18446744073709551616) (0) (0)) (0)))) (0)) (0)))) (0)))) + (add64C (a0_2) (add64S ((a2_2) * (a3) % 18446744073709551616) (wr .u64 ((wr .u64 (((a2_1) * (a3) / 18446744073709551616) + (add64C ((a2_1) * (a3) % 18446744073709551616) (wr .u64 ((wr .u64 (((a2_0) * (a3) / 18446744073709551616) + (add64C ((a2_0) * (a3) % 18446744073709551616) (0) (0)))) + (add64C (a0_0) (add64S ((a2_0) * (a3) % 18446744073709551616) (0) (0)) (0)))) (0)))) + (add64C (a0_1) (add64S ((a2_1) * (a3) % 18446744073709551616) (wr .u64 ((wr .u64 (((a2_0) * (a3) / 18446744073709551616) + (add64C ((a2_0) * (a3) % 18446744073709551616) (0) (0)))) + (add64C (a0_0) (add64S ((a2_0) * (a3) % 18446744073709551616) (0) (0)) (0)))) (0)) (0)))) (0)) (0)))) (0)))) + (add64C (a0_3) (add64S ((a2_3) * (a3) % 18446744073709551616) (wr .u64 ((wr .u64 (((a2_2) * (a3) / 18446744073709551616) + (add64C ((a2_2) * (a3) % 18446744073709551616) (wr .u64 ((wr .u64 (((a2_1) * (a3) / 18446744073709551616) + (add64C ((a2_1) * (a3) % 18446744073709551616) (wr .u64 ((wr .u64 (((a2_0) * (a3) / 18446744073709551616) + (add64C ((a2_0) * (a3) % 18446744073709551616) (0) (0)))) + (add64C (a0_0) (add64S ((a2_0) * (a3) % 18446744073709551616) (0) (0)) (0)))) (0)))) + (add64C (a0_1) (add64S ((a2_1) * (a3) % 18446744073709551616) (wr .u64 ((wr .u64 (((a2_0) * (a3) / 18446744073709551616) + (add64C ((a2_0) * (a3) % 18446744073709551616) (0) (0)))) + (add64C (a0_0) (add64S ((a2_0) * (a3) % 18446744073709551616) (0) (0)) (0)))) (0)) (0)))) (0)))) + (add64C (a0_2) (add64S ((a2_2) * (a3) % 18446744073709551616) (wr .u64 ((wr .u64 (((a2_1) * (a3) / 18446744073709551616) + (add64C ((a2_1) * (a3) % 18446744073709551616) (wr .u64 ((wr .u64 (((a2_0) * (a3) / 18446744073709551616) + (add64C ((a2_0) * (a3) % 18446744073709551616) (0) (0)))) + (add64C (a0_0) (add64S ((a2_0) * (a3) % 18446744073709551616) (0) (0)) (0)))) (0)))) + (add64C (a0_1) (add64S ((a2_1) * (a3) % 18446744073709551616) (wr .u64 ((wr .u64 (((a2_0) * (a3) / 18446744073709551616) + (add64C ((a2_0) * (a3) % 18446744073709551616) (0) (0)))) + (add64C (a0_0) (add64S ((a2_0) * (a3) % 18446744073709551616) (0) (0)) (0)))) (0)) (0)))) (0)) (0)))) (0)) (0))), a0_5, a0_6, a0_7])] := by kernel_rfl
theorem raw63_f1 (a0_0 a0_1 a0_2 a0_3 a0_4 a0_5 a0_6 a0_7 : Int) (a2_0 a2_1 a2_2 a2_3 : Int) (a3 : Int) : raw63 a0_0 a0_1 a0_2 a0_3 a0_4 a0_5 a0_6 a0_7 1 a2_0 a2_1 a2_2 a2_3 a3 = some [.l ([a0_0, add64S (a0_1) (add64S ((a2_0) * (a3) % 18446744073709551616) (0) (0)) (0), add64S (a0_2) (add64S ((a2_1) * (a3) % 18446744073709551616) (wr .u64 ((wr .u64 (((a2_0) * (a3) / 18446744073709551616) + (add64C ((a2_0) * (a3) % 18446744073709551616) (0) (0)))) + (add64C (a0_1) (add64S ((a2_0) * (a3) % 18446744073709551616) (0) (0)) (0)))) (0)) (0), add64S (a0_3) (add64S ((a2_2) * (a3) % 18446744073709551616) (wr .u64 ((wr .u64 (((a2_1) * (a3) / 18446744073709551616) + (add64C ((a2_1) * (a3) % 18446744073709551616) (wr .u64 ((wr .u64 (((a2_0) * (a3) / 18446744073709551616) + (add64C ((a2_0) * (a3) % 18446744073709551616) (0) (0)))) + (add64C (a0_1) (add64S ((a2_0) * (a3) % 18446744073709551616) (0) (0)) (0)))) (0)))) + (add64C (a0_2) (add64S ((a2_1) * (a3) % 18446744073709551616) (wr .u64 ((wr .u64 (((a2_0) * (a3) / 18446744073709551616) + (add64C ((a2_0) * (a3) % 18446744073709551616) (0) (0)))) + (add64C (a0_1) (add64S ((a2_0) * (a3) % 18446744073709551616) (0) (0)) (0)))) (0)) (0)))) (0)) (0), add64S (a0_4) (add64S ((a2_3) * (a3) % 18446744073709551616) (wr .u64 ((wr .u64 (((a2_2) * (a3) / 18446744073709551616) + (add64C ((a2_2) * (a3) % 18446744073709551616) (wr .u64 ((wr .u64 (((a2_1) * (a3) / 18446744073709551616) + (add64C ((a2_1) * (a3) % 18446744073709551616) (wr .u64 ((wr .u64 (((a2_0) * (a3) / 18446744073709551616) + (add64C ((a2_0) * (a3) % 18446744073709551616) (0) (0)))) + (add64C (a0_1) (add64S ((a2_0) * (a3) % 18446744073709551616) (0) (0)) (0)))) (0)))) + (add64C (a0_2) (add64S ((a2_1) * (a3) % 18446744073709551616) (wr .u64 ((wr .u64 (((a2_0) * (a3) / 18446744073709551616) + (add64C ((a2_0) * (a3) % 18446744073709551616) (0) (0)))) + (add64C (a0_1) (add64S ((a2_0) * (a3) % 18446744073709551616) (0) (0)) (0)))) (0)) (0)))) (0)))) + (add64C (a0_3) (add64S ((a2_2) * (a3) % 18446744073709551616) (wr .u64 ((wr .u64 (((a2_1) * (a3) / 18446744073709551616) + (add64C ((a2_1) * (a3) % 18446744073709551616) (wr .u64 ((wr .u64 (((a2_0) * (a3) / 18446744073709551616) + (add64C ((a2_0) * (a3) % 18446744073709551616) (0) (0)))) + (add64C (a0_1) (add64S ((a2_0) * (a3) % 18446744073709551616) (0) (0)) (0)))) (0)))) + (add64C (a0_2) (add64S ((a2_1) * (a3) % 18446744073709551616) (wr .u64 ((wr .u64 (((a2_0) * (a3) / 18446744073709551616) + (add64C ((a2_0) * (a3) % 18446744073709551616) (0) (0)))) + (add64C (a0_1) (add64S ((a2_0) * (a3) % 18446744073709551616) (0) (0)) (0)))) (0)) (0)))) (0)) (0)))) (0)) (0), wr .u64 ((wr .u64 (((a2_3) * (a3) / 18446744073709551616) + (add64C ((a2_3) * (a3) % 18446744073709551616) (wr .u64 ((wr .u64 (((a2_2) * (a3) / 18446744073709551616) + (add64C ((a2_2) * (a3) % 18446744073709551616) (wr .u64 ((wr .u64 (((a2_1) * (a3) / 18446744073709551616) + (add64C ((a2_1) * (a3) % 18446744073709551616) (wr .u64 ((wr .u64 (((a2_0) * (a3) / 18446744073709551616) + (add64C ((a2_0) * (a3) % 18446744073709551616) (0) (0)))) + (add64C (a0_1) (add64S ((a2_0) * (a3) % 18446744073709551616) (0) (0)) (0)))) (0)))) + (add64C (a0_2) (add64S ((a2_1) * (a3) % 18446744073709551616) (wr .u64 ((wr .u64 (((a2_0) * (a3) / 18446744073709551616) + (add64C ((a2_0) * (a3) % 18446744073709551616) (0) (0)))) + (add64C (a0_1) (add64S ((a2_0) * (a3) % 18446744073709551616) (0) (0)) (0)))) (0)) (0)))) (0)))) + (add64C (a0_3) (add64S ((a2_2) * (a3) % 18446744073709551616) (wr .u64 ((wr .u64 (((a2_1) * (a3) / 18446744073709551616) + (add64C ((a2_1) * (a3) % 18446744073709551616) (wr .u64 ((wr .u64 (((a2_0) * (a3) / 18446744073709551616) + (add64C ((a2_0) * (a3) % 18446744073709551616) (0) (0)))) + (add64C (a0_1) (add64S ((a2_0) * (a3) % 18446744073709551616) (0) (0)) (0)))) (0)))) + (add64C (a0_2) (add64S ((a2_1) * (a3) % 18446744073709551616) (wr .u64 ((wr .u64 (((a2_0) * (a3) / 18446744073709551616) + (add64C ((a2_0) * (a3) % 18446744073709551616) (0) (0)))) + (add64C (a0_1) (add64S ((a2_0) * (a3) % 18446744073709551616) (0) (0)) (0)))) (0)) (0)))) (0)) (0)))) (0)))) + (add64C (a0_4) (add64S ((a2_3) * (a3) % 18446744073709551616) (wr .u64 ((wr .u64 (((a2_2) * (a3) / 18446744073709551616) + (add64C ((a2_2) * (a3) % 18446744073709551616) (wr .u64 ((wr .u64 (((a2_1) * (a3) / 18446744073709551616) + (add64C ((a2_1) * (a3) % 18446744073709551616) (wr .u64 ((wr .u64 (((a2_0) * (a3) / 18446744073709551616) + (add64C ((a2_0) * (a3) % 18446744073709551616) (0) (0)))) + (add64C (a0_1) (add64S ((a2_0) * (a3) % 18446744073709551616) (0) (0)) (0)))) (0)))) + (add64C (a0_2) (add64S ((a2_1) * (a3) % 18446744073709551616) (wr .u64 ((wr .u64 (((a2_0) * (a3) / 18446744073709551616) + (add64C ((a2_0) * (a3) % 18446744073709551616) (0) (0)))) + (add64C (a0_1) (add64S ((a2_0) * (a3) % 18446744073709551616) (0) (0)) (0)))) (0)) (0)))) (0)))) + (add64C (a0_3) (add64S ((a2_2) * (a3) % 18446744073709551616) (wr .u64 ((wr .u64 (((a2_1) * (a3) / 18446744073709551616) + (add64C ((a2_1) * (a3) % 18446744073709551616) (wr .u64 ((wr .u64 (((a2_0) * (a3) / 18446744073709551616) + (add64C ((a2_0) * (a3) % 18446744073709551616) (0) (0)))) + (add64C (a0_1) (add64S ((a2_0) * (a3) % 18446744073709551616) (0) (0)) (0)))) (0)))) + (add64C (a0_2) (add64S ((a2_1) * (a3) % 18446744073709551616) (wr .u64 ((wr .u64 (((a2_0) * (a3) / 18446744073709551616) + (add64C ((a2_0) * (a3) % 18446744073709551616) (0) (0)))) + (add64C (a0_1) (add64S ((a2_0) * (a3) % 18446744073709551616) (0) (0)) (0)))) (0)) (0)))) (0)) (0)))) (0)) (0))), a0_6, a0_7])] := by kernel_rfl
theorem raw63_f2 (a0_0 a0_1 a0_2 a0_3 a0_4 a0_5 a0_6 a0_7 : Int) (a2_0 a2_1 a2_2 a2_3 : Int) (a3 : Int) : raw63 a0_0 a0_1 a0_2 a0_3 a0_4 a0_5 a0_6 a0_7 2 a2_0 a2_1 a2_2 a2_3 a3 = some [.l ([a0_0, a0_1, add64S (a0_2) (add64S ((a2_0) * (a3) % 18446744073709551616) (0) (0)) (0), add64S (a0_3) (add64S ((a2_1) * (a3) % 18446744073709551616) (wr .u64 ((wr .u64 (((a2_0) * (a3) / 18446744073709551616) + (add64C ((a2_0) * (a3) % 18446744073709551616) (0) (0)))) + (add64C (a0_2) (add64S ((a2_0) * (a3) % 18446744073709551616) (0) (0)) (0)))) (0)) (0), add64S (a0_4) (add64S ((a2_2) * (a3) % 18446744073709551616) (wr .u64 ((wr .u64 (((a2_1) * (a3) / 18446744073709551616) + (add64C ((a2_1) * (a3) % 18446744073709551616) (wr .u64 ((wr .u64 (((a2_0) * (a3) / 18446744073709551616) + (add64C ((a2_0) * (a3) % 18446744073709551616) (0) (0)))) + (add64C (a0_2) (add64S ((a2_0) * (a3) % 18446744073709551616) (0) (0)) (0)))) (0)))) + (add64C (a0_3) (add64S ((a2_1) * (a3) % 18446744073709551616) (wr .u64 ((wr .u64 (((a2_0) * (a3) / 18446744073709551616) + (add64C ((a2_0) * (a3) % 18446744073709551616) (0) (0)))) + (add64C (a0_2) (add64S ((a2_0) * (a3) % 18446744073709551616) (0) (0)) (0)))) (0)) (0)))) (0)) (0), add64S (a0_5) (add64S ((a2_3) * (a3) % 18446744073709551616) (wr .u64 ((wr .u64 (((a2_2) * (a3) / 18446744073709551616) + (add64C ((a2_2) * (a3) % 18446744073709551616) (wr .u64 ((wr .u64 (((a2_1) * (a3) / 18446744073709551616) + (add64C ((a2_1) * (a3) % 18446744073709551616) (wr .u64 ((wr .u64 (((a2_0) * (a3) / 18446744073709551616) + (add64C ((a2_0) * (a3) % 18446744073709551616) (0) (0)))) + (add64C (a0_2) (add64S ((a2_0) * (a3) % 18446744073709551616) (0) (0)) (0)))) (0)))) + (add64C (a0_3) (add64S ((a2_1) * (a3) % 18446744073709551616) (wr .u64 ((wr .u64 (((a2_0) * (a3) / 18446744073709551616) + (add64C ((a2_0) * (a3) % 18446744073709551616) (0) (0)))) + (add64C (a0_2) (add64S ((a2_0) * (a3) % 18446744073709551616) (0) (0)) (0)))) (0)) (0)))) (0)))) + (add64C (a0_4) (add64S ((a2_2) * (a3) % 18446744073709551616) (wr .u64 ((wr .u64 (((a2_1) * (a3) / 18446744073709551616) + (add64C ((a2_1) * (a3) % 18446744073709551616) (wr .u64 ((wr .u64 (((a2_0) * (a3) / 18446744073709551616) + (add64C ((a2_0) * (a3) % 18446744073709551616) (0) (0)))) + (add64C (a0_2) (add64S ((a2_0) * (a3) % 18446744073709551616) (0) (0)) (0)))) (0)))) + (add64C (a0_3) (add64S ((a2_1) * (a3) % 18446744073709551616) (wr .u64 ((wr .u64 (((a2_0) * (a3) / 18446744073709551616) + (add64C ((a2_0) * (a3) % 18446744073709551616) (0) (0)))) + (add64C (a0_2) (add64S ((a2_0) * (a3) % 18446744073709551616) (0) (0)) (0)))) (0)) (0)))) (0)) (0)))) (0)) (0), wr .u64 ((wr .u64 (((a2_3) * (a3) / 18446744073709551616) + (add64C ((a2_3) * (a3) % 18446744073709551616) (wr .u64 ((wr .u64 (((a2_2) * (a3) / 18446744073709551616) + (add64C ((a2_2) * (a3) % 18446744073709551616) (wr .u64 ((wr .u64 (((a2_1) * (a3) / 18446744073709551616) + (add64C ((a2_1) * (a3) % 18446744073709551616) (wr .u64 ((wr .u64 (((a2_0) * (a3) / 18446744073709551616) + (add64C ((a2_0) * (a3) % 18446744073709551616) (0) (0)))) + (add64C (a0_2) (add64S ((a2_0) * (a3) % 18446744073709551616) (0) (0)) (0)))) (0)))) + (add64C (a0_3) (add64S ((a2_1) * (a3) % 18446744073709551616) (wr .u64 ((wr .u64 (((a2_0) * (a3) / 18446744073709551616) + (add64C ((a2_0) * (a3) % 18446744073709551616) (0) (0)))) + (add64C (a0_2) (add64S ((a2_0) * (a3) % 18446744073709551616) (0) (0)) (0)))) (0)) (0)))) (0)))) + (add64C (a0_4) (add64S ((a2_2) * (a3) % 18446744073709551616) (wr .u64 ((wr .u64 (((a2_1) * (a3) / 18446744073709551616) + (add64C ((a2_1) * (a3) % 18446744073709551616) (wr .u64 ((wr .u64 (((a2_0) * (a3) / 18446744073709551616) + (add64C ((a2_0) * (a3) % 18446744073709551616) (0) (0)))) + (add64C (a0_2) (add64S ((a2_0) * (a3) % 18446744073709551616) (0) (0)) (0)))) (0)))) + (add64C (a0_3) (add64S ((a2_1) * (a3) % 18446744073709551616) (wr .u64 ((wr .u64 (((a2_0) * (a3) / 18446744073709551616) + (add64C ((a2_0) * (a3) % 18446744073709551616) (0) (0)))) + (add64C (a0_2) (add64S ((a2_0) * (a3) % 18446744073709551616) (0) (0)) (0)))) (0)) (0)))) (0)) (0)))) (0)))) + (add64C (a0_5) (add64S ((a2_3) * (a3) % 18446744073709551616) (wr .u64 ((wr .u64 (((a2_2) * (a3) / 18446744073709551616) + (add64C ((a2_2) * (a3) % 18446744073709551616) (wr .u64 ((wr .u64 (((a2_1) * (a3) / 18446744073709551616) + (add64C ((a2_1) * (a3) % 18446744073709551616) (wr .u64 ((wr .u64 (((a2_0) * (a3) / 18446744073709551616) + (add64C ((a2_0) * (a3) % 18446744073709551616) (0) (0)))) + (add64C (a0_2) (add64S ((a2_0) * (a3) % 18446744073709551616) (0) (0)) (0)))) (0)))) + (add64C (a0_3) (add64S ((a2_1) * (a3) % 18446744073709551616) (wr .u64 ((wr .u64 (((a2_0) * (a3) / 18446744073709551616) + (add64C ((a2_0) * (a3) % 18446744073709551616) (0) (0)))) + (add64C (a0_2) (add64S ((a2_0) * (a3) % 18446744073709551616) (0) (0)) (0)))) (0)) (0)))) (0)))) + (add64C (a0_4) (add64S ((a2_2) * (a3) % 18446744073709551616) (wr .u64 ((wr .u64 (((a2_1) * (a3) / 18446744073709551616) + (add64C ((a2_1) * (a3) % 18446744073709551616) (wr .u64 ((wr .u64 (((a2_0) * (a3) / 18446744073709551616) + (add64C ((a2_0) * (a3) % 18446744073709551616) (0) (0)))) + (add64C (a0_2) (add64S ((a2_0) * (a3) % 18446744073709551616) (0) (0)) (0)))) (0)))) + (add64C (a0_3) (add64S ((a2_1) * (a3) % 18446744073709551616) (wr .u64 ((wr .u64 (((a2_0) * (a3) / 18446744073709551616) + (add64C ((a2_0) * (a3) % 18446744073709551616) (0) (0)))) + (add64C (a0_2) (add64S ((a2_0) * (a3) % 18446744073709551616) (0) (0)) (0)))) (0)) (0)))) (0)) (0)))) (0)) (0))), a0_7])] := by kernel_rfl
theorem raw63_f3 (a0_0 a0_1 a0_2 a0_3 a0_4 a0_5 a0_6 a0_7 : Int) (a2_0 a2_1 a2_2 a2_3 : Int) (a3 : Int) : raw63 a0_0 a0_1 a0_2 a0_3 a0_4 a0_5 a0_6 a0_7 3 a2_0 a2_1 a2_2 a2_3 a3 = some [.l ([a0_0, a0_1, a0_2, add64S (a0_3) (add64S ((a2_0) * (a3) % 18446744073709551616) (0) (0)) (0), add64S (a0_4) (add64S ((a2_1) * (a3) % 18446744073709551616) (wr .u64 ((wr .u64 (((a2_0) * (a3) / 18446744073709551616) + (add64C ((a2_0) * (a3) % 18446744073709551616) (0) (0)))) + (add64C (a0_3) (add64S ((a2_0) * (a3) % 18446744073709551616) (0) (0)) (0)))) (0)) (0), add64S (a0_5) (add64S ((a2_2) * (a3) % 18446744073709551616) (wr .u64 ((wr .u64 (((a2_1) * (a3) / 18446744073709551616) + (add64C ((a2_1) * (a3) % 18446744073709551616) (wr .u64 ((wr .u64 (((a2_0) * (a3) / 18446744073709551616) + (add64C ((a2_0) * (a3) % 18446744073709551616) (0) (0)))) + (add64C (a0_3) (add64S ((a2_0) * (a3) % 18446744073709551616) (0) (0)) (0)))) (0)))) + (add64C (a0_4) (add64S ((a2_1) * (a3) % 18446744073709551616) (wr .u64 ((wr .u64 (((a2_0) * (a3) / 18446744073709551616) + (add64C ((a2_0) * (a3) % 18446744073709551616) (0) (0)))) + (add64C (a0_3) (add64S ((a2_0) * (a3) % 18446744073709551616) (0) (0)) (0)))) (0)) (0)))) (0)) (0), add64S (a0_6) (add64S ((a2_3) * (a3) % 18446744073709551616) (wr .u64 ((wr .u64 (((a2_2) * (a3) / 18446744073709551616) + (add64C ((a2_2) * (a3) % 18446744073709551616) (wr .u64 ((wr .u64 (((a2_1) * (a3) / 18446744073709551616) + (add64C ((a2_1) * (a3) % 18446744073709551616) (wr .u64 ((wr .u64 (((a2_0) * (a3) / 18446744073709551616) + (add64C ((a2_0) * (a3) % 18446744073709551616) (0) (0)))) + (add64C (a0_3) (add64S ((a2_0) * (a3) % 18446744073709551616) (0) (0)) (0)))) (0)))) + (add64C (a0_4) (add64S ((a2_1) * (a3) % 18446744073709551616) (wr .u64 ((wr .u64 (((a2_0) * (a3) / 18446744073709551616) + (add64C ((a2_0) * (a3) % 18446744073709551616) (0) (0)))) + (add64C (a0_3) (add64S ((a2_0) * (a3) % 18446744073709551616) (0) (0)) (0)))) (0)) (0)))) (0)))) + (add64C (a0_5) (add64S ((a2_2) * (a3) % 18446744073709551616) (wr .u64 ((wr .u64 (((a2_1) * (a3) / 18446744073709551616) + (add64C ((a2_1) * (a3) % 18446744073709551616) (wr .u64 ((wr .u64 (((a2_0) * (a3) / 18446744073709551616) + (add64C ((a2_0) * (a3) % 18446744073709551616) (0) (0)))) + (add64C (a0_3) (add64S ((a2_0) * (a3) % 18446744073709551616) (0) (0)) (0)))) (0)))) + (add64C (a0_4) (add64S ((a2_1) * (a3) % 18446744073709551616) (wr .u64 ((wr .u64 (((a2_0) * (a3) / 18446744073709551616) + (add64C ((a2_0) * (a3) % 18446744073709551616) (0) (0)))) + (add64C (a0_3) (add64S ((a2_0) * (a3) % 18446744073709551616) (0) (0)) (0)))) (0)) (0)))) (0)) (0)))) (0)) (0), wr .u64 ((wr .u64 (((a2_3) * (a3) / 18446744073709551616) + (add64C ((a2_3) * (a3) % 18446744073709551616) (wr .u64 ((wr .u64 (((a2_2) * (a3) / 18446744073709551616) + (add64C ((a2_2) * (a3) % 18446744073709551616) (wr .u64 ((wr .u64 (((a2_1) * (a3) / 18446744073709551616) + (add64C ((a2_1) * (a3) % 18446744073709551616) (wr .u64 ((wr .u64 (((a2_0) * (a3) / 18446744073709551616) + (add64C ((a2_0) * (a3) % 18446744073709551616) (0) (0)))) + (add64C (a0_3) (add64S ((a2_0) * (a3) % 18446744073709551616) (0) (0)) (0)))) (0)))) + (add64C (a0_4) (add64S ((a2_1) * (a3) % 18446744073709551616) (wr .u64 ((wr .u64 (((a2_0) * (a3) / 18446744073709551616) + (add64C ((a2_0) * (a3) % 18446744073709551616) (0) (0)))) + (add64C (a0_3) (add64S ((a2_0) * (a3) % 18446744073709551616) (0) (0)) (0)))) (0)) (0)))) (0)))) + (add64C (a0_5) (add64S ((a2_2) * (a3) % 18446744073709551616) (wr .u64 ((wr .u64 (((a2_1) * (a3) / 18446744073709551616) + (add64C ((a2_1) * (a3) % 18446744073709551616) (wr .u64 ((wr .u64 (((a2_0) * (a3) / 18446744073709551616) + (add64C ((a2_0) * (a3) % 18446744073709551616) (0) (0)))) + (add64C (a0_3) (add64S ((a2_0) * (a3) % 18446744073709551616) (0) (0)) (0)))) (0)))) + (add64C (a0_4) (add64S ((a2_1) * (a3) % 18446744073709551616) (wr .u64 ((wr .u64 (((a2_0) * (a3) / 18446744073709551616) + (add64C ((a2_0) * (a3) % 18446744073709551616) (0) (0)))) + (add64C (a0_3) (add64S ((a2_0) * (a3) % 18446744073709551616) (0) (0)) (0)))) (0)) (0)))) (0)) (0)))) (0)))) + (add64C (a0_6) (add64S ((a2_3) * (a3) % 18446744073709551616) (wr .u64 ((wr .u64 (((a2_2) * (a3) / 18446744073709551616) + (add64C ((a2_2) * (a3) % 18446744073709551616) (wr .u64 ((wr .u64 (((a2_1) * (a3) / 18446744073709551616) + (add64C ((a2_1) * (a3) % 18446744073709551616) (wr .u64 ((wr .u64 (((a2_0) * (a3) / 18446744073709551616) + (add64C ((a2_0) * (a3) % 18446744073709551616) (0) (0)))) + (add64C (a0_3) (add64S ((a2_0) * (a3) % 18446744073709551616) (0) (0)) (0)))) (0)))) + (add64C (a0_4) (add64S ((a2_1) * (a3) % 18446744073709551616) (wr .u64 ((wr .u64 (((a2_0) * (a3) / 18446744073709551616) + (add64C ((a2_0) * (a3) % 18446744073709551616) (0) (0)))) + (add64C (a0_3) (add64S ((a2_0) * (a3) % 18446744073709551616) (0) (0)) (0)))) (0)) (0)))) (0)))) + (add64C (a0_5) (add64S ((a2_2) * (a3) % 18446744073709551616) (wr .u64 ((wr .u64 (((a2_1) * (a3) / 18446744073709551616) + (add64C ((a2_1) * (a3) % 18446744073709551616) (wr .u64 ((wr .u64 (((a2_0) * (a3) / 18446744073709551616) + (add64C ((a2_0) * (a3) % 18446744073709551616) (0) (0)))) + (add64C (a0_3) (add64S ((a2_0) * (a3) % 18446744073709551616) (0) (0)) (0)))) (0)))) + (add64C (a0_4) (add64S ((a2_1) * (a3) % 18446744073709551616) (wr .u64 ((wr .u64 (((a2_0) * (a3) / 18446744073709551616) + (add64C ((a2_0) * (a3) % 18446744073709551616) (0) (0)))) + (add64C (a0_3) (add64S ((a2_0) * (a3) % 18446744073709551616) (0) (0)) (0)))) (0)) (0)))) (0)) (0)))) (0)) (0)))])] := by kernel_rfl
end Go.Proofs.Ytibldmjnddppaaa.Fld
set_option linter.unusedVariables false
set_option maxRecDepth 10000
namespace Go.Proofs.Ytibldmjnddppaaa.Fld
open Go Go.Sim Go.Fld

theorem stepB {v b c x : Int} (hv : 0 ≤ v ∧ v < 18446744073709551616) (hb : 0 ≤ b ∧ b < 18446744073709551616) (hc : 0 ≤ c ∧ c < 18446744073709551616) (hx : 0 ≤ x ∧ x < 18446744073709551616) : 0 ≤ v * b ∧ v * b ≤ 340282366920938463426481119284349108225 := by
  refine ⟨Int.mul_nonneg hv.1 hb.1, ?_⟩
  have h1 : v * b ≤ 18446744073709551615 * b := Int.mul_le_mul_of_nonneg_right (by omega) hb.1
  omega
theorem stepS {v b c x : Int} (hv : 0 ≤ v ∧ v < 18446744073709551616) (hb : 0 ≤ b ∧ b < 18446744073709551616) (hc : 0 ≤ c ∧ c < 18446744073709551616) (hx : 0 ≤ x ∧ x < 18446744073709551616) :
    add64S x (add64S (v * b % 18446744073709551616) c 0) 0 = (v * b + c + x) % 18446744073709551616 := by
  have hp := stepB hv hb hc hx
  generalize v * b = P at *
  rw [add64S_eq (x := P % 18446744073709551616) (by omega) hc.1 (by omega), add64S_eq hx.1 (by omega) (by omega)]
  omega
theorem stepC {v b c x : Int} (hv : 0 ≤ v ∧ v < 18446744073709551616) (hb : 0 ≤ b ∧ b < 18446744073709551616) (hc : 0 ≤ c ∧ c < 18446744073709551616) (hx : 0 ≤ x ∧ x < 18446744073709551616) :
    wr .u64 (wr .u64 (v * b / 18446744073709551616 + add64C (v * b % 18446744073709551616) c 0) + add64C x (add64S (v * b % 18446744073709551616) c 0) 0) = (v * b + c + x) / 18446744073709551616 := by
  have hp := stepB hv hb hc hx
  generalize v * b = P at *
  rw [add64S_eq (x := P % 18446744073709551616) (by omega) hc.1 (by omega), add64C_eq (x := P % 18446744073709551616) (by omega) hc.1 (by omega), add64C_eq hx.1 (by omega) (by omega)]
  simp only [wr]
  omega
theorem stepR {v b c x : Int} (hv : 0 ≤ v ∧ v < 18446744073709551616) (hb : 0 ≤ b ∧ b < 18446744073709551616) (hc : 0 ≤ c ∧ c < 18446744073709551616) (hx : 0 ≤ x ∧ x < 18446744073709551616) : 0 ≤ (v * b + c + x) / 18446744073709551616 ∧ (v * b + c + x) / 18446744073709551616 < 18446744073709551616 := by
  have hp := stepB hv hb hc hx
  generalize v * b = P at *
  omega
theorem len8 {l : List Int} (h : l.length = 8) : ∃ a b c d e f g h, l = [a, b, c, d, e, f, g, h] := by
  match l, h with
  | [a, b, c, d, e, f, g, h], _ => exact ⟨a, b, c, d, e, f, g, h, rfl⟩
theorem in8 {k : IntKind} {a b c d e f g i : Int} (h : ∀ y ∈ [a, b, c, d, e, f, g, i], inK k y) : inK k a ∧ inK k b ∧ inK k c ∧ inK k d ∧ inK k e ∧ inK k f ∧ inK k g ∧ inK k i :=
  ⟨h a (by simp), h b (by simp), h c (by simp), h d (by simp), h e (by simp), h f (by simp), h g (by simp), h i (by simp)⟩
theorem mem8 {Q : Int → Prop} {a b c d e f g i : Int} (h0 : Q a) (h1 : Q b) (h2 : Q c) (h3 : Q d) (h4 : Q e) (h5 : Q f) (h6 : Q g) (h7 : Q i) : ∀ y ∈ [a, b, c, d, e, f, g, i], Q y := by
  intro y hy
  simp only [List.mem_cons, List.not_mem_nil, or_false] at hy
  rcases hy with rfl | rfl | rfl | rfl | rfl | rfl | rfl | rfl <;> assumption

theorem row_0 {x0 x1 x2 x3 x4 x5 x6 x7 v0 v1 v2 v3 b : Int} (h0 : 0 ≤ x0 ∧ x0 < 18446744073709551616) (h1 : 0 ≤ x1 ∧ x1 < 18446744073709551616) (h2 : 0 ≤ x2 ∧ x2 < 18446744073709551616) (h3 : 0 ≤ x3 ∧ x3 < 18446744073709551616) (h4 : 0 ≤ x4 ∧ x4 < 18446744073709551616) (h5 : 0 ≤ x5 ∧ x5 < 18446744073709551616) (h6 : 0 ≤ x6 ∧ x6 < 18446744073709551616) (h7 : 0 ≤ x7 ∧ x7 < 18446744073709551616) (k0 : 0 ≤ v0 ∧ v0 < 18446744073709551616) (k1 : 0 ≤ v1 ∧ v1 < 18446744073709551616) (k2 : 0 ≤ v2 ∧ v2 < 18446744073709551616) (k3 : 0 ≤ v3 ∧ v3 < 18446744073709551616) (hb : 0 ≤ b ∧ b < 18446744073709551616) (hz : v8 [x0, x1, x2, x3, x4, x5, x6, x7] < 115792089237316195423570985008687907853269984665640564039457584007913129639936) :
    raw63 x0 x1 x2 x3 x4 x5 x6 x7 0 v0 v1 v2 v3 b = some [.l (dg8 (v8 [x0, x1, x2, x3, x4, x5, x6, x7] + 1 * (v4 [v0, v1, v2, v3] * b)))] := by
  rw [raw63_f0]
  have s0 := stepS (c := 0) k0 hb ⟨by omega, by omega⟩ h0
  have c0 := stepC (c := 0) k0 hb ⟨by omega, by omega⟩ h0
  have r0 := stepR (c := 0) k0 hb ⟨by omega, by omega⟩ h0
  generalize hC0 : (v0 * b + 0 + x0) / 18446744073709551616 = C0 at c0 r0
  have s1 := stepS (c := C0) k1 hb r0 h1
  have c1 := stepC (c := C0) k1 hb r0 h1
  have r1 := stepR (c := C0) k1 hb r0 h1
  generalize hC1 : (v1 * b + C0 + x1) / 18446744073709551616 = C1 at c1 r1
  have s2 := stepS (c := C1) k2 hb r1 h2
  have c2 := stepC (c := C1) k2 hb r1 h2
  have r2 := stepR (c := C1) k2 hb r1 h2
  generalize hC2 : (v2 * b + C1 + x2) / 18446744073709551616 = C2 at c2 r2
  have s3 := stepS (c := C2) k3 hb r2 h3
  have c3 := stepC (c := C2) k3 hb r2 h3
  have r3 := stepR (c := C2) k3 hb r2 h3
  generalize hC3 : (v3 * b + C2 + x3) / 18446744073709551616 = C3 at c3 r3
  rw [s0, c0, s1, c1, s2, c2, s3, c3]
  have z4 : x4 = 0 := by simp only [v8, valD] at hz; omega
  have z5 : x5 = 0 := by simp only [v8, valD] at hz; omega
  have z6 : x6 = 0 := by simp only [v8, valD] at hz; omega
  have z7 : x7 = 0 := by simp only [v8, valD] at hz; omega
  have hvb : v4 [v0, v1, v2, v3] * b = v0 * b + 18446744073709551616 * (v1 * b) + 340282366920938463463374607431768211456 * (v2 * b) + 6277101735386680763835789423207666416102355444464034512896 * (v3 * b) := by simp only [v4, valD]; grind
  rw [show dg8 (v8 [x0, x1, x2, x3, x4, x5, x6, x7] + 1 * (v4 [v0, v1, v2, v3] * b)) = [(v0 * b + 0 + x0) % 18446744073709551616, (v1 * b + C0 + x1) % 18446744073709551616, (v2 * b + C1 + x2) % 18446744073709551616, (v3 * b + C2 + x3) % 18446744073709551616, C3, x5, x6, x7] from digs_eq (by decide) rfl (mem8 (by omega) (by omega) (by omega) (by omega) (by omega) (by omega) (by omega) (by omega)) ?_]
  rw [hvb]
  generalize v0 * b = P0 at *
  generalize v1 * b = P1 at *
  generalize v2 * b = P2 at *
  generalize v3 * b = P3 at *
  simp only [v8, valD]; omega
theorem row_1 {x0 x1 x2 x3 x4 x5 x6 x7 v0 v1 v2 v3 b : Int} (h0 : 0 ≤ x0 ∧ x0 < 18446744073709551616) (h1 : 0 ≤ x1 ∧ x1 < 18446744073709551616) (h2 : 0 ≤ x2 ∧ x2 < 18446744073709551616) (h3 : 0 ≤ x3 ∧ x3 < 18446744073709551616) (h4 : 0 ≤ x4 ∧ x4 < 18446744073709551616) (h5 : 0 ≤ x5 ∧ x5 < 18446744073709551616) (h6 : 0 ≤ x6 ∧ x6 < 18446744073709551616) (h7 : 0 ≤ x7 ∧ x7 < 18446744073709551616) (k0 : 0 ≤ v0 ∧ v0 < 18446744073709551616) (k1 : 0 ≤ v1 ∧ v1 < 18446744073709551616) (k2 : 0 ≤ v2 ∧ v2 < 18446744073709551616) (k3 : 0 ≤ v3 ∧ v3 < 18446744073709551616) (hb : 0 ≤ b ∧ b < 18446744073709551616) (hz : v8 [x0, x1, x2, x3, x4, x5, x6, x7] < 2135987035920910082395021706169552114602704522356652769947041607822219725780640550022962086936576) :
    raw63 x0 x1 x2 x3 x4 x5 x6 x7 1 v0 v1 v2 v3 b = some [.l (dg8 (v8 [x0, x1, x2, x3, x4, x5, x6, x7] + 18446744073709551616 * (v4 [v0, v1, v2, v3] * b)))] := by
  rw [raw63_f1]
  have s0 := stepS (c := 0) k0 hb ⟨by omega, by omega⟩ h1
  have c0 := stepC (c := 0) k0 hb ⟨by omega, by omega⟩ h1
  have r0 := stepR (c := 0) k0 hb ⟨by omega, by omega⟩ h1
  generalize hC0 : (v0 * b + 0 + x1) / 18446744073709551616 = C0 at c0 r0
  have s1 := stepS (c := C0) k1 hb r0 h2
  have c1 := stepC (c := C0) k1 hb r0 h2
  have r1 := stepR (c := C0) k1 hb r0 h2
  generalize hC1 : (v1 * b + C0 + x2) / 18446744073709551616 = C1 at c1 r1
  have s2 := stepS (c := C1) k2 hb r1 h3
  have c2 := stepC (c := C1) k2 hb r1 h3
  have r2 := stepR (c := C1) k2 hb r1 h3
  generalize hC2 : (v2 * b + C1 + x3) / 18446744073709551616 = C2 at c2 r2
  have s3 := stepS (c := C2) k3 hb r2 h4
  have c3 := stepC (c := C2) k3 hb r2 h4
  have r3 := stepR (c := C2) k3 hb r2 h4
  generalize hC3 : (v3 * b + C2 + x4) / 18446744073709551616 = C3 at c3 r3
  rw [s0, c0, s1, c1, s2, c2, s3, c3]
  have z5 : x5 = 0 := by simp only [v8, valD] at hz; omega
  have z6 : x6 = 0 := by simp only [v8, valD] at hz; omega
  have z7 : x7 = 0 := by simp only [v8, valD] at hz; omega
  have hvb : v4 [v0, v1, v2, v3] * b = v0 * b + 18446744073709551616 * (v1 * b) + 340282366920938463463374607431768211456 * (v2 * b) + 6277101735386680763835789423207666416102355444464034512896 * (v3 * b) := by simp only [v4, valD]; grind
  rw [show dg8 (v8 [x0, x1, x2, x3, x4, x5, x6, x7] + 18446744073709551616 * (v4 [v0, v1, v2, v3] * b)) = [x0, (v0 * b + 0 + x1) % 18446744073709551616, (v1 * b + C0 + x2) % 18446744073709551616, (v2 * b + C1 + x3) % 18446744073709551616, (v3 * b + C2 + x4) % 18446744073709551616, C3, x6, x7] from digs_eq (by decide) rfl (mem8 (by omega) (by omega) (by omega) (by omega) (by omega) (by omega) (by omega) (by omega)) ?_]
  rw [hvb]
  generalize v0 * b = P0 at *
  generalize v1 * b = P1 at *
  generalize v2 * b = P2 at *
  generalize v3 * b = P3 at *
  simp only [v8, valD]; omega
theorem row_2 {x0 x1 x2 x3 x4 x5 x6 x7 v0 v1 v2 v3 b : Int} (h0 : 0 ≤ x0 ∧ x0 < 18446744073709551616) (h1 : 0 ≤ x1 ∧ x1 < 18446744073709551616) (h2 : 0 ≤ x2 ∧ x2 < 18446744073709551616) (h3 : 0 ≤ x3 ∧ x3 < 18446744073709551616) (h4 : 0 ≤ x4 ∧ x4 < 18446744073709551616) (h5 : 0 ≤ x5 ∧ x5 < 18446744073709551616) (h6 : 0 ≤ x6 ∧ x6 < 18446744073709551616) (h7 : 0 ≤ x7 ∧ x7 < 18446744073709551616) (k0 : 0 ≤ v0 ∧ v0 < 18446744073709551616) (k1 : 0 ≤ v1 ∧ v1 < 18446744073709551616) (k2 : 0 ≤ v2 ∧ v2 < 18446744073709551616) (k3 : 0 ≤ v3 ∧ v3 < 18446744073709551616) (hb : 0 ≤ b ∧ b < 18446744073709551616) (hz : v8 [x0, x1, x2, x3, x4, x5, x6, x7] < 39402006196394479212279040100143613805079739270465446667948293404245721771497210611414266254884915640806627990306816) :
    raw63 x0 x1 x2 x3 x4 x5 x6 x7 2 v0 v1 v2 v3 b = some [.l (dg8 (v8 [x0, x1, x2, x3, x4, x5, x6, x7] + 340282366920938463463374607431768211456 * (v4 [v0, v1, v2, v3] * b)))] := by
  rw [raw63_f2]
  have s0 := stepS (c := 0) k0 hb ⟨by omega, by omega⟩ h2
  have c0 := stepC (c := 0) k0 hb ⟨by omega, by omega⟩ h2
  have r0 := stepR (c := 0) k0 hb ⟨by omega, by omega⟩ h2
  generalize hC0 : (v0 * b + 0 + x2) / 18446744073709551616 = C0 at c0 r0
  have s1 := stepS (c := C0) k1 hb r0 h3
  have c1 := stepC (c := C0) k1 hb r0 h3
  have r1 := stepR (c := C0) k1 hb r0 h3
  generalize hC1 : (v1 * b + C0 + x3) / 18446744073709551616 = C1 at c1 r1
  have s2 := stepS (c := C1) k2 hb r1 h4
  have c2 := stepC (c := C1) k2 hb r1 h4
  have r2 := stepR (c := C1) k2 hb r1 h4
  generalize hC2 : (v2 * b + C1 + x4) / 18446744073709551616 = C2 at c2 r2
  have s3 := stepS (c := C2) k3 hb r2 h5
  have c3 := stepC (c := C2) k3 hb r2 h5
  have r3 := stepR (c := C2) k3 hb r2 h5
  generalize hC3 : (v3 * b + C2 + x5) / 18446744073709551616 = C3 at c3 r3
  rw [s0, c0, s1, c1, s2, c2, s3, c3]
  have z6 : x6 = 0 := by simp only [v8, valD] at hz; omega
  have z7 : x7 = 0 := by simp only [v8, valD] at hz; omega
  have hvb : v4 [v0, v1, v2, v3] * b = v0 * b + 18446744073709551616 * (v1 * b) + 340282366920938463463374607431768211456 * (v2 * b) + 6277101735386680763835789423207666416102355444464034512896 * (v3 * b) := by simp only [v4, valD]; grind
  rw [show dg8 (v8 [x0, x1, x2, x3, x4, x5, x6, x7] + 340282366920938463463374607431768211456 * (v4 [v0, v1, v2, v3] * b)) = [x0, x1, (v0 * b + 0 + x2) % 18446744073709551616, (v1 * b + C0 + x3) % 18446744073709551616, (v2 * b + C1 + x4) % 18446744073709551616, (v3 * b + C2 + x5) % 18446744073709551616, C3, x7] from digs_eq (by decide) rfl (mem8 (by omega) (by omega) (by omega) (by omega) (by omega) (by omega) (by omega) (by omega)) ?_]
  rw [hvb]
  generalize v0 * b = P0 at *
  generalize v1 * b = P1 at *
  generalize v2 * b = P2 at *
  generalize v3 * b = P3 at *
  simp only [v8, valD]; omega
theorem row_3 {x0 x1 x2 x3 x4 x5 x6 x7 v0 v1 v2 v3 b : Int} (h0 : 0 ≤ x0 ∧ x0 < 18446744073709551616) (h1 : 0 ≤ x1 ∧ x1 < 18446744073709551616) (h2 : 0 ≤ x2 ∧ x2 < 18446744073709551616) (h3 : 0 ≤ x3 ∧ x3 < 18446744073709551616) (h4 : 0 ≤ x4 ∧ x4 < 18446744073709551616) (h5 : 0 ≤ x5 ∧ x5 < 18446744073709551616) (h6 : 0 ≤ x6 ∧ x6 < 18446744073709551616) (h7 : 0 ≤ x7 ∧ x7 < 18446744073709551616) (k0 : 0 ≤ v0 ∧ v0 < 18446744073709551616) (k1 : 0 ≤ v1 ∧ v1 < 18446744073709551616) (k2 : 0 ≤ v2 ∧ v2 < 18446744073709551616) (k3 : 0 ≤ v3 ∧ v3 < 18446744073709551616) (hb : 0 ≤ b ∧ b < 18446744073709551616) (hz : v8 [x0, x1, x2, x3, x4, x5, x6, x7] < 726838724295606890549323807888004534353641360687318060281490199180639288113397923326191050713763565560762521606266177933534601628614656) :
    raw63 x0 x1 x2 x3 x4 x5 x6 x7 3 v0 v1 v2 v3 b = some [.l (dg8 (v8 [x0, x1, x2, x3, x4, x5, x6, x7] + 6277101735386680763835789423207666416102355444464034512896 * (v4 [v0, v1, v2, v3] * b)))] := by
  rw [raw63_f3]
  have s0 := stepS (c := 0) k0 hb ⟨by omega, by omega⟩ h3
  have c0 := stepC (c := 0) k0 hb ⟨by omega, by omega⟩ h3
  have r0 := stepR (c := 0) k0 hb ⟨by omega, by omega⟩ h3
  generalize hC0 : (v0 * b + 0 + x3) / 18446744073709551616 = C0 at c0 r0
  have s1 := stepS (c := C0) k1 hb r0 h4
  have c1 := stepC (c := C0) k1 hb r0 h4
  have r1 := stepR (c := C0) k1 hb r0 h4
  generalize hC1 : (v1 * b + C0 + x4) / 18446744073709551616 = C1 at c1 r1
  have s2 := stepS (c := C1) k2 hb r1 h5
  have c2 := stepC (c := C1) k2 hb r1 h5
  have r2 := stepR (c := C1) k2 hb r1 h5
  generalize hC2 : (v2 * b + C1 + x5) / 18446744073709551616 = C2 at c2 r2
  have s3 := stepS (c := C2) k3 hb r2 h6
  have c3 := stepC (c := C2) k3 hb r2 h6
  have r3 := stepR (c := C2) k3 hb r2 h6
  generalize hC3 : (v3 * b + C2 + x6) / 18446744073709551616 = C3 at c3 r3
  rw [s0, c0, s1, c1, s2, c2, s3, c3]
  have z7 : x7 = 0 := by simp only [v8, valD] at hz; omega
  have hvb : v4 [v0, v1, v2, v3] * b = v0 * b + 18446744073709551616 * (v1 * b) + 340282366920938463463374607431768211456 * (v2 * b) + 6277101735386680763835789423207666416102355444464034512896 * (v3 * b) := by simp only [v4, valD]; grind
  rw [show dg8 (v8 [x0, x1, x2, x3, x4, x5, x6, x7] + 6277101735386680763835789423207666416102355444464034512896 * (v4 [v0, v1, v2, v3] * b)) = [x0, x1, x2, (v0 * b + 0 + x3) % 18446744073709551616, (v1 * b + C0 + x4) % 18446744073709551616, (v2 * b + C1 + x5) % 18446744073709551616, (v3 * b + C2 + x6) % 18446744073709551616, C3] from digs_eq (by decide) rfl (mem8 (by omega) (by omega) (by omega) (by omega) (by omega) (by omega) (by omega) (by omega)) ?_]
  rw [hvb]
  generalize v0 * b = P0 at *
  generalize v1 * b = P1 at *
  generalize v2 * b = P2 at *
  generalize v3 * b = P3 at *
  simp only [v8, valD]; omega

def C63 : CRec := ⟨.arr .u64 8, [.int .i64, .arr .u64 4, .int .u64], .tup [], fun hs => decide (0 ≤ hi hs 1) && decide (hi hs 1 ≤ 3) && decide (v8 (hl hs 0) < 18446744073709551616 ^ ((hi hs 1).toNat + 4)),
  fun hs => [.l (dg8 (v8 (hl hs 0) + 18446744073709551616 ^ (hi hs 1).toNat * (v4 (hl hs 2) * hi hs 3)))]⟩
theorem crok65 : C63.rfn.Ok Try.prog (envOf env63) (lamOf []) 70 Try.f63 (codeOf Try.f63) := crec_at rok63 rfl rfl rfl rfl (fun x hx rx at' _ a ha ra b hb hg => by
  obtain ⟨x0, x1, x2, x3, x4, x5, x6, x7, rfl⟩ := len8 hx
  obtain ⟨v0, v1, v2, v3, rfl⟩ := len4 ha
  obtain ⟨h0, h1, h2, h3, h4, h5, h6, h7⟩ := in8 rx
  obtain ⟨k0, k1, k2, k3⟩ := in4 ra
  have hg : (decide (0 ≤ at') && decide (at' ≤ 3) && decide (v8 [x0, x1, x2, x3, x4, x5, x6, x7] < 18446744073709551616 ^ (at'.toNat + 4))) = true := hg
  simp only [Bool.and_eq_true, decide_eq_true_eq] at hg
  obtain ⟨⟨g1, g2⟩, g3⟩ := hg
  show raw63 x0 x1 x2 x3 x4 x5 x6 x7 at' v0 v1 v2 v3 b = some [.l (dg8 (v8 [x0, x1, x2, x3, x4, x5, x6, x7] + 18446744073709551616 ^ at'.toNat * (v4 [v0, v1, v2, v3] * b)))]
  have hat : at' = 0 ∨ at' = 1 ∨ at' = 2 ∨ at' = 3 := by omega
  rcases hat with rfl | rfl | rfl | rfl
  · exact row_0 h0 h1 h2 h3 h4 h5 h6 h7 k0 k1 k2 k3 hb g3
  · exact row_1 h0 h1 h2 h3 h4 h5 h6 h7 k0 k1 k2 k3 hb g3
  · exact row_2 h0 h1 h2 h3 h4 h5 h6 h7 k0 k1 k2 k3 hb g3
  · exact row_3 h0 h1 h2 h3 h4 h5 h6 h7 k0 k1 k2 k3 hb g3)
theorem cok63 : EntryOk Try.prog 63 (.full C63.rfn.full) := fn_full (u := 70) envOk63 mix Try.func63 (by kernel_rfl) (by kernel_rfl) l63 crok65
end Go.Proofs.Ytibldmjnddppaaa.Fld
set_option linter.unusedVariables false
set_option maxRecDepth 10000
namespace Go.Proofs.Ytibldmjnddppaaa.Fld
open Go Go.Sim Go.Fld

theorem v4_u {l : List Int} (hl : l.length = 4) (h : ∀ y ∈ l, inK .u64 y) : 0 ≤ v4 l ∧ v4 l < 115792089237316195423570985008687907853269984665640564039457584007913129639936 :=
  ⟨v4_lo h, v4_hi hl h⟩
theorem v4_at {v : Int} (h : 0 ≤ v) (h' : v < 115792089237316195423570985008687907853269984665640564039457584007913129639936) : v4 (dg4 v) = v := v4_in h h'

def C54 : CFn := ⟨[.arr .u64 4], .arr .u64 4, fun _ => true, fun hs => [.l (dg4 (v4 (hl hs 0) % p))]⟩
theorem cok54 : EntryOk Try.prog 54 (.pure C54.sem) := cfn_at rfl rfl rfl ok54 (fun x hx rx _ => by
  have hv := v4_u hx rx
  show raw54 x = some [.l (dg4 (v4 x % p))]
  unfold raw54
  have hpp : v4 (dg4 p) = 57896044618658097711785492504343953926634992332820282019728792003956564819949 := v4_at (by decide) (by decide)
  have hx' : dg4 (v4 x) = x := dg4_v4 hx rx
  generalize v4 x = v at hv hx'
  subst hx'
  have go : ∀ u w, 0 ≤ u → u < 115792089237316195423570985008687907853269984665640564039457584007913129639936 →
      g54_0 [.l (dg4 u), w, .l (dg4 p)] = match w with
        | .l w => if u < 57896044618658097711785492504343953926634992332820282019728792003956564819949 then some (.inr (false, [.l (dg4 u), .l w])) else some (.inl [.l (dg4 (u - 57896044618658097711785492504343953926634992332820282019728792003956564819949)), .l w, .l (dg4 p)])
        | _ => none := by
    intro u w hu hu'
    cases w with
    | l w =>
      rw [g54_0_at, t54_0, v4_at hu hu', hpp]
      by_cases h : u < 57896044618658097711785492504343953926634992332820282019728792003956564819949
      · simp [h]
      · simp [h]
    | i _ => rfl
    | b _ => rfl
    | s _ => rfl
  have key : ∃ j w, j ≤ 3 ∧ EndsIn j g54_0 [.l (dg4 v), .l [0, 0, 0, 0], .l (dg4 p)] (false, [.l (dg4 (v % p)), .l w]) := by
    simp only [p] at go ⊢
    by_cases h1 : v < 57896044618658097711785492504343953926634992332820282019728792003956564819949
    · refine ⟨0, [0, 0, 0, 0], by omega, ends_done ?_⟩
      rw [go _ _ hv.1 hv.2]
      simp only [if_pos h1]
      rw [Int.emod_eq_of_lt hv.1 h1]
    · by_cases h2 : v - 57896044618658097711785492504343953926634992332820282019728792003956564819949 < 57896044618658097711785492504343953926634992332820282019728792003956564819949
      · refine ⟨0 + 1, [0, 0, 0, 0], by omega, ends_step (by rw [go _ _ hv.1 hv.2]; simp only [if_neg h1]; rfl) (ends_done ?_)⟩
        rw [go _ _ (by omega) (by omega)]
        simp only [if_pos h2]
        rw [show v % 57896044618658097711785492504343953926634992332820282019728792003956564819949 = v - 57896044618658097711785492504343953926634992332820282019728792003956564819949 by omega]
      · refine ⟨0 + 1 + 1, [0, 0, 0, 0], by omega, ends_step (by rw [go _ _ hv.1 hv.2]; simp only [if_neg h1]; rfl) (ends_step (by rw [go _ _ (by omega) (by omega)]; simp only [if_neg h2]; rfl) (ends_done ?_))⟩
        rw [go _ _ (by omega) (by omega)]
        simp only [if_pos (show v - 57896044618658097711785492504343953926634992332820282019728792003956564819949 - 57896044618658097711785492504343953926634992332820282019728792003956564819949 < 57896044618658097711785492504343953926634992332820282019728792003956564819949 by omega)]
        rw [show v % 57896044618658097711785492504343953926634992332820282019728792003956564819949 = v - 57896044618658097711785492504343953926634992332820282019728792003956564819949 - 57896044618658097711785492504343953926634992332820282019728792003956564819949 by omega]
  obtain ⟨j, w, hj, he⟩ := key
  rw [he.big (by omega)]
  rfl)

def C41 : CFn := ⟨[.arr .u64 4, .arr .u64 4], .arr .u64 4, fun _ => true, fun hs => [.l (dg4 (fo (fo (v4 (hl hs 0) + v4 (hl hs 1)))))]⟩
theorem go49 (u : Int) (w : List Int) (hu : 0 ≤ u) (hu' : u < 231584178474632390847141970017375815706539969331281128078915168015826259279872) :
    g41_0 [.i (u / Q), .l w, .l (dg4 u)] = if u < Q then some (.inr (false, [.l w, .l (dg4 u)])) else some (.inl [.i ((u - Q + 38) / Q), .l w, .l (dg4 (u - Q + 38))]) := by
  rw [g41_0_at, t41_0]
  have h38 : v4 [wr .u64 (1 * 38), 0, 0, 0] = 38 := by decide +kernel
  by_cases h : u < Q
  · have e : u / Q = 0 := Int.ediv_eq_zero_of_lt hu h
    simp only [Q] at e h
    simp [h, e]
  · have e : u / Q = 1 := by simp only [Q] at h ⊢; omega
    have e2 : v4 (dg4 u) = u - Q := by rw [v4_dg4]; simp only [Q] at h ⊢; omega
    rw [e, e2, if_neg h]
    dsimp only
    rw [h38]
    rfl
theorem cok41 : EntryOk Try.prog 41 (.pure C41.sem) := cfn_at rfl rfl rfl ok41 (fun x hx rx y hy ry _ => by
  have hv := v4_u hx rx
  have hw := v4_u hy ry
  show raw41 x y = some [.l (dg4 (fo (fo (v4 x + v4 y))))]
  unfold raw41
  generalize v4 x = v at *
  generalize v4 y = w at *
  generalize hs : v + w = s
  have key : ∃ j w, j ≤ 3 ∧ EndsIn j g41_0 [.i (s / Q), .l [0, 0, 0, 0], .l (dg4 s)] (false, [.l w, .l (dg4 (fo (fo s)))]) := by
    by_cases h1 : s < Q
    · refine ⟨0, [0, 0, 0, 0], by omega, ends_done ?_⟩
      rw [go49 _ _ (by omega) (by omega), if_pos h1, show fo (fo s) = s by simp only [fo, Q] at *; omega]
    · by_cases h2 : s - Q + 38 < Q
      · refine ⟨0 + 1, [0, 0, 0, 0], by omega, ends_step (by rw [go49 _ _ (by omega) (by omega), if_neg h1]) (ends_done ?_)⟩
        rw [go49 _ _ (by simp only [Q] at *; omega) (by simp only [Q] at *; omega), if_pos h2, show fo (fo s) = s - Q + 38 by simp only [fo, Q] at *; omega]
      · refine ⟨0 + 1 + 1, [0, 0, 0, 0], by omega, ends_step (by rw [go49 _ _ (by omega) (by omega), if_neg h1]) (ends_step (by rw [go49 _ _ (by simp only [Q] at *; omega) (by simp only [Q] at *; omega), if_neg h2]) (ends_done ?_))⟩
        rw [go49 _ _ (by simp only [Q] at *; omega) (by simp only [Q] at *; omega), if_pos (by simp only [Q] at *; omega), show fo (fo s) = s - Q + 38 - Q + 38 by simp only [fo, Q] at *; omega]
  obtain ⟨j, w, hj, he⟩ := key
  rw [he.big (by omega)]
  rfl)

def C31 : CFn := ⟨[.arr .u64 4, .arr .u64 4], .arr .u64 4, fun _ => true, fun hs => [.l (dg4 (bo (bo (v4 (hl hs 0) - v4 (hl hs 1)))))]⟩
theorem go51 (u : Int) (c : Int) (w : List Int) (hu : 0 ≤ u) (hu' : u < Q) (hc : c = 0 ∨ c = 1) :
    g31_0 [.i c, .l w, .l (dg4 u)] = if c = 0 then some (.inr (false, [.l w, .l (dg4 u)])) else some (.inl [.i (if u < 38 then 1 else 0), .l w, .l (dg4 (u - 38))]) := by
  rw [g31_0_at, t31_0]
  have h38 : v4 [38, 0, 0, 0] = 38 := by decide +kernel
  rcases hc with rfl | rfl
  · simp
  · rw [v4_in hu hu']
    dsimp only
    rw [h38]
    rfl
theorem cok31 : EntryOk Try.prog 31 (.pure C31.sem) := cfn_at rfl rfl rfl ok31 (fun x hx rx y hy ry _ => by
  have hv := v4_u hx rx
  have hw := v4_u hy ry
  show raw31 x y = some [.l (dg4 (bo (bo (v4 x - v4 y))))]
  unfold raw31
  generalize v4 x = v at *
  generalize v4 y = w at *
  have key : ∃ j z, j ≤ 3 ∧ EndsIn j g31_0 [.i (if v < w then 1 else 0), .l [0, 0, 0, 0], .l (dg4 (v - w))] (false, [.l z, .l (dg4 (bo (bo (v - w))))]) := by
    by_cases h1 : v < w
    · rw [if_pos h1, show dg4 (v - w) = dg4 (v - w + Q) by rw [show v - w + Q = v - w + Q * 1 by omega, dg4_add]]
      by_cases h2 : v - w + Q < 38
      · refine ⟨0 + 1 + 1, [0, 0, 0, 0], by omega, ends_step (by rw [go51 _ _ _ (by simp only [Q] at *; omega) (by simp only [Q] at *; omega) (.inr rfl), if_neg (by omega), if_pos h2]) (ends_step (v' := [.i 0, .l [0, 0, 0, 0], .l (dg4 (v - w + Q - 38 + Q - 38))]) ?_ (ends_done ?_))⟩
        · rw [show dg4 (v - w + Q - 38) = dg4 (v - w + Q - 38 + Q) by rw [show v - w + Q - 38 + Q = v - w + Q - 38 + Q * 1 by omega, dg4_add],
            go51 _ _ _ (by simp only [Q] at *; omega) (by simp only [Q] at *; omega) (.inr rfl), if_neg (by omega), if_neg (by simp only [Q] at *; omega)]
        · rw [go51 _ _ _ (by simp only [Q] at *; omega) (by simp only [Q] at *; omega) (.inl rfl), if_pos rfl, show bo (bo (v - w)) = v - w + Q - 38 + Q - 38 by simp only [bo, Q] at *; omega]
      · refine ⟨0 + 1, [0, 0, 0, 0], by omega, ends_step (by rw [go51 _ _ _ (by simp only [Q] at *; omega) (by simp only [Q] at *; omega) (.inr rfl), if_neg (by omega), if_neg h2]) (ends_done ?_)⟩
        rw [go51 _ _ _ (by simp only [Q] at *; omega) (by simp only [Q] at *; omega) (.inl rfl), if_pos rfl, show bo (bo (v - w)) = v - w + Q - 38 by simp only [bo, Q] at *; omega]
    · refine ⟨0, [0, 0, 0, 0], by omega, ends_done ?_⟩
      rw [if_neg h1, go51 _ _ _ (by omega) (by simp only [Q] at *; omega) (.inl rfl), if_pos rfl, show bo (bo (v - w)) = v - w by simp only [bo, Q] at *; omega]
  obtain ⟨j, w, hj, he⟩ := key
  rw [he.big (by omega)]
  rfl)
end Go.Proofs.Ytibldmjnddppaaa.Fld
set_option linter.unusedVariables false
set_option maxRecDepth 100000
namespace Go.Proofs.Ytibldmjnddppaaa.Fld
open Go Go.Sim
open Go.Proofs Go.Fld

/-! ### 62: towpath/field.Wide (pure) -/
noncomputable def env62 : List (FuncId × Entry) := [(63, .full C63.rfn.full)]
theorem envOk62 : EnvOk Try.prog (envOf env62) := envOf_ok (all_cons cok63 (all_nil))
def raw62 (a0_0 a0_1 a0_2 a0_3 : Int) (a1_0 a1_1 a1_2 a1_3 : Int) : Option (List Hv) := let x1 : List Int := List.replicate 8 0; let x2 : List Int := [a0_0, a0_1, a0_2, a0_3]; bif C63.guard [.l (x1), .i (0), .l (x2), .i (a1_0)] then (let x3 : List Int := rowW (x1) (0) (x2) (a1_0); bif C63.guard [.l (x3), .i (1), .l (x2), .i (a1_1)] then (let x4 : List Int := rowW (x3) (1) (x2) (a1_1); bif C63.guard [.l (x4), .i (2), .l (x2), .i (a1_2)] then (let x5 : List Int := rowW (x4) (2) (x2) (a1_2); bif C63.guard [.l (x5), .i (3), .l (x2), .i (a1_3)] then (some [.l (rowW (x5) (3) (x2) (a1_3))]) else none) else none) else none) else none
theorem l62 : LamOk Try.prog (lamOf []) (codeOf Try.f62) := lamOk_nil
def G62 : GFn := ⟨[.arr .u64 4, .arr .u64 4], .arr .u64 8, apH [.x 4, .x 4] raw62⟩
theorem ok62 : EntryOk Try.prog 62 (.pure G62.sem) := gfn_pure (u := 70) envOk62 mix Try.func62 (by kernel_rfl) (by kernel_rfl) l62 G62 (by kernel_rfl) (by kernel_rfl) [.x 4, .x 4] rfl (fun a0_0 a0_1 a0_2 a0_3 a1_0 a1_1 a1_2 a1_3 => by show _ = _; kernel_rfl)
theorem at62 (a0_0 a0_1 a0_2 a0_3 : Int) (a1_0 a1_1 a1_2 a1_3 : Int) : G62.fn [.l [a0_0, a0_1, a0_2, a0_3], .l [a1_0, a1_1, a1_2, a1_3]] = raw62 a0_0 a0_1 a0_2 a0_3 a1_0 a1_1 a1_2 a1_3 := (congrFun (show G62.fn = apH [.x 4, .x 4] raw62 from rfl) _).trans ((fun F => rfl : ∀ F : Int → Int → Int → Int → Int → Int → Int → Int → Option (List Hv), apH [.x 4, .x 4] F [.l [a0_0, a0_1, a0_2, a0_3], .l [a1_0, a1_1, a1_2, a1_3]] = F a0_0 a0_1 a0_2 a0_3 a1_0 a1_1 a1_2 a1_3) raw62)
end Go.Proofs.Ytibldmjnddppaaa.Fld
set_option linter.unusedVariables false
set_option maxRecDepth 10000
namespace Go.Proofs.Ytibldmjnddppaaa.Fld
open Go Go.Sim Go.Fld

theorem v8_dg8 (v : Int) : v8 (dg8 v) = v % 13407807929942597099574024998205846127479365820592393377723561443721764030073546976801874298166903427690031858186486050853753882811946569946433649006084096 := by
  unfold v8 dg8; rw [valD_digs (by decide)]; rfl
theorem v8_at {v : Int} (h : 0 ≤ v) (h' : v < 13407807929942597099574024998205846127479365820592393377723561443721764030073546976801874298166903427690031858186486050853753882811946569946433649006084096) : v8 (dg8 v) = v := by
  rw [v8_dg8, Int.emod_eq_of_lt h h']
theorem guard65 {x : List Int} {at' : Int} {a : List Int} {b : Int} (h0 : 0 ≤ at') (h1 : at' ≤ 3) (h2 : v8 x < 18446744073709551616 ^ (at'.toNat + 4)) : C63.guard [.l x, .i at', .l a, .i b] = true := by
  show (decide (0 ≤ at') && decide (at' ≤ 3) && decide (v8 x < 18446744073709551616 ^ (at'.toNat + 4))) = true
  simp [h0, h1, h2]

def C62 : CFn := ⟨[.arr .u64 4, .arr .u64 4], .arr .u64 8, fun _ => true, fun hs => [.l (dg8 (v4 (hl hs 0) * v4 (hl hs 1)))]⟩
theorem wide_is {a b c d e f g h : Int} (hv : 0 ≤ v4 [a, b, c, d] ∧ v4 [a, b, c, d] < 115792089237316195423570985008687907853269984665640564039457584007913129639936)
    (k0 : 0 ≤ e ∧ e < 18446744073709551616) (k1 : 0 ≤ f ∧ f < 18446744073709551616) (k2 : 0 ≤ g ∧ g < 18446744073709551616) (k3 : 0 ≤ h ∧ h < 18446744073709551616) :
    raw62 a b c d e f g h = some [Hv.l (dg8 (v4 [a, b, c, d] * v4 [e, f, g, h]))] := by
  unfold raw62
  simp only [rowW]
  generalize v4 [a, b, c, d] = A at *
  have hA (z : Int) (hz : 0 ≤ z ∧ z < 18446744073709551616) : 0 ≤ A * z ∧ A * z ≤ 115792089237316195423570985008687907853269984665640564039457584007913129639935 * 18446744073709551615 := by
    refine ⟨Int.mul_nonneg hv.1 hz.1, ?_⟩
    have h1 : A * z ≤ 115792089237316195423570985008687907853269984665640564039457584007913129639935 * z := Int.mul_le_mul_of_nonneg_right (by omega) hz.1
    omega
  have be := hA e k0
  have bf := hA f k1
  have bg := hA g k2
  have bh := hA h k3
  have hexp : A * v4 [e, f, g, h] = A * e + 18446744073709551616 * (A * f) + 340282366920938463463374607431768211456 * (A * g) + 6277101735386680763835789423207666416102355444464034512896 * (A * h) := by simp only [v4, valD]; grind
  rw [hexp]
  generalize A * e = E at *
  generalize A * f = F at *
  generalize A * g = G at *
  generalize A * h = H at *
  have z0 : v8 (List.replicate 8 0) = 0 := by decide +kernel
  have p0 : (18446744073709551616 : Int) ^ (Int.toNat 0) = 1 := by decide +kernel
  have p1 : (18446744073709551616 : Int) ^ (Int.toNat 1) = 18446744073709551616 := by decide +kernel
  have p2 : (18446744073709551616 : Int) ^ (Int.toNat 2) = 340282366920938463463374607431768211456 := by decide +kernel
  have p3 : (18446744073709551616 : Int) ^ (Int.toNat 3) = 6277101735386680763835789423207666416102355444464034512896 := by decide +kernel
  have q0 : (18446744073709551616 : Int) ^ (Int.toNat 0 + 4) = 115792089237316195423570985008687907853269984665640564039457584007913129639936 := by decide +kernel
  have q1 : (18446744073709551616 : Int) ^ (Int.toNat 1 + 4) = 2135987035920910082395021706169552114602704522356652769947041607822219725780640550022962086936576 := by decide +kernel
  have q2 : (18446744073709551616 : Int) ^ (Int.toNat 2 + 4) = 39402006196394479212279040100143613805079739270465446667948293404245721771497210611414266254884915640806627990306816 := by decide +kernel
  have q3 : (18446744073709551616 : Int) ^ (Int.toNat 3 + 4) = 726838724295606890549323807888004534353641360687318060281490199180639288113397923326191050713763565560762521606266177933534601628614656 := by decide +kernel
  rw [guard65 (by omega) (by omega) (by rw [z0, q0]; omega), cond_true, z0, p0]
  have e1 := v8_at (v := 0 + 1 * E) (by omega) (by omega)
  rw [guard65 (by omega) (by omega) (by rw [e1, q1]; omega), cond_true, e1, p1]
  have e2 := v8_at (v := 0 + 1 * E + 18446744073709551616 * F) (by omega) (by omega)
  rw [guard65 (by omega) (by omega) (by rw [e2, q2]; omega), cond_true, e2, p2]
  have e3 := v8_at (v := 0 + 1 * E + 18446744073709551616 * F + 340282366920938463463374607431768211456 * G) (by omega) (by omega)
  rw [guard65 (by omega) (by omega) (by rw [e3, q3]; omega), cond_true, e3, p3]
  rw [show 0 + 1 * E = E by omega]

theorem cok62 : EntryOk Try.prog 62 (.pure C62.sem) := cfn_at rfl rfl rfl ok62 (fun x hx rx y hy ry _ => by
  have hv := v4_u hx rx
  obtain ⟨a, b, c, d, rfl⟩ := len4 hx
  obtain ⟨e, f, g, h, rfl⟩ := len4 hy
  obtain ⟨k0, k1, k2, k3⟩ := in4 ry
  exact (at62 ..).trans (wide_is hv k0 k1 k2 k3))
end Go.Proofs.Ytibldmjnddppaaa.Fld
