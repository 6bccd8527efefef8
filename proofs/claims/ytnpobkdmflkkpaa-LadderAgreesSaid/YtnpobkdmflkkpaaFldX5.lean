/- Primes: 2^255 - 19 is one; powers by a prime. No program in sight. The numbers by 2^255 - 19 are a field: no program in sight. The laws of inverses and roots answer true. -/
import Derived.Test.YtnpobkdmflkkpaaFldX1
import Derived.Test.YtnpobkdmflkkpaaFldX4
set_option linter.unusedVariables false
namespace Go.Fld

def Pr (p : Nat) : Prop := 2 ≤ p ∧ ∀ d, d ∣ p → d = 1 ∨ d = p

theorem pr_divisor : ∀ n : Nat, 2 ≤ n → ∃ d, Pr d ∧ d ∣ n := by
  intro n
  induction n using Nat.strongRecOn with
  | ind n ih =>
    intro hn
    by_cases hp : Pr n
    · exact ⟨n, hp, Nat.dvd_refl n⟩
    · have : ∃ d, d ∣ n ∧ d ≠ 1 ∧ d ≠ n := Classical.byContradiction fun h => hp ⟨hn, fun d hd => Classical.byContradiction fun h2 => h ⟨d, hd, fun e => h2 (.inl e), fun e => h2 (.inr e)⟩⟩
      obtain ⟨d, hd, h1, h2⟩ := this
      have hle := Nat.le_of_dvd (by omega) hd
      have h0 : d ≠ 0 := fun e => by subst e; have := Nat.zero_dvd.1 hd; omega
      obtain ⟨r, hr, hrd⟩ := ih d (by omega) (by omega)
      exact ⟨r, hr, Nat.dvd_trans hrd hd⟩

theorem small_divisor {n : Nat} (hn : 2 ≤ n) (h : ¬ Pr n) : ∃ d, Pr d ∧ d ∣ n ∧ d * d ≤ n := by
  have : ∃ d, d ∣ n ∧ d ≠ 1 ∧ d ≠ n := Classical.byContradiction fun k => h ⟨hn, fun d hd => Classical.byContradiction fun h2 => k ⟨d, hd, fun e => h2 (.inl e), fun e => h2 (.inr e)⟩⟩
  obtain ⟨d, ⟨e, he⟩, h1, h2⟩ := this
  have hd0 : d ≠ 0 := fun k => by subst k; omega
  have he1 : e ≠ 1 := fun k => by subst k; omega
  have he0 : e ≠ 0 := fun k => by subst k; omega
  have key : ∀ m k : Nat, n = m * k → 2 ≤ m → m ≤ k → ∃ d, Pr d ∧ d ∣ n ∧ d * d ≤ n := by
    intro m k hmk hm hk
    obtain ⟨r, hr, hrd⟩ := pr_divisor m hm
    have hle := Nat.le_of_dvd (by omega) hrd
    refine ⟨r, hr, Nat.dvd_trans hrd ⟨k, hmk⟩, ?_⟩
    rw [hmk]
    exact Nat.mul_le_mul hle (by omega)
  rcases Nat.le_total d e with k | k
  · exact key d e he (by omega) k
  · exact key e d (by rw [he, Nat.mul_comm]) (by omega) k

/-! the binomial numbers -/
def Cb : Nat → Nat → Nat
  | _, 0 => 1
  | 0, _ + 1 => 0
  | n + 1, k + 1 => Cb n k + Cb n (k + 1)
theorem Cb_gt : ∀ (n k : Nat), n < k → Cb n k = 0
  | _, 0, h => by omega
  | 0, k + 1, _ => rfl
  | n + 1, k + 1, h => by simp only [Cb]; rw [Cb_gt n k (by omega), Cb_gt n (k + 1) (by omega)]
theorem Cb_self : ∀ n, Cb n n = 1
  | 0 => rfl
  | n + 1 => by simp only [Cb]; rw [Cb_self n, Cb_gt n (n + 1) (by omega)]
theorem Cb_mul : ∀ (n k : Nat), (k + 1) * Cb (n + 1) (k + 1) = (n + 1) * Cb n k
  | 0, 0 => rfl
  | 0, k + 1 => by simp [Cb]
  | n + 1, 0 => by
    have := Cb_mul n 0
    simp only [Cb] at *
    omega
  | n + 1, k + 1 => by
    have h1 := Cb_mul n k
    have h2 := Cb_mul n (k + 1)
    have e : Cb (n + 1 + 1) (k + 1 + 1) = Cb (n + 1) (k + 1) + Cb (n + 1) (k + 1 + 1) := rfl
    have e2 : Cb (n + 1) (k + 1) = Cb n k + Cb n (k + 1) := rfl
    rw [e, Nat.mul_add, h2, show (k + 1 + 1) * Cb (n + 1) (k + 1) = (k + 1) * Cb (n + 1) (k + 1) + Cb (n + 1) (k + 1) by rw [Nat.add_mul, Nat.one_mul], h1, e2]
    grind
def Sb (n a : Nat) : Nat → Nat
  | 0 => 0
  | m + 1 => Sb n a m + Cb n m * a ^ m
theorem Sb_step (n a : Nat) : ∀ m, Sb (n + 1) a (m + 1) = Sb n a (m + 1) + a * Sb n a m
  | 0 => by simp [Sb, Cb]
  | m + 1 => by
    have := Sb_step n a m
    rw [Sb, this]
    simp only [Sb, Cb, Nat.pow_succ]
    grind
theorem Sb_pow (a : Nat) : ∀ n, Sb n a (n + 1) = (a + 1) ^ n
  | 0 => by simp [Sb, Cb]
  | n + 1 => by
    rw [Sb_step, Sb_pow a n, Sb, Sb_pow a n, Cb_gt n (n + 1) (by omega), Nat.pow_succ]
    grind

theorem pr_dvd_mul {p a b : Nat} (hp : Pr p) (h : p ∣ a * b) : p ∣ a ∨ p ∣ b := by
  rcases hp.2 (Nat.gcd p a) (Nat.gcd_dvd_left p a) with e | e
  · exact .inr (Nat.Coprime.dvd_of_dvd_mul_left e h)
  · exact .inl (e ▸ Nat.gcd_dvd_right p a)

theorem pr_dvd_Cb {p k : Nat} (hp : Pr p) (h0 : 1 ≤ k) (h1 : k < p) : p ∣ Cb p k := by
  obtain ⟨j, rfl⟩ : ∃ j, k = j + 1 := ⟨k - 1, by omega⟩
  obtain ⟨q, rfl⟩ : ∃ q, p = q + 1 := ⟨p - 1, by omega⟩
  have := Cb_mul q j
  have hd : (q + 1) ∣ (j + 1) * Cb (q + 1) (j + 1) := ⟨Cb q j, this⟩
  rcases pr_dvd_mul hp hd with h | h
  · have := Nat.le_of_dvd (by omega) h; omega
  · exact h

theorem dream {p : Nat} (hp : Pr p) (a : Nat) : (a + 1) ^ p % p = (a ^ p + 1) % p := by
  have hm : ∀ m, m < p → Sb p a (m + 1) % p = 1 % p := by
    intro m
    induction m with
    | zero => intro _; simp [Sb, Cb]
    | succ m ih =>
      intro h
      obtain ⟨c, hc⟩ := pr_dvd_Cb hp (k := m + 1) (by omega) h
      rw [Sb, Nat.add_mod, ih (by omega), hc, Nat.mul_assoc, Nat.mul_mod_right, Nat.add_zero, Nat.mod_mod]
  rw [← Sb_pow a p, Sb, Cb_self, Nat.one_mul]
  obtain ⟨q, rfl⟩ : ∃ q, p = q + 1 := ⟨p - 1, by have := hp.1; omega⟩
  rw [Nat.add_mod, hm q (by omega), ← Nat.add_mod, Nat.add_comm]

theorem fermat0 {p : Nat} (hp : Pr p) : ∀ a : Nat, a ^ p % p = a % p
  | 0 => by rw [Nat.zero_pow (by have := hp.1; omega)]
  | a + 1 => by rw [dream hp, Nat.add_mod, fermat0 hp a, ← Nat.add_mod]

/-- Fermat -/
theorem fermat {p a : Nat} (hp : Pr p) (h : ¬ p ∣ a) : a ^ (p - 1) % p = 1 := by
  have h2 := hp.1
  have h0 := fermat0 hp a
  have ha : 1 ≤ a := Nat.pos_of_ne_zero fun e => h (e ▸ Nat.dvd_zero p)
  have hge : 1 ≤ a ^ (p - 1) := Nat.one_le_pow _ _ ha
  have e : a ^ p = a * a ^ (p - 1) := by
    obtain ⟨q, rfl⟩ : ∃ q, p = q + 1 := ⟨p - 1, by omega⟩
    rw [Nat.add_sub_cancel, Nat.pow_succ, Nat.mul_comm]
  have hd : p ∣ a * (a ^ (p - 1) - 1) := by
    rw [Nat.mul_sub, Nat.mul_one, ← e]
    exact Nat.dvd_of_mod_eq_zero (Nat.sub_mod_eq_zero_of_mod_eq h0)
  rcases pr_dvd_mul hp hd with k | k
  · exact absurd k h
  · obtain ⟨c, hc⟩ := k
    rw [show a ^ (p - 1) = 1 + p * c by omega, Nat.add_mul_mod_self_left, Nat.mod_eq_of_lt (by omega)]

theorem order_gcd {r a : Nat} : ∀ m n : Nat, a ^ m % r = 1 % r → a ^ n % r = 1 % r → a ^ Nat.gcd m n % r = 1 % r := by
  intro m n
  induction m, n using Nat.gcd.induction with
  | H0 n => intro _ h; rwa [Nat.gcd_zero_left]
  | H1 m n hm ih =>
    intro h1 h2
    rw [Nat.gcd_rec]
    refine ih ?_ h1
    have e : a ^ n = (a ^ m) ^ (n / m) * a ^ (n % m) := by rw [← Nat.pow_mul, ← Nat.pow_add, Nat.div_add_mod]
    have hp : (a ^ m) ^ (n / m) % r = 1 % r := by rw [Nat.pow_mod, h1, ← Nat.pow_mod, Nat.one_pow]
    rw [e, Nat.mul_mod, hp, ← Nat.mul_mod, Nat.one_mul] at h2
    exact h2

/-- powers by a number, for the kernel to reckon -/
def pm (n : Nat) : Nat → Nat → Nat → Nat
  | 0, _, _ => 1 % n
  | f + 1, a, e => if e % 2 = 1 then pm n f (a * a % n) (e / 2) * a % n else pm n f (a * a % n) (e / 2)
theorem pm_eq (n : Nat) : ∀ (f a e : Nat), e < 2 ^ f → pm n f a e = a ^ e % n
  | 0, a, e, h => by have : e = 0 := by omega
                     subst this; rfl
  | f + 1, a, e, h => by
    have hh := pm_eq n f (a * a % n) (e / 2) (by rw [Nat.pow_succ] at h; omega)
    simp only [pm, hh]
    have e1 : (a * a % n) ^ (e / 2) % n = a ^ (2 * (e / 2)) % n := by rw [← Nat.pow_mod, Nat.pow_mul, Nat.pow_two]
    split
    · rw [Nat.mul_mod, Nat.mod_mod, e1, ← Nat.mul_mod, ← Nat.pow_succ, Nat.succ_eq_add_one, show 2 * (e / 2) + 1 = e by omega]
    · rw [e1, show 2 * (e / 2) = e by omega]

def noDiv (N q : Nat) : Nat → Bool
  | 0 => true
  | k + 1 => decide (N % ((k + 1) * q + 1) ≠ 0) && noDiv N q k
theorem noDiv_spec {N q : Nat} : ∀ {K : Nat}, noDiv N q K = true → ∀ k, 1 ≤ k → k ≤ K → ¬ (k * q + 1) ∣ N
  | 0, _, k, h1, h2 => by omega
  | K + 1, h, k, h1, h2 => by
    simp only [noDiv, Bool.and_eq_true, decide_eq_true_eq] at h
    by_cases e : k = K + 1
    · subst e; exact fun hd => h.1 (Nat.mod_eq_zero_of_dvd hd)
    · exact noDiv_spec h.2 k h1 (by omega)

/-- Pocklington -/
theorem pock {N q R a K f : Nat} (hq : Pr q) (hN : N = q * R + 1) (hR : 1 ≤ R) (hf : N < 2 ^ f) (h1 : pm N f a (q * R) = 1) (hg : Nat.gcd (pm N f a R + N - 1) N = 1)
    (hk : noDiv N q K = true) (hK : N < ((K + 1) * q + 1) * ((K + 1) * q + 1)) : Pr N := by
  have hq2 := hq.1
  have hqR : 2 ≤ q * R := Nat.le_trans hq2 (Nat.le_mul_of_pos_right _ hR)
  refine Classical.byContradiction fun hn => ?_
  obtain ⟨r, hr, hrd, hrr⟩ := small_divisor (by omega) hn
  have hr2 := hr.1
  rw [pm_eq _ _ _ _ (by omega)] at h1
  rw [pm_eq _ _ _ _ (by have : R ≤ q * R := Nat.le_mul_of_pos_left _ (by omega); omega)] at hg
  have hmod : ∀ x, x % N % r = x % r := fun x => Nat.mod_mod_of_dvd x hrd
  have h1r : a ^ (q * R) % r = 1 % r := by rw [← hmod, h1]
  have hcop : ¬ r ∣ a := fun hd => by
    have : r ∣ a ^ (q * R) := by
      obtain ⟨m, hm⟩ : ∃ m, q * R = m + 1 := ⟨q * R - 1, by omega⟩
      rw [hm, Nat.pow_succ]; exact Nat.dvd_mul_left_of_dvd hd _
    rw [Nat.mod_eq_zero_of_dvd this, Nat.mod_eq_of_lt (by omega)] at h1r
    omega
  have hf := fermat hr hcop
  have hf' : a ^ (r - 1) % r = 1 % r := by rw [hf, Nat.mod_eq_of_lt (by omega)]
  have hqr : q ∣ r - 1 := by
    refine Classical.byContradiction fun hnd => ?_
    have hc : Nat.Coprime q (r - 1) := by
      rcases hq.2 _ (Nat.gcd_dvd_left q (r - 1)) with e | e
      · exact e
      · exact absurd (e ▸ Nat.gcd_dvd_right q (r - 1)) hnd
    have hg1 := order_gcd _ _ h1r hf'
    rw [Nat.Coprime.gcd_mul_left_cancel R hc] at hg1
    obtain ⟨c, hc'⟩ := Nat.gcd_dvd_left R (r - 1)
    have hR1 : a ^ R % r = 1 % r := by
      rw [hc', Nat.pow_mul, Nat.pow_mod, hg1, ← Nat.pow_mod, Nat.one_pow]
    have hd : r ∣ Nat.gcd (a ^ R % N + N - 1) N := by
      refine Nat.dvd_gcd ?_ hrd
      have e1 : (a ^ R % N) % r = 1 := by rw [hmod, hR1, Nat.mod_eq_of_lt (by omega)]
      obtain ⟨c, hc⟩ := hrd
      have e2 := Nat.div_add_mod (a ^ R % N) r
      rw [e1] at e2
      refine ⟨a ^ R % N / r + c, ?_⟩
      rw [Nat.mul_add, ← hc]
      omega
    rw [hg] at hd
    have := Nat.le_of_dvd (by omega) hd
    omega
  obtain ⟨k, hkr⟩ := hqr
  have hr1 : r = k * q + 1 := by rw [Nat.mul_comm]; omega
  have hk1 : 1 ≤ k := Nat.pos_of_ne_zero fun e => by subst e; omega
  by_cases hle : k ≤ K
  · exact noDiv_spec hk k hk1 hle (hr1 ▸ hrd)
  · have : (K + 1) * q + 1 ≤ r := by
      rw [hr1]
      have := Nat.mul_le_mul_right q (show K + 1 ≤ k by omega)
      omega
    have := Nat.mul_le_mul this this
    omega

def trial (n : Nat) : Nat → Bool
  | 0 => true
  | 1 => true
  | d + 2 => decide (n % (d + 2) ≠ 0) && trial n (d + 1)
theorem trial_spec {n : Nat} : ∀ {D : Nat}, trial n D = true → ∀ d, 2 ≤ d → d ≤ D → ¬ d ∣ n
  | 0, _, d, h1, h2 => by omega
  | 1, _, d, h1, h2 => by omega
  | D + 2, h, d, h1, h2 => by
    simp only [trial, Bool.and_eq_true, decide_eq_true_eq] at h
    by_cases e : d = D + 2
    · subst e; exact fun hd => h.1 (Nat.mod_eq_zero_of_dvd hd)
    · exact trial_spec h.2 d h1 (by omega)
theorem pr_991 : Pr 991 := by
  refine Classical.byContradiction fun hn => ?_
  obtain ⟨r, hr, hrd, hrr⟩ := small_divisor (by decide) hn
  have : r ≤ 31 := by
    refine Classical.byContradiction fun h => ?_
    have := Nat.mul_le_mul (show 32 ≤ r by omega) (show 32 ≤ r by omega)
    omega
  exact trial_spec (D := 31) (by decide +kernel) r hr.1 this hrd
theorem pr_a : Pr 8574133 := pock (q := 991) (R := 8652) (a := 2) (K := 3) (f := 24) pr_991 (by decide +kernel) (by decide +kernel) (by decide +kernel) (by decide +kernel) (by decide +kernel) (by decide +kernel) (by decide +kernel)
theorem pr_b : Pr 1919519569386763 := pock (q := 8574133) (R := 223873314) (a := 2) (K := 6) (f := 52) pr_a (by decide +kernel) (by decide +kernel) (by decide +kernel) (by decide +kernel) (by decide +kernel) (by decide +kernel) (by decide +kernel)
theorem pr_c : Pr 75445702479781427272750846543864801 := pock (q := 1919519569386763) (R := 39304471641247389600) (a := 2) (K := 144) (f := 120) pr_b (by decide +kernel) (by decide +kernel) (by decide +kernel) (by decide +kernel) (by decide +kernel) (by decide +kernel) (by decide +kernel)
theorem pr_d : Pr 74058212732561358302231226437062788676166966415465897661863160754340907 := pock (q := 75445702479781427272750846543864801) (R := 981609426360740691344999861639072106) (a := 2) (K := 4) (f := 240) pr_c (by decide +kernel) (by decide +kernel) (by decide +kernel) (by decide +kernel) (by decide +kernel) (by decide +kernel) (by decide +kernel)
/-- 2^255 - 19 is a prime -/
theorem pr_p : Pr 57896044618658097711785492504343953926634992332820282019728792003956564819949 := pock (q := 74058212732561358302231226437062788676166966415465897661863160754340907) (R := 781764) (a := 2) (K := 1) (f := 256) pr_d (by decide +kernel) (by decide +kernel) (by decide +kernel) (by decide +kernel) (by decide +kernel) (by decide +kernel) (by decide +kernel)
end Go.Fld
set_option linter.unusedVariables false
namespace Go.Fld

abbrev PN : Nat := 57896044618658097711785492504343953926634992332820282019728792003956564819949
/-- one less -/
def PM : Nat := 57896044618658097711785492504343953926634992332820282019728792003956564819948
theorem PM_eq : PM = PN - 1 := by decide +kernel
theorem fermat_e {q a e : Nat} (hp : Pr q) (h : ¬ q ∣ a) (he : e = q - 1) : a ^ e % q = 1 := by rw [he]; exact fermat hp h
theorem pPN : p = ((PN : Nat) : Int) := rfl

theorem mm_l (a b : Int) : a % p * b % p = a * b % p := by rw [Int.mul_emod, Int.emod_emod, ← Int.mul_emod]
theorem mm_r (a b : Int) : a * (b % p) % p = a * b % p := by rw [Int.mul_emod, Int.emod_emod, ← Int.mul_emod]

/-- no two numbers make nought -/
theorem no_zero_div {a b : Int} (h : a * b % p = 0) : a % p = 0 ∨ b % p = 0 := by
  have hd : (p : Int) ∣ a * b := Int.dvd_of_emod_eq_zero h
  rw [pPN, Int.ofNat_dvd_left, Int.natAbs_mul] at hd
  rcases pr_dvd_mul pr_p hd with k | k
  · left; exact Int.emod_eq_zero_of_dvd (by rw [pPN, Int.ofNat_dvd_left]; exact k)
  · right; exact Int.emod_eq_zero_of_dvd (by rw [pPN, Int.ofNat_dvd_left]; exact k)

theorem fermat_int {v : Int} {a : Nat} (ha : v % p = a) (k : Nat) (hf : a ^ k % PN = 1) : v ^ k % p = 1 := by
  rw [← pow_emod, ha, ← Int.natCast_pow, pPN, ← Int.natCast_emod, hf]; rfl
/-- Fermat -/
theorem fermatP {v : Int} (h : v % p ≠ 0) : v ^ PM % p = 1 := by
  have h0 : 0 ≤ v % p := Int.emod_nonneg _ (by decide)
  obtain ⟨a, ha⟩ := Int.eq_ofNat_of_zero_le h0
  have hnd : ¬ PN ∣ a := fun hd => h (by
    have hlt : v % p < p := Int.emod_lt_of_pos _ (by decide)
    rw [ha] at hlt ⊢
    rcases Nat.eq_zero_or_pos a with e | e
    · rw [e]; rfl
    · have := Nat.le_of_dvd e hd
      rw [pPN] at hlt
      omega)
  have hf := fermat_e pr_p hnd PM_eq
  exact fermat_int ha _ hf

theorem pow_cong' {u w : Int} (h : u % p = w % p) (k : Nat) : u ^ k % p = w ^ k % p := by rw [← pow_emod, h, pow_emod]

/-- the two roots of a square -/
theorem two_roots {a b : Int} (h : a * a % p = b * b % p) : a % p = b % p ∨ a % p = (0 - b) % p := by
  have e : (a - b) * (a + b) % p = 0 := by
    have e1 : (a - b) * (a + b) = a * a - b * b := by grind
    rw [e1]
    generalize a * a = X at h
    generalize b * b = Y at h
    simp only [p] at *; omega
  rcases no_zero_div e with k | k
  · left; simp only [p] at *; omega
  · right; simp only [p] at *; omega

/-- what a square's power by (p + 3) / 8 is: a root, or one but for a root of -1 -/
theorem euler {v s x h : Int} {E8 E4 : Nat} (hE : 2 * E8 = E4 + 1) (hE4 : 4 * E4 = PM) (hs : s % p = v * v % p) (hx : x % p = s ^ E8 % p) (hh : h * h % p = p - 1) :
    x * x % p = s % p ∨ (x * h) * (x * h) % p = s % p := by
  by_cases hz : v % p = 0
  · left
    have e0 : s % p = 0 := by rw [hs, ← mm_l, hz, Int.zero_mul]; rfl
    have e1 : s ^ E8 % p = 0 := by
      rw [← pow_emod, e0]
      obtain ⟨m, hm⟩ : ∃ m, E8 = m + 1 := ⟨E8 - 1, by omega⟩
      rw [hm, Int.pow_succ, Int.mul_zero]; rfl
    rw [e0, ← mm_l, hx, e1, Int.zero_mul]; rfl
  · have hc : s ^ E4 * s ^ E4 % p = 1 * 1 % p := by
      have e1 : s ^ E4 % p = (v * v) ^ E4 % p := pow_cong' hs E4
      rw [← mm_l, e1, mm_l, ← mm_r, e1, mm_r]
      have e2 : (v * v) ^ E4 * (v * v) ^ E4 = v ^ PM := by
        rw [← Int.pow_add, show v * v = v ^ 2 by grind, ← Int.pow_mul]
        congr 1
        omega
      rw [e2, fermatP hz]; rfl
    have hxx : x * x % p = s * s ^ E4 % p := by
      rw [← mm_l, hx, mm_l, ← mm_r, hx, mm_r, ← Int.pow_add, ← Int.pow_succ']
      congr 2
      omega
    rcases two_roots hc with k | k
    · left
      rw [hxx, ← mm_r, k, mm_r, Int.mul_one]
    · right
      have e3 : (x * h) * (x * h) = (x * x) * (h * h) := by grind
      rw [e3, ← mm_l, hxx, mm_l, ← mm_r, hh, Int.mul_assoc, ← mm_r, ← mm_l (s ^ E4), k]
      have e4 : (0 - 1) % p * (p - 1) % p = 1 := by decide +kernel
      rw [e4, Int.mul_one]
end Go.Fld
set_option linter.unusedVariables false
set_option maxRecDepth 100000
namespace Go.Proofs.Ytnpobkdmflkkpaa.Fld
open Go Go.Sim Go.Fld

theorem e43' : rexp 43 255 + 1 = PM := by decide +kernel
theorem inv_one {v : Int} (hv : 0 ≤ v ∧ v < Q) (h : v % p ≠ 0) : v * invR v % p = 1 := by
  unfold invR
  rw [mm_r, ← mm_r, rpow_one hv, mm_r, ← Int.pow_succ', e43', fermatP h]

theorem edge_v {k : Int} {a : List Int} (w : a.length = 32) (r : ∀ y ∈ a, inK .u8 y) : 0 ≤ v32 (edgeL k a) ∧ v32 (edgeL k a) < Q := v32_u (edge_in k w r).1 (edge_in k w r).2
theorem v_zero : v32 (dg32 0) = 0 := by decide +kernel
theorem one32 : ([1, 0, 0, 0, 0, 0, 0, 0, 0, 0, 0, 0, 0, 0, 0, 0, 0, 0, 0, 0, 0, 0, 0, 0, 0, 0, 0, 0, 0, 0, 0, 0] : List Int) = dg32 (1 % p) := by decide +kernel

theorem zero32' : List.replicate 32 (0 : Int) = dg32 0 := by decide +kernel
theorem law3 (a : List Int) (k : Int) (w0 : a.length = 32) (r0 : ∀ y ∈ a, inK .u8 y) (i1 : inK .u8 k) : raw3 a k = some [.b true] := by
  unfold raw3
  have hv := edge_v (k := k) w0 r0
  dsimp only
  generalize v32 (edgeL k a) = v at *
  by_cases h : v % p = 0
  · rw [if_pos h, h, zero32', arrEq_self, cond_true, decide_eq_true rfl]
    simp only [Bool.not_true, Bool.not_false, cond_true]
  · rw [zero32, same32, decide_eq_false (show ¬ v % p = 0 % p from h), cond_false, decide_eq_false h, if_neg h, if_neg h, inv_same hv, arrEq_self]
    simp only [Bool.not_false, cond_true]
    have hi : v32 (dg32 (invR v)) = invR v := v_mod _
    rw [hi, inv_one hv h, one32]
    rw [show dg32 1 = dg32 (1 % p) from rfl, arrEq_self]

theorem rootR_eq {v : Int} : rootR v = if rm (rpow 62 v 252 1) (rpow 62 v 252 1) % p = v % p then rpow 62 v 252 1 else rm (rpow 62 v 252 1) (rpow 59 2 253 1) := rfl
theorem halfM_sq : halfM * halfM % p = p - 1 := by decide +kernel
theorem half_sq : rpow 59 2 253 1 * rpow 59 2 253 1 % p = p - 1 := by
  rw [← mm_l, ← half_same, mm_l, ← mm_r, ← half_same, mm_r, halfM_sq]
theorem e62a : 2 * rexp 62 252 = 14474011154664524427946373126085988481658748083205070504932198000989141204987 + 1 := by decide +kernel
theorem e62b : 4 * 14474011154664524427946373126085988481658748083205070504932198000989141204987 = PM := by decide +kernel
/-- a square has a root -/
theorem sq_ok {s v : Int} (hs : 0 ≤ s ∧ s < Q) (h : s % p = v * v % p) : sqR s = true := by
  have h1 := rpow_in 62 s 252 1 (by decide)
  have h2 := rpow_in 59 2 253 1 (by decide)
  have he := euler (x := rpow 62 s 252 1) e62a e62b h (rpow_one hs 252) half_sq
  unfold sqR
  rw [decide_eq_true_eq]
  rw [rootR_eq]
  by_cases k : rm (rpow 62 s 252 1) (rpow 62 s 252 1) % p = s % p
  · rw [if_pos k]; exact k
  · rw [if_neg k]
    rw [rm_mod h1 h1] at k
    rcases he with e | e
    · exact absurd e k
    · have h3 := rm_in (rpow 62 s 252 1) (rpow 59 2 253 1)
      rw [rm_mod h3 h3, ← mm_l, rm_mod h1 h2, mm_l, ← mm_r, rm_mod h1 h2, mm_r]
      exact e

theorem neg_p {u : Int} (h : 0 ≤ u ∧ u < p) (hz : u ≠ 0) : (0 - u) % p = p - u := by
  rw [show (0 : Int) - u = (p - u) + p * (-1) by rw [Int.mul_neg, Int.mul_one]; omega, Int.add_mul_emod_self_left]
  exact Int.emod_eq_of_lt (by omega) (by omega)
theorem p_odd : p % 2 = 1 := by decide
theorem even_even (r : Int) : evenP (r % p) % 2 = 0 := by
  have h := modp_in r
  have hp := p_odd
  unfold evenP
  generalize r % p = u at *
  by_cases k : u % 2 = 1
  · rw [if_pos k, neg_p h (by omega)]
    generalize p = P at *
    omega
  · rw [if_neg k]; omega
theorem odd_neg {u : Int} (h : 0 ≤ u ∧ u < p) (hz : u ≠ 0) : (decide (u % p % 2 = 1) == decide ((0 - u) % p % p % 2 = 1)) = false := by
  rw [Int.emod_emod, neg_p h hz, Int.emod_eq_of_lt h.1 h.2]
  have hp := p_odd
  generalize p = P at *
  by_cases hd : u % 2 = 1
  · rw [decide_eq_true hd, decide_eq_false (by omega)]; rfl
  · rw [decide_eq_false hd, decide_eq_true (by omega)]; rfl
theorem even_mod (r : Int) : evenP (r % p) % p = r % p ∨ evenP (r % p) % p = (0 - r) % p := by
  unfold evenP
  split <;> simp only [p] at * <;> omega
theorem neg_sq (a : Int) : (0 - a) * (0 - a) = a * a := by grind
theorem even_sq (r : Int) : evenP (r % p) * evenP (r % p) % p = r * r % p := by
  rcases even_mod r with e | e
  · rw [← mm_l, e, mm_l, ← mm_r, e, mm_r]
  · rw [← mm_l, e, mm_l, ← mm_r, e, mm_r, neg_sq]
theorem root_sq {v : Int} (hv : 0 ≤ v ∧ v < Q) (h : sqR v = true) : evenP (rootR v % p) * evenP (rootR v % p) % p = v % p := by
  unfold sqR at h
  rw [decide_eq_true_eq] at h
  have hr := rootR_in v
  rw [even_sq, ← rm_mod hr hr, h]
theorem even_Q (r : Int) : 0 ≤ evenP (r % p) ∧ evenP (r % p) < Q := ⟨(evenP_in r).1, Int.lt_trans (evenP_in r).2 (by decide)⟩
theorem low_even (r : Int) : (andI .u8 ((dg32 (evenP (r % p))).getD 0 0) 1 == 0) = true := by
  have h := even_Q r
  rw [v32_low (dg32_l _) (digs_range (by decide) _ _), v32_in h.1 h.2, andI8_odd (by omega)]
  have := even_even r
  rw [beq_iff_eq]
  omega

/-- what is told of a number's root -/
theorem tail11 {s : Int} (hs : 0 ≤ s ∧ s < Q) :
    (bif !(sqR s) then (some [Hv.b true]) else (bif (andI .u8 ((if sqR s then dg32 (evenP (rootR s % p)) else dg32 0).getD 0 0) 1) == 0 then (some [Hv.b (arrEq 32 (dg32 (v32 (if sqR s then dg32 (evenP (rootR s % p)) else dg32 0) * v32 (if sqR s then dg32 (evenP (rootR s % p)) else dg32 0) % p)) (dg32 (s % p)))]) else (some [Hv.b false]))) = some [Hv.b true] := by
  cases h : sqR s with
  | false => rfl
  | true =>
    have hq := even_Q (rootR s)
    simp only [if_true]
    rw [low_even, v32_in hq.1 hq.2, root_sq hs h, arrEq_self]
    rfl

theorem law11 (a : List Int) (k : Int) (sq : Bool) (w0 : a.length = 32) (r0 : ∀ y ∈ a, inK .u8 y) (i1 : inK .u8 k) : raw11 a k sq = some [.b true] := by
  unfold raw11
  have hv := edge_v (k := k) w0 r0
  dsimp only
  generalize v32 (edgeL k a) = v at *
  have hs := modp_Q (v * v)
  rw [v_mod, sq_same hv, sq_same hs, root_same hv, root_same hs, arrEq_self, arrEq_self]
  have h1 : sqR (v * v % p) = true := sq_ok (v := v) hs (Int.emod_emod _ _)
  have t1 := tail11 hs
  have t2 := tail11 hv
  cases sq with
  | true =>
    rw [h1] at t1 ⊢
    simp only [cond_true, Bool.not_true, cond_false, beq_self_eq_true] at t1 ⊢
    exact t1
  | false =>
    simp only [Bool.not_true, cond_false, beq_self_eq_true]
    exact t2

theorem law12 (a : List Int) (k : Int) (w0 : a.length = 32) (r0 : ∀ y ∈ a, inK .u8 y) (i1 : inK .u8 k) : raw12 a k = some [.b true] := by
  unfold raw12
  dsimp only
  generalize v32 (edgeL k a) = v at *
  rw [v_mod, v_mod, zero32, v_mod]
  have hu := modp_Q v
  have hup := modp_in v
  generalize hU : v % p = u at *
  have hs := modp_Q (u * u)
  have h1 : sqR (u * u % p) = true := sq_ok (v := u) hs (Int.emod_emod _ _)
  rw [sq_same hs, root_same hs, h1]
  simp only [cond_true, if_true]
  rw [v_mod, show (0 : Int) % p - u = 0 - u from rfl]
  have en : (0 - u) % p * ((0 - u) % p) % p = u * u % p := by rw [mm_l, mm_r, neg_sq]
  rw [en, arrEq_self, cond_true]
  have hq := even_Q (rootR (u * u % p))
  have hr := root_sq hs h1
  have hep := evenP_in (rootR (u * u % p))
  have hee := even_even (rootR (u * u % p))
  rw [v32_in hq.1 hq.2]
  generalize evenP (rootR (u * u % p) % p) = r at *
  rw [Int.emod_emod] at hr
  have hrm : r % p = r := Int.emod_eq_of_lt hep.1 hep.2
  have hum : u % p = u := Int.emod_eq_of_lt hup.1 hup.2
  have eodd : decide (r % p % 2 = 1) = false := decide_eq_false (by rw [hrm]; omega)
  rw [eodd]
  have last : (bif arrEq 32 (dg32 u) (dg32 (0 % p)) then (some [Hv.b true]) else (some [Hv.b (!((decide (u % p % 2 = 1)) == (decide ((0 - u) % p % p % 2 = 1))))])) = some [Hv.b true] := by
    have e0 : arrEq 32 (dg32 u) (dg32 (0 % p)) = decide (u = 0 % p) := by
      have := same32 u 0
      rwa [hum] at this
    rw [e0]
    by_cases hz : u = 0
    · rw [decide_eq_true (show u = 0 % p from hz), cond_true]
    · rw [decide_eq_false (show ¬ u = 0 % p from hz), cond_false, odd_neg hup hz]; rfl
  rw [last]
  simp only [Bool.not_false, cond_true]
  rcases two_roots hr with e | e
  · rw [hrm, hum] at e
    subst e
    rw [arrEq_self, cond_true]
  · rw [hrm] at e
    rw [← e, arrEq_self, cond_true]
    cases arrEq 32 (dg32 r) (dg32 u) <;> rfl
end Go.Proofs.Ytnpobkdmflkkpaa.Fld
