/- The curve: sums of its points are its points. No program in sight. Points, so many times: both reckonings make the same ones. What is written is read again: points on the curve; the base point. Any point, so many times, in the other reckoning. Any bytes' points, so many times, are the same in both reckonings, and read back as points. -/
import Derived.Test.YtibldmjnddppaaaPfdX4
import Derived.Test.YtibldmjnddppaaaPntX4
import Derived.Test.YtibldmjnddppaaaProg
import Derived.Test.YtibldmjnddppaaaSimX2
import Derived.Test.YtibldmjnddppaaaPntX3
set_option linter.unusedVariables false
namespace Go.Fld

def Cq (a b : Int) : Prop := a % p = b % p
theorem Cq.refl (a : Int) : Cq a a := rfl
theorem Cq.trans {a b c : Int} (h : Cq a b) (k : Cq b c) : Cq a c := Eq.trans h k
theorem Cq.symm {a b : Int} (h : Cq a b) : Cq b a := Eq.symm h
theorem Cq.add {a b c d : Int} (h : Cq a b) (k : Cq c d) : Cq (a + c) (b + d) := by unfold Cq at *; rw [Int.add_emod, h, k, ← Int.add_emod]
theorem Cq.sub {a b c d : Int} (h : Cq a b) (k : Cq c d) : Cq (a - c) (b - d) := by unfold Cq at *; rw [Int.sub_emod, h, k, ← Int.sub_emod]
theorem Cq.mul {a b c d : Int} (h : Cq a b) (k : Cq c d) : Cq (a * c) (b * d) := by unfold Cq at *; rw [Int.mul_emod, h, k, ← Int.mul_emod]
theorem Cq.of {a b : Int} (h : a = b) : Cq a b := by rw [h]; rfl
/-- not nought -/
def Nz (a : Int) : Prop := a % p ≠ 0
theorem Nz.mul {a b : Int} (h : Nz a) (k : Nz b) : Nz (a * b) := fun e => by rcases no_zero_div e with e | e; exact h e; exact k e
theorem Nz.cong {a b : Int} (h : Nz a) (k : Cq a b) : Nz b := fun e => h (k.trans (show Cq b 0 from e))
theorem Cq.cancel {a b c : Int} (hc : Nz c) (h : Cq (a * c) (b * c)) : Cq a b := by
  have e : (a - b) * c % p = 0 := by
    rw [Int.sub_mul]
    have := h.sub (Cq.refl (b * c))
    unfold Cq at this
    rw [this, Int.sub_self]; rfl
  rcases no_zero_div e with k | k
  · unfold Cq
    generalize p = P at *
    have h1 := Int.emod_emod_of_dvd a (Int.dvd_refl P)
    exact (Int.emod_eq_emod_iff_emod_sub_eq_zero).2 k
  · exact absurd k hc

abbrev DQ : Int := 37095705934669439343138083508754565189542113879843219016388785533085940283555
def DN : Nat := 37095705934669439343138083508754565189542113879843219016388785533085940283555
/-- (p - 1) / 2 -/
def PH : Nat := 28948022309329048855892746252171976963317496166410141009864396001978282409974
theorem PH2 : 2 * PH = PM := by decide +kernel
theorem dn_pow : pm PN 256 DN PH = PN - 1 := by decide +kernel
theorem dq_pow : Cq (DQ ^ PH) (0 - 1) := by
  have h1 : DN ^ PH % PN = PN - 1 := by rw [← pm_eq PN 256 DN PH (by decide +kernel), dn_pow]
  have key : ∀ e : Nat, (DN ^ e % PN = PN - 1) → Cq (DQ ^ e) (0 - 1) := by
    intro e he
    unfold Cq
    rw [show DQ = ((DN : Nat) : Int) from rfl, ← Int.natCast_pow, pPN, ← Int.natCast_emod, he]
    decide +kernel
  exact key PH h1
theorem dq_nz : Nz DQ := by unfold Nz; decide +kernel
theorem Cq.pow {a b : Int} (h : Cq a b) (k : Nat) : Cq (a ^ k) (b ^ k) := pow_cong' h k
/-- the curve's number is no square -/
theorem nonsq {s t : Int} (h : Cq (DQ * (t * t)) (s * s)) : t % p = 0 := by
  refine Classical.byContradiction fun ht => ?_
  have hs : s % p ≠ 0 := fun e => by
    have e1 : s * s % p = 0 := by rw [← mm_l, e, Int.zero_mul]; rfl
    have h' : DQ * (t * t) % p = 0 := Eq.trans h e1
    rcases no_zero_div h' with k | k
    · exact dq_nz k
    · rcases no_zero_div k with k | k <;> exact ht k
  have h1 := h.pow PH
  have e1 : (s * s) ^ PH = s ^ PM := by rw [show s * s = s ^ 2 by grind, ← Int.pow_mul, PH2]
  have e2 : (DQ * (t * t)) ^ PH = DQ ^ PH * t ^ PM := by rw [Int.mul_pow, show t * t = t ^ 2 by grind, ← Int.pow_mul, PH2]
  rw [e1, e2] at h1
  have h2 : Cq (DQ ^ PH * t ^ PM) ((0 - 1) * 1) := dq_pow.mul (fermatP ht)
  have h3 : Cq ((0 - 1) * 1) 1 := (h2.symm.trans h1).trans (fermatP hs)
  exact absurd h3 (by unfold Cq; decide +kernel)

/-- a root of -1 -/
abbrev IQ : Int := 19681161376707505956807079304988542015446066515923890162744021073123829784752
theorem iq_sq : Cq (IQ * IQ) (0 - 1) := by unfold Cq; decide +kernel

/-- on the curve -/
def On (x y : Int) : Prop := Cq (y * y - x * x) (1 + DQ * (x * x) * (y * y))

theorem complete {x1 y1 x2 y2 : Int} (h1 : On x1 y1) (h2 : On x2 y2) (he : Cq (DQ * (x1 * x2) * (y1 * y2) * (DQ * (x1 * x2) * (y1 * y2))) 1) : False := by
  have key : ∀ j : Int, Cq (j * j) (0 - 1) → (y2 + j * x2) * (x1 * y1) % p = 0 := by
    intro j hj
    refine nonsq (s := j * x1 + DQ * (x1 * x2) * (y1 * y2) * y1) ?_
    generalize he' : DQ * (x1 * x2) * (y1 * y2) = e at *
    have a1 : DQ * ((y2 + j * x2) * (x1 * y1) * ((y2 + j * x2) * (x1 * y1))) = DQ * (x1 * x1) * (y1 * y1) * (y2 * y2 + j * j * (x2 * x2)) + 2 * j * (x1 * y1) * (DQ * (x1 * x2) * (y1 * y2)) := by
      generalize DQ = D
      grind
    have a2 : (j * x1 + e * y1) * (j * x1 + e * y1) = j * j * (x1 * x1) + e * e * (y1 * y1) + 2 * j * (x1 * y1) * e := by grind
    rw [a1, a2, he']
    refine Cq.add ?_ (Cq.refl _)
    have b1 : Cq (DQ * (x1 * x1) * (y1 * y1) * (y2 * y2 + j * j * (x2 * x2))) (DQ * (x1 * x1) * (y1 * y1) * (y2 * y2 - x2 * x2)) := by
      refine (Cq.refl _).mul ?_
      have := (Cq.refl (y2 * y2)).add (hj.mul (Cq.refl (x2 * x2)))
      rwa [show y2 * y2 + (0 - 1) * (x2 * x2) = y2 * y2 - x2 * x2 by grind] at this
    have b2 : Cq (DQ * (x1 * x1) * (y1 * y1) * (y2 * y2 - x2 * x2)) (DQ * (x1 * x1) * (y1 * y1) * (1 + DQ * (x2 * x2) * (y2 * y2))) := (Cq.refl _).mul h2
    have b3 : DQ * (x1 * x1) * (y1 * y1) * (1 + DQ * (x2 * x2) * (y2 * y2)) = DQ * (x1 * x1) * (y1 * y1) + e * e := by
      rw [← he']
      generalize DQ = D
      grind
    have b4 : Cq (DQ * (x1 * x1) * (y1 * y1) + e * e) (1 + DQ * (x1 * x1) * (y1 * y1)) := by
      have := (Cq.refl (DQ * (x1 * x1) * (y1 * y1))).add he
      rwa [show DQ * (x1 * x1) * (y1 * y1) + 1 = 1 + DQ * (x1 * x1) * (y1 * y1) by rw [Int.add_comm]] at this
    have b5 : Cq (j * j * (x1 * x1) + e * e * (y1 * y1)) (y1 * y1 - x1 * x1) := by
      have := (hj.mul (Cq.refl (x1 * x1))).add (he.mul (Cq.refl (y1 * y1)))
      rwa [show (0 - 1) * (x1 * x1) + 1 * (y1 * y1) = y1 * y1 - x1 * x1 by grind] at this
    rw [b3] at b2
    exact ((b1.trans b2).trans b4).trans (h1.symm.trans b5.symm)
  have hP : Nz (DQ * (x1 * x2) * (y1 * y2)) := fun e => by
    have := (show Cq (DQ * (x1 * x2) * (y1 * y2)) 0 from e).mul (Cq.refl (DQ * (x1 * x2) * (y1 * y2)))
    rw [Int.zero_mul] at this
    exact absurd (this.symm.trans he) (by unfold Cq; decide)
  have hxy : Nz (x1 * y1) := fun e => hP (by
    have := (show Cq (x1 * y1) 0 from e).mul (Cq.refl (DQ * (x2 * y2)))
    rw [Int.zero_mul, show x1 * y1 * (DQ * (x2 * y2)) = DQ * (x1 * x2) * (y1 * y2) by generalize DQ = D; grind] at this
    exact this)
  have k1 : Cq (y2 + IQ * x2) 0 := by
    rcases no_zero_div (key IQ iq_sq) with k | k
    · exact k
    · exact absurd k hxy
  have k2 : Cq (y2 + (0 - IQ) * x2) 0 := by
    have hj : Cq ((0 - IQ) * (0 - IQ)) (0 - 1) := by
      rw [show (0 - IQ) * (0 - IQ) = IQ * IQ by generalize IQ = I; grind]; exact iq_sq
    rcases no_zero_div (key (0 - IQ) hj) with k | k
    · exact k
    · exact absurd k hxy
  have k3 := k1.add k2
  rw [show y2 + IQ * x2 + (y2 + (0 - IQ) * x2) = 2 * y2 by generalize IQ = I; grind] at k3
  have k4 : y2 % p = 0 := by
    rcases no_zero_div (show 2 * y2 % p = 0 from k3) with k | k
    · exact absurd k (by decide)
    · exact k
  exact hP (by
    have := (show Cq y2 0 from k4).mul (Cq.refl (DQ * (x1 * x2) * y1))
    rw [Int.zero_mul, show y2 * (DQ * (x1 * x2) * y1) = DQ * (x1 * x2) * (y1 * y2) by generalize DQ = D; grind] at this
    exact this)

/-- the sum's denominators are not nought -/
theorem dens {x1 y1 x2 y2 : Int} (h1 : On x1 y1) (h2 : On x2 y2) : Nz (1 + DQ * (x1 * x2) * (y1 * y2)) ∧ Nz (1 - DQ * (x1 * x2) * (y1 * y2)) := by
  have hc := complete h1 h2
  generalize DQ * (x1 * x2) * (y1 * y2) = e at *
  constructor
  · intro h
    refine hc ?_
    have h' : Cq e (0 - 1) := by
      have := (show Cq (1 + e) 0 from h).sub (Cq.refl 1)
      rwa [show 1 + e - 1 = e by omega] at this
    have := h'.mul h'
    rwa [show ((0 : Int) - 1) * (0 - 1) = 1 by decide] at this
  · intro h
    refine hc ?_
    have h' : Cq e 1 := by
      have := (Cq.refl 1).sub (show Cq (1 - e) 0 from h)
      rwa [show 1 - (1 - e) = e by omega, show (1 : Int) - 0 = 1 by decide] at this
    have := h'.mul h'
    rwa [show (1 : Int) * 1 = 1 by decide] at this

/-- the sum of two points is one -/
theorem closed {x1 y1 x2 y2 x3 y3 : Int} (h1 : On x1 y1) (h2 : On x2 y2) (hx : Cq (x3 * (1 + DQ * (x1 * x2) * (y1 * y2))) (x1 * y2 + x2 * y1)) (hy : Cq (y3 * (1 - DQ * (x1 * x2) * (y1 * y2))) (y1 * y2 + x1 * x2)) : On x3 y3 := by
  obtain ⟨n1, n2⟩ := dens h1 h2
  generalize he : DQ * (x1 * x2) * (y1 * y2) = e at *
  have hw : Nz ((1 + e) * (1 + e) * ((1 - e) * (1 - e))) := (n1.mul n1).mul (n2.mul n2)
  refine Cq.cancel hw ?_
  have sx := hx.mul hx
  have sy := hy.mul hy
  have l1 : (y3 * y3 - x3 * x3) * ((1 + e) * (1 + e) * ((1 - e) * (1 - e))) = y3 * (1 - e) * (y3 * (1 - e)) * ((1 + e) * (1 + e)) - x3 * (1 + e) * (x3 * (1 + e)) * ((1 - e) * (1 - e)) := by grind
  have l2 : (1 + DQ * (x3 * x3) * (y3 * y3)) * ((1 + e) * (1 + e) * ((1 - e) * (1 - e))) = (1 + e) * (1 + e) * ((1 - e) * (1 - e)) + DQ * (x3 * (1 + e) * (x3 * (1 + e))) * (y3 * (1 - e) * (y3 * (1 - e))) := by
    generalize DQ = D
    grind
  rw [l1, l2]
  have m1 := (sy.mul (Cq.refl ((1 + e) * (1 + e)))).sub (sx.mul (Cq.refl ((1 - e) * (1 - e))))
  have m2 := (Cq.refl ((1 + e) * (1 + e) * ((1 - e) * (1 - e)))).add (((Cq.refl DQ).mul sx).mul sy)
  refine m1.trans (Cq.trans ?_ m2.symm)
  -- by the two equations
  have id1 : (y1 * y2 + x1 * x2) * (y1 * y2 + x1 * x2) * ((1 + e) * (1 + e)) - (x1 * y2 + x2 * y1) * (x1 * y2 + x2 * y1) * ((1 - e) * (1 - e)) =
      (y1 * y1 - x1 * x1) * (y2 * y2 - x2 * x2) * (1 + e * e) + 2 * e * ((y1 * y1 + x1 * x1) * (y2 * y2 + x2 * x2) + 4 * (x1 * y1) * (x2 * y2)) := by grind
  have id2 : (x1 * y2 + x2 * y1) * (y1 * y2 + x1 * x2) = x1 * y1 * (y2 * y2 + x2 * x2) + x2 * y2 * (y1 * y1 + x1 * x1) := by grind
  have id3 : DQ * ((x1 * y2 + x2 * y1) * (x1 * y2 + x2 * y1)) * ((y1 * y2 + x1 * x2) * (y1 * y2 + x1 * x2)) =
      DQ * ((x1 * y2 + x2 * y1) * (y1 * y2 + x1 * x2) * ((x1 * y2 + x2 * y1) * (y1 * y2 + x1 * x2))) := by
    generalize DQ = D
    grind
  rw [id1, id3, id2]
  have hα : DQ * (x1 * x1) * (y1 * y1) = DQ * ((x1 * y1) * (x1 * y1)) := by generalize DQ = D; grind
  have hβ : DQ * (x2 * x2) * (y2 * y2) = DQ * ((x2 * y2) * (x2 * y2)) := by generalize DQ = D; grind
  have heP : e = DQ * (x1 * y1) * (x2 * y2) := by rw [← he]; generalize DQ = D; grind
  have hS1 : (y1 * y1 + x1 * x1) * (y1 * y1 + x1 * x1) = (y1 * y1 - x1 * x1) * (y1 * y1 - x1 * x1) + 4 * ((x1 * y1) * (x1 * y1)) := by grind
  have hS2 : (y2 * y2 + x2 * x2) * (y2 * y2 + x2 * x2) = (y2 * y2 - x2 * x2) * (y2 * y2 - x2 * x2) + 4 * ((x2 * y2) * (x2 * y2)) := by grind
  unfold On at h1 h2
  rw [hα] at h1
  rw [hβ] at h2
  generalize hu : y1 * y1 - x1 * x1 = u at *
  generalize hv : y2 * y2 - x2 * x2 = v at *
  generalize hs : y1 * y1 + x1 * x1 = s at *
  generalize ht : y2 * y2 + x2 * x2 = t at *
  generalize hP : x1 * y1 = P at *
  generalize hR : x2 * y2 = R at *
  clear l1 l2 m1 m2 sx sy hx hy id1 id2 id3 hα hβ he hu hv hs ht hP hR
  have e1 : DQ * ((P * t + R * s) * (P * t + R * s)) = DQ * (P * P) * (t * t) + DQ * (R * R) * (s * s) + 2 * (DQ * P * R) * (s * t) := by generalize DQ = D; grind
  rw [e1, hS1, hS2, ← heP]
  have e2 : e * e = DQ * (P * P) * (DQ * (R * R)) := by rw [heP]; generalize DQ = D; grind
  have e3 : 2 * e * (4 * P * R) = DQ * (P * P) * (4 * (R * R)) + DQ * (R * R) * (4 * (P * P)) := by rw [heP]; generalize DQ = D; grind
  have e4 : u * v * (1 + e * e) + 2 * e * (s * t + 4 * P * R) = u * v * (1 + e * e) + 2 * e * (s * t) + 2 * e * (4 * P * R) := by grind
  have e5 : (1 + e) * (1 + e) * ((1 - e) * (1 - e)) = (1 - e * e) * (1 - e * e) := by grind
  rw [e4, e5, e3, e2]
  generalize DQ * (P * P) = α at *
  generalize DQ * (R * R) = β at *
  have f1 : (1 - α * β) * (1 - α * β) + (α * (v * v + 4 * (R * R)) + β * (u * u + 4 * (P * P)) + 2 * e * (s * t)) =
      (1 - α * β) * (1 - α * β) + α * (v * v) + β * (u * u) + 2 * e * (s * t) + (α * (4 * (R * R)) + β * (4 * (P * P))) := by grind
  rw [f1]
  refine Cq.add (Cq.add ?_ (Cq.refl _)) (Cq.refl _)
  have g1 : Cq (u * v * (1 + α * β)) ((1 + α) * (1 + β) * (1 + α * β)) := (h1.mul h2).mul (Cq.refl _)
  have g2 : Cq ((1 - α * β) * (1 - α * β) + α * (v * v) + β * (u * u)) ((1 - α * β) * (1 - α * β) + α * ((1 + β) * (1 + β)) + β * ((1 + α) * (1 + α))) :=
    ((Cq.refl _).add ((Cq.refl _).mul (h2.mul h2))).add ((Cq.refl _).mul (h1.mul h1))
  refine g1.trans (Cq.trans (Cq.of ?_) g2.symm)
  grind
end Go.Fld
set_option linter.unusedVariables false
set_option maxRecDepth 100000
namespace Go.Proofs.Ytibldmjnddppaaa.Fld
open Go Go.Sim Go.Fld

theorem q_of {a b : Int} (h : Cg a b) : Cq a b := h
theorem g_of {a b : Int} (h : Cq a b) : Cg a b := h
structure Aff4 (E : M4) (x y : Int) : Prop where
  X : Cq E.x (x * E.z)
  Y : Cq E.y (y * E.z)
  T : Cq E.t (x * y * E.z)
  Z : Nz E.z
structure Aff3 (E : T3) (x y : Int) : Prop where
  X : Cq E.x (x * E.z)
  Y : Cq E.y (y * E.z)
  Z : Nz E.z
def eA (x1 y1 x2 y2 : Int) : Int := DQ * (x1 * x2) * (y1 * y2)
def aX (x1 y1 x2 y2 : Int) : Int := (x1 * y2 + x2 * y1) * ovM (1 + eA x1 y1 x2 y2)
def aY (x1 y1 x2 y2 : Int) : Int := (y1 * y2 + x1 * x2) * ovM (1 - eA x1 y1 x2 y2)
theorem ov_back {n w : Int} (h : Nz w) : Cq (n * ovM w * w) n := by
  have := (Cq.refl n).mul (q_of (ov_inv h))
  rw [Int.mul_one] at this
  rwa [show n * (w * ovM w) = n * ovM w * w by generalize ovM w = o; grind] at this
theorem aX_at {x1 y1 x2 y2 : Int} (h1 : On x1 y1) (h2 : On x2 y2) : Cq (aX x1 y1 x2 y2 * (1 + eA x1 y1 x2 y2)) (x1 * y2 + x2 * y1) := ov_back (dens h1 h2).1
theorem aY_at {x1 y1 x2 y2 : Int} (h1 : On x1 y1) (h2 : On x2 y2) : Cq (aY x1 y1 x2 y2 * (1 - eA x1 y1 x2 y2)) (y1 * y2 + x1 * x2) := ov_back (dens h1 h2).2
theorem a_on {x1 y1 x2 y2 : Int} (h1 : On x1 y1) (h2 : On x2 y2) : On (aX x1 y1 x2 y2) (aY x1 y1 x2 y2) := closed h1 h2 (aX_at h1 h2) (aY_at h1 h2)
theorem two_nz : Nz 2 := by unfold Nz; decide
theorem sum_aff {P R : M4} {x1 y1 x2 y2 : Int} (h : Aff4 P x1 y1) (k : Aff4 R x2 y2) (o1 : On x1 y1) (o2 : On x2 y2) : Aff4 (sumE P R) (aX x1 y1 x2 y2) (aY x1 y1 x2 y2) := by
  obtain ⟨n1, n2⟩ := dens o1 o2
  have hx := aX_at o1 o2
  have hy := aY_at o1 o2
  change Nz (1 + eA x1 y1 x2 y2) at n1
  change Nz (1 - eA x1 y1 x2 y2) at n2
  generalize aX x1 y1 x2 y2 = x3 at *
  generalize aY x1 y1 x2 y2 = y3 at *
  have ha : Nz (2 * (P.z * R.z)) := two_nz.mul (h.Z.mul k.Z)
  have hE : Cq ((P.y + P.x) * (R.y + R.x) - (P.y - P.x) * (R.y - R.x)) (2 * (P.z * R.z) * (x1 * y2 + x2 * y1)) := by
    have := (Cq.refl 2).mul ((h.X.mul k.Y).add (k.X.mul h.Y))
    rw [show 2 * (x1 * P.z * (y2 * R.z) + x2 * R.z * (y1 * P.z)) = 2 * (P.z * R.z) * (x1 * y2 + x2 * y1) by grind, show 2 * (P.x * R.y + R.x * P.y) = (P.y + P.x) * (R.y + R.x) - (P.y - P.x) * (R.y - R.x) by grind] at this
    exact this
  have hH : Cq ((P.y + P.x) * (R.y + R.x) + (P.y - P.x) * (R.y - R.x)) (2 * (P.z * R.z) * (y1 * y2 + x1 * x2)) := by
    have := (Cq.refl 2).mul ((h.Y.mul k.Y).add (h.X.mul k.X))
    rw [show 2 * (y1 * P.z * (y2 * R.z) + x1 * P.z * (x2 * R.z)) = 2 * (P.z * R.z) * (y1 * y2 + x1 * x2) by grind, show 2 * (P.y * R.y + P.x * R.x) = (P.y + P.x) * (R.y + R.x) + (P.y - P.x) * (R.y - R.x) by grind] at this
    exact this
  have hC : Cq ((P.t * R.t + P.t * R.t) * DD) (2 * (P.z * R.z) * eA x1 y1 x2 y2) := by
    have := (Cq.refl (2 * DD)).mul (h.T.mul k.T)
    unfold eA
    rw [show 2 * DD * (x1 * y1 * P.z * (x2 * y2 * R.z)) = 2 * (P.z * R.z) * (DQ * (x1 * x2) * (y1 * y2)) by rw [show DD = DQ from rfl]; generalize DQ = D; grind, show 2 * DD * (P.t * R.t) = (P.t * R.t + P.t * R.t) * DD by generalize DD = D; grind] at this
    exact this
  have hF : Cq (P.z * R.z + P.z * R.z - (P.t * R.t + P.t * R.t) * DD) (2 * (P.z * R.z) * (1 - eA x1 y1 x2 y2)) := by
    have := (Cq.refl (P.z * R.z + P.z * R.z)).sub hC
    generalize eA x1 y1 x2 y2 = e at *
    rwa [show P.z * R.z + P.z * R.z - 2 * (P.z * R.z) * e = 2 * (P.z * R.z) * (1 - e) by grind] at this
  have hG : Cq (P.z * R.z + P.z * R.z + (P.t * R.t + P.t * R.t) * DD) (2 * (P.z * R.z) * (1 + eA x1 y1 x2 y2)) := by
    have := (Cq.refl (P.z * R.z + P.z * R.z)).add hC
    generalize eA x1 y1 x2 y2 = e at *
    rwa [show P.z * R.z + P.z * R.z + 2 * (P.z * R.z) * e = 2 * (P.z * R.z) * (1 + e) by grind] at this
  generalize eA x1 y1 x2 y2 = e at *
  have nF : Nz (P.z * R.z + P.z * R.z - (P.t * R.t + P.t * R.t) * DD) := (ha.mul n2).cong hF.symm
  have nG : Nz (P.z * R.z + P.z * R.z + (P.t * R.t + P.t * R.t) * DD) := (ha.mul n1).cong hG.symm
  have eta : sumE P R = ⟨((P.y + P.x) * (R.y + R.x) - (P.y - P.x) * (R.y - R.x)) * (P.z * R.z + P.z * R.z - (P.t * R.t + P.t * R.t) * DD), (P.z * R.z + P.z * R.z + (P.t * R.t + P.t * R.t) * DD) * ((P.y + P.x) * (R.y + R.x) + (P.y - P.x) * (R.y - R.x)),
    (P.z * R.z + P.z * R.z - (P.t * R.t + P.t * R.t) * DD) * (P.z * R.z + P.z * R.z + (P.t * R.t + P.t * R.t) * DD), ((P.y + P.x) * (R.y + R.x) - (P.y - P.x) * (R.y - R.x)) * ((P.y + P.x) * (R.y + R.x) + (P.y - P.x) * (R.y - R.x))⟩ := rfl
  rw [eta]
  generalize (P.y + P.x) * (R.y + R.x) - (P.y - P.x) * (R.y - R.x) = E at *
  generalize (P.y + P.x) * (R.y + R.x) + (P.y - P.x) * (R.y - R.x) = H at *
  generalize P.z * R.z + P.z * R.z - (P.t * R.t + P.t * R.t) * DD = F at *
  generalize P.z * R.z + P.z * R.z + (P.t * R.t + P.t * R.t) * DD = G at *
  generalize 2 * (P.z * R.z) = a at *
  have k1 : Cq (x3 * G) E := by
    have := ((Cq.refl x3).mul hG).trans (Cq.of (show x3 * (a * (1 + e)) = a * (x3 * (1 + e)) by grind))
    exact (this.trans ((Cq.refl a).mul hx)).trans hE.symm
  have k2 : Cq (y3 * F) H := by
    have := ((Cq.refl y3).mul hF).trans (Cq.of (show y3 * (a * (1 - e)) = a * (y3 * (1 - e)) by grind))
    exact (this.trans ((Cq.refl a).mul hy)).trans hH.symm
  refine ⟨?_, ?_, ?_, nF.mul nG⟩
  · have := (k1.mul (Cq.refl F)).symm
    rwa [show x3 * G * F = x3 * (F * G) by grind] at this
  · have := ((Cq.refl G).mul k2).symm
    rwa [show G * (y3 * F) = y3 * (F * G) by grind] at this
  · have := (k1.mul k2).symm
    rwa [show x3 * G * (y3 * F) = x3 * y3 * (F * G) by grind] at this

theorem plus_aff {P R : T3} {x1 y1 x2 y2 : Int} (h : Aff3 P x1 y1) (k : Aff3 R x2 y2) (o1 : On x1 y1) (o2 : On x2 y2) : Aff3 (plusE P R DD) (aX x1 y1 x2 y2) (aY x1 y1 x2 y2) := by
  obtain ⟨n1, n2⟩ := dens o1 o2
  have hx := aX_at o1 o2
  have hy := aY_at o1 o2
  change Nz (1 + eA x1 y1 x2 y2) at n1
  change Nz (1 - eA x1 y1 x2 y2) at n2
  generalize aX x1 y1 x2 y2 = x3 at *
  generalize aY x1 y1 x2 y2 = y3 at *
  have ha : Nz (P.z * R.z) := h.Z.mul k.Z
  have hc : Cq (P.x * R.x) (x1 * x2 * (P.z * R.z)) := by
    have := h.X.mul k.X
    rwa [show x1 * P.z * (x2 * R.z) = x1 * x2 * (P.z * R.z) by grind] at this
  have he : Cq (P.y * R.y) (y1 * y2 * (P.z * R.z)) := by
    have := h.Y.mul k.Y
    rwa [show y1 * P.z * (y2 * R.z) = y1 * y2 * (P.z * R.z) by grind] at this
  have hm : Cq ((P.x + P.y) * (R.x + R.y) - (P.x * R.x + P.y * R.y)) ((P.z * R.z) * (x1 * y2 + x2 * y1)) := by
    have := (h.X.mul k.Y).add (k.X.mul h.Y)
    rwa [show x1 * P.z * (y2 * R.z) + x2 * R.z * (y1 * P.z) = (P.z * R.z) * (x1 * y2 + x2 * y1) by grind, show P.x * R.y + R.x * P.y = (P.x + P.y) * (R.x + R.y) - (P.x * R.x + P.y * R.y) by grind] at this
  have hn : Cq (P.y * R.y + P.x * R.x) ((P.z * R.z) * (y1 * y2 + x1 * x2)) := by
    have := he.add hc
    rwa [show y1 * y2 * (P.z * R.z) + x1 * x2 * (P.z * R.z) = (P.z * R.z) * (y1 * y2 + x1 * x2) by grind] at this
  have hf : Cq (DD * (P.x * R.x * (P.y * R.y))) (P.z * R.z * (P.z * R.z) * eA x1 y1 x2 y2) := by
    have := (Cq.refl DD).mul (hc.mul he)
    unfold eA
    rwa [show DD * (x1 * x2 * (P.z * R.z) * (y1 * y2 * (P.z * R.z))) = P.z * R.z * (P.z * R.z) * (DQ * (x1 * x2) * (y1 * y2)) by rw [show DD = DQ from rfl]; generalize DQ = D; grind] at this
  have hg : Cq (P.z * R.z * (P.z * R.z) - DD * (P.x * R.x * (P.y * R.y))) (P.z * R.z * (P.z * R.z) * (1 - eA x1 y1 x2 y2)) := by
    have := (Cq.refl (P.z * R.z * (P.z * R.z))).sub hf
    generalize eA x1 y1 x2 y2 = e at *
    rwa [show P.z * R.z * (P.z * R.z) - P.z * R.z * (P.z * R.z) * e = P.z * R.z * (P.z * R.z) * (1 - e) by grind] at this
  have hh : Cq (P.z * R.z * (P.z * R.z) + DD * (P.x * R.x * (P.y * R.y))) (P.z * R.z * (P.z * R.z) * (1 + eA x1 y1 x2 y2)) := by
    have := (Cq.refl (P.z * R.z * (P.z * R.z))).add hf
    generalize eA x1 y1 x2 y2 = e at *
    rwa [show P.z * R.z * (P.z * R.z) + P.z * R.z * (P.z * R.z) * e = P.z * R.z * (P.z * R.z) * (1 + e) by grind] at this
  have eta : plusE P R DD = ⟨P.z * R.z * ((P.z * R.z * (P.z * R.z) - DD * (P.x * R.x * (P.y * R.y))) * ((P.x + P.y) * (R.x + R.y) - (P.x * R.x + P.y * R.y))), P.z * R.z * ((P.z * R.z * (P.z * R.z) + DD * (P.x * R.x * (P.y * R.y))) * (P.y * R.y + P.x * R.x)),
    (P.z * R.z * (P.z * R.z) - DD * (P.x * R.x * (P.y * R.y))) * (P.z * R.z * (P.z * R.z) + DD * (P.x * R.x * (P.y * R.y)))⟩ := rfl
  rw [eta]
  generalize eA x1 y1 x2 y2 = e at *
  have haa := ha.mul ha
  have ng := (haa.mul n2).cong hg.symm
  have nh := (haa.mul n1).cong hh.symm
  generalize P.z * R.z * (P.z * R.z) - DD * (P.x * R.x * (P.y * R.y)) = g at *
  generalize P.z * R.z * (P.z * R.z) + DD * (P.x * R.x * (P.y * R.y)) = hh' at *
  generalize (P.x + P.y) * (R.x + R.y) - (P.x * R.x + P.y * R.y) = m at *
  generalize P.y * R.y + P.x * R.x = n at *
  generalize P.z * R.z = a at *
  have k1 : Cq (x3 * hh') (a * m) := by
    have := ((Cq.refl x3).mul hh).trans (Cq.of (show x3 * (a * a * (1 + e)) = a * (a * (x3 * (1 + e))) by grind))
    exact (this.trans ((Cq.refl a).mul ((Cq.refl a).mul hx))).trans ((Cq.refl a).mul hm.symm)
  have k2 : Cq (y3 * g) (a * n) := by
    have := ((Cq.refl y3).mul hg).trans (Cq.of (show y3 * (a * a * (1 - e)) = a * (a * (y3 * (1 - e))) by grind))
    exact (this.trans ((Cq.refl a).mul ((Cq.refl a).mul hy))).trans ((Cq.refl a).mul hn.symm)
  refine ⟨?_, ?_, ng.mul nh⟩
  · have := (k1.mul (Cq.refl g)).symm
    rwa [show x3 * hh' * g = x3 * (g * hh') by grind, show a * m * g = a * (g * m) by grind] at this
  · have := (k2.mul (Cq.refl hh')).symm
    rwa [show y3 * g * hh' = y3 * (g * hh') by grind, show a * n * hh' = a * (hh' * n) by grind] at this

/-- stands for a point -/
def AffM (P : M4) (x y : Int) : Prop := ∃ e, Rep4 P e ∧ Aff4 e x y
def AffR (P : T3) (x y : Int) : Prop := ∃ e, Rep3 P e ∧ Aff3 e x y
theorem AffM.sum {P R : M4} {x1 y1 x2 y2 : Int} (h : AffM P x1 y1) (k : AffM R x2 y2) (o1 : On x1 y1) (o2 : On x2 y2) : AffM (sumM P R) (aX x1 y1 x2 y2) (aY x1 y1 x2 y2) := by
  obtain ⟨e, h1, h2⟩ := h
  obtain ⟨f, k1, k2⟩ := k
  exact ⟨_, sumM_rep h1 k1, sum_aff h2 k2 o1 o2⟩
theorem AffR.plus {P R : T3} {x1 y1 x2 y2 d : Int} (hd : Rep d DD) (h : AffR P x1 y1) (k : AffR R x2 y2) (o1 : On x1 y1) (o2 : On x2 y2) : AffR (plusR P R d) (aX x1 y1 x2 y2) (aY x1 y1 x2 y2) := by
  obtain ⟨e, h1, h2⟩ := h
  obtain ⟨f, k1, k2⟩ := k
  exact ⟨_, plusR_rep h1 k1 hd, plus_aff h2 k2 o1 o2⟩
def timesA (k : List Int) (x y : Int) : Nat → Int × Int → Int × Int
  | 0, q => q
  | n + 1, q => timesA k x y n (bif bitK k n then (aX (aX q.1 q.2 q.1 q.2) (aY q.1 q.2 q.1 q.2) x y, aY (aX q.1 q.2 q.1 q.2) (aY q.1 q.2 q.1 q.2) x y) else (aX q.1 q.2 q.1 q.2, aY q.1 q.2 q.1 q.2))
theorem times_on {k : List Int} {x y : Int} (o : On x y) : ∀ (n : Nat) (q : Int × Int), On q.1 q.2 → On (timesA k x y n q).1 (timesA k x y n q).2
  | 0, q, h => h
  | n + 1, q, h => by
    simp only [timesA]
    apply times_on o n
    cases bitK k n
    · exact a_on h h
    · exact a_on (a_on h h) o
theorem times_M {k : List Int} {P : M4} {x y : Int} (hP : AffM P x y) (o : On x y) : ∀ (n : Nat) (q : Int × Int) (R : M4), AffM R q.1 q.2 → On q.1 q.2 → AffM (timesM k P n R) (timesA k x y n q).1 (timesA k x y n q).2
  | 0, q, R, h, _ => h
  | n + 1, q, R, h, hq => by
    simp only [timesA, timesM]
    have h2 := h.sum h hq hq
    have q2 := a_on hq hq
    cases bitK k n with
    | false => rw [cond_false, cond_false]; exact times_M hP o n (aX q.1 q.2 q.1 q.2, aY q.1 q.2 q.1 q.2) _ h2 q2
    | true => rw [cond_true, cond_true]; exact times_M hP o n (aX (aX q.1 q.2 q.1 q.2) (aY q.1 q.2 q.1 q.2) x y, aY (aX q.1 q.2 q.1 q.2) (aY q.1 q.2 q.1 q.2) x y) _ (h2.sum hP q2 o) (a_on q2 o)
theorem times_R {k : List Int} {P : T3} {x y d : Int} (hd : Rep d DD) (hP : AffR P x y) (o : On x y) : ∀ (n : Nat) (q : Int × Int) (R : T3), AffR R q.1 q.2 → On q.1 q.2 → AffR (timesR k P d n R) (timesA k x y n q).1 (timesA k x y n q).2
  | 0, q, R, h, _ => h
  | n + 1, q, R, h, hq => by
    simp only [timesA, timesR]
    have h2 := h.plus hd h hq hq
    have q2 := a_on hq hq
    cases bitK k n with
    | false => rw [cond_false, cond_false]; exact times_R hd hP o n (aX q.1 q.2 q.1 q.2, aY q.1 q.2 q.1 q.2) _ h2 q2
    | true => rw [cond_true, cond_true]; exact times_R hd hP o n (aX (aX q.1 q.2 q.1 q.2) (aY q.1 q.2 q.1 q.2) x y, aY (aX q.1 q.2 q.1 q.2) (aY q.1 q.2 q.1 q.2) x y) _ (AffR.plus hd h2 hP q2 o) (a_on q2 o)
theorem on_no : On 0 1 := by unfold On Cq; decide +kernel
theorem one_nz : Nz 1 := by unfold Nz; decide
theorem no_M : AffM noM 0 1 := ⟨⟨0, 1, 1, 0⟩, ⟨rep0, rep1, rep1, rep0⟩, ⟨rfl, rfl, rfl, one_nz⟩⟩
theorem no_R : AffR noR 0 1 := ⟨⟨0, 1, 1⟩, ⟨rep0, rep1, rep1⟩, ⟨rfl, rfl, one_nz⟩⟩
theorem enc_M {P : M4} {x y : Int} (h : AffM P x y) : encM P = encL x y := by
  obtain ⟨e, h1, h2⟩ := h
  rw [encM_cg h1]
  have b := fun n => ov_back (n := n) h2.Z
  refine encL_cong ?_ ?_
  · have := h2.X.mul (Cq.refl (ovM e.z))
    rw [show x * e.z * ovM e.z = x * ovM e.z * e.z by generalize ovM e.z = o; grind] at this
    exact g_of (this.trans (b x))
  · have := h2.Y.mul (Cq.refl (ovM e.z))
    rw [show y * e.z * ovM e.z = y * ovM e.z * e.z by generalize ovM e.z = o; grind] at this
    exact g_of (this.trans (b y))
theorem enc_R {P : T3} {x y : Int} (h : AffR P x y) : encR P = encL x y := by
  obtain ⟨e, h1, h2⟩ := h
  rw [encR_cg h1]
  have b := fun n => ov_back (n := n) h2.Z
  refine encL_cong ?_ ?_
  · have := h2.X.mul (Cq.refl (ovM e.z))
    rw [show x * e.z * ovM e.z = x * ovM e.z * e.z by generalize ovM e.z = o; grind] at this
    exact g_of (this.trans (b x))
  · have := h2.Y.mul (Cq.refl (ovM e.z))
    rw [show y * e.z * ovM e.z = y * ovM e.z * e.z by generalize ovM e.z = o; grind] at this
    exact g_of (this.trans (b y))
/-- times, in both reckonings -/
theorem times_same {P : M4} {R : T3} {x y : Int} (hM : AffM P x y) (hR : AffR R x y) (o : On x y) (k : List Int) : encM (timesM k P 256 noM) = encL (timesA k x y 256 (0, 1)).1 (timesA k x y 256 (0, 1)).2 ∧ encR (timesR k R deeR 256 noR) = encL (timesA k x y 256 (0, 1)).1 (timesA k x y 256 (0, 1)).2 :=
  ⟨enc_M (times_M hM o 256 (0, 1) noM no_M on_no), enc_R (times_R deeR_rep hR o 256 (0, 1) noR no_R on_no)⟩
end Go.Proofs.Ytibldmjnddppaaa.Fld
set_option linter.unusedVariables false
set_option maxRecDepth 100000
namespace Go.Proofs.Ytibldmjnddppaaa.Fld
open Go Go.Sim
open Go.Proofs Go.Fld

/-! ### 19: towpath/towpathref1.Mult (pure) -/
noncomputable def env19 : List (FuncId × Entry) := [(21, .pure C21.sem), (22, .pure C22.sem), (23, .pure C23.sem)]
theorem envOk19 : EnvOk Try.prog (envOf env19) := envOf_ok (all_cons cok21 (all_cons cok22 (all_cons cok23 (all_nil))))
def raw19 (a0 : List Int) (a1 : List Int) : Option (List Hv) := bif !(okR (a1)) then (some [.l (List.replicate 32 0), .b (false)]) else (let x1 : List Int := dg16 (if okR (a1) then xR (a1) else 0); let x2 : List Int := dg16 (if okR (a1) then yV (a1) else 0); bif carried (x1) && carried (x2) then (let x3 : List Int := dg16 (narR (timesR (a0) ⟨v16 (x1), v16 (x2), 1⟩ deeR 256 noR)).1; let x4 : List Int := dg16 (narR (timesR (a0) ⟨v16 (x1), v16 (x2), 1⟩ deeR 256 noR)).2; bif carried (x3) && carried (x4) then (some [.l (encL (v16 (x3)) (v16 (x4))), .b (true)]) else none) else none)
theorem l19 : LamOk Try.prog (lamOf []) (codeOf Try.f19) := lamOk_nil
def G19 : GFn := ⟨[.arr .u8 32, .arr .u8 32], .tup [.arr .u8 32, .bool], apH [.l, .l] raw19⟩
theorem ok19 : EntryOk Try.prog 19 (.pure G19.sem) := gfn_pure (u := 70) envOk19 mix Try.func19 (by kernel_rfl) (by kernel_rfl) l19 G19 (by kernel_rfl) (by kernel_rfl) [.l, .l] rfl (fun a0 a1 => by show _ = _; kernel_rfl)
theorem at19 (a0 : List Int) (a1 : List Int) : G19.fn [.l a0, .l a1] = raw19 a0 a1 := (congrFun (show G19.fn = apH [.l, .l] raw19 from rfl) _).trans ((fun F => rfl : ∀ F : List Int → List Int → Option (List Hv), apH [.l, .l] F [.l a0, .l a1] = F a0 a1) raw19)
end Go.Proofs.Ytibldmjnddppaaa.Fld
set_option linter.unusedVariables false
set_option maxRecDepth 100000
namespace Go.Proofs.Ytibldmjnddppaaa.Fld
open Go Go.Sim Go.Fld

theorem w_nz (y : Int) : Nz (DD * (y * y) + 1) := by
  intro h
  have h1 : Cq (DQ * (y * y)) (IQ * IQ) := by
    have := (show Cq (DD * (y * y) + 1) 0 from h).sub (Cq.refl 1)
    rw [show DD * (y * y) + 1 - 1 = DQ * (y * y) by rw [show DD = DQ from rfl]; omega] at this
    exact this.trans iq_sq.symm
  have hy := nonsq h1
  have h2 : Cq (DD * (y * y) + 1) 1 := by
    have := ((Cq.refl (DD * y)).mul (show Cq y 0 from hy)).add (Cq.refl 1)
    rw [Int.mul_zero, Int.zero_add, show DD * y * y = DD * (y * y) by rw [Int.mul_assoc]] at this
    exact this
  exact one_nz.cong h2.symm h
/-- x squared, by y -/
theorem on_iff {x y X : Int} (hX : Cq X ((y * y - 1) * ovM (DD * (y * y) + 1))) : Cq (x * x) X ↔ On x y := by
  have hw := w_nz y
  have hb := ov_back (n := y * y - 1) hw
  unfold On
  constructor
  · intro h
    have := ((h.trans hX).mul (Cq.refl (DD * (y * y) + 1))).trans hb
    have e : Cq (x * x + x * x * (DD * (y * y))) (y * y - 1) := by
      rw [show x * x + x * x * (DD * (y * y)) = x * x * (DD * (y * y) + 1) by generalize DD = D; grind]; exact this
    have e2 := (e.add (Cq.refl (1 - x * x))).symm
    rw [show y * y - 1 + (1 - x * x) = y * y - x * x by omega, show x * x + x * x * (DD * (y * y)) + (1 - x * x) = 1 + DQ * (x * x) * (y * y) by rw [show DQ = DD from rfl]; generalize DD = D; grind] at e2
    exact e2
  · intro h
    refine Cq.cancel hw ?_
    refine Cq.trans ?_ ((hX.mul (Cq.refl _)).trans hb).symm
    have e2 := h.symm.sub (Cq.refl (1 - x * x))
    rw [show y * y - x * x - (1 - x * x) = y * y - 1 by omega, show 1 + DQ * (x * x) * (y * y) - (1 - x * x) = x * x * (DD * (y * y) + 1) by rw [show DQ = DD from rfl]; generalize DD = D; grind] at e2
    exact e2
theorem dec_on {b : List Int} (hb : b.length = 32) (rb : ∀ y ∈ b, 0 ≤ y ∧ y < 256) (hok : okM b = true) : On (xM b) (yV b) := by
  have hy := yV_in hb rb
  have hX := (xxM_rep hy).cg
  have hq : sqM (xxM (yV b)) = true := by
    unfold okM at hok
    simp only [Bool.and_eq_true] at hok
    exact hok.1.2
  refine (on_iff (q_of hX)).1 ?_
  have hE := xEv_Q (xxM (yV b))
  have hev : Cq (xEv (xxM (yV b)) * xEv (xxM (yV b))) (xxM (yV b)) := by
    have e : xEv (xxM (yV b)) = evenP (rootM (xxM (yV b)) % p) := by unfold xEv; rw [hq, if_pos rfl]
    rw [e]
    unfold sqM at hq
    rw [decide_eq_true_eq, pr_mod] at hq
    unfold Cq
    rw [even_sq, hq]
  have hd := (dM_rep rep0 (rep_self hE)).cg
  unfold xM
  generalize xEv (xxM (yV b)) = E at *
  split
  · have := (q_of hd).mul (q_of hd)
    rw [neg_sq] at this
    exact this.trans hev
  · exact hev

theorem top_low {v : Int} (h : 0 ≤ v ∧ v < p) : 0 ≤ (dg32 v).getD 31 0 ∧ (dg32 v).getD 31 0 < 128 := by
  have hv := v32_in h.1 (Int.lt_trans h.2 (show p < Q by decide))
  have hl := dg32_l v
  have hr : ∀ y ∈ dg32 v, 0 ≤ y ∧ y < 256 := digs_range (by decide) _ _
  generalize dg32 v = l at *
  obtain ⟨a0, a1, a2, a3, a4, a5, a6, a7, a8, a9, a10, a11, a12, a13, a14, a15, a16, a17, a18, a19, a20, a21, a22, a23, a24, a25, a26, a27, a28, a29, a30, a31, rfl⟩ := len32 hl
  have m := fun a (ha : a ∈ [a0, a1, a2, a3, a4, a5, a6, a7, a8, a9, a10, a11, a12, a13, a14, a15, a16, a17, a18, a19, a20, a21, a22, a23, a24, a25, a26, a27, a28, a29, a30, a31]) => (hr a ha).1
  have h31 := hr a31 (by simp)
  refine ⟨h31.1, ?_⟩
  show a31 < 128
  have q0 := m a0 (by simp)
  have q1 := m a1 (by simp)
  have q2 := m a2 (by simp)
  have q3 := m a3 (by simp)
  have q4 := m a4 (by simp)
  have q5 := m a5 (by simp)
  have q6 := m a6 (by simp)
  have q7 := m a7 (by simp)
  have q8 := m a8 (by simp)
  have q9 := m a9 (by simp)
  have q10 := m a10 (by simp)
  have q11 := m a11 (by simp)
  have q12 := m a12 (by simp)
  have q13 := m a13 (by simp)
  have q14 := m a14 (by simp)
  have q15 := m a15 (by simp)
  have q16 := m a16 (by simp)
  have q17 := m a17 (by simp)
  have q18 := m a18 (by simp)
  have q19 := m a19 (by simp)
  have q20 := m a20 (by simp)
  have q21 := m a21 (by simp)
  have q22 := m a22 (by simp)
  have q23 := m a23 (by simp)
  have q24 := m a24 (by simp)
  have q25 := m a25 (by simp)
  have q26 := m a26 (by simp)
  have q27 := m a27 (by simp)
  have q28 := m a28 (by simp)
  have q29 := m a29 (by simp)
  have q30 := m a30 (by simp)
  have h2 := h.2
  simp only [v32, valD, p] at hv h2
  clear m hr
  omega
theorem or128 {n : Nat} (h : n < 128) : n ||| 128 = n + 128 := by
  have e : 128 + n = 128 ||| n := Nat.two_pow_add_eq_or_of_lt (i := 7) (b := n) h 1
  rw [Nat.or_comm, ← e, Nat.add_comm]
theorem n127 {n : Nat} (h : n < 128) : n &&& 127 = n ∧ (n + 128) &&& 127 = n := by
  have e := fun m : Nat => Nat.and_two_pow_sub_one_eq_mod m 7
  rw [show (127 : Nat) = 2 ^ 7 - 1 by decide, e, e]
  omega
theorem orand {a : Int} (h : 0 ≤ a ∧ a < 128) (t : Prop) [Decidable t] : andI .u8 (orI .u8 a (if t then 128 else 0)) 127 = a ∧ (orI .u8 a (if t then 128 else 0) / 128 == 1) = decide t := by
  obtain ⟨n, rfl⟩ := Int.eq_ofNat_of_zero_le h.1
  have hn : n < 128 := by omega
  obtain ⟨k1, k2⟩ := n127 hn
  by_cases ht : t
  · rw [if_pos ht, show (128 : Int) = ((128 : Nat) : Int) from rfl, orI_nat8 (by omega) (by decide), or128 hn, show (127 : Int) = ((127 : Nat) : Int) from rfl, andI_nat8 (by omega) (by decide), k2, decide_eq_true ht]
    refine ⟨rfl, ?_⟩
    rw [beq_iff_eq]
    omega
  · rw [if_neg ht, orI8_zero (by omega), show (127 : Int) = ((127 : Nat) : Int) from rfl, andI_nat8 (by omega) (by decide), k1, decide_eq_false ht]
    refine ⟨rfl, ?_⟩
    rw [beq_eq_false_iff_ne]
    omega
theorem setP31 {l : List Int} (h : l.length = 32) (a b : Int) : setP 0 (setP 0 l 31 a) 31 b = setP 0 l 31 b ∧ (setP 0 l 31 a).getD 31 0 = a := by
  obtain ⟨a0, a1, a2, a3, a4, a5, a6, a7, a8, a9, a10, a11, a12, a13, a14, a15, a16, a17, a18, a19, a20, a21, a22, a23, a24, a25, a26, a27, a28, a29, a30, a31, rfl⟩ := len32 h
  exact ⟨rfl, rfl⟩
theorem enc_y (x y : Int) : yV (encL x y) = y % p ∧ sgn (encL x y) = decide (x % p % 2 = 1) := by
  have h := modp_in y
  have ht := top_low h
  obtain ⟨o1, o2⟩ := orand ht (x % p % 2 = 1)
  have hl := dg32_l (y % p)
  constructor
  · unfold yV maskL encL
    rw [(setP31 hl _ _).1, (setP31 hl _ 0).2, o1, setP31_self hl]
    exact v_mod y
  · unfold sgn encL
    rw [(setP31 hl _ 0).2, o2]
/-- the bytes of a point are read as one -/
theorem enc_ok {x y : Int} (o : On x y) : okM (encL x y) = true := by
  obtain ⟨e1, e2⟩ := enc_y x y
  have hy := modp_Q y
  have hX := xxM_rep hy
  have o' : On x (y % p) := by
    have hm : Cq y (y % p) := (show Cq (y % p) y from Int.emod_emod _ _).symm
    have h2 := hm.mul hm
    unfold On at *
    exact ((h2.sub (Cq.refl _)).symm.trans o).trans ((Cq.refl 1).add ((Cq.refl _).mul h2))
  have hs := (on_iff (q_of hX.cg)).2 o'
  have hsq : sqM (xxM (y % p)) = true := by
    rw [sq_same ⟨hX.lo, hX.hi⟩]
    exact sq_ok (v := x) ⟨hX.lo, hX.hi⟩ hs.symm
  unfold okM
  rw [e1, e2, hsq, decide_eq_true (modp_in y).2, Bool.and_self, Bool.true_and, Bool.not_eq_true', Bool.and_eq_false_iff]
  by_cases hx : x % p = 0
  · left; rw [hx]; rfl
  · right
    refine decide_eq_false fun h0 => hx ?_
    unfold xEv at h0
    rw [hsq, if_pos rfl, even_zero] at h0
    have hq := hsq
    unfold sqM at hq
    rw [decide_eq_true_eq, pr_mod] at hq
    have h3 : x * x % p = 0 := by
      have : x * x % p = xxM (y % p) % p := hs
      rw [this, ← hq, ← mm_l, h0, Int.zero_mul]; rfl
    rcases no_zero_div h3 with k | k <;> exact k

/-! the base point -/
theorem on_base : On BX BY := by unfold On Cq; decide +kernel
theorem base_M : AffM baseM BX BY := by
  have hx : Rep BX BX := rep_self (by decide)
  have hy : Rep BY BY := rep_self (by decide)
  refine ⟨⟨BX, BY, 1, BX * BY⟩, ⟨hx, hy, rep1, pr_rep hx hy⟩, ⟨?_, ?_, ?_, one_nz⟩⟩ <;> exact Cq.of (Int.mul_one _).symm
theorem w5 : Wide li5 := ⟨rfl, by
  intro y hy
  simp only [li5, List.mem_cons, List.not_mem_nil, or_false] at hy
  omega⟩
theorem yB_is : yB = dg32 BY := by
  have h4 : ∀ y ∈ li4, 0 ≤ y ∧ y < 262144 := by
    intro y hy
    simp only [li4, List.mem_cons, List.not_mem_nil, or_false] at hy
    omega
  have hp := rpowL_in 43 w5 255 1 (by decide)
  have hw := wide_dg16 (rpowL 43 li5 255 1)
  have hc := convw_in (a := li4) (b := dg16 (rpowL 43 li5 255 1)) rfl hw.len h4 hw.lim
  have hf := fofo_in hc.1 hc.2
  have e4 : v16 li4 = 4 := by decide +kernel
  have e5 : v16 li5 = 5 := by decide +kernel
  have key : v16 (dg16 (fo (fo (v16 (convL li4 (dg16 (rpowL 43 li5 255 1))))))) % p = BY := by
    rw [v16_in hf.1 hf.2, fo_mod, fo_mod, v16_convL rfl hw.len, v16_in hp.1 hp.2, ← mm_r, rpowL_one w5, mm_r, e4, e5]
    have h5 : (5 : Int) * 5 ^ rexp 43 255 % p = 1 := by rw [← Int.pow_succ', e43b, fermatP (v := 5) (by decide)]
    have hb : (4 : Int) % p = BY * 5 % p := by decide +kernel
    rw [← mm_l, hb, mm_l, Int.mul_assoc, ← mm_r, h5, Int.mul_one]
    decide +kernel
  unfold yB quoL
  rw [key]
theorem ok_base : okM (dg32 BY) = true := by decide +kernel
theorem x_base : xM (dg32 BY) = BX := by decide +kernel
theorem y_base : yV (dg32 BY) = BY := by decide +kernel
theorem base_R : AffR ⟨bxR, byR, 1⟩ BX BY := by
  have hb : (dg32 BY).length = 32 := dg32_l _
  have rb : ∀ y ∈ dg32 BY, 0 ≤ y ∧ y < 256 := digs_range (by decide) _ _
  have ho : okR yB = true := by rw [yB_is, ← ok_same hb rb, ok_base]
  have hx : Cg bxR BX := by
    rw [bxR_eq]
    unfold selX
    rw [if_pos ho, yB_is]
    exact (x_same hb rb ok_base).symm.trans (by rw [x_base]; exact Cg.refl _)
  have hy : byR = BY := by
    rw [byR_eq]
    unfold selY
    rw [if_pos ho, yB_is, y_base]
  have h1 := bR_in.1
  have h2 := bR_in.2
  rw [hy] at h2 ⊢
  exact ⟨⟨BX, BY, 1⟩, ⟨h1.to hx, h2, rep1⟩, ⟨Cq.of (Int.mul_one _).symm, Cq.of (Int.mul_one _).symm, one_nz⟩⟩
/-- the base point, so many times -/
theorem base_same (k : List Int) : encM (timesM k baseM 256 noM) = baseR k ∧ ∃ x y, On x y ∧ baseR k = encL x y := by
  obtain ⟨h1, h2⟩ := times_same base_M base_R on_base k
  have ho := times_on (k := k) on_base 256 (0, 1) on_no
  unfold baseR
  exact ⟨h1.trans h2.symm, _, _, ho, h2⟩
/-- any point, so many times -/
theorem mult_same {b : List Int} (hb : b.length = 32) (rb : ∀ y ∈ b, 0 ≤ y ∧ y < 256) (hok : okM b = true) (k : List Int) : encM (timesM k (pM b) 256 noM) = encR (timesR k (pR b) deeR 256 noR) := by
  have hM : AffM (pM b) (xM b) (yV b) := ⟨_, pM_rep hb rb, ⟨Cq.of (Int.mul_one _).symm, Cq.of (Int.mul_one _).symm, Cq.of (Int.mul_one _).symm, one_nz⟩⟩
  have hR : AffR (pR b) (xM b) (yV b) := ⟨_, pR_rep hb rb hok, ⟨Cq.of (Int.mul_one _).symm, Cq.of (Int.mul_one _).symm, one_nz⟩⟩
  obtain ⟨h1, h2⟩ := times_same hM hR (dec_on hb rb hok) k
  exact h1.trans h2.symm
end Go.Proofs.Ytibldmjnddppaaa.Fld
set_option linter.unusedVariables false
set_option maxRecDepth 100000
namespace Go.Proofs.Ytibldmjnddppaaa.Fld
open Go Go.Sim Go.Fld
def C19 : CFn := ⟨[.arr .u8 32, .arr .u8 32], .tup [.arr .u8 32, .bool], fun _ => true, fun hs => [.l (if okR (hl hs 1) then encR (timesR (hl hs 0) (pR (hl hs 1)) deeR 256 noR) else dg32 0), .b (okR (hl hs 1))]⟩
theorem tail19 {x y d : Int} (hx : Rep x x) (hy : Rep y y) (hd : Rep d d) (k : List Int) :
    (bif carried (dg16 x) && carried (dg16 y) then (bif carried (dg16 (narR (timesR k ⟨v16 (dg16 x), v16 (dg16 y), 1⟩ d 256 noR)).1) && carried (dg16 (narR (timesR k ⟨v16 (dg16 x), v16 (dg16 y), 1⟩ d 256 noR)).2) then (some [Hv.l (encL (v16 (dg16 (narR (timesR k ⟨v16 (dg16 x), v16 (dg16 y), 1⟩ d 256 noR)).1)) (v16 (dg16 (narR (timesR k ⟨v16 (dg16 x), v16 (dg16 y), 1⟩ d 256 noR)).2))), Hv.b true]) else none) else none) =
    some [.l (encR (timesR k ⟨x, y, 1⟩ d 256 noR)), .b true] := by
  rw [carried_dg16, carried_dg16, Bool.and_self, cond_true, hx.v16, hy.v16, carried_dg16, carried_dg16, Bool.and_self, cond_true, v16_in (narR_in _).1.1 (narR_in _).1.2, v16_in (narR_in _).2.1 (narR_in _).2.2]
  rfl
theorem raw19_is (k : List Int) {b : List Int} (hb : b.length = 32) (rb : ∀ y ∈ b, 0 ≤ y ∧ y < 256) : raw19 k b = some [.l (if okR b then encR (timesR k (pR b) deeR 256 noR) else dg32 0), .b (okR b)] := by
  unfold raw19
  cases h1 : okR b with
  | false => rw [Bool.not_false, cond_true, if_neg (by decide), zero32']
  | true =>
    rw [Bool.not_true, cond_false, if_pos rfl]
    dsimp only
    rw [if_pos rfl, if_pos rfl]
    exact tail19 (rep_self (xR_in b)) (rep_self (yV_in hb rb)) rep_deeR k
theorem cok19 : EntryOk Try.prog 19 (.pure C19.sem) := cfn_at rfl rfl rfl ok19 (fun k _ _ b hb rb _ => (at19 k b).trans (raw19_is k hb rb))
end Go.Proofs.Ytibldmjnddppaaa.Fld
set_option linter.unusedVariables false
set_option maxRecDepth 100000
namespace Go.Proofs.Ytibldmjnddppaaa.Fld
open Go Go.Sim
open Go.Proofs Go.Fld

/-! ### 6: towpath/towpathlaw4.PointTimes (pure) -/
noncomputable def env6 : List (FuncId × Entry) := [(8, .pure C8.sem), (11, .pure C11.sem), (16, .pure C16.sem), (18, .pure C18.sem), (19, .pure C19.sem)]
theorem envOk6 : EnvOk Try.prog (envOf env6) := envOf_ok (all_cons cok8 (all_cons cok11 (all_cons cok16 (all_cons cok18 (all_cons cok19 (all_nil))))))
noncomputable def raw6 (a0 : List Int) (a1 : List Int) : Option (List Hv) := let x1 : List Int := encM (timesM (a0) baseM 256 noM); bif !(arrEq 32 (x1) (baseR (a0))) then (some [.b (false)]) else (bif arrEq 32 (if okM (x1) then encM (timesM (a1) (pM (x1)) 256 noM) else dg32 0) (if okR (x1) then encR (timesR (a1) (pR (x1)) deeR 256 noR) else dg32 0) then (bif (okM (x1)) == (okR (x1)) then (some [.b (okM (x1))]) else (some [.b (false)])) else (some [.b (false)]))
theorem l6 : LamOk Try.prog (lamOf []) (codeOf Try.f6) := lamOk_nil
theorem ev6 (a0 : List Int) (a1 : List Int) : evalF Try.prog (envOf env6) (lamOf []) 70 Try.f6 (codeOf Try.f6) [.arr .u8 32 a0, .arr .u8 32 a1] [] 0 (fun v _ => matchP .bool v) = raw6 a0 a1 := by kernel_rfl
end Go.Proofs.Ytibldmjnddppaaa.Fld
set_option linter.unusedVariables false
set_option maxRecDepth 100000
namespace Go.Proofs.Ytibldmjnddppaaa.Fld
open Go Go.Sim Go.Fld
theorem law6 (a k : List Int) (w0 : a.length = 32) (r0 : ∀ y ∈ a, inK .u8 y) (w1 : k.length = 32) (r1 : ∀ y ∈ k, inK .u8 y) : raw6 a k = some [.b true] := by
  unfold raw6
  obtain ⟨h1, x, y, ho, he⟩ := base_same a
  have hb := baseR_in a
  have hok : okM (baseR a) = true := by rw [he]; exact enc_ok ho
  rw [h1]
  generalize baseR a = P at *
  dsimp only
  rw [arrEq_self, Bool.not_true, cond_false, ← ok_same hb.1 hb.2, hok, if_pos rfl, if_pos rfl, mult_same hb.1 hb.2 hok, arrEq_self, cond_true, beq_self_eq_true, cond_true]
end Go.Proofs.Ytibldmjnddppaaa.Fld
