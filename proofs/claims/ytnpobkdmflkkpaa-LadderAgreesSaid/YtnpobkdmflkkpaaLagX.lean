/- The curve: sums of its points are its points. No program in sight. The sum of three points: printed by assoc.py. The ladder's curve by the other one's points: what a doubling and a sum are. No program in sight. The curve's points are a group, in plain numbers (its parts as in the point seat's texts). The ladder's pair stands for a point: doubling. The ladder's pair stands for a point: sums of two whose difference is known. The ladder stands for a point so many times. Two that have one another's public numbers share one. -/
import Derived.Test.YtnpobkdmflkkpaaFldX5
import Derived.Test.YtnpobkdmflkkpaaLadX
set_option linter.unusedVariables false
namespace Go.Fld

def Cq (a b : Int) : Prop := a % p = b % p
theorem Cq.refl (a : Int) : Cq a a := rfl
theorem Cq.trans {a b c : Int} (h : Cq a b) (k : Cq b c) : Cq a c := Eq.trans h k
theorem Cq.symm {a b : Int} (h : Cq a b) : Cq b a := Eq.symm h
theorem Cq.add {a b c d : Int} (h : Cq a b) (k : Cq c d) : Cq (a + c) (b + d) := by unfold Cq at *; rw [Int.add_emod, h, k, ← Int.add_emod]
theorem Cq.sub {a b c d : Int} (h : Cq a b) (k : Cq c d) : Cq (a - c) (b - d) := by unfold Cq at *; rw [Int.sub_emod, h, k, ← Int.sub_emod]
theorem Cq.mul {a b c d : Int} (h : Cq a b) (k : Cq c d) : Cq (a * c) (b * d) := by unfold Cq at *; rw [Int.mul_emod, h, k, ← Int.mul_emod]
theorem Cq.of {a b : Int} (h : a = b) : Cq a b := by rw [h]; rfl
/-- not nought -/
def Nz (a : Int) : Prop := a % p ≠ 0
theorem Nz.mul {a b : Int} (h : Nz a) (k : Nz b) : Nz (a * b) := fun e => by rcases no_zero_div e with e | e; exact h e; exact k e
theorem Nz.cong {a b : Int} (h : Nz a) (k : Cq a b) : Nz b := fun e => h (k.trans (show Cq b 0 from e))
theorem Cq.cancel {a b c : Int} (hc : Nz c) (h : Cq (a * c) (b * c)) : Cq a b := by
  have e : (a - b) * c % p = 0 := by
    rw [Int.sub_mul]
    have := h.sub (Cq.refl (b * c))
    unfold Cq at this
    rw [this, Int.sub_self]; rfl
  rcases no_zero_div e with k | k
  · unfold Cq
    generalize p = P at *
    have h1 := Int.emod_emod_of_dvd a (Int.dvd_refl P)
    exact (Int.emod_eq_emod_iff_emod_sub_eq_zero).2 k
  · exact absurd k hc

abbrev DQ : Int := 37095705934669439343138083508754565189542113879843219016388785533085940283555
def DN : Nat := 37095705934669439343138083508754565189542113879843219016388785533085940283555
/-- (p - 1) / 2 -/
def PH : Nat := 28948022309329048855892746252171976963317496166410141009864396001978282409974
theorem PH2 : 2 * PH = PM := by decide +kernel
theorem dn_pow : pm PN 256 DN PH = PN - 1 := by decide +kernel
theorem dq_pow : Cq (DQ ^ PH) (0 - 1) := by
  have h1 : DN ^ PH % PN = PN - 1 := by rw [← pm_eq PN 256 DN PH (by decide +kernel), dn_pow]
  have key : ∀ e : Nat, (DN ^ e % PN = PN - 1) → Cq (DQ ^ e) (0 - 1) := by
    intro e he
    unfold Cq
    rw [show DQ = ((DN : Nat) : Int) from rfl, ← Int.natCast_pow, pPN, ← Int.natCast_emod, he]
    decide +kernel
  exact key PH h1
theorem dq_nz : Nz DQ := by unfold Nz; decide +kernel
theorem Cq.pow {a b : Int} (h : Cq a b) (k : Nat) : Cq (a ^ k) (b ^ k) := pow_cong' h k
/-- the curve's number is no square -/
theorem nonsq {s t : Int} (h : Cq (DQ * (t * t)) (s * s)) : t % p = 0 := by
  refine Classical.byContradiction fun ht => ?_
  have hs : s % p ≠ 0 := fun e => by
    have e1 : s * s % p = 0 := by rw [← mm_l, e, Int.zero_mul]; rfl
    have h' : DQ * (t * t) % p = 0 := Eq.trans h e1
    rcases no_zero_div h' with k | k
    · exact dq_nz k
    · rcases no_zero_div k with k | k <;> exact ht k
  have h1 := h.pow PH
  have e1 : (s * s) ^ PH = s ^ PM := by rw [show s * s = s ^ 2 by grind, ← Int.pow_mul, PH2]
  have e2 : (DQ * (t * t)) ^ PH = DQ ^ PH * t ^ PM := by rw [Int.mul_pow, show t * t = t ^ 2 by grind, ← Int.pow_mul, PH2]
  rw [e1, e2] at h1
  have h2 : Cq (DQ ^ PH * t ^ PM) ((0 - 1) * 1) := dq_pow.mul (fermatP ht)
  have h3 : Cq ((0 - 1) * 1) 1 := (h2.symm.trans h1).trans (fermatP hs)
  exact absurd h3 (by unfold Cq; decide +kernel)

/-- a root of -1 -/
abbrev IQ : Int := 19681161376707505956807079304988542015446066515923890162744021073123829784752
theorem iq_sq : Cq (IQ * IQ) (0 - 1) := by unfold Cq; decide +kernel

/-- on the curve -/
def On (x y : Int) : Prop := Cq (y * y - x * x) (1 + DQ * (x * x) * (y * y))

theorem complete {x1 y1 x2 y2 : Int} (h1 : On x1 y1) (h2 : On x2 y2) (he : Cq (DQ * (x1 * x2) * (y1 * y2) * (DQ * (x1 * x2) * (y1 * y2))) 1) : False := by
  have key : ∀ j : Int, Cq (j * j) (0 - 1) → (y2 + j * x2) * (x1 * y1) % p = 0 := by
    intro j hj
    refine nonsq (s := j * x1 + DQ * (x1 * x2) * (y1 * y2) * y1) ?_
    generalize he' : DQ * (x1 * x2) * (y1 * y2) = e at *
    have a1 : DQ * ((y2 + j * x2) * (x1 * y1) * ((y2 + j * x2) * (x1 * y1))) = DQ * (x1 * x1) * (y1 * y1) * (y2 * y2 + j * j * (x2 * x2)) + 2 * j * (x1 * y1) * (DQ * (x1 * x2) * (y1 * y2)) := by
      generalize DQ = D
      grind
    have a2 : (j * x1 + e * y1) * (j * x1 + e * y1) = j * j * (x1 * x1) + e * e * (y1 * y1) + 2 * j * (x1 * y1) * e := by grind
    rw [a1, a2, he']
    refine Cq.add ?_ (Cq.refl _)
    have b1 : Cq (DQ * (x1 * x1) * (y1 * y1) * (y2 * y2 + j * j * (x2 * x2))) (DQ * (x1 * x1) * (y1 * y1) * (y2 * y2 - x2 * x2)) := by
      refine (Cq.refl _).mul ?_
      have := (Cq.refl (y2 * y2)).add (hj.mul (Cq.refl (x2 * x2)))
      rwa [show y2 * y2 + (0 - 1) * (x2 * x2) = y2 * y2 - x2 * x2 by grind] at this
    have b2 : Cq (DQ * (x1 * x1) * (y1 * y1) * (y2 * y2 - x2 * x2)) (DQ * (x1 * x1) * (y1 * y1) * (1 + DQ * (x2 * x2) * (y2 * y2))) := (Cq.refl _).mul h2
    have b3 : DQ * (x1 * x1) * (y1 * y1) * (1 + DQ * (x2 * x2) * (y2 * y2)) = DQ * (x1 * x1) * (y1 * y1) + e * e := by
      rw [← he']
      generalize DQ = D
      grind
    have b4 : Cq (DQ * (x1 * x1) * (y1 * y1) + e * e) (1 + DQ * (x1 * x1) * (y1 * y1)) := by
      have := (Cq.refl (DQ * (x1 * x1) * (y1 * y1))).add he
      rwa [show DQ * (x1 * x1) * (y1 * y1) + 1 = 1 + DQ * (x1 * x1) * (y1 * y1) by rw [Int.add_comm]] at this
    have b5 : Cq (j * j * (x1 * x1) + e * e * (y1 * y1)) (y1 * y1 - x1 * x1) := by
      have := (hj.mul (Cq.refl (x1 * x1))).add (he.mul (Cq.refl (y1 * y1)))
      rwa [show (0 - 1) * (x1 * x1) + 1 * (y1 * y1) = y1 * y1 - x1 * x1 by grind] at this
    rw [b3] at b2
    exact ((b1.trans b2).trans b4).trans (h1.symm.trans b5.symm)
  have hP : Nz (DQ * (x1 * x2) * (y1 * y2)) := fun e => by
    have := (show Cq (DQ * (x1 * x2) * (y1 * y2)) 0 from e).mul (Cq.refl (DQ * (x1 * x2) * (y1 * y2)))
    rw [Int.zero_mul] at this
    exact absurd (this.symm.trans he) (by unfold Cq; decide)
  have hxy : Nz (x1 * y1) := fun e => hP (by
    have := (show Cq (x1 * y1) 0 from e).mul (Cq.refl (DQ * (x2 * y2)))
    rw [Int.zero_mul, show x1 * y1 * (DQ * (x2 * y2)) = DQ * (x1 * x2) * (y1 * y2) by generalize DQ = D; grind] at this
    exact this)
  have k1 : Cq (y2 + IQ * x2) 0 := by
    rcases no_zero_div (key IQ iq_sq) with k | k
    · exact k
    · exact absurd k hxy
  have k2 : Cq (y2 + (0 - IQ) * x2) 0 := by
    have hj : Cq ((0 - IQ) * (0 - IQ)) (0 - 1) := by
      rw [show (0 - IQ) * (0 - IQ) = IQ * IQ by generalize IQ = I; grind]; exact iq_sq
    rcases no_zero_div (key (0 - IQ) hj) with k | k
    · exact k
    · exact absurd k hxy
  have k3 := k1.add k2
  rw [show y2 + IQ * x2 + (y2 + (0 - IQ) * x2) = 2 * y2 by generalize IQ = I; grind] at k3
  have k4 : y2 % p = 0 := by
    rcases no_zero_div (show 2 * y2 % p = 0 from k3) with k | k
    · exact absurd k (by decide)
    · exact k
  exact hP (by
    have := (show Cq y2 0 from k4).mul (Cq.refl (DQ * (x1 * x2) * y1))
    rw [Int.zero_mul, show y2 * (DQ * (x1 * x2) * y1) = DQ * (x1 * x2) * (y1 * y2) by generalize DQ = D; grind] at this
    exact this)

/-- the sum's denominators are not nought -/
theorem dens {x1 y1 x2 y2 : Int} (h1 : On x1 y1) (h2 : On x2 y2) : Nz (1 + DQ * (x1 * x2) * (y1 * y2)) ∧ Nz (1 - DQ * (x1 * x2) * (y1 * y2)) := by
  have hc := complete h1 h2
  generalize DQ * (x1 * x2) * (y1 * y2) = e at *
  constructor
  · intro h
    refine hc ?_
    have h' : Cq e (0 - 1) := by
      have := (show Cq (1 + e) 0 from h).sub (Cq.refl 1)
      rwa [show 1 + e - 1 = e by omega] at this
    have := h'.mul h'
    rwa [show ((0 : Int) - 1) * (0 - 1) = 1 by decide] at this
  · intro h
    refine hc ?_
    have h' : Cq e 1 := by
      have := (Cq.refl 1).sub (show Cq (1 - e) 0 from h)
      rwa [show 1 - (1 - e) = e by omega, show (1 : Int) - 0 = 1 by decide] at this
    have := h'.mul h'
    rwa [show (1 : Int) * 1 = 1 by decide] at this

/-- the sum of two points is one -/
theorem closed {x1 y1 x2 y2 x3 y3 : Int} (h1 : On x1 y1) (h2 : On x2 y2) (hx : Cq (x3 * (1 + DQ * (x1 * x2) * (y1 * y2))) (x1 * y2 + x2 * y1)) (hy : Cq (y3 * (1 - DQ * (x1 * x2) * (y1 * y2))) (y1 * y2 + x1 * x2)) : On x3 y3 := by
  obtain ⟨n1, n2⟩ := dens h1 h2
  generalize he : DQ * (x1 * x2) * (y1 * y2) = e at *
  have hw : Nz ((1 + e) * (1 + e) * ((1 - e) * (1 - e))) := (n1.mul n1).mul (n2.mul n2)
  refine Cq.cancel hw ?_
  have sx := hx.mul hx
  have sy := hy.mul hy
  have l1 : (y3 * y3 - x3 * x3) * ((1 + e) * (1 + e) * ((1 - e) * (1 - e))) = y3 * (1 - e) * (y3 * (1 - e)) * ((1 + e) * (1 + e)) - x3 * (1 + e) * (x3 * (1 + e)) * ((1 - e) * (1 - e)) := by grind
  have l2 : (1 + DQ * (x3 * x3) * (y3 * y3)) * ((1 + e) * (1 + e) * ((1 - e) * (1 - e))) = (1 + e) * (1 + e) * ((1 - e) * (1 - e)) + DQ * (x3 * (1 + e) * (x3 * (1 + e))) * (y3 * (1 - e) * (y3 * (1 - e))) := by
    generalize DQ = D
    grind
  rw [l1, l2]
  have m1 := (sy.mul (Cq.refl ((1 + e) * (1 + e)))).sub (sx.mul (Cq.refl ((1 - e) * (1 - e))))
  have m2 := (Cq.refl ((1 + e) * (1 + e) * ((1 - e) * (1 - e)))).add (((Cq.refl DQ).mul sx).mul sy)
  refine m1.trans (Cq.trans ?_ m2.symm)
  -- by the two equations
  have id1 : (y1 * y2 + x1 * x2) * (y1 * y2 + x1 * x2) * ((1 + e) * (1 + e)) - (x1 * y2 + x2 * y1) * (x1 * y2 + x2 * y1) * ((1 - e) * (1 - e)) =
      (y1 * y1 - x1 * x1) * (y2 * y2 - x2 * x2) * (1 + e * e) + 2 * e * ((y1 * y1 + x1 * x1) * (y2 * y2 + x2 * x2) + 4 * (x1 * y1) * (x2 * y2)) := by grind
  have id2 : (x1 * y2 + x2 * y1) * (y1 * y2 + x1 * x2) = x1 * y1 * (y2 * y2 + x2 * x2) + x2 * y2 * (y1 * y1 + x1 * x1) := by grind
  have id3 : DQ * ((x1 * y2 + x2 * y1) * (x1 * y2 + x2 * y1)) * ((y1 * y2 + x1 * x2) * (y1 * y2 + x1 * x2)) =
      DQ * ((x1 * y2 + x2 * y1) * (y1 * y2 + x1 * x2) * ((x1 * y2 + x2 * y1) * (y1 * y2 + x1 * x2))) := by
    generalize DQ = D
    grind
  rw [id1, id3, id2]
  have hα : DQ * (x1 * x1) * (y1 * y1) = DQ * ((x1 * y1) * (x1 * y1)) := by generalize DQ = D; grind
  have hβ : DQ * (x2 * x2) * (y2 * y2) = DQ * ((x2 * y2) * (x2 * y2)) := by generalize DQ = D; grind
  have heP : e = DQ * (x1 * y1) * (x2 * y2) := by rw [← he]; generalize DQ = D; grind
  have hS1 : (y1 * y1 + x1 * x1) * (y1 * y1 + x1 * x1) = (y1 * y1 - x1 * x1) * (y1 * y1 - x1 * x1) + 4 * ((x1 * y1) * (x1 * y1)) := by grind
  have hS2 : (y2 * y2 + x2 * x2) * (y2 * y2 + x2 * x2) = (y2 * y2 - x2 * x2) * (y2 * y2 - x2 * x2) + 4 * ((x2 * y2) * (x2 * y2)) := by grind
  unfold On at h1 h2
  rw [hα] at h1
  rw [hβ] at h2
  generalize hu : y1 * y1 - x1 * x1 = u at *
  generalize hv : y2 * y2 - x2 * x2 = v at *
  generalize hs : y1 * y1 + x1 * x1 = s at *
  generalize ht : y2 * y2 + x2 * x2 = t at *
  generalize hP : x1 * y1 = P at *
  generalize hR : x2 * y2 = R at *
  clear l1 l2 m1 m2 sx sy hx hy id1 id2 id3 hα hβ he hu hv hs ht hP hR
  have e1 : DQ * ((P * t + R * s) * (P * t + R * s)) = DQ * (P * P) * (t * t) + DQ * (R * R) * (s * s) + 2 * (DQ * P * R) * (s * t) := by generalize DQ = D; grind
  rw [e1, hS1, hS2, ← heP]
  have e2 : e * e = DQ * (P * P) * (DQ * (R * R)) := by rw [heP]; generalize DQ = D; grind
  have e3 : 2 * e * (4 * P * R) = DQ * (P * P) * (4 * (R * R)) + DQ * (R * R) * (4 * (P * P)) := by rw [heP]; generalize DQ = D; grind
  have e4 : u * v * (1 + e * e) + 2 * e * (s * t + 4 * P * R) = u * v * (1 + e * e) + 2 * e * (s * t) + 2 * e * (4 * P * R) := by grind
  have e5 : (1 + e) * (1 + e) * ((1 - e) * (1 - e)) = (1 - e * e) * (1 - e * e) := by grind
  rw [e4, e5, e3, e2]
  generalize DQ * (P * P) = α at *
  generalize DQ * (R * R) = β at *
  have f1 : (1 - α * β) * (1 - α * β) + (α * (v * v + 4 * (R * R)) + β * (u * u + 4 * (P * P)) + 2 * e * (s * t)) =
      (1 - α * β) * (1 - α * β) + α * (v * v) + β * (u * u) + 2 * e * (s * t) + (α * (4 * (R * R)) + β * (4 * (P * P))) := by grind
  rw [f1]
  refine Cq.add (Cq.add ?_ (Cq.refl _)) (Cq.refl _)
  have g1 : Cq (u * v * (1 + α * β)) ((1 + α) * (1 + β) * (1 + α * β)) := (h1.mul h2).mul (Cq.refl _)
  have g2 : Cq ((1 - α * β) * (1 - α * β) + α * (v * v) + β * (u * u)) ((1 - α * β) * (1 - α * β) + α * ((1 + β) * (1 + β)) + β * ((1 + α) * (1 + α))) :=
    ((Cq.refl _).add ((Cq.refl _).mul (h2.mul h2))).add ((Cq.refl _).mul (h1.mul h1))
  refine g1.trans (Cq.trans (Cq.of ?_) g2.symm)
  grind
end Go.Fld
set_option maxRecDepth 100000
namespace Go.Fld
theorem assoc_x (x1 y1 x2 y2 x3 y3 d : Int) :
    ((x1 * y2 + x2 * y1) * (1 - d * (x1 * x2) * (y1 * y2)) * y3 + x3 * ((y1 * y2 + x1 * x2) * (1 + d * (x1 * x2) * (y1 * y2)))) * ((1 + d * (x2 * x3) * (y2 * y3)) * (1 - d * (x2 * x3) * (y2 * y3)) + d * (x1 * (x2 * y3 + x3 * y2)) * (y1 * (y2 * y3 + x2 * x3))) =
    (x1 * ((y2 * y3 + x2 * x3) * (1 + d * (x2 * x3) * (y2 * y3))) + (x2 * y3 + x3 * y2) * (1 - d * (x2 * x3) * (y2 * y3)) * y1) * ((1 + d * (x1 * x2) * (y1 * y2)) * (1 - d * (x1 * x2) * (y1 * y2)) + d * ((x1 * y2 + x2 * y1) * x3) * ((y1 * y2 + x1 * x2) * y3)) + ((-y1 * x2 * y2 * y2 * y2 * y2 * x3 * x3 * y3 * d - y1 * x2 * x2 * y2 * y2 * y2 * x3 * d - y1 * x2 * x2 * y2 * y2 * y2 * x3 * x3 * x3 * d - y1 * x2 * x2 * x2 * y2 * y2 * y3 * d + y1 * x2 * x2 * x2 * y2 * y2 * y3 * y3 * y3 * d + y1 * x2 * x2 * x2 * y2 * y2 * y2 * y2 * x3 * x3 * y3 * d * d + y1 * x2 * x2 * x2 * x2 * y2 * x3 * y3 * y3 * d + y1 * x2 * x2 * x2 * x2 * y2 * y2 * y2 * x3 * y3 * y3 * d * d + x1 * x2 * y2 * y2 * y2 * y2 * x3 * y3 * y3 * d - x1 * x2 * x2 * y2 * y2 * y2 * y3 * d + x1 * x2 * x2 * y2 * y2 * y2 * y3 * y3 * y3 * d - x1 * x2 * x2 * x2 * y2 * y2 * x3 * d - x1 * x2 * x2 * x2 * y2 * y2 * x3 * x3 * x3 * d - x1 * x2 * x2 * x2 * y2 * y2 * y2 * y2 * x3 * y3 * y3 * d * d - x1 * x2 * x2 * x2 * x2 * y2 * x3 * x3 * y3 * d - x1 * x2 * x2 * x2 * x2 * y2 * y2 * y2 * x3 * x3 * y3 * d * d) * (y1 * y1 - x1 * x1 - (1 + d * (x1 * x1) * (y1 * y1))) + (y1 * y2 * x3 - y1 * y2 * x3 * y3 * y3 + y1 * y2 * x3 * x3 * x3 + y1 * y2 * x3 * x3 * x3 * y3 * y3 * d + y1 * x2 * y3 - y1 * x2 * y3 * y3 * y3 + y1 * x2 * x3 * x3 * y3 + y1 * x2 * x3 * x3 * y3 * y3 * y3 * d - y1 * x2 * y2 * y2 * x3 * x3 * y3 * d - y1 * x2 * x2 * y2 * x3 * y3 * y3 * d - y1 * y1 * y1 * y2 * x3 + y1 * y1 * y1 * y2 * x3 * y3 * y3 - y1 * y1 * y1 * y2 * x3 * x3 * x3 - y1 * y1 * y1 * y2 * x3 * x3 * x3 * y3 * y3 * d - y1 * y1 * y1 * x2 * y3 + y1 * y1 * y1 * x2 * y3 * y3 * y3 - y1 * y1 * y1 * x2 * x3 * x3 * y3 - y1 * y1 * y1 * x2 * x3 * x3 * y3 * y3 * y3 * d + y1 * y1 * y1 * x2 * y2 * y2 * x3 * x3 * y3 * d + y1 * y1 * y1 * x2 * x2 * y2 * x3 * y3 * y3 * d + x1 * y2 * y3 - x1 * y2 * y3 * y3 * y3 + x1 * y2 * x3 * x3 * y3 + x1 * y2 * x3 * x3 * y3 * y3 * y3 * d + x1 * x2 * x3 - x1 * x2 * x3 * y3 * y3 + x1 * x2 * x3 * x3 * x3 + x1 * x2 * x3 * x3 * x3 * y3 * y3 * d + x1 * x2 * y2 * y2 * x3 * y3 * y3 * d + x1 * x2 * x2 * y2 * x3 * x3 * y3 * d - x1 * y1 * y1 * y2 * y3 + x1 * y1 * y1 * y2 * y3 * y3 * y3 - x1 * y1 * y1 * y2 * x3 * x3 * y3 - x1 * y1 * y1 * y2 * x3 * x3 * y3 * y3 * y3 * d - x1 * y1 * y1 * x2 * x3 + x1 * y1 * y1 * x2 * x3 * y3 * y3 - x1 * y1 * y1 * x2 * x3 * x3 * x3 - x1 * y1 * y1 * x2 * x3 * x3 * x3 * y3 * y3 * d - x1 * y1 * y1 * x2 * y2 * y2 * x3 * y3 * y3 * d + x1 * y1 * y1 * x2 * y2 * y2 * x3 * x3 * x3 * y3 * y3 * d * d - x1 * y1 * y1 * x2 * x2 * y2 * x3 * x3 * y3 * d - x1 * y1 * y1 * x2 * x2 * y2 * x3 * x3 * y3 * y3 * y3 * d * d + x1 * x1 * y1 * y2 * x3 - x1 * x1 * y1 * y2 * x3 * y3 * y3 + x1 * x1 * y1 * y2 * x3 * x3 * x3 + x1 * x1 * y1 * y2 * x3 * x3 * x3 * y3 * y3 * d + x1 * x1 * y1 * x2 * y3 - x1 * x1 * y1 * x2 * y3 * y3 * y3 + x1 * x1 * y1 * x2 * x3 * x3 * y3 + x1 * x1 * y1 * x2 * x3 * x3 * y3 * y3 * y3 * d - x1 * x1 * y1 * x2 * y2 * y2 * x3 * x3 * y3 * d - x1 * x1 * y1 * x2 * y2 * y2 * x3 * x3 * y3 * y3 * y3 * d * d - x1 * x1 * y1 * x2 * x2 * y2 * x3 * y3 * y3 * d + x1 * x1 * y1 * x2 * x2 * y2 * x3 * x3 * x3 * y3 * y3 * d * d + x1 * x1 * x1 * y2 * y3 - x1 * x1 * x1 * y2 * y3 * y3 * y3 + x1 * x1 * x1 * y2 * x3 * x3 * y3 + x1 * x1 * x1 * y2 * x3 * x3 * y3 * y3 * y3 * d + x1 * x1 * x1 * x2 * x3 - x1 * x1 * x1 * x2 * x3 * y3 * y3 + x1 * x1 * x1 * x2 * x3 * x3 * x3 + x1 * x1 * x1 * x2 * x3 * x3 * x3 * y3 * y3 * d + x1 * x1 * x1 * x2 * y2 * y2 * x3 * y3 * y3 * d + x1 * x1 * x1 * x2 * x2 * y2 * x3 * x3 * y3 * d) * (y2 * y2 - x2 * x2 - (1 + d * (x2 * x2) * (y2 * y2))) + (-y1 * y2 * x3 + y1 * y2 * y2 * y2 * x3 - y1 * x2 * y3 + y1 * x2 * y2 * y2 * y3 - y1 * x2 * x2 * y2 * x3 - y1 * x2 * x2 * x2 * y3 + y1 * y1 * y1 * y2 * x3 - y1 * y1 * y1 * y2 * y2 * y2 * x3 + y1 * y1 * y1 * x2 * y3 - y1 * y1 * y1 * x2 * y2 * y2 * y3 + y1 * y1 * y1 * x2 * x2 * y2 * x3 + y1 * y1 * y1 * x2 * x2 * x2 * y3 - x1 * y2 * y3 + x1 * y2 * y2 * y2 * y3 - x1 * x2 * x3 + x1 * x2 * y2 * y2 * x3 - x1 * x2 * x2 * y2 * y3 - x1 * x2 * x2 * x2 * x3 + x1 * y1 * y1 * y2 * y3 - x1 * y1 * y1 * y2 * y2 * y2 * y3 + x1 * y1 * y1 * x2 * x3 - x1 * y1 * y1 * x2 * y2 * y2 * x3 - x1 * y1 * y1 * x2 * y2 * y2 * x3 * d + x1 * y1 * y1 * x2 * x2 * y2 * y3 + x1 * y1 * y1 * x2 * x2 * y2 * y3 * d + x1 * y1 * y1 * x2 * x2 * x2 * x3 - x1 * x1 * y1 * y2 * x3 + x1 * x1 * y1 * y2 * y2 * y2 * x3 - x1 * x1 * y1 * x2 * y3 + x1 * x1 * y1 * x2 * y2 * y2 * y3 + x1 * x1 * y1 * x2 * y2 * y2 * y3 * d - x1 * x1 * y1 * x2 * x2 * y2 * x3 - x1 * x1 * y1 * x2 * x2 * y2 * x3 * d - x1 * x1 * y1 * x2 * x2 * x2 * y3 - x1 * x1 * x1 * y2 * y3 + x1 * x1 * x1 * y2 * y2 * y2 * y3 - x1 * x1 * x1 * x2 * x3 + x1 * x1 * x1 * x2 * y2 * y2 * x3 - x1 * x1 * x1 * x2 * x2 * y2 * y3 - x1 * x1 * x1 * x2 * x2 * x2 * x3) * (y3 * y3 - x3 * x3 - (1 + d * (x3 * x3) * (y3 * y3)))) := by
  refine Int.sub_eq_iff_eq_add'.1 ?_
  grind
theorem assoc_x' {x1 y1 x2 y2 x3 y3 a b g h u v : Int} (o1 : On x1 y1) (o2 : On x2 y2) (o3 : On x3 y3)
    (ha : Cq (a * (1 + DQ * (x1 * x2) * (y1 * y2))) (x1 * y2 + x2 * y1)) (hb : Cq (b * (1 - DQ * (x1 * x2) * (y1 * y2))) (y1 * y2 + x1 * x2)) (hg : Cq (g * (1 + DQ * (x2 * x3) * (y2 * y3))) (x2 * y3 + x3 * y2)) (hh : Cq (h * (1 - DQ * (x2 * x3) * (y2 * y3))) (y2 * y3 + x2 * x3))
    (hu : Cq (u * (1 + DQ * (a * x3) * (b * y3))) (a * y3 + x3 * b)) (hv : Cq (v * (1 + DQ * (x1 * g) * (y1 * h))) (x1 * h + g * y1))
    (nA : Nz (1 + DQ * (x1 * x2) * (y1 * y2))) (nB : Nz (1 - DQ * (x1 * x2) * (y1 * y2))) (nC : Nz (1 + DQ * (x2 * x3) * (y2 * y3))) (nD : Nz (1 - DQ * (x2 * x3) * (y2 * y3))) (nu : Nz (1 + DQ * (a * x3) * (b * y3))) (nv : Nz (1 + DQ * (x1 * g) * (y1 * h))) : Cq u v := by
  have key := assoc_x x1 y1 x2 y2 x3 y3 DQ
  unfold On at o1 o2 o3
  have z1 : Cq (y1 * y1 - x1 * x1 - (1 + DQ * (x1 * x1) * (y1 * y1))) 0 := by
    have := o1.sub (Cq.refl (1 + DQ * (x1 * x1) * (y1 * y1)))
    rwa [Int.sub_self] at this
  have z2 : Cq (y2 * y2 - x2 * x2 - (1 + DQ * (x2 * x2) * (y2 * y2))) 0 := by
    have := o2.sub (Cq.refl (1 + DQ * (x2 * x2) * (y2 * y2)))
    rwa [Int.sub_self] at this
  have z3 : Cq (y3 * y3 - x3 * x3 - (1 + DQ * (x3 * x3) * (y3 * y3))) 0 := by
    have := o3.sub (Cq.refl (1 + DQ * (x3 * x3) * (y3 * y3)))
    rwa [Int.sub_self] at this
  generalize (y1 * y1 - x1 * x1 - (1 + DQ * (x1 * x1) * (y1 * y1))) = E1 at *
  generalize (y2 * y2 - x2 * x2 - (1 + DQ * (x2 * x2) * (y2 * y2))) = E2 at *
  generalize (y3 * y3 - x3 * x3 - (1 + DQ * (x3 * x3) * (y3 * y3))) = E3 at *
  generalize DQ = D at *
  have hN : Cq (((x1 * y2 + x2 * y1) * (1 - D * (x1 * x2) * (y1 * y2)) * y3 + x3 * ((y1 * y2 + x1 * x2) * (1 + D * (x1 * x2) * (y1 * y2)))) * ((1 + D * (x2 * x3) * (y2 * y3)) * (1 - D * (x2 * x3) * (y2 * y3)) + D * (x1 * (x2 * y3 + x3 * y2)) * (y1 * (y2 * y3 + x2 * x3)))) ((x1 * ((y2 * y3 + x2 * x3) * (1 + D * (x2 * x3) * (y2 * y3))) + (x2 * y3 + x3 * y2) * (1 - D * (x2 * x3) * (y2 * y3)) * y1) * ((1 + D * (x1 * x2) * (y1 * y2)) * (1 - D * (x1 * x2) * (y1 * y2)) + D * ((x1 * y2 + x2 * y1) * x3) * ((y1 * y2 + x1 * x2) * y3))) := by
    refine (Cq.of key).trans ?_
    have k := fun q1 q2 q3 : Int => (((Cq.refl q1).mul z1).add ((Cq.refl q2).mul z2)).add ((Cq.refl q3).mul z3)
    have k2 := fun w q1 q2 q3 : Int => (Cq.refl w).add (k q1 q2 q3)
    have k3 := k2 ((x1 * ((y2 * y3 + x2 * x3) * (1 + D * (x2 * x3) * (y2 * y3))) + (x2 * y3 + x3 * y2) * (1 - D * (x2 * x3) * (y2 * y3)) * y1) * ((1 + D * (x1 * x2) * (y1 * y2)) * (1 - D * (x1 * x2) * (y1 * y2)) + D * ((x1 * y2 + x2 * y1) * x3) * ((y1 * y2 + x1 * x2) * y3))) (-y1 * x2 * y2 * y2 * y2 * y2 * x3 * x3 * y3 * D - y1 * x2 * x2 * y2 * y2 * y2 * x3 * D - y1 * x2 * x2 * y2 * y2 * y2 * x3 * x3 * x3 * D - y1 * x2 * x2 * x2 * y2 * y2 * y3 * D + y1 * x2 * x2 * x2 * y2 * y2 * y3 * y3 * y3 * D + y1 * x2 * x2 * x2 * y2 * y2 * y2 * y2 * x3 * x3 * y3 * D * D + y1 * x2 * x2 * x2 * x2 * y2 * x3 * y3 * y3 * D + y1 * x2 * x2 * x2 * x2 * y2 * y2 * y2 * x3 * y3 * y3 * D * D + x1 * x2 * y2 * y2 * y2 * y2 * x3 * y3 * y3 * D - x1 * x2 * x2 * y2 * y2 * y2 * y3 * D + x1 * x2 * x2 * y2 * y2 * y2 * y3 * y3 * y3 * D - x1 * x2 * x2 * x2 * y2 * y2 * x3 * D - x1 * x2 * x2 * x2 * y2 * y2 * x3 * x3 * x3 * D - x1 * x2 * x2 * x2 * y2 * y2 * y2 * y2 * x3 * y3 * y3 * D * D - x1 * x2 * x2 * x2 * x2 * y2 * x3 * x3 * y3 * D - x1 * x2 * x2 * x2 * x2 * y2 * y2 * y2 * x3 * x3 * y3 * D * D) (y1 * y2 * x3 - y1 * y2 * x3 * y3 * y3 + y1 * y2 * x3 * x3 * x3 + y1 * y2 * x3 * x3 * x3 * y3 * y3 * D + y1 * x2 * y3 - y1 * x2 * y3 * y3 * y3 + y1 * x2 * x3 * x3 * y3 + y1 * x2 * x3 * x3 * y3 * y3 * y3 * D - y1 * x2 * y2 * y2 * x3 * x3 * y3 * D - y1 * x2 * x2 * y2 * x3 * y3 * y3 * D - y1 * y1 * y1 * y2 * x3 + y1 * y1 * y1 * y2 * x3 * y3 * y3 - y1 * y1 * y1 * y2 * x3 * x3 * x3 - y1 * y1 * y1 * y2 * x3 * x3 * x3 * y3 * y3 * D - y1 * y1 * y1 * x2 * y3 + y1 * y1 * y1 * x2 * y3 * y3 * y3 - y1 * y1 * y1 * x2 * x3 * x3 * y3 - y1 * y1 * y1 * x2 * x3 * x3 * y3 * y3 * y3 * D + y1 * y1 * y1 * x2 * y2 * y2 * x3 * x3 * y3 * D + y1 * y1 * y1 * x2 * x2 * y2 * x3 * y3 * y3 * D + x1 * y2 * y3 - x1 * y2 * y3 * y3 * y3 + x1 * y2 * x3 * x3 * y3 + x1 * y2 * x3 * x3 * y3 * y3 * y3 * D + x1 * x2 * x3 - x1 * x2 * x3 * y3 * y3 + x1 * x2 * x3 * x3 * x3 + x1 * x2 * x3 * x3 * x3 * y3 * y3 * D + x1 * x2 * y2 * y2 * x3 * y3 * y3 * D + x1 * x2 * x2 * y2 * x3 * x3 * y3 * D - x1 * y1 * y1 * y2 * y3 + x1 * y1 * y1 * y2 * y3 * y3 * y3 - x1 * y1 * y1 * y2 * x3 * x3 * y3 - x1 * y1 * y1 * y2 * x3 * x3 * y3 * y3 * y3 * D - x1 * y1 * y1 * x2 * x3 + x1 * y1 * y1 * x2 * x3 * y3 * y3 - x1 * y1 * y1 * x2 * x3 * x3 * x3 - x1 * y1 * y1 * x2 * x3 * x3 * x3 * y3 * y3 * D - x1 * y1 * y1 * x2 * y2 * y2 * x3 * y3 * y3 * D + x1 * y1 * y1 * x2 * y2 * y2 * x3 * x3 * x3 * y3 * y3 * D * D - x1 * y1 * y1 * x2 * x2 * y2 * x3 * x3 * y3 * D - x1 * y1 * y1 * x2 * x2 * y2 * x3 * x3 * y3 * y3 * y3 * D * D + x1 * x1 * y1 * y2 * x3 - x1 * x1 * y1 * y2 * x3 * y3 * y3 + x1 * x1 * y1 * y2 * x3 * x3 * x3 + x1 * x1 * y1 * y2 * x3 * x3 * x3 * y3 * y3 * D + x1 * x1 * y1 * x2 * y3 - x1 * x1 * y1 * x2 * y3 * y3 * y3 + x1 * x1 * y1 * x2 * x3 * x3 * y3 + x1 * x1 * y1 * x2 * x3 * x3 * y3 * y3 * y3 * D - x1 * x1 * y1 * x2 * y2 * y2 * x3 * x3 * y3 * D - x1 * x1 * y1 * x2 * y2 * y2 * x3 * x3 * y3 * y3 * y3 * D * D - x1 * x1 * y1 * x2 * x2 * y2 * x3 * y3 * y3 * D + x1 * x1 * y1 * x2 * x2 * y2 * x3 * x3 * x3 * y3 * y3 * D * D + x1 * x1 * x1 * y2 * y3 - x1 * x1 * x1 * y2 * y3 * y3 * y3 + x1 * x1 * x1 * y2 * x3 * x3 * y3 + x1 * x1 * x1 * y2 * x3 * x3 * y3 * y3 * y3 * D + x1 * x1 * x1 * x2 * x3 - x1 * x1 * x1 * x2 * x3 * y3 * y3 + x1 * x1 * x1 * x2 * x3 * x3 * x3 + x1 * x1 * x1 * x2 * x3 * x3 * x3 * y3 * y3 * D + x1 * x1 * x1 * x2 * y2 * y2 * x3 * y3 * y3 * D + x1 * x1 * x1 * x2 * x2 * y2 * x3 * x3 * y3 * D) (-y1 * y2 * x3 + y1 * y2 * y2 * y2 * x3 - y1 * x2 * y3 + y1 * x2 * y2 * y2 * y3 - y1 * x2 * x2 * y2 * x3 - y1 * x2 * x2 * x2 * y3 + y1 * y1 * y1 * y2 * x3 - y1 * y1 * y1 * y2 * y2 * y2 * x3 + y1 * y1 * y1 * x2 * y3 - y1 * y1 * y1 * x2 * y2 * y2 * y3 + y1 * y1 * y1 * x2 * x2 * y2 * x3 + y1 * y1 * y1 * x2 * x2 * x2 * y3 - x1 * y2 * y3 + x1 * y2 * y2 * y2 * y3 - x1 * x2 * x3 + x1 * x2 * y2 * y2 * x3 - x1 * x2 * x2 * y2 * y3 - x1 * x2 * x2 * x2 * x3 + x1 * y1 * y1 * y2 * y3 - x1 * y1 * y1 * y2 * y2 * y2 * y3 + x1 * y1 * y1 * x2 * x3 - x1 * y1 * y1 * x2 * y2 * y2 * x3 - x1 * y1 * y1 * x2 * y2 * y2 * x3 * D + x1 * y1 * y1 * x2 * x2 * y2 * y3 + x1 * y1 * y1 * x2 * x2 * y2 * y3 * D + x1 * y1 * y1 * x2 * x2 * x2 * x3 - x1 * x1 * y1 * y2 * x3 + x1 * x1 * y1 * y2 * y2 * y2 * x3 - x1 * x1 * y1 * x2 * y3 + x1 * x1 * y1 * x2 * y2 * y2 * y3 + x1 * x1 * y1 * x2 * y2 * y2 * y3 * D - x1 * x1 * y1 * x2 * x2 * y2 * x3 - x1 * x1 * y1 * x2 * x2 * y2 * x3 * D - x1 * x1 * y1 * x2 * x2 * x2 * y3 - x1 * x1 * x1 * y2 * y3 + x1 * x1 * x1 * y2 * y2 * y2 * y3 - x1 * x1 * x1 * x2 * x3 + x1 * x1 * x1 * x2 * y2 * y2 * x3 - x1 * x1 * x1 * x2 * x2 * y2 * y3 - x1 * x1 * x1 * x2 * x2 * x2 * x3)
    rwa [Int.mul_zero, Int.mul_zero, Int.mul_zero, Int.add_zero, Int.add_zero, Int.add_zero] at k3
  clear key z1 z2 z3 o1 o2 o3
  generalize (1 + D * (x1 * x2) * (y1 * y2)) = A at *
  generalize (1 - D * (x1 * x2) * (y1 * y2)) = B at *
  generalize (1 + D * (x2 * x3) * (y2 * y3)) = C at *
  generalize (1 - D * (x2 * x3) * (y2 * y3)) = Dd at *
  generalize (x1 * y2 + x2 * y1) = X12 at *
  generalize (y1 * y2 + x1 * x2) = Y12 at *
  generalize (x2 * y3 + x3 * y2) = X23 at *
  generalize (y2 * y3 + x2 * x3) = Y23 at *
  have hM : Cq ((1 + D * (a * x3) * (b * y3)) * (A * B)) (A * B + D * (X12 * x3) * (Y12 * y3)) := by
    have := (Cq.refl (A * B)).add (((Cq.refl D).mul (ha.mul (Cq.refl x3))).mul (hb.mul (Cq.refl y3)))
    rwa [show A * B + D * (a * A * x3) * (b * B * y3) = (1 + D * (a * x3) * (b * y3)) * (A * B) by grind] at this
  have hM' : Cq ((1 + D * (x1 * g) * (y1 * h)) * (C * Dd)) (C * Dd + D * (x1 * X23) * (y1 * Y23)) := by
    have := (Cq.refl (C * Dd)).add (((Cq.refl D).mul ((Cq.refl x1).mul hg)).mul ((Cq.refl y1).mul hh))
    rwa [show C * Dd + D * (x1 * (g * C)) * (y1 * (h * Dd)) = (1 + D * (x1 * g) * (y1 * h)) * (C * Dd) by grind] at this
  have k1 : Cq ((a * y3 + x3 * b) * (A * B)) (X12 * B * y3 + x3 * (Y12 * A)) := by
    have := (((ha.mul (Cq.refl B)).mul (Cq.refl y3)).add ((Cq.refl x3).mul (hb.mul (Cq.refl A))))
    rwa [show a * A * B * y3 + x3 * (b * B * A) = (a * y3 + x3 * b) * (A * B) by grind] at this
  have k2 : Cq ((x1 * h + g * y1) * (C * Dd)) (x1 * (Y23 * C) + X23 * Dd * y1) := by
    have := (((Cq.refl x1).mul (hh.mul (Cq.refl C))).add ((hg.mul (Cq.refl Dd)).mul (Cq.refl y1)))
    rwa [show x1 * (h * Dd * C) + g * C * Dd * y1 = (x1 * h + g * y1) * (C * Dd) by grind] at this
  have nM := (nu.mul (nA.mul nB)).cong hM
  have nM' := (nv.mul (nC.mul nD)).cong hM'
  generalize (A * B + D * (X12 * x3) * (Y12 * y3)) = M at *
  generalize (C * Dd + D * (x1 * X23) * (y1 * Y23)) = M' at *
  generalize (X12 * B * y3 + x3 * (Y12 * A)) = N at *
  generalize (x1 * (Y23 * C) + X23 * Dd * y1) = N' at *
  generalize 1 + D * (a * x3) * (b * y3) = e at *
  generalize 1 + D * (x1 * g) * (y1 * h) = e' at *
  generalize a * y3 + x3 * b = r at *
  generalize x1 * h + g * y1 = r' at *
  have j1 : Cq (u * M) N := by
    refine (((Cq.refl u).mul hM).symm.trans (Cq.of (show u * (e * (A * B)) = u * e * (A * B) by grind))).trans ?_
    exact (hu.mul (Cq.refl (A * B))).trans k1
  have j2 : Cq (v * M') N' := by
    refine (((Cq.refl v).mul hM').symm.trans (Cq.of (show v * (e' * (C * Dd)) = v * e' * (C * Dd) by grind))).trans ?_
    exact (hv.mul (Cq.refl (C * Dd))).trans k2
  refine Cq.cancel (nM.mul nM') ?_
  have w1 := (j1.mul (Cq.refl M')).trans (hN.trans (j2.mul (Cq.refl M)).symm)
  rwa [show u * M * M' = u * (M * M') by grind, show v * M' * M = v * (M * M') by grind] at w1
theorem assoc_y (x1 y1 x2 y2 x3 y3 d : Int) :
    ((y1 * y2 + x1 * x2) * (1 + d * (x1 * x2) * (y1 * y2)) * y3 + (x1 * y2 + x2 * y1) * (1 - d * (x1 * x2) * (y1 * y2)) * x3) * ((1 + d * (x2 * x3) * (y2 * y3)) * (1 - d * (x2 * x3) * (y2 * y3)) - d * (x1 * (x2 * y3 + x3 * y2)) * (y1 * (y2 * y3 + x2 * x3))) =
    (y1 * ((y2 * y3 + x2 * x3) * (1 + d * (x2 * x3) * (y2 * y3))) + x1 * ((x2 * y3 + x3 * y2) * (1 - d * (x2 * x3) * (y2 * y3)))) * ((1 + d * (x1 * x2) * (y1 * y2)) * (1 - d * (x1 * x2) * (y1 * y2)) - d * ((x1 * y2 + x2 * y1) * x3) * ((y1 * y2 + x1 * x2) * y3)) + ((y1 * x2 * y2 * y2 * y2 * y2 * x3 * y3 * y3 * d - y1 * x2 * x2 * y2 * y2 * y2 * y3 * d + y1 * x2 * x2 * y2 * y2 * y2 * y3 * y3 * y3 * d - y1 * x2 * x2 * x2 * y2 * y2 * x3 * d - y1 * x2 * x2 * x2 * y2 * y2 * x3 * x3 * x3 * d - y1 * x2 * x2 * x2 * y2 * y2 * y2 * y2 * x3 * y3 * y3 * d * d - y1 * x2 * x2 * x2 * x2 * y2 * x3 * x3 * y3 * d - y1 * x2 * x2 * x2 * x2 * y2 * y2 * y2 * x3 * x3 * y3 * d * d - x1 * x2 * y2 * y2 * y2 * y2 * x3 * x3 * y3 * d - x1 * x2 * x2 * y2 * y2 * y2 * x3 * d - x1 * x2 * x2 * y2 * y2 * y2 * x3 * x3 * x3 * d - x1 * x2 * x2 * x2 * y2 * y2 * y3 * d + x1 * x2 * x2 * x2 * y2 * y2 * y3 * y3 * y3 * d + x1 * x2 * x2 * x2 * y2 * y2 * y2 * y2 * x3 * x3 * y3 * d * d + x1 * x2 * x2 * x2 * x2 * y2 * x3 * y3 * y3 * d + x1 * x2 * x2 * x2 * x2 * y2 * y2 * y2 * x3 * y3 * y3 * d * d) * (y1 * y1 - x1 * x1 - (1 + d * (x1 * x1) * (y1 * y1))) + (y1 * y2 * y3 - y1 * y2 * y3 * y3 * y3 + y1 * y2 * x3 * x3 * y3 + y1 * y2 * x3 * x3 * y3 * y3 * y3 * d + y1 * x2 * x3 - y1 * x2 * x3 * y3 * y3 + y1 * x2 * x3 * x3 * x3 + y1 * x2 * x3 * x3 * x3 * y3 * y3 * d + y1 * x2 * y2 * y2 * x3 * y3 * y3 * d + y1 * x2 * x2 * y2 * x3 * x3 * y3 * d - y1 * y1 * y1 * y2 * y3 + y1 * y1 * y1 * y2 * y3 * y3 * y3 - y1 * y1 * y1 * y2 * x3 * x3 * y3 - y1 * y1 * y1 * y2 * x3 * x3 * y3 * y3 * y3 * d - y1 * y1 * y1 * x2 * x3 + y1 * y1 * y1 * x2 * x3 * y3 * y3 - y1 * y1 * y1 * x2 * x3 * x3 * x3 - y1 * y1 * y1 * x2 * x3 * x3 * x3 * y3 * y3 * d - y1 * y1 * y1 * x2 * y2 * y2 * x3 * y3 * y3 * d - y1 * y1 * y1 * x2 * x2 * y2 * x3 * x3 * y3 * d + x1 * y2 * x3 - x1 * y2 * x3 * y3 * y3 + x1 * y2 * x3 * x3 * x3 + x1 * y2 * x3 * x3 * x3 * y3 * y3 * d + x1 * x2 * y3 - x1 * x2 * y3 * y3 * y3 + x1 * x2 * x3 * x3 * y3 + x1 * x2 * x3 * x3 * y3 * y3 * y3 * d - x1 * x2 * y2 * y2 * x3 * x3 * y3 * d - x1 * x2 * x2 * y2 * x3 * y3 * y3 * d - x1 * y1 * y1 * y2 * x3 + x1 * y1 * y1 * y2 * x3 * y3 * y3 - x1 * y1 * y1 * y2 * x3 * x3 * x3 - x1 * y1 * y1 * y2 * x3 * x3 * x3 * y3 * y3 * d - x1 * y1 * y1 * x2 * y3 + x1 * y1 * y1 * x2 * y3 * y3 * y3 - x1 * y1 * y1 * x2 * x3 * x3 * y3 - x1 * y1 * y1 * x2 * x3 * x3 * y3 * y3 * y3 * d + x1 * y1 * y1 * x2 * y2 * y2 * x3 * x3 * y3 * d + x1 * y1 * y1 * x2 * y2 * y2 * x3 * x3 * y3 * y3 * y3 * d * d + x1 * y1 * y1 * x2 * x2 * y2 * x3 * y3 * y3 * d - x1 * y1 * y1 * x2 * x2 * y2 * x3 * x3 * x3 * y3 * y3 * d * d + x1 * x1 * y1 * y2 * y3 - x1 * x1 * y1 * y2 * y3 * y3 * y3 + x1 * x1 * y1 * y2 * x3 * x3 * y3 + x1 * x1 * y1 * y2 * x3 * x3 * y3 * y3 * y3 * d + x1 * x1 * y1 * x2 * x3 - x1 * x1 * y1 * x2 * x3 * y3 * y3 + x1 * x1 * y1 * x2 * x3 * x3 * x3 + x1 * x1 * y1 * x2 * x3 * x3 * x3 * y3 * y3 * d + x1 * x1 * y1 * x2 * y2 * y2 * x3 * y3 * y3 * d - x1 * x1 * y1 * x2 * y2 * y2 * x3 * x3 * x3 * y3 * y3 * d * d + x1 * x1 * y1 * x2 * x2 * y2 * x3 * x3 * y3 * d + x1 * x1 * y1 * x2 * x2 * y2 * x3 * x3 * y3 * y3 * y3 * d * d + x1 * x1 * x1 * y2 * x3 - x1 * x1 * x1 * y2 * x3 * y3 * y3 + x1 * x1 * x1 * y2 * x3 * x3 * x3 + x1 * x1 * x1 * y2 * x3 * x3 * x3 * y3 * y3 * d + x1 * x1 * x1 * x2 * y3 - x1 * x1 * x1 * x2 * y3 * y3 * y3 + x1 * x1 * x1 * x2 * x3 * x3 * y3 + x1 * x1 * x1 * x2 * x3 * x3 * y3 * y3 * y3 * d - x1 * x1 * x1 * x2 * y2 * y2 * x3 * x3 * y3 * d - x1 * x1 * x1 * x2 * x2 * y2 * x3 * y3 * y3 * d) * (y2 * y2 - x2 * x2 - (1 + d * (x2 * x2) * (y2 * y2))) + (-y1 * y2 * y3 + y1 * y2 * y2 * y2 * y3 - y1 * x2 * x3 + y1 * x2 * y2 * y2 * x3 - y1 * x2 * x2 * y2 * y3 - y1 * x2 * x2 * x2 * x3 + y1 * y1 * y1 * y2 * y3 - y1 * y1 * y1 * y2 * y2 * y2 * y3 + y1 * y1 * y1 * x2 * x3 - y1 * y1 * y1 * x2 * y2 * y2 * x3 + y1 * y1 * y1 * x2 * x2 * y2 * y3 + y1 * y1 * y1 * x2 * x2 * x2 * x3 - x1 * y2 * x3 + x1 * y2 * y2 * y2 * x3 - x1 * x2 * y3 + x1 * x2 * y2 * y2 * y3 - x1 * x2 * x2 * y2 * x3 - x1 * x2 * x2 * x2 * y3 + x1 * y1 * y1 * y2 * x3 - x1 * y1 * y1 * y2 * y2 * y2 * x3 + x1 * y1 * y1 * x2 * y3 - x1 * y1 * y1 * x2 * y2 * y2 * y3 - x1 * y1 * y1 * x2 * y2 * y2 * y3 * d + x1 * y1 * y1 * x2 * x2 * y2 * x3 + x1 * y1 * y1 * x2 * x2 * y2 * x3 * d + x1 * y1 * y1 * x2 * x2 * x2 * y3 - x1 * x1 * y1 * y2 * y3 + x1 * x1 * y1 * y2 * y2 * y2 * y3 - x1 * x1 * y1 * x2 * x3 + x1 * x1 * y1 * x2 * y2 * y2 * x3 + x1 * x1 * y1 * x2 * y2 * y2 * x3 * d - x1 * x1 * y1 * x2 * x2 * y2 * y3 - x1 * x1 * y1 * x2 * x2 * y2 * y3 * d - x1 * x1 * y1 * x2 * x2 * x2 * x3 - x1 * x1 * x1 * y2 * x3 + x1 * x1 * x1 * y2 * y2 * y2 * x3 - x1 * x1 * x1 * x2 * y3 + x1 * x1 * x1 * x2 * y2 * y2 * y3 - x1 * x1 * x1 * x2 * x2 * y2 * x3 - x1 * x1 * x1 * x2 * x2 * x2 * y3) * (y3 * y3 - x3 * x3 - (1 + d * (x3 * x3) * (y3 * y3)))) := by
  refine Int.sub_eq_iff_eq_add'.1 ?_
  grind
theorem assoc_y' {x1 y1 x2 y2 x3 y3 a b g h u v : Int} (o1 : On x1 y1) (o2 : On x2 y2) (o3 : On x3 y3)
    (ha : Cq (a * (1 + DQ * (x1 * x2) * (y1 * y2))) (x1 * y2 + x2 * y1)) (hb : Cq (b * (1 - DQ * (x1 * x2) * (y1 * y2))) (y1 * y2 + x1 * x2)) (hg : Cq (g * (1 + DQ * (x2 * x3) * (y2 * y3))) (x2 * y3 + x3 * y2)) (hh : Cq (h * (1 - DQ * (x2 * x3) * (y2 * y3))) (y2 * y3 + x2 * x3))
    (hu : Cq (u * (1 - DQ * (a * x3) * (b * y3))) (b * y3 + a * x3)) (hv : Cq (v * (1 - DQ * (x1 * g) * (y1 * h))) (y1 * h + x1 * g))
    (nA : Nz (1 + DQ * (x1 * x2) * (y1 * y2))) (nB : Nz (1 - DQ * (x1 * x2) * (y1 * y2))) (nC : Nz (1 + DQ * (x2 * x3) * (y2 * y3))) (nD : Nz (1 - DQ * (x2 * x3) * (y2 * y3))) (nu : Nz (1 - DQ * (a * x3) * (b * y3))) (nv : Nz (1 - DQ * (x1 * g) * (y1 * h))) : Cq u v := by
  have key := assoc_y x1 y1 x2 y2 x3 y3 DQ
  unfold On at o1 o2 o3
  have z1 : Cq (y1 * y1 - x1 * x1 - (1 + DQ * (x1 * x1) * (y1 * y1))) 0 := by
    have := o1.sub (Cq.refl (1 + DQ * (x1 * x1) * (y1 * y1)))
    rwa [Int.sub_self] at this
  have z2 : Cq (y2 * y2 - x2 * x2 - (1 + DQ * (x2 * x2) * (y2 * y2))) 0 := by
    have := o2.sub (Cq.refl (1 + DQ * (x2 * x2) * (y2 * y2)))
    rwa [Int.sub_self] at this
  have z3 : Cq (y3 * y3 - x3 * x3 - (1 + DQ * (x3 * x3) * (y3 * y3))) 0 := by
    have := o3.sub (Cq.refl (1 + DQ * (x3 * x3) * (y3 * y3)))
    rwa [Int.sub_self] at this
  generalize (y1 * y1 - x1 * x1 - (1 + DQ * (x1 * x1) * (y1 * y1))) = E1 at *
  generalize (y2 * y2 - x2 * x2 - (1 + DQ * (x2 * x2) * (y2 * y2))) = E2 at *
  generalize (y3 * y3 - x3 * x3 - (1 + DQ * (x3 * x3) * (y3 * y3))) = E3 at *
  generalize DQ = D at *
  have hN : Cq (((y1 * y2 + x1 * x2) * (1 + D * (x1 * x2) * (y1 * y2)) * y3 + (x1 * y2 + x2 * y1) * (1 - D * (x1 * x2) * (y1 * y2)) * x3) * ((1 + D * (x2 * x3) * (y2 * y3)) * (1 - D * (x2 * x3) * (y2 * y3)) - D * (x1 * (x2 * y3 + x3 * y2)) * (y1 * (y2 * y3 + x2 * x3)))) ((y1 * ((y2 * y3 + x2 * x3) * (1 + D * (x2 * x3) * (y2 * y3))) + x1 * ((x2 * y3 + x3 * y2) * (1 - D * (x2 * x3) * (y2 * y3)))) * ((1 + D * (x1 * x2) * (y1 * y2)) * (1 - D * (x1 * x2) * (y1 * y2)) - D * ((x1 * y2 + x2 * y1) * x3) * ((y1 * y2 + x1 * x2) * y3))) := by
    refine (Cq.of key).trans ?_
    have k := fun q1 q2 q3 : Int => (((Cq.refl q1).mul z1).add ((Cq.refl q2).mul z2)).add ((Cq.refl q3).mul z3)
    have k2 := fun w q1 q2 q3 : Int => (Cq.refl w).add (k q1 q2 q3)
    have k3 := k2 ((y1 * ((y2 * y3 + x2 * x3) * (1 + D * (x2 * x3) * (y2 * y3))) + x1 * ((x2 * y3 + x3 * y2) * (1 - D * (x2 * x3) * (y2 * y3)))) * ((1 + D * (x1 * x2) * (y1 * y2)) * (1 - D * (x1 * x2) * (y1 * y2)) - D * ((x1 * y2 + x2 * y1) * x3) * ((y1 * y2 + x1 * x2) * y3))) (y1 * x2 * y2 * y2 * y2 * y2 * x3 * y3 * y3 * D - y1 * x2 * x2 * y2 * y2 * y2 * y3 * D + y1 * x2 * x2 * y2 * y2 * y2 * y3 * y3 * y3 * D - y1 * x2 * x2 * x2 * y2 * y2 * x3 * D - y1 * x2 * x2 * x2 * y2 * y2 * x3 * x3 * x3 * D - y1 * x2 * x2 * x2 * y2 * y2 * y2 * y2 * x3 * y3 * y3 * D * D - y1 * x2 * x2 * x2 * x2 * y2 * x3 * x3 * y3 * D - y1 * x2 * x2 * x2 * x2 * y2 * y2 * y2 * x3 * x3 * y3 * D * D - x1 * x2 * y2 * y2 * y2 * y2 * x3 * x3 * y3 * D - x1 * x2 * x2 * y2 * y2 * y2 * x3 * D - x1 * x2 * x2 * y2 * y2 * y2 * x3 * x3 * x3 * D - x1 * x2 * x2 * x2 * y2 * y2 * y3 * D + x1 * x2 * x2 * x2 * y2 * y2 * y3 * y3 * y3 * D + x1 * x2 * x2 * x2 * y2 * y2 * y2 * y2 * x3 * x3 * y3 * D * D + x1 * x2 * x2 * x2 * x2 * y2 * x3 * y3 * y3 * D + x1 * x2 * x2 * x2 * x2 * y2 * y2 * y2 * x3 * y3 * y3 * D * D) (y1 * y2 * y3 - y1 * y2 * y3 * y3 * y3 + y1 * y2 * x3 * x3 * y3 + y1 * y2 * x3 * x3 * y3 * y3 * y3 * D + y1 * x2 * x3 - y1 * x2 * x3 * y3 * y3 + y1 * x2 * x3 * x3 * x3 + y1 * x2 * x3 * x3 * x3 * y3 * y3 * D + y1 * x2 * y2 * y2 * x3 * y3 * y3 * D + y1 * x2 * x2 * y2 * x3 * x3 * y3 * D - y1 * y1 * y1 * y2 * y3 + y1 * y1 * y1 * y2 * y3 * y3 * y3 - y1 * y1 * y1 * y2 * x3 * x3 * y3 - y1 * y1 * y1 * y2 * x3 * x3 * y3 * y3 * y3 * D - y1 * y1 * y1 * x2 * x3 + y1 * y1 * y1 * x2 * x3 * y3 * y3 - y1 * y1 * y1 * x2 * x3 * x3 * x3 - y1 * y1 * y1 * x2 * x3 * x3 * x3 * y3 * y3 * D - y1 * y1 * y1 * x2 * y2 * y2 * x3 * y3 * y3 * D - y1 * y1 * y1 * x2 * x2 * y2 * x3 * x3 * y3 * D + x1 * y2 * x3 - x1 * y2 * x3 * y3 * y3 + x1 * y2 * x3 * x3 * x3 + x1 * y2 * x3 * x3 * x3 * y3 * y3 * D + x1 * x2 * y3 - x1 * x2 * y3 * y3 * y3 + x1 * x2 * x3 * x3 * y3 + x1 * x2 * x3 * x3 * y3 * y3 * y3 * D - x1 * x2 * y2 * y2 * x3 * x3 * y3 * D - x1 * x2 * x2 * y2 * x3 * y3 * y3 * D - x1 * y1 * y1 * y2 * x3 + x1 * y1 * y1 * y2 * x3 * y3 * y3 - x1 * y1 * y1 * y2 * x3 * x3 * x3 - x1 * y1 * y1 * y2 * x3 * x3 * x3 * y3 * y3 * D - x1 * y1 * y1 * x2 * y3 + x1 * y1 * y1 * x2 * y3 * y3 * y3 - x1 * y1 * y1 * x2 * x3 * x3 * y3 - x1 * y1 * y1 * x2 * x3 * x3 * y3 * y3 * y3 * D + x1 * y1 * y1 * x2 * y2 * y2 * x3 * x3 * y3 * D + x1 * y1 * y1 * x2 * y2 * y2 * x3 * x3 * y3 * y3 * y3 * D * D + x1 * y1 * y1 * x2 * x2 * y2 * x3 * y3 * y3 * D - x1 * y1 * y1 * x2 * x2 * y2 * x3 * x3 * x3 * y3 * y3 * D * D + x1 * x1 * y1 * y2 * y3 - x1 * x1 * y1 * y2 * y3 * y3 * y3 + x1 * x1 * y1 * y2 * x3 * x3 * y3 + x1 * x1 * y1 * y2 * x3 * x3 * y3 * y3 * y3 * D + x1 * x1 * y1 * x2 * x3 - x1 * x1 * y1 * x2 * x3 * y3 * y3 + x1 * x1 * y1 * x2 * x3 * x3 * x3 + x1 * x1 * y1 * x2 * x3 * x3 * x3 * y3 * y3 * D + x1 * x1 * y1 * x2 * y2 * y2 * x3 * y3 * y3 * D - x1 * x1 * y1 * x2 * y2 * y2 * x3 * x3 * x3 * y3 * y3 * D * D + x1 * x1 * y1 * x2 * x2 * y2 * x3 * x3 * y3 * D + x1 * x1 * y1 * x2 * x2 * y2 * x3 * x3 * y3 * y3 * y3 * D * D + x1 * x1 * x1 * y2 * x3 - x1 * x1 * x1 * y2 * x3 * y3 * y3 + x1 * x1 * x1 * y2 * x3 * x3 * x3 + x1 * x1 * x1 * y2 * x3 * x3 * x3 * y3 * y3 * D + x1 * x1 * x1 * x2 * y3 - x1 * x1 * x1 * x2 * y3 * y3 * y3 + x1 * x1 * x1 * x2 * x3 * x3 * y3 + x1 * x1 * x1 * x2 * x3 * x3 * y3 * y3 * y3 * D - x1 * x1 * x1 * x2 * y2 * y2 * x3 * x3 * y3 * D - x1 * x1 * x1 * x2 * x2 * y2 * x3 * y3 * y3 * D) (-y1 * y2 * y3 + y1 * y2 * y2 * y2 * y3 - y1 * x2 * x3 + y1 * x2 * y2 * y2 * x3 - y1 * x2 * x2 * y2 * y3 - y1 * x2 * x2 * x2 * x3 + y1 * y1 * y1 * y2 * y3 - y1 * y1 * y1 * y2 * y2 * y2 * y3 + y1 * y1 * y1 * x2 * x3 - y1 * y1 * y1 * x2 * y2 * y2 * x3 + y1 * y1 * y1 * x2 * x2 * y2 * y3 + y1 * y1 * y1 * x2 * x2 * x2 * x3 - x1 * y2 * x3 + x1 * y2 * y2 * y2 * x3 - x1 * x2 * y3 + x1 * x2 * y2 * y2 * y3 - x1 * x2 * x2 * y2 * x3 - x1 * x2 * x2 * x2 * y3 + x1 * y1 * y1 * y2 * x3 - x1 * y1 * y1 * y2 * y2 * y2 * x3 + x1 * y1 * y1 * x2 * y3 - x1 * y1 * y1 * x2 * y2 * y2 * y3 - x1 * y1 * y1 * x2 * y2 * y2 * y3 * D + x1 * y1 * y1 * x2 * x2 * y2 * x3 + x1 * y1 * y1 * x2 * x2 * y2 * x3 * D + x1 * y1 * y1 * x2 * x2 * x2 * y3 - x1 * x1 * y1 * y2 * y3 + x1 * x1 * y1 * y2 * y2 * y2 * y3 - x1 * x1 * y1 * x2 * x3 + x1 * x1 * y1 * x2 * y2 * y2 * x3 + x1 * x1 * y1 * x2 * y2 * y2 * x3 * D - x1 * x1 * y1 * x2 * x2 * y2 * y3 - x1 * x1 * y1 * x2 * x2 * y2 * y3 * D - x1 * x1 * y1 * x2 * x2 * x2 * x3 - x1 * x1 * x1 * y2 * x3 + x1 * x1 * x1 * y2 * y2 * y2 * x3 - x1 * x1 * x1 * x2 * y3 + x1 * x1 * x1 * x2 * y2 * y2 * y3 - x1 * x1 * x1 * x2 * x2 * y2 * x3 - x1 * x1 * x1 * x2 * x2 * x2 * y3)
    rwa [Int.mul_zero, Int.mul_zero, Int.mul_zero, Int.add_zero, Int.add_zero, Int.add_zero] at k3
  clear key z1 z2 z3 o1 o2 o3
  generalize (1 + D * (x1 * x2) * (y1 * y2)) = A at *
  generalize (1 - D * (x1 * x2) * (y1 * y2)) = B at *
  generalize (1 + D * (x2 * x3) * (y2 * y3)) = C at *
  generalize (1 - D * (x2 * x3) * (y2 * y3)) = Dd at *
  generalize (x1 * y2 + x2 * y1) = X12 at *
  generalize (y1 * y2 + x1 * x2) = Y12 at *
  generalize (x2 * y3 + x3 * y2) = X23 at *
  generalize (y2 * y3 + x2 * x3) = Y23 at *
  have hM : Cq ((1 - D * (a * x3) * (b * y3)) * (A * B)) (A * B - D * (X12 * x3) * (Y12 * y3)) := by
    have := (Cq.refl (A * B)).sub (((Cq.refl D).mul (ha.mul (Cq.refl x3))).mul (hb.mul (Cq.refl y3)))
    rwa [show A * B - D * (a * A * x3) * (b * B * y3) = (1 - D * (a * x3) * (b * y3)) * (A * B) by grind] at this
  have hM' : Cq ((1 - D * (x1 * g) * (y1 * h)) * (C * Dd)) (C * Dd - D * (x1 * X23) * (y1 * Y23)) := by
    have := (Cq.refl (C * Dd)).sub (((Cq.refl D).mul ((Cq.refl x1).mul hg)).mul ((Cq.refl y1).mul hh))
    rwa [show C * Dd - D * (x1 * (g * C)) * (y1 * (h * Dd)) = (1 - D * (x1 * g) * (y1 * h)) * (C * Dd) by grind] at this
  have k1 : Cq ((b * y3 + a * x3) * (A * B)) (Y12 * A * y3 + X12 * B * x3) := by
    have := (((hb.mul (Cq.refl A)).mul (Cq.refl y3)).add ((ha.mul (Cq.refl B)).mul (Cq.refl x3)))
    rwa [show b * B * A * y3 + a * A * B * x3 = (b * y3 + a * x3) * (A * B) by grind] at this
  have k2 : Cq ((y1 * h + x1 * g) * (C * Dd)) (y1 * (Y23 * C) + x1 * (X23 * Dd)) := by
    have := (((Cq.refl y1).mul (hh.mul (Cq.refl C))).add ((Cq.refl x1).mul (hg.mul (Cq.refl Dd))))
    rwa [show y1 * (h * Dd * C) + x1 * (g * C * Dd) = (y1 * h + x1 * g) * (C * Dd) by grind] at this
  have nM := (nu.mul (nA.mul nB)).cong hM
  have nM' := (nv.mul (nC.mul nD)).cong hM'
  generalize (A * B - D * (X12 * x3) * (Y12 * y3)) = M at *
  generalize (C * Dd - D * (x1 * X23) * (y1 * Y23)) = M' at *
  generalize (Y12 * A * y3 + X12 * B * x3) = N at *
  generalize (y1 * (Y23 * C) + x1 * (X23 * Dd)) = N' at *
  generalize 1 - D * (a * x3) * (b * y3) = e at *
  generalize 1 - D * (x1 * g) * (y1 * h) = e' at *
  generalize b * y3 + a * x3 = r at *
  generalize y1 * h + x1 * g = r' at *
  have j1 : Cq (u * M) N := by
    refine (((Cq.refl u).mul hM).symm.trans (Cq.of (show u * (e * (A * B)) = u * e * (A * B) by grind))).trans ?_
    exact (hu.mul (Cq.refl (A * B))).trans k1
  have j2 : Cq (v * M') N' := by
    refine (((Cq.refl v).mul hM').symm.trans (Cq.of (show v * (e' * (C * Dd)) = v * e' * (C * Dd) by grind))).trans ?_
    exact (hv.mul (Cq.refl (C * Dd))).trans k2
  refine Cq.cancel (nM.mul nM') ?_
  have w1 := (j1.mul (Cq.refl M')).trans (hN.trans (j2.mul (Cq.refl M)).symm)
  rwa [show u * M * M' = u * (M * M') by grind, show v * M' * M = v * (M * M') by grind] at w1
end Go.Fld
set_option maxRecDepth 100000
namespace Go.Fld
theorem diff_id (x1 y1 x2 y2 d : Int) :
    (1 - d * (x1 * x2) * (y1 * y2) + (y1 * y2 + x1 * x2)) * (1 + d * (x1 * x2) * (y1 * y2) + (y1 * y2 - x1 * x2)) * ((y2 - y1) * (y2 - y1)) -
    (1 - d * (x1 * x2) * (y1 * y2) - (y1 * y2 + x1 * x2)) * (1 + d * (x1 * x2) * (y1 * y2) - (y1 * y2 - x1 * x2)) * ((y1 + y2) * (y1 + y2)) =
    (0 - 4 * y1 * x2 * x2 * y2 - 4 * y1 * x2 * x2 * y2 * y2 * y2 * d) * (y1 * y1 - x1 * x1 - (1 + d * (x1 * x1) * (y1 * y1))) +
    (4 * y1 * y2 - 4 * y1 * y1 * y1 * y2) * (y2 * y2 - x2 * x2 - (1 + d * (x2 * x2) * (y2 * y2))) := by grind
theorem d_num : Cq (DQ * 121666) (0 - 121665) := by unfold Cq; decide +kernel
theorem dbl_id {x y : Int} (o : On x y) : Cq ((1 + x * x) * (121666 - 121665 * (y * y))) (y * y) := by
  unfold On at o
  have h1 := o.mul (Cq.refl 121666)
  have h2 := (Cq.refl (121666 : Int)).add ((d_num.mul (Cq.refl (x * x))).mul (Cq.refl (y * y)))
  have h3 : (1 + DQ * (x * x) * (y * y)) * 121666 = 121666 + DQ * 121666 * (x * x) * (y * y) := by generalize DQ = D; grind
  rw [h3] at h1
  have h4 := (h1.trans h2).symm.add (Cq.refl (121666 * (x * x) - 121665 * (y * y)))
  rw [show 121666 + (0 - 121665) * (x * x) * (y * y) + (121666 * (x * x) - 121665 * (y * y)) = (1 + x * x) * (121666 - 121665 * (y * y)) by grind, show (y * y - x * x) * 121666 + (121666 * (x * x) - 121665 * (y * y)) = y * y by grind] at h4
  exact h4
end Go.Fld
set_option linter.unusedVariables false
set_option maxRecDepth 100000
namespace Go.Fld
/-- p - 2 -/
def PI : Nat := 57896044618658097711785492504343953926634992332820282019728792003956564819947
theorem PI1 : PI + 1 = PM := by decide +kernel
def iQ (v : Int) : Int := v ^ PI
theorem iQ_inv {v : Int} (h : Nz v) : Cq (v * iQ v) 1 := by
  unfold iQ
  rw [← Int.pow_succ', PI1]
  exact fermatP h
def eA (x1 y1 x2 y2 : Int) : Int := DQ * (x1 * x2) * (y1 * y2)
def aX (x1 y1 x2 y2 : Int) : Int := (x1 * y2 + x2 * y1) * iQ (1 + eA x1 y1 x2 y2)
def aY (x1 y1 x2 y2 : Int) : Int := (y1 * y2 + x1 * x2) * iQ (1 - eA x1 y1 x2 y2)
theorem ov_back {n w : Int} (h : Nz w) : Cq (n * iQ w * w) n := by
  have := (Cq.refl n).mul (iQ_inv h)
  rw [Int.mul_one] at this
  rwa [show n * (w * iQ w) = n * iQ w * w by generalize iQ w = o; grind] at this
theorem aX_at {x1 y1 x2 y2 : Int} (h1 : On x1 y1) (h2 : On x2 y2) : Cq (aX x1 y1 x2 y2 * (1 + eA x1 y1 x2 y2)) (x1 * y2 + x2 * y1) := ov_back (dens h1 h2).1
theorem aY_at {x1 y1 x2 y2 : Int} (h1 : On x1 y1) (h2 : On x2 y2) : Cq (aY x1 y1 x2 y2 * (1 - eA x1 y1 x2 y2)) (y1 * y2 + x1 * x2) := ov_back (dens h1 h2).2
theorem a_on {x1 y1 x2 y2 : Int} (h1 : On x1 y1) (h2 : On x2 y2) : On (aX x1 y1 x2 y2) (aY x1 y1 x2 y2) := closed h1 h2 (aX_at h1 h2) (aY_at h1 h2)
theorem on_no : On 0 1 := by unfold On Cq; decide +kernel

theorem a_assoc {x1 y1 x2 y2 x3 y3 : Int} (o1 : On x1 y1) (o2 : On x2 y2) (o3 : On x3 y3) :
    Cq (aX (aX x1 y1 x2 y2) (aY x1 y1 x2 y2) x3 y3) (aX x1 y1 (aX x2 y2 x3 y3) (aY x2 y2 x3 y3)) ∧
    Cq (aY (aX x1 y1 x2 y2) (aY x1 y1 x2 y2) x3 y3) (aY x1 y1 (aX x2 y2 x3 y3) (aY x2 y2 x3 y3)) := by
  have o12 := a_on o1 o2
  have o23 := a_on o2 o3
  have ha := aX_at o1 o2
  have hb := aY_at o1 o2
  have hg := aX_at o2 o3
  have hh := aY_at o2 o3
  have hu := aX_at o12 o3
  have hw := aY_at o12 o3
  have hv := aX_at o1 o23
  have hz := aY_at o1 o23
  obtain ⟨nA, nB⟩ := dens o1 o2
  obtain ⟨nC, nD⟩ := dens o2 o3
  obtain ⟨n1, n2⟩ := dens o12 o3
  obtain ⟨n3, n4⟩ := dens o1 o23
  unfold eA at *
  generalize aX (aX x1 y1 x2 y2) (aY x1 y1 x2 y2) x3 y3 = u at *
  generalize aY (aX x1 y1 x2 y2) (aY x1 y1 x2 y2) x3 y3 = w at *
  generalize aX x1 y1 (aX x2 y2 x3 y3) (aY x2 y2 x3 y3) = v at *
  generalize aY x1 y1 (aX x2 y2 x3 y3) (aY x2 y2 x3 y3) = z at *
  generalize aX x1 y1 x2 y2 = a at *
  generalize aY x1 y1 x2 y2 = b at *
  generalize aX x2 y2 x3 y3 = g at *
  generalize aY x2 y2 x3 y3 = h at *
  exact ⟨assoc_x' o1 o2 o3 ha hb hg hh hu hv nA nB nC nD n1 n3, assoc_y' o1 o2 o3 ha hb hg hh hw hz nA nB nC nD n2 n4⟩
theorem a_comm (x1 y1 x2 y2 : Int) : aX x1 y1 x2 y2 = aX x2 y2 x1 y1 ∧ aY x1 y1 x2 y2 = aY x2 y2 x1 y1 := by
  unfold aX aY eA
  rw [Int.mul_comm x2 x1, Int.mul_comm y2 y1, Int.add_comm (x2 * y1)]
  exact ⟨rfl, rfl⟩
/-- alike -/
theorem a_cong {x1 y1 x2 y2 a1 b1 a2 b2 : Int} (o1 : On x1 y1) (o2 : On x2 y2) (p1 : On a1 b1) (p2 : On a2 b2) (hx : Cq x1 a1) (hy : Cq y1 b1) (hx2 : Cq x2 a2) (hy2 : Cq y2 b2) :
    Cq (aX x1 y1 x2 y2) (aX a1 b1 a2 b2) ∧ Cq (aY x1 y1 x2 y2) (aY a1 b1 a2 b2) := by
  have e : Cq (eA x1 y1 x2 y2) (eA a1 b1 a2 b2) := ((Cq.refl DQ).mul (hx.mul hx2)).mul (hy.mul hy2)
  obtain ⟨n1, n2⟩ := dens p1 p2
  have u1 := aX_at o1 o2
  have u2 := aX_at p1 p2
  have w1 := aY_at o1 o2
  have w2 := aY_at p1 p2
  change Nz (1 + eA a1 b1 a2 b2) at n1
  change Nz (1 - eA a1 b1 a2 b2) at n2
  refine ⟨Cq.cancel n1 ?_, Cq.cancel n2 ?_⟩
  · refine (((Cq.refl _).mul ((Cq.refl 1).add e)).symm.trans u1).trans (Cq.trans ?_ u2.symm)
    exact (hx.mul hy2).add (hx2.mul hy)
  · refine (((Cq.refl _).mul ((Cq.refl 1).sub e)).symm.trans w1).trans (Cq.trans ?_ w2.symm)
    exact (hy.mul hy2).add (hx.mul hx2)
theorem a_zero {x y : Int} (o : On x y) : Cq (aX x y 0 1) x ∧ Cq (aY x y 0 1) y := by
  have h1 := aX_at o on_no
  have h2 := aY_at o on_no
  unfold eA at h1 h2
  rw [Int.mul_zero, Int.mul_zero, Int.zero_mul] at h1 h2
  rw [show x * 1 + 0 * y = x by omega] at h1
  simp only [Int.add_zero, Int.sub_zero, Int.mul_one] at h1 h2
  exact ⟨h1, h2⟩
theorem on_turn {x y : Int} (o : On x y) : On (0 - x) y := by
  unfold On at *
  rwa [show (0 - x) * (0 - x) = x * x by grind]
theorem a_turn {x y : Int} (o : On x y) : Cq (aX x y (0 - x) y) 0 ∧ Cq (aY x y (0 - x) y) 1 := by
  have h1 := aX_at o (on_turn o)
  have h2 := aY_at o (on_turn o)
  obtain ⟨n1, n2⟩ := dens o (on_turn o)
  change Nz (1 + eA x y (0 - x) y) at n1
  change Nz (1 - eA x y (0 - x) y) at n2
  refine ⟨Cq.cancel n1 (h1.trans (Cq.of ?_)), Cq.cancel n2 (h2.trans ?_)⟩
  · rw [Int.zero_mul]; grind
  · unfold On at o
    unfold eA
    rw [show y * y + x * (0 - x) = y * y - x * x by grind, show 1 * (1 - DQ * (x * (0 - x)) * (y * y)) = 1 + DQ * (x * x) * (y * y) by generalize DQ = D; grind]
    exact o
abbrev Pt := Int × Int
def ad (q r : Pt) : Pt := (aX q.1 q.2 r.1 r.2, aY q.1 q.2 r.1 r.2)
def OnP (q : Pt) : Prop := On q.1 q.2
def PE (q r : Pt) : Prop := Cq q.1 r.1 ∧ Cq q.2 r.2
theorem PE.refl (q : Pt) : PE q q := ⟨Cq.refl _, Cq.refl _⟩
theorem PE.symm {q r : Pt} (h : PE q r) : PE r q := ⟨h.1.symm, h.2.symm⟩
theorem PE.trans {q r s : Pt} (h : PE q r) (k : PE r s) : PE q s := ⟨h.1.trans k.1, h.2.trans k.2⟩
theorem OnP.ad {q r : Pt} (h : OnP q) (k : OnP r) : OnP (ad q r) := a_on h k
theorem ad_cong {q r s t : Pt} (h1 : OnP q) (h2 : OnP r) (h3 : OnP s) (h4 : OnP t) (e1 : PE q s) (e2 : PE r t) : PE (ad q r) (ad s t) := a_cong h1 h2 h3 h4 e1.1 e1.2 e2.1 e2.2
theorem ad_assoc {q r s : Pt} (h1 : OnP q) (h2 : OnP r) (h3 : OnP s) : PE (ad (ad q r) s) (ad q (ad r s)) := a_assoc h1 h2 h3
theorem ad_comm (q r : Pt) : ad q r = ad r q := by
  have := a_comm q.1 q.2 r.1 r.2
  unfold ad
  rw [this.1, this.2]
def o0 : Pt := (0, 1)
theorem on_o0 : OnP o0 := on_no
theorem ad_zero {q : Pt} (h : OnP q) : PE (ad q o0) q := a_zero h
theorem zero_ad {q : Pt} (h : OnP q) : PE (ad o0 q) q := by rw [ad_comm]; exact ad_zero h
def nt (q : Pt) : Nat → Pt
  | 0 => o0
  | n + 1 => ad (nt q n) q
theorem OnP.nt {q : Pt} (h : OnP q) : ∀ n, OnP (nt q n)
  | 0 => on_o0
  | n + 1 => (OnP.nt h n).ad h
theorem nt_add {q : Pt} (h : OnP q) (m : Nat) : ∀ n, PE (nt q (m + n)) (ad (nt q m) (nt q n))
  | 0 => (ad_zero (h.nt m)).symm
  | n + 1 => by
    show PE (ad (nt q (m + n)) q) (ad (nt q m) (ad (nt q n) q))
    exact (ad_cong (h.nt _) h ((h.nt m).ad (h.nt n)) h (nt_add h m n) (PE.refl q)).trans (ad_assoc (h.nt m) (h.nt n) h)
theorem nt_cong {q r : Pt} (h : OnP q) (k : OnP r) (e : PE q r) : ∀ n, PE (nt q n) (nt r n)
  | 0 => PE.refl _
  | n + 1 => ad_cong (h.nt n) h (k.nt n) k (nt_cong h k e n) e
theorem nt_mul {q : Pt} (h : OnP q) (m : Nat) : ∀ n, PE (nt q (m * n)) (nt (nt q m) n)
  | 0 => PE.refl _
  | n + 1 => by
    rw [Nat.mul_succ]
    exact (nt_add h (m * n) m).trans (ad_cong (h.nt _) (h.nt m) ((h.nt m).nt n) (h.nt m) (nt_mul h m n) (PE.refl _))
end Go.Fld
set_option linter.unusedVariables false
set_option maxRecDepth 100000
namespace Go.Fld
/-- a : b stands for (1 + y) : (1 - y) -/
def Un (a b y : Int) : Prop := ∃ m, Nz m ∧ Cq a (m * (1 + y)) ∧ Cq b (m * (1 - y))
theorem nz2 : Nz 2 := by unfold Nz; decide
theorem un_of {A B Y : Int} (h : Cq ((1 + Y) * B) ((1 - Y) * A)) (n : ¬ (Cq A 0 ∧ Cq B 0)) : Un A B Y := by
  have k : ∀ X, Cq ((A + B) * iQ 2 * X * 2) ((A + B) * X) := by
    intro X
    have := ((Cq.refl (A + B)).mul (iQ_inv nz2)).mul (Cq.refl X)
    rwa [show (A + B) * (2 * iQ 2) * X = (A + B) * iQ 2 * X * 2 by generalize iQ 2 = o; grind, Int.mul_one] at this
  have hA : Cq A ((A + B) * iQ 2 * (1 + Y)) := by
    refine Cq.cancel nz2 (Cq.trans ?_ (k (1 + Y)).symm)
    have := (Cq.refl ((1 + Y) * A)).add h
    rw [show (1 + Y) * A + (1 + Y) * B = (A + B) * (1 + Y) by grind, show (1 + Y) * A + (1 - Y) * A = A * 2 by grind] at this
    exact this.symm
  have hB : Cq B ((A + B) * iQ 2 * (1 - Y)) := by
    refine Cq.cancel nz2 (Cq.trans ?_ (k (1 - Y)).symm)
    have := (Cq.refl ((1 - Y) * B)).add h.symm
    rw [show (1 - Y) * B + (1 - Y) * A = (A + B) * (1 - Y) by grind, show (1 - Y) * B + (1 + Y) * B = B * 2 by grind] at this
    exact this.symm
  refine ⟨(A + B) * iQ 2, fun e => n ⟨?_, ?_⟩, hA, hB⟩
  · have := (show Cq ((A + B) * iQ 2) 0 from e).mul (Cq.refl (1 + Y))
    rw [Int.zero_mul] at this
    exact hA.trans this
  · have := (show Cq ((A + B) * iQ 2) 0 from e).mul (Cq.refl (1 - Y))
    rw [Int.zero_mul] at this
    exact hB.trans this
def eDX (a b : Int) : Int := ((a + b) * (a + b)) * ((a - b) * (a - b))
def eDZ (a b : Int) : Int := ((a + b) * (a + b) - (a - b) * (a - b)) * ((a + b) * (a + b) + 121665 * ((a + b) * (a + b) - (a - b) * (a - b)))
def eAX (a b c d : Int) : Int := ((c - d) * (a + b) + (c + d) * (a - b)) * ((c - d) * (a + b) + (c + d) * (a - b))
def eAZ (x a b c d : Int) : Int := x * (((c - d) * (a + b) - (c + d) * (a - b)) * ((c - d) * (a + b) - (c + d) * (a - b)))
theorem un_sd {a b m y : Int} (ha : Cq a (m * (1 + y))) (hb : Cq b (m * (1 - y))) : Cq (a + b) (2 * m) ∧ Cq (a - b) (2 * m * y) := by
  have h1 := ha.add hb
  have h2 := ha.sub hb
  rw [show m * (1 + y) + m * (1 - y) = 2 * m by grind] at h1
  rw [show m * (1 + y) - m * (1 - y) = 2 * m * y by grind] at h2
  exact ⟨h1, h2⟩
theorem un_dbl {a b x y : Int} (o : On x y) (h : Un a b y) : Un (eDX a b) (eDZ a b) (aY x y x y) := by
  obtain ⟨m, hm, ha, hb⟩ := h
  obtain ⟨h1, h2⟩ := un_sd ha hb
  have hY := aY_at o o
  have hn := (dens o o).2
  change Nz (1 - eA x y x y) at hn
  have hd := dbl_id o
  have he : Cq (eA x y x y) (y * y - x * x - 1) := by
    have := o.symm.sub (Cq.refl 1)
    unfold eA
    rwa [show 1 + DQ * (x * x) * (y * y) - 1 = DQ * (x * x) * (y * y) by generalize DQ = D; grind] at this
  generalize aY x y x y = Y at *
  generalize eA x y x y = e at *
  have hp : Cq ((1 + Y) * (1 - e)) (2 * (1 + x * x)) := by
    have := ((Cq.refl 1).sub he).add hY
    rwa [show 1 - e + Y * (1 - e) = (1 + Y) * (1 - e) by grind, show 1 - (y * y - x * x - 1) + (y * y + x * x) = 2 * (1 + x * x) by grind] at this
  have hq : Cq ((1 - Y) * (1 - e)) (2 * (1 - y * y)) := by
    have := ((Cq.refl 1).sub he).sub hY
    rwa [show 1 - e - Y * (1 - e) = (1 - Y) * (1 - e) by grind, show 1 - (y * y - x * x - 1) - (y * y + x * x) = 2 * (1 - y * y) by grind] at this
  have hw : Nz (121666 - 121665 * (y * y)) := by
    intro e0
    have k : Cq (y * y) 0 := by
      have := (Cq.refl (1 + x * x)).mul (show Cq (121666 - 121665 * (y * y)) 0 from e0)
      rw [Int.mul_zero] at this
      exact hd.symm.trans this
    have k2 := (Cq.refl (121666 : Int)).sub ((Cq.refl (121665 : Int)).mul k)
    exact absurd (k2.symm.trans (show Cq (121666 - 121665 * (y * y)) 0 from e0)) (by unfold Cq; decide +kernel)
  have n8 : Nz 8 := by unfold Nz; decide
  refine ⟨8 * (m * m * (m * m)) * (121666 - 121665 * (y * y)) * (1 - e), ((n8.mul ((hm.mul hm).mul (hm.mul hm))).mul hw).mul hn, ?_, ?_⟩
  · have l : Cq (eDX a b) (2 * m * (2 * m) * (2 * m * y * (2 * m * y))) := (h1.mul h1).mul (h2.mul h2)
    refine l.trans ?_
    have r := (Cq.refl (8 * (m * m * (m * m)) * (121666 - 121665 * (y * y)))).mul hp
    have r2 := (Cq.refl (16 * (m * m * (m * m)))).mul hd
    rw [show 8 * (m * m * (m * m)) * (121666 - 121665 * (y * y)) * ((1 + Y) * (1 - e)) = 8 * (m * m * (m * m)) * (121666 - 121665 * (y * y)) * (1 - e) * (1 + Y) by generalize 121666 - 121665 * (y * y) = w; grind] at r
    refine Cq.trans ?_ r.symm
    rw [show 8 * (m * m * (m * m)) * (121666 - 121665 * (y * y)) * (2 * (1 + x * x)) = 16 * (m * m * (m * m)) * ((1 + x * x) * (121666 - 121665 * (y * y))) by generalize 121666 - 121665 * (y * y) = w; grind, show 2 * m * (2 * m) * (2 * m * y * (2 * m * y)) = 16 * (m * m * (m * m)) * (y * y) by grind]
    exact r2.symm
  · have hs := (h1.mul h1).sub (h2.mul h2)
    have l : Cq (eDZ a b) ((2 * m * (2 * m) - 2 * m * y * (2 * m * y)) * (2 * m * (2 * m) + 121665 * (2 * m * (2 * m) - 2 * m * y * (2 * m * y)))) := hs.mul ((h1.mul h1).add ((Cq.refl _).mul hs))
    refine l.trans ?_
    have r := (Cq.refl (8 * (m * m * (m * m)) * (121666 - 121665 * (y * y)))).mul hq
    rw [show 8 * (m * m * (m * m)) * (121666 - 121665 * (y * y)) * ((1 - Y) * (1 - e)) = 8 * (m * m * (m * m)) * (121666 - 121665 * (y * y)) * (1 - e) * (1 - Y) by generalize 121666 - 121665 * (y * y) = w; grind] at r
    refine Cq.trans (Cq.of ?_) r.symm
    grind
end Go.Fld
set_option linter.unusedVariables false
set_option maxRecDepth 100000
namespace Go.Fld
theorem un_sum {a b c d u x1 y1 x2 y2 y0 : Int} (o1 : On x1 y1) (o2 : On x2 y2) (h : Un a b y1) (k : Un c d y2) (hu : Nz u) (hy : Cq (u * (1 - y0)) (1 + y0)) (h0 : Cq (y0 * (1 + eA x1 y1 x2 y2)) (y1 * y2 - x1 * x2)) : Un (eAX a b c d) (eAZ u a b c d) (aY x1 y1 x2 y2) := by
  obtain ⟨m, hm, ha, hb⟩ := h
  obtain ⟨n, hn, hc, hd⟩ := k
  obtain ⟨s1, s2⟩ := un_sd ha hb
  obtain ⟨s3, s4⟩ := un_sd hc hd
  have hY := aY_at o1 o2
  obtain ⟨n1, n2⟩ := dens o1 o2
  change Nz (1 + eA x1 y1 x2 y2) at n1
  change Nz (1 - eA x1 y1 x2 y2) at n2
  have hz : Nz (1 - y0) := by
    intro e0
    have q1 : Cq y0 1 := by
      have := (Cq.refl 1).sub (show Cq (1 - y0) 0 from e0)
      rwa [show 1 - (1 - y0) = y0 by omega] at this
    have q2 := (Cq.refl u).mul (show Cq (1 - y0) 0 from e0)
    rw [Int.mul_zero] at q2
    have q3 := (q2.symm.trans hy).trans ((Cq.refl 1).add q1)
    exact absurd q3 (by unfold Cq; decide +kernel)
  have hX : Cq (eAX a b c d) (4 * (m * n) * (4 * (m * n)) * ((y1 + y2) * (y1 + y2))) := by
    have t := (s4.mul s1).add (s3.mul s2)
    have := t.mul t
    rwa [show (2 * n * y2 * (2 * m) + 2 * n * (2 * m * y1)) * (2 * n * y2 * (2 * m) + 2 * n * (2 * m * y1)) = 4 * (m * n) * (4 * (m * n)) * ((y1 + y2) * (y1 + y2)) by grind] at this
  have hZ : Cq (eAZ u a b c d) (u * (4 * (m * n) * (4 * (m * n)) * ((y2 - y1) * (y2 - y1)))) := by
    have t := (s4.mul s1).sub (s3.mul s2)
    have := (Cq.refl u).mul (t.mul t)
    rwa [show (2 * n * y2 * (2 * m) - 2 * n * (2 * m * y1)) * (2 * n * y2 * (2 * m) - 2 * n * (2 * m * y1)) = 4 * (m * n) * (4 * (m * n)) * ((y2 - y1) * (y2 - y1)) by grind] at this
  have key := diff_id x1 y1 x2 y2 DQ
  have z1 : Cq (y1 * y1 - x1 * x1 - (1 + DQ * (x1 * x1) * (y1 * y1))) 0 := by
    have := o1.sub (Cq.refl (1 + DQ * (x1 * x1) * (y1 * y1)))
    rwa [Int.sub_self] at this
  have z2 : Cq (y2 * y2 - x2 * x2 - (1 + DQ * (x2 * x2) * (y2 * y2))) 0 := by
    have := o2.sub (Cq.refl (1 + DQ * (x2 * x2) * (y2 * y2)))
    rwa [Int.sub_self] at this
  have k0 := fun q1 q2 : Int => ((Cq.refl q1).mul z1).add ((Cq.refl q2).mul z2)
  have k1 := (Cq.of key).trans (k0 _ _)
  rw [Int.mul_zero, Int.mul_zero, Int.add_zero] at k1
  have o1' := o1
  have o2' := o2
  unfold On at o1' o2'
  change Cq ((1 - eA x1 y1 x2 y2 + (y1 * y2 + x1 * x2)) * (1 + eA x1 y1 x2 y2 + (y1 * y2 - x1 * x2)) * ((y2 - y1) * (y2 - y1)) - (1 - eA x1 y1 x2 y2 - (y1 * y2 + x1 * x2)) * (1 + eA x1 y1 x2 y2 - (y1 * y2 - x1 * x2)) * ((y1 + y2) * (y1 + y2))) 0 at k1
  have heA : eA x1 y1 x2 y2 = DQ * (x1 * x2) * (y1 * y2) := rfl
  generalize aY x1 y1 x2 y2 = Y at *
  generalize eA x1 y1 x2 y2 = e at *
  refine un_of ?_ ?_
  · -- (1 + Y)(1 + y0)(y2 - y1)^2 ~ (1 - Y)(1 - y0)(y1 + y2)^2
    have p1 : Cq ((1 + Y) * (1 - e)) (1 - e + (y1 * y2 + x1 * x2)) := by
      have := (Cq.refl (1 - e)).add hY
      rwa [show 1 - e + Y * (1 - e) = (1 + Y) * (1 - e) by grind] at this
    have p2 : Cq ((1 - Y) * (1 - e)) (1 - e - (y1 * y2 + x1 * x2)) := by
      have := (Cq.refl (1 - e)).sub hY
      rwa [show 1 - e - Y * (1 - e) = (1 - Y) * (1 - e) by grind] at this
    have p3 : Cq ((1 + y0) * (1 + e)) (1 + e + (y1 * y2 - x1 * x2)) := by
      have := (Cq.refl (1 + e)).add h0
      rwa [show 1 + e + y0 * (1 + e) = (1 + y0) * (1 + e) by grind] at this
    have p4 : Cq ((1 - y0) * (1 + e)) (1 + e - (y1 * y2 - x1 * x2)) := by
      have := (Cq.refl (1 + e)).sub h0
      rwa [show 1 + e - y0 * (1 + e) = (1 - y0) * (1 + e) by grind] at this
    have w := (((p1.mul p3).mul (Cq.refl ((y2 - y1) * (y2 - y1)))).sub ((p2.mul p4).mul (Cq.refl ((y1 + y2) * (y1 + y2))))).trans k1
    have w2 := w.add (Cq.refl ((1 - Y) * (1 - e) * ((1 - y0) * (1 + e)) * ((y1 + y2) * (y1 + y2))))
    rw [Int.sub_add_cancel, Int.zero_add] at w2
    have w3 : Cq ((1 + Y) * (1 - e) * (u * (1 - y0) * (1 + e)) * ((y2 - y1) * (y2 - y1))) ((1 - Y) * (1 - e) * ((1 - y0) * (1 + e)) * ((y1 + y2) * (y1 + y2))) :=
      (((Cq.refl _).mul (hy.mul (Cq.refl _))).mul (Cq.refl _)).trans w2
    refine Cq.cancel ((n1.mul n2).mul hz) ?_
    have g1 := ((Cq.refl (1 + Y)).mul hZ).mul (Cq.refl ((1 + e) * (1 - e) * (1 - y0)))
    have g2 := ((Cq.refl (1 - Y)).mul hX).mul (Cq.refl ((1 + e) * (1 - e) * (1 - y0)))
    refine g1.trans (Cq.trans ?_ g2.symm)
    have g3 := (Cq.refl (4 * (m * n) * (4 * (m * n)))).mul w3
    rw [show 4 * (m * n) * (4 * (m * n)) * ((1 + Y) * (1 - e) * (u * (1 - y0) * (1 + e)) * ((y2 - y1) * (y2 - y1))) = (1 + Y) * (u * (4 * (m * n) * (4 * (m * n)) * ((y2 - y1) * (y2 - y1)))) * ((1 + e) * (1 - e) * (1 - y0)) by generalize (y2 - y1) * (y2 - y1) = q; grind,
      show 4 * (m * n) * (4 * (m * n)) * ((1 - Y) * (1 - e) * ((1 - y0) * (1 + e)) * ((y1 + y2) * (y1 + y2))) = (1 - Y) * (4 * (m * n) * (4 * (m * n)) * ((y1 + y2) * (y1 + y2))) * ((1 + e) * (1 - e) * (1 - y0)) by generalize (y1 + y2) * (y1 + y2) = q; grind] at g3
    exact g3
  · rintro ⟨e1, e2⟩
    have nm : Nz (4 * (m * n) * (4 * (m * n))) := by
      have n4 : Nz 4 := by unfold Nz; decide
      exact (n4.mul (hm.mul hn)).mul (n4.mul (hm.mul hn))
    have nz0 : ∀ {t v : Int}, Nz t → Cq (t * v) 0 → Cq v 0 := by
      intro t v ht hv
      rcases no_zero_div (show t * v % p = 0 from hv) with q | q
      · exact absurd q ht
      · exact q
    have sq0 : ∀ {v : Int}, Cq (v * v) 0 → Cq v 0 := by
      intro v hv
      rcases no_zero_div (show v * v % p = 0 from hv) with q | q <;> exact q
    have a1 := sq0 (nz0 nm (hX.symm.trans e1))
    have a2 := sq0 (nz0 nm (nz0 hu (hZ.symm.trans e2)))
    have y2z : Cq y2 0 := by
      have := a1.add a2
      rw [show y1 + y2 + (y2 - y1) = 2 * y2 by grind] at this
      exact nz0 nz2 this
    have y1z : Cq y1 0 := by
      have := a1.sub y2z
      rwa [show y1 + y2 - y2 = y1 by omega] at this
    have ez : Cq e 0 := by
      rw [heA]
      have := (Cq.refl (DQ * (x1 * x2))).mul (y1z.mul y2z)
      rwa [Int.mul_zero, Int.mul_zero] at this
    have x1s : Cq (x1 * x1) (0 - 1) := by
      have t1 := (y1z.mul y1z).sub o1'
      have t2 := (Cq.refl 1).add ((Cq.refl (DQ * (x1 * x1))).mul (y1z.mul y1z))
      rw [show y1 * y1 - (y1 * y1 - x1 * x1) = x1 * x1 by omega] at t1
      refine t1.trans ?_
      have t3 := (Cq.refl (0 * 0)).sub t2
      rwa [Int.mul_zero, Int.mul_zero, Int.add_zero] at t3
    have x2s : Cq (x2 * x2) (0 - 1) := by
      have t1 := (y2z.mul y2z).sub o2'
      have t2 := (Cq.refl 1).add ((Cq.refl (DQ * (x2 * x2))).mul (y2z.mul y2z))
      rw [show y2 * y2 - (y2 * y2 - x2 * x2) = x2 * x2 by omega] at t1
      refine t1.trans ?_
      have t3 := (Cq.refl (0 * 0)).sub t2
      rwa [Int.mul_zero, Int.mul_zero, Int.add_zero] at t3
    have y0v : Cq y0 (0 - x1 * x2) := by
      have t1 := (Cq.refl y0).mul ((Cq.refl 1).add ez)
      have t2 := (y1z.mul y2z).sub (Cq.refl (x1 * x2))
      rw [Int.add_zero, Int.mul_one] at t1
      rw [Int.mul_zero] at t2
      exact (t1.symm.trans h0).trans t2
    have y0s : Cq ((1 - y0) * (1 + y0)) 0 := by
      have t1 := y0v.mul y0v
      have t2 := x1s.mul x2s
      rw [show (0 - x1 * x2) * (0 - x1 * x2) = x1 * x1 * (x2 * x2) by grind] at t1
      have t3 := (Cq.refl 1).sub (t1.trans t2)
      rwa [show 1 - y0 * y0 = (1 - y0) * (1 + y0) by grind, show (1 : Int) - (0 - 1) * (0 - 1) = 0 by decide] at t3
    have y0m := nz0 hz y0s
    exact hz (nz0 hu (hy.trans y0m))
end Go.Fld
set_option linter.unusedVariables false
set_option maxRecDepth 100000
namespace Go.Proofs.Ytnpobkdmflkkpaa.Fld
open Go Go.Sim
open Go.Fld (p Cq On OnP PE ad nt Pt Un o0 eA aX aY iQ Nz dens aY_at ad_assoc ad_cong ad_comm ad_zero zero_ad on_turn a_turn nt_add nt_mul nt_cong iQ_inv on_o0)

theorem un_mod {a b y : Int} (h : Un a b y) : Un (a % p) (b % p) y := by
  obtain ⟨m, hm, h1, h2⟩ := h
  exact ⟨m, hm, (show Cq (a % p) a from Int.emod_emod _ _).trans h1, (show Cq (b % p) b from Int.emod_emod _ _).trans h2⟩
theorem un_to {a b y y' : Int} (h : Un a b y) (e : Cq y y') : Un a b y' := by
  obtain ⟨m, hm, h1, h2⟩ := h
  exact ⟨m, hm, h1.trans ((Cq.refl m).mul ((Cq.refl 1).add e)), h2.trans ((Cq.refl m).mul ((Cq.refl 1).sub e))⟩
/-- what is known of the base -/
structure Bas (u : Int) (q : Pt) : Prop where
  on : OnP q
  nz : Nz u
  eq : Cq (u * (1 - q.2)) (1 + q.2)
theorem diff {R S q : Pt} (hR : OnP R) (hS : OnP S) (hq : OnP q) (h : PE S (ad R q)) : Cq (q.2 * (1 + eA R.1 R.2 S.1 S.2)) (R.2 * S.2 - R.1 * S.1) := by
  have hT : OnP (0 - R.1, R.2) := on_turn hR
  have h1 : PE (ad (0 - R.1, R.2) S) q := by
    refine (ad_cong hT hS hT (hR.ad hq) (PE.refl _) h).trans ?_
    refine (ad_assoc hT hR hq).symm.trans ?_
    refine (ad_cong (hT.ad hR) hq on_o0 hq ?_ (PE.refl q)).trans (zero_ad hq)
    rw [ad_comm]
    exact a_turn hR
  have h2 := aY_at (x1 := 0 - R.1) (y1 := R.2) (x2 := S.1) (y2 := S.2) hT hS
  have e : eA (0 - R.1) R.2 S.1 S.2 = 0 - eA R.1 R.2 S.1 S.2 := by unfold eA; generalize Go.Fld.DQ = D; grind
  rw [e, show 1 - (0 - eA R.1 R.2 S.1 S.2) = 1 + eA R.1 R.2 S.1 S.2 by omega, show R.2 * S.2 + (0 - R.1) * S.1 = R.2 * S.2 - R.1 * S.1 by grind] at h2
  exact ((h1.2.symm).mul (Cq.refl _)).trans h2
structure LInv (q : Pt) (s : S4) (n : Nat) : Prop where
  ex : ∃ R S : Pt, OnP R ∧ OnP S ∧ PE R (nt q n) ∧ PE S (ad R q) ∧ Un s.a s.b R.2 ∧ Un s.c s.d S.2
theorem LInv.step {u : Int} {q : Pt} (hb : Bas u q) {s : S4} {n : Nat} (h : LInv q s n) (t : Bool) : LInv q (eStep u t s) (n + n + (bif t then 1 else 0)) := by
  obtain ⟨R, S, hR, hS, eR, eS, h1, h2⟩ := h.ex
  have hd := diff hR hS hb.on eS
  have e2 : PE (ad R R) (nt q (n + n)) := (ad_cong hR hR (hb.on.nt n) (hb.on.nt n) eR eR).trans (nt_add hb.on n n).symm
  cases t with
  | false =>
    refine ⟨ad R R, ad R S, hR.ad hR, hR.ad hS, e2, ?_, un_mod (Go.Fld.un_dbl hR h1), un_mod (Go.Fld.un_sum hR hS h1 h2 hb.nz hb.eq hd)⟩
    exact (ad_cong hR hS hR (hR.ad hb.on) (PE.refl _) eS).trans (ad_assoc hR hR hb.on).symm
  | true =>
    have hd' : Cq (q.2 * (1 + eA S.1 S.2 R.1 R.2)) (S.2 * R.2 - S.1 * R.1) := by
      rw [show eA S.1 S.2 R.1 R.2 = eA R.1 R.2 S.1 S.2 by unfold eA; rw [Int.mul_comm S.1, Int.mul_comm S.2], Int.mul_comm S.2, Int.mul_comm S.1]
      exact hd
    refine ⟨ad S R, ad S S, hS.ad hR, hS.ad hS, ?_, ?_, un_mod (Go.Fld.un_sum hS hR h2 h1 hb.nz hb.eq hd'), un_mod (Go.Fld.un_dbl hS h2)⟩
    · have k : PE (ad R S) (ad (ad R R) q) := (ad_cong hR hS hR (hR.ad hb.on) (PE.refl _) eS).trans (ad_assoc hR hR hb.on).symm
      rw [ad_comm]
      exact k.trans (ad_cong (hR.ad hR) hb.on (hb.on.nt _) hb.on e2 (PE.refl q))
    · exact (ad_cong hS hS hS (hR.ad hb.on) (PE.refl _) eS).trans (ad_assoc hS hR hb.on).symm
def bitsN (k : List Int) : Nat → Nat → Nat
  | 0, a => a
  | n + 1, a => bitsN k n (a + a + (bif bitK k n then 1 else 0))
theorem LInv.lad {u : Int} {q : Pt} (hb : Bas u q) {k : List Int} : ∀ (n : Nat) (s : S4) (a : Nat), LInv q s a → LInv q (lad k u n s) (bitsN k n a)
  | 0, s, a, h => h
  | n + 1, s, a, h => LInv.lad hb n _ _ (h.step hb (bitK k n))
theorem LInv.start {u : Int} {q : Pt} (hb : Bas u q) : LInv q ⟨1, 0, u, 1⟩ 0 := by
  refine ⟨o0, q, on_o0, hb.on, PE.refl _, (zero_ad hb.on).symm, ?_, ?_⟩
  · refine Go.Fld.un_of (show Cq ((1 + o0.2) * 0) ((1 - o0.2) * 1) from Cq.of (by decide)) (fun e => ?_)
    exact absurd (show Cq (1 : Int) 0 from e.1) (by unfold Cq; decide +kernel)
  · refine Go.Fld.un_of ?_ (fun e => ?_)
    · rw [Int.mul_one, Int.mul_comm]; exact hb.eq.symm
    · exact absurd (show Cq (1 : Int) 0 from e.2) (by unfold Cq; decide +kernel)
theorem invM_cq (v : Int) : Cq (invM v) (iQ v) := by
  unfold Cq invM iQ
  rw [Int.emod_emod, powF_one]
  rfl
theorem iQ_cong {a b : Int} (h : Cq a b) : Cq (iQ a) (iQ b) := h.pow _
theorem iQ_zero : Cq (iQ 0) 0 := by
  unfold iQ
  rw [show Go.Fld.PI = (Go.Fld.PI - 1) + 1 by decide +kernel, Int.pow_succ, Int.mul_zero]
  rfl
/-- the u of a point -/
def uP (q : Pt) : Int := (1 + q.2) * iQ (1 - q.2) % p
theorem uP_cong {q r : Pt} (h : PE q r) : uP q = uP r := show (_ : Int) % p = _ % p from ((Cq.refl 1).add h.2).mul (iQ_cong ((Cq.refl 1).sub h.2))
theorem iQ_mul (a b : Int) : iQ (a * b) = iQ a * iQ b := Int.mul_pow ..
theorem un_u {a b : Int} {q : Pt} (h : Un a b q.2) : a * invM b % p = uP q := by
  obtain ⟨m, hm, h1, h2⟩ := h
  have k : Cq (a * invM b) (m * (1 + q.2) * (iQ m * iQ (1 - q.2))) := h1.mul ((invM_cq b).trans ((iQ_cong h2).trans (Cq.of (iQ_mul _ _))))
  refine k.trans ?_
  rw [show m * (1 + q.2) * (iQ m * iQ (1 - q.2)) = m * iQ m * ((1 + q.2) * iQ (1 - q.2)) by generalize iQ m = i; generalize iQ (1 - q.2) = j; grind]
  have := (iQ_inv hm).mul (Cq.refl ((1 + q.2) * iQ (1 - q.2)))
  rwa [Int.one_mul] at this
/-- what is shared with a point's u -/
theorem lad_u {u : Int} {q : Pt} (hb : Bas u q) (k : List Int) : (lad k u 255 ⟨1, 0, u, 1⟩).a * invM (lad k u 255 ⟨1, 0, u, 1⟩).b % p = uP (nt q (bitsN k 255 0)) := by
  obtain ⟨R, S, hR, hS, eR, eS, h1, h2⟩ := (LInv.lad hb (k := k) 255 _ _ (LInv.start hb)).ex
  rw [un_u h1, uP_cong eR]
end Go.Proofs.Ytnpobkdmflkkpaa.Fld
set_option linter.unusedVariables false
set_option maxRecDepth 100000
namespace Go.Proofs.Ytnpobkdmflkkpaa.Fld
open Go Go.Sim Go.Fld

theorem and127 {a : Int} (h : 0 ≤ a) (h' : a < 128) : andI .u8 a 127 = a := by
  obtain ⟨x, rfl⟩ := Int.eq_ofNat_of_zero_le h
  rw [show (127 : Int) = ((127 : Nat) : Int) from rfl, andI_nat8 (by omega) (by decide), show 127 = 2 ^ 7 - 1 from rfl, Nat.and_two_pow_sub_one_eq_mod, Nat.mod_eq_of_lt (by omega)]
theorem mask_low {l : List Int} (hl : l.length = 32) (hr : ∀ y ∈ l, 0 ≤ y ∧ y < 256) (hv : v32 l < p) : maskL l = l := by
  obtain ⟨a0, a1, a2, a3, a4, a5, a6, a7, a8, a9, a10, a11, a12, a13, a14, a15, a16, a17, a18, a19, a20, a21, a22, a23, a24, a25, a26, a27, a28, a29, a30, a31, rfl⟩ := len32 hl
  have e : maskL [a0, a1, a2, a3, a4, a5, a6, a7, a8, a9, a10, a11, a12, a13, a14, a15, a16, a17, a18, a19, a20, a21, a22, a23, a24, a25, a26, a27, a28, a29, a30, a31] = [a0, a1, a2, a3, a4, a5, a6, a7, a8, a9, a10, a11, a12, a13, a14, a15, a16, a17, a18, a19, a20, a21, a22, a23, a24, a25, a26, a27, a28, a29, a30, andI .u8 a31 127] := rfl
  rw [e, and127 (hr a31 (by simp)).1]
  have hn := v32_lo (l := [a0, a1, a2, a3, a4, a5, a6, a7, a8, a9, a10, a11, a12, a13, a14, a15, a16, a17, a18, a19, a20, a21, a22, a23, a24, a25, a26, a27, a28, a29, a30]) (fun y hy => hr y (by
    rw [show [a0, a1, a2, a3, a4, a5, a6, a7, a8, a9, a10, a11, a12, a13, a14, a15, a16, a17, a18, a19, a20, a21, a22, a23, a24, a25, a26, a27, a28, a29, a30, a31] = [a0, a1, a2, a3, a4, a5, a6, a7, a8, a9, a10, a11, a12, a13, a14, a15, a16, a17, a18, a19, a20, a21, a22, a23, a24, a25, a26, a27, a28, a29, a30] ++ [a31] from rfl]
    exact List.mem_append_left _ hy))
  have h31 := hr a31 (by simp)
  simp only [v32, valD, p] at hv hn
  omega

/-! nothing shared -/
theorem lad_b0 (k : List Int) : ∀ (n : Nat) (s : S4), s.b % p = 0 → s.d % p = 0 → (lad k 0 n s).b % p = 0
  | 0, s, h, _ => h
  | n + 1, s, h, h' => by
    have key : ∀ a b : Int, b % p = 0 → eDZ a b % p % p = 0 := by
      intro a b hb
      rw [Int.emod_emod]
      have h1 : Cq b 0 := hb
      have h2 : Cq (eDZ a b) (eDZ a 0) := by
        unfold eDZ
        have u := (Cq.refl a).add h1
        have v := (Cq.refl a).sub h1
        have w := (u.mul u).sub (v.mul v)
        exact w.mul ((u.mul u).add ((Cq.refl 121665).mul w))
      refine Eq.trans h2 ?_
      rw [show eDZ a 0 = 0 by unfold eDZ; grind]
      rfl
    have kz : ∀ a b c d : Int, eAZ 0 a b c d % p % p = 0 := by
      intro a b c d
      rw [show eAZ 0 a b c d = 0 by unfold eAZ; rw [Int.zero_mul]]
      rfl
    simp only [lad]
    cases bitK k n with
    | false => exact lad_b0 k n _ (key _ _ h) (kz _ _ _ _)
    | true => exact lad_b0 k n _ (kz _ _ _ _) (key _ _ h')
theorem lad_b1 (k : List Int) (n : Nat) : (lad k 0 (n + 1) ⟨1, 0, 0, 1⟩).b % p = 0 := by
  simp only [lad]
  cases bitK k n with
  | false => exact lad_b0 k n _ (by show eDZ 1 0 % p % p = 0; decide) (by show eAZ 0 1 0 0 1 % p % p = 0; decide)
  | true => exact lad_b0 k n _ (by show eAZ 0 0 1 1 0 % p % p = 0; decide) (by show eDZ 0 1 % p % p = 0; decide)
theorem share_0 {k u : List Int} (h : v32 (maskL u) = 0) : shareV k u = 0 := by
  unfold shareV
  rw [h]
  have hb := lad_b1 (clampL k) 254
  change (lad (clampL k) 0 255 ⟨1, 0, 0, 1⟩).b % p = 0 at hb
  generalize (lad (clampL k) 0 255 ⟨1, 0, 0, 1⟩).b = b at *
  generalize (lad (clampL k) 0 255 ⟨1, 0, 0, 1⟩).a = a at *
  have e : Cq (a * invM b) (a * 0) := (Cq.refl a).mul ((invM_cq b).trans ((iQ_cong (show Cq b 0 from hb)).trans iQ_zero))
  refine Eq.trans e ?_
  rw [Int.mul_zero]
  rfl

/-- the base -/
def gP : Pt := (42783823269122696939284341094755422415180979639778424813682678720006717057747, 46316835694926478169428394003475163141307993866256225615783033603165251855960)
theorem g_on : OnP gP := by unfold OnP On Cq; decide +kernel
theorem g_bas : Bas 9 gP := ⟨g_on, by unfold Nz; decide +kernel, by unfold Cq; decide +kernel⟩
def nK (k : List Int) : Nat := bitsN (clampL k) 255 0
theorem share_g (k : List Int) : shareV k nineL = uP (nt gP (nK k)) := by
  unfold shareV
  rw [show maskL nineL = nineL by decide, show v32 nineL = 9 by decide +kernel]
  exact lad_u g_bas (clampL k)
theorem uP_in (q : Pt) : 0 ≤ uP q ∧ uP q < p := modp_in _
theorem mask_u (q : Pt) : v32 (maskL (dg32 (uP q))) = uP q := by
  have h := uP_in q
  have hQ : uP q < Q := by have := h.2; simp only [Q, p] at *; omega
  have e := v32_in h.1 hQ
  rw [mask_low (l := dg32 (uP q)) (digs_len _ _ _) (digs_range (by decide) _ _) (by rw [e]; exact h.2), e]
theorem share_q {k : List Int} {q : Pt} (hq : OnP q) (h : uP q ≠ 0) : shareV k (dg32 (uP q)) = uP (nt q (nK k)) := by
  unfold shareV
  rw [mask_u]
  have hu : Nz (uP q) := by
    unfold Nz
    rw [Int.emod_eq_of_lt (uP_in q).1 (uP_in q).2]
    exact h
  have h1 : Nz (1 - q.2) := fun e => by
    refine hu ?_
    have k1 : Cq (iQ (1 - q.2)) 0 := (iQ_cong (show Cq (1 - q.2) 0 from e)).trans iQ_zero
    have k2 := (Cq.refl (1 + q.2)).mul k1
    rw [Int.mul_zero] at k2
    unfold uP
    rw [Int.emod_emod]
    exact k2
  refine lad_u ⟨hq, hu, ?_⟩ (clampL k)
  have k3 : Cq (uP q) ((1 + q.2) * iQ (1 - q.2)) := Int.emod_emod _ _
  refine (k3.mul (Cq.refl (1 - q.2))).trans ?_
  have k4 := (Cq.refl (1 + q.2)).mul (iQ_inv h1)
  rw [Int.mul_one] at k4
  rwa [show (1 + q.2) * ((1 - q.2) * iQ (1 - q.2)) = (1 + q.2) * iQ (1 - q.2) * (1 - q.2) by generalize iQ (1 - q.2) = j; grind] at k4

/-! points of order one and two -/
theorem even_K {k : List Int} (hl : k.length = 32) (hr : ∀ y ∈ k, 0 ≤ y ∧ y < 256) : ∃ m, nK k = m + m := by
  have h0 : bitK (clampL k) 0 = false := by
    obtain ⟨a0, a1, a2, a3, a4, a5, a6, a7, a8, a9, a10, a11, a12, a13, a14, a15, a16, a17, a18, a19, a20, a21, a22, a23, a24, a25, a26, a27, a28, a29, a30, a31, rfl⟩ := len32 hl
    rw [clamp_at]
    show decide (andI .u8 a0 248 / 2 ^ 0 % 2 = 1) = false
    have h := hr a0 (by simp)
    obtain ⟨x, rfl⟩ := Int.eq_ofNat_of_zero_le h.1
    rw [show (248 : Int) = ((248 : Nat) : Int) from rfl, andI_nat8 (by omega) (by decide)]
    have e : (x &&& 248) % 2 = 0 := by
      have := Nat.and_mod_two_pow (a := x) (b := 248) (n := 1)
      rw [Nat.pow_one] at this
      rw [this]
      exact Nat.and_zero _
    refine decide_eq_false ?_
    simp only [Int.pow_zero, Int.ediv_one]
    omega
  have key : ∀ (n : Nat) (a : Nat), ∃ m, bitsN (clampL k) (n + 1) a = m + m := by
    intro n
    induction n with
    | zero =>
      intro a
      refine ⟨a, ?_⟩
      simp only [bitsN, h0, cond_false, Nat.add_zero]
    | succ n ih => intro a; exact ih _
  exact key 254 0
theorem nt_two {q : Pt} (hq : OnP q) : PE (nt q 2) (ad q q) := by
  show PE (ad (ad o0 q) q) (ad q q)
  exact ad_cong (on_o0.ad hq) hq hq hq (zero_ad hq) (PE.refl q)
theorem nt_o0 : ∀ n, PE (nt o0 n) o0
  | 0 => PE.refl _
  | n + 1 => (ad_cong (on_o0.nt n) on_o0 on_o0 on_o0 (nt_o0 n) (PE.refl _)).trans (zero_ad on_o0)
theorem small {q : Pt} (hq : OnP q) (h : uP q = 0) : PE (ad q q) o0 := by
  have hy : Cq (q.2 * q.2) 1 := by
    have e : (1 + q.2) * iQ (1 - q.2) % p = 0 := h
    by_cases hz : Nz (1 - q.2)
    · rcases no_zero_div e with k | k
      · have h2 : Cq q.2 (0 - 1) := by
          have := (show Cq (1 + q.2) 0 from k).sub (Cq.refl 1)
          rwa [show 1 + q.2 - 1 = q.2 by omega] at this
        have := h2.mul h2
        rwa [show ((0 : Int) - 1) * (0 - 1) = 1 by decide] at this
      · have := iQ_inv hz
        have k2 := (Cq.refl (1 - q.2)).mul (show Cq (iQ (1 - q.2)) 0 from k)
        rw [Int.mul_zero] at k2
        exact absurd (k2.symm.trans this) (by unfold Cq; decide +kernel)
    · have h2 : Cq q.2 1 := by
        have := (Cq.refl 1).sub (show Cq (1 - q.2) 0 from Classical.byContradiction hz)
        rwa [show 1 - (1 - q.2) = q.2 by omega, show (1 : Int) - 0 = 1 by decide] at this
      have := h2.mul h2
      rwa [show (1 : Int) * 1 = 1 by decide] at this
  have hx : Cq q.1 0 := by
    have ho : Cq (q.2 * q.2 - q.1 * q.1) (1 + DQ * (q.1 * q.1) * (q.2 * q.2)) := hq
    have h1 : Cq (1 - q.1 * q.1) (1 + DQ * (q.1 * q.1)) := by
      have a := (hy.sub (Cq.refl (q.1 * q.1))).symm.trans (ho.trans ((Cq.refl 1).add ((Cq.refl (DQ * (q.1 * q.1))).mul hy)))
      rwa [Int.mul_one] at a
    have h2 := (Cq.refl 1).sub h1
    have h3 := h2.add (Cq.refl (DQ * (q.1 * q.1)))
    rw [show 1 - (1 - q.1 * q.1) + DQ * (q.1 * q.1) = (1 + DQ) * (q.1 * q.1) by generalize DQ = D; grind, show 1 - (1 + DQ * (q.1 * q.1)) + DQ * (q.1 * q.1) = 0 by generalize DQ = D; grind] at h3
    rcases no_zero_div (show (1 + DQ) * (q.1 * q.1) % p = 0 from h3) with k | k
    · exact absurd k (by decide +kernel)
    · rcases no_zero_div k with k | k <;> exact k
  have hn : OnP (0 - q.1, q.2) := on_turn hq
  have e0 : PE q (0 - q.1, q.2) := ⟨by
    have := (Cq.refl 0).sub hx
    exact hx.trans this.symm, Cq.refl _⟩
  exact (ad_cong hq hq hq hn (PE.refl q) e0).trans (a_turn hq)
theorem uP_o0 : uP o0 = 0 := by
  unfold uP
  rw [show o0.2 = 1 from rfl, show (1 : Int) - 1 = 0 by decide]
  have := (Cq.refl (1 + 1)).mul iQ_zero
  rw [Int.mul_zero] at this
  exact this
theorem u_even {q : Pt} (hq : OnP q) (h : uP q = 0) (m : Nat) : uP (nt q (m + m)) = 0 := by
  have h1 : PE (nt q (2 * m)) (nt (nt q 2) m) := nt_mul hq 2 m
  have h2 : PE (nt q 2) o0 := (nt_two hq).trans (small hq h)
  have h3 := nt_cong (hq.nt 2) on_o0 h2 m
  rw [show m + m = 2 * m by omega, uP_cong (h1.trans (h3.trans (nt_o0 m))), uP_o0]
theorem share_two {a b : List Int} (hl : a.length = 32) (hr : ∀ y ∈ a, 0 ≤ y ∧ y < 256) : shareV a (dg32 (shareV b nineL)) = uP (nt gP (nK b * nK a)) := by
  rw [share_g, uP_cong (nt_mul g_on (nK b) (nK a))]
  by_cases h : uP (nt gP (nK b)) = 0
  · obtain ⟨m, hm⟩ := even_K hl hr
    rw [share_0 (by rw [mask_u]; exact h), hm, u_even (g_on.nt _) h]
  · exact share_q (g_on.nt _) h
theorem law9 (a0 a1 : List Int) (w0 : a0.length = 32) (r0 : ∀ y ∈ a0, inK .u8 y) (w1 : a1.length = 32) (r1 : ∀ y ∈ a1, inK .u8 y) : raw9 a0 a1 = some [.b true] := by
  unfold raw9
  dsimp only
  rw [share_two w0 r0, share_two w1 r1, Nat.mul_comm, arrEq_self, cond_true, beq_self_eq_true]
end Go.Proofs.Ytnpobkdmflkkpaa.Fld
