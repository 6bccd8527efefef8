/- The sum of three points: printed by assoc.py. The curve's points are a group: taken together, turned, nothing. A point, so many times: sums and products of the numbers. What is written is read back: the same point. Nothing added to a point is the point; a point and its other one are nothing. -/
import Derived.Test.YtibldmjnddppaaaPntX5
import Derived.Test.YtibldmjnddppaaaProg
import Derived.Test.YtibldmjnddppaaaSimX2
import Derived.Test.YtibldmjnddppaaaPntX3
set_option maxRecDepth 100000
namespace Go.Fld
theorem assoc_x (x1 y1 x2 y2 x3 y3 d : Int) :
    ((x1 * y2 + x2 * y1) * (1 - d * (x1 * x2) * (y1 * y2)) * y3 + x3 * ((y1 * y2 + x1 * x2) * (1 + d * (x1 * x2) * (y1 * y2)))) * ((1 + d * (x2 * x3) * (y2 * y3)) * (1 - d * (x2 * x3) * (y2 * y3)) + d * (x1 * (x2 * y3 + x3 * y2)) * (y1 * (y2 * y3 + x2 * x3))) =
    (x1 * ((y2 * y3 + x2 * x3) * (1 + d * (x2 * x3) * (y2 * y3))) + (x2 * y3 + x3 * y2) * (1 - d * (x2 * x3) * (y2 * y3)) * y1) * ((1 + d * (x1 * x2) * (y1 * y2)) * (1 - d * (x1 * x2) * (y1 * y2)) + d * ((x1 * y2 + x2 * y1) * x3) * ((y1 * y2 + x1 * x2) * y3)) + ((-y1 * x2 * y2 * y2 * y2 * y2 * x3 * x3 * y3 * d - y1 * x2 * x2 * y2 * y2 * y2 * x3 * d - y1 * x2 * x2 * y2 * y2 * y2 * x3 * x3 * x3 * d - y1 * x2 * x2 * x2 * y2 * y2 * y3 * d + y1 * x2 * x2 * x2 * y2 * y2 * y3 * y3 * y3 * d + y1 * x2 * x2 * x2 * y2 * y2 * y2 * y2 * x3 * x3 * y3 * d * d + y1 * x2 * x2 * x2 * x2 * y2 * x3 * y3 * y3 * d + y1 * x2 * x2 * x2 * x2 * y2 * y2 * y2 * x3 * y3 * y3 * d * d + x1 * x2 * y2 * y2 * y2 * y2 * x3 * y3 * y3 * d - x1 * x2 * x2 * y2 * y2 * y2 * y3 * d + x1 * x2 * x2 * y2 * y2 * y2 * y3 * y3 * y3 * d - x1 * x2 * x2 * x2 * y2 * y2 * x3 * d - x1 * x2 * x2 * x2 * y2 * y2 * x3 * x3 * x3 * d - x1 * x2 * x2 * x2 * y2 * y2 * y2 * y2 * x3 * y3 * y3 * d * d - x1 * x2 * x2 * x2 * x2 * y2 * x3 * x3 * y3 * d - x1 * x2 * x2 * x2 * x2 * y2 * y2 * y2 * x3 * x3 * y3 * d * d) * (y1 * y1 - x1 * x1 - (1 + d * (x1 * x1) * (y1 * y1))) + (y1 * y2 * x3 - y1 * y2 * x3 * y3 * y3 + y1 * y2 * x3 * x3 * x3 + y1 * y2 * x3 * x3 * x3 * y3 * y3 * d + y1 * x2 * y3 - y1 * x2 * y3 * y3 * y3 + y1 * x2 * x3 * x3 * y3 + y1 * x2 * x3 * x3 * y3 * y3 * y3 * d - y1 * x2 * y2 * y2 * x3 * x3 * y3 * d - y1 * x2 * x2 * y2 * x3 * y3 * y3 * d - y1 * y1 * y1 * y2 * x3 + y1 * y1 * y1 * y2 * x3 * y3 * y3 - y1 * y1 * y1 * y2 * x3 * x3 * x3 - y1 * y1 * y1 * y2 * x3 * x3 * x3 * y3 * y3 * d - y1 * y1 * y1 * x2 * y3 + y1 * y1 * y1 * x2 * y3 * y3 * y3 - y1 * y1 * y1 * x2 * x3 * x3 * y3 - y1 * y1 * y1 * x2 * x3 * x3 * y3 * y3 * y3 * d + y1 * y1 * y1 * x2 * y2 * y2 * x3 * x3 * y3 * d + y1 * y1 * y1 * x2 * x2 * y2 * x3 * y3 * y3 * d + x1 * y2 * y3 - x1 * y2 * y3 * y3 * y3 + x1 * y2 * x3 * x3 * y3 + x1 * y2 * x3 * x3 * y3 * y3 * y3 * d + x1 * x2 * x3 - x1 * x2 * x3 * y3 * y3 + x1 * x2 * x3 * x3 * x3 + x1 * x2 * x3 * x3 * x3 * y3 * y3 * d + x1 * x2 * y2 * y2 * x3 * y3 * y3 * d + x1 * x2 * x2 * y2 * x3 * x3 * y3 * d - x1 * y1 * y1 * y2 * y3 + x1 * y1 * y1 * y2 * y3 * y3 * y3 - x1 * y1 * y1 * y2 * x3 * x3 * y3 - x1 * y1 * y1 * y2 * x3 * x3 * y3 * y3 * y3 * d - x1 * y1 * y1 * x2 * x3 + x1 * y1 * y1 * x2 * x3 * y3 * y3 - x1 * y1 * y1 * x2 * x3 * x3 * x3 - x1 * y1 * y1 * x2 * x3 * x3 * x3 * y3 * y3 * d - x1 * y1 * y1 * x2 * y2 * y2 * x3 * y3 * y3 * d + x1 * y1 * y1 * x2 * y2 * y2 * x3 * x3 * x3 * y3 * y3 * d * d - x1 * y1 * y1 * x2 * x2 * y2 * x3 * x3 * y3 * d - x1 * y1 * y1 * x2 * x2 * y2 * x3 * x3 * y3 * y3 * y3 * d * d + x1 * x1 * y1 * y2 * x3 - x1 * x1 * y1 * y2 * x3 * y3 * y3 + x1 * x1 * y1 * y2 * x3 * x3 * x3 + x1 * x1 * y1 * y2 * x3 * x3 * x3 * y3 * y3 * d + x1 * x1 * y1 * x2 * y3 - x1 * x1 * y1 * x2 * y3 * y3 * y3 + x1 * x1 * y1 * x2 * x3 * x3 * y3 + x1 * x1 * y1 * x2 * x3 * x3 * y3 * y3 * y3 * d - x1 * x1 * y1 * x2 * y2 * y2 * x3 * x3 * y3 * d - x1 * x1 * y1 * x2 * y2 * y2 * x3 * x3 * y3 * y3 * y3 * d * d - x1 * x1 * y1 * x2 * x2 * y2 * x3 * y3 * y3 * d + x1 * x1 * y1 * x2 * x2 * y2 * x3 * x3 * x3 * y3 * y3 * d * d + x1 * x1 * x1 * y2 * y3 - x1 * x1 * x1 * y2 * y3 * y3 * y3 + x1 * x1 * x1 * y2 * x3 * x3 * y3 + x1 * x1 * x1 * y2 * x3 * x3 * y3 * y3 * y3 * d + x1 * x1 * x1 * x2 * x3 - x1 * x1 * x1 * x2 * x3 * y3 * y3 + x1 * x1 * x1 * x2 * x3 * x3 * x3 + x1 * x1 * x1 * x2 * x3 * x3 * x3 * y3 * y3 * d + x1 * x1 * x1 * x2 * y2 * y2 * x3 * y3 * y3 * d + x1 * x1 * x1 * x2 * x2 * y2 * x3 * x3 * y3 * d) * (y2 * y2 - x2 * x2 - (1 + d * (x2 * x2) * (y2 * y2))) + (-y1 * y2 * x3 + y1 * y2 * y2 * y2 * x3 - y1 * x2 * y3 + y1 * x2 * y2 * y2 * y3 - y1 * x2 * x2 * y2 * x3 - y1 * x2 * x2 * x2 * y3 + y1 * y1 * y1 * y2 * x3 - y1 * y1 * y1 * y2 * y2 * y2 * x3 + y1 * y1 * y1 * x2 * y3 - y1 * y1 * y1 * x2 * y2 * y2 * y3 + y1 * y1 * y1 * x2 * x2 * y2 * x3 + y1 * y1 * y1 * x2 * x2 * x2 * y3 - x1 * y2 * y3 + x1 * y2 * y2 * y2 * y3 - x1 * x2 * x3 + x1 * x2 * y2 * y2 * x3 - x1 * x2 * x2 * y2 * y3 - x1 * x2 * x2 * x2 * x3 + x1 * y1 * y1 * y2 * y3 - x1 * y1 * y1 * y2 * y2 * y2 * y3 + x1 * y1 * y1 * x2 * x3 - x1 * y1 * y1 * x2 * y2 * y2 * x3 - x1 * y1 * y1 * x2 * y2 * y2 * x3 * d + x1 * y1 * y1 * x2 * x2 * y2 * y3 + x1 * y1 * y1 * x2 * x2 * y2 * y3 * d + x1 * y1 * y1 * x2 * x2 * x2 * x3 - x1 * x1 * y1 * y2 * x3 + x1 * x1 * y1 * y2 * y2 * y2 * x3 - x1 * x1 * y1 * x2 * y3 + x1 * x1 * y1 * x2 * y2 * y2 * y3 + x1 * x1 * y1 * x2 * y2 * y2 * y3 * d - x1 * x1 * y1 * x2 * x2 * y2 * x3 - x1 * x1 * y1 * x2 * x2 * y2 * x3 * d - x1 * x1 * y1 * x2 * x2 * x2 * y3 - x1 * x1 * x1 * y2 * y3 + x1 * x1 * x1 * y2 * y2 * y2 * y3 - x1 * x1 * x1 * x2 * x3 + x1 * x1 * x1 * x2 * y2 * y2 * x3 - x1 * x1 * x1 * x2 * x2 * y2 * y3 - x1 * x1 * x1 * x2 * x2 * x2 * x3) * (y3 * y3 - x3 * x3 - (1 + d * (x3 * x3) * (y3 * y3)))) := by
  refine Int.sub_eq_iff_eq_add'.1 ?_
  grind
theorem assoc_x' {x1 y1 x2 y2 x3 y3 a b g h u v : Int} (o1 : On x1 y1) (o2 : On x2 y2) (o3 : On x3 y3)
    (ha : Cq (a * (1 + DQ * (x1 * x2) * (y1 * y2))) (x1 * y2 + x2 * y1)) (hb : Cq (b * (1 - DQ * (x1 * x2) * (y1 * y2))) (y1 * y2 + x1 * x2)) (hg : Cq (g * (1 + DQ * (x2 * x3) * (y2 * y3))) (x2 * y3 + x3 * y2)) (hh : Cq (h * (1 - DQ * (x2 * x3) * (y2 * y3))) (y2 * y3 + x2 * x3))
    (hu : Cq (u * (1 + DQ * (a * x3) * (b * y3))) (a * y3 + x3 * b)) (hv : Cq (v * (1 + DQ * (x1 * g) * (y1 * h))) (x1 * h + g * y1))
    (nA : Nz (1 + DQ * (x1 * x2) * (y1 * y2))) (nB : Nz (1 - DQ * (x1 * x2) * (y1 * y2))) (nC : Nz (1 + DQ * (x2 * x3) * (y2 * y3))) (nD : Nz (1 - DQ * (x2 * x3) * (y2 * y3))) (nu : Nz (1 + DQ * (a * x3) * (b * y3))) (nv : Nz (1 + DQ * (x1 * g) * (y1 * h))) : Cq u v := by
  have key := assoc_x x1 y1 x2 y2 x3 y3 DQ
  unfold On at o1 o2 o3
  have z1 : Cq (y1 * y1 - x1 * x1 - (1 + DQ * (x1 * x1) * (y1 * y1))) 0 := by
    have := o1.sub (Cq.refl (1 + DQ * (x1 * x1) * (y1 * y1)))
    rwa [Int.sub_self] at this
  have z2 : Cq (y2 * y2 - x2 * x2 - (1 + DQ * (x2 * x2) * (y2 * y2))) 0 := by
    have := o2.sub (Cq.refl (1 + DQ * (x2 * x2) * (y2 * y2)))
    rwa [Int.sub_self] at this
  have z3 : Cq (y3 * y3 - x3 * x3 - (1 + DQ * (x3 * x3) * (y3 * y3))) 0 := by
    have := o3.sub (Cq.refl (1 + DQ * (x3 * x3) * (y3 * y3)))
    rwa [Int.sub_self] at this
  generalize (y1 * y1 - x1 * x1 - (1 + DQ * (x1 * x1) * (y1 * y1))) = E1 at *
  generalize (y2 * y2 - x2 * x2 - (1 + DQ * (x2 * x2) * (y2 * y2))) = E2 at *
  generalize (y3 * y3 - x3 * x3 - (1 + DQ * (x3 * x3) * (y3 * y3))) = E3 at *
  generalize DQ = D at *
  have hN : Cq (((x1 * y2 + x2 * y1) * (1 - D * (x1 * x2) * (y1 * y2)) * y3 + x3 * ((y1 * y2 + x1 * x2) * (1 + D * (x1 * x2) * (y1 * y2)))) * ((1 + D * (x2 * x3) * (y2 * y3)) * (1 - D * (x2 * x3) * (y2 * y3)) + D * (x1 * (x2 * y3 + x3 * y2)) * (y1 * (y2 * y3 + x2 * x3)))) ((x1 * ((y2 * y3 + x2 * x3) * (1 + D * (x2 * x3) * (y2 * y3))) + (x2 * y3 + x3 * y2) * (1 - D * (x2 * x3) * (y2 * y3)) * y1) * ((1 + D * (x1 * x2) * (y1 * y2)) * (1 - D * (x1 * x2) * (y1 * y2)) + D * ((x1 * y2 + x2 * y1) * x3) * ((y1 * y2 + x1 * x2) * y3))) := by
    refine (Cq.of key).trans ?_
    have k := fun q1 q2 q3 : Int => (((Cq.refl q1).mul z1).add ((Cq.refl q2).mul z2)).add ((Cq.refl q3).mul z3)
    have k2 := fun w q1 q2 q3 : Int => (Cq.refl w).add (k q1 q2 q3)
    have k3 := k2 ((x1 * ((y2 * y3 + x2 * x3) * (1 + D * (x2 * x3) * (y2 * y3))) + (x2 * y3 + x3 * y2) * (1 - D * (x2 * x3) * (y2 * y3)) * y1) * ((1 + D * (x1 * x2) * (y1 * y2)) * (1 - D * (x1 * x2) * (y1 * y2)) + D * ((x1 * y2 + x2 * y1) * x3) * ((y1 * y2 + x1 * x2) * y3))) (-y1 * x2 * y2 * y2 * y2 * y2 * x3 * x3 * y3 * D - y1 * x2 * x2 * y2 * y2 * y2 * x3 * D - y1 * x2 * x2 * y2 * y2 * y2 * x3 * x3 * x3 * D - y1 * x2 * x2 * x2 * y2 * y2 * y3 * D + y1 * x2 * x2 * x2 * y2 * y2 * y3 * y3 * y3 * D + y1 * x2 * x2 * x2 * y2 * y2 * y2 * y2 * x3 * x3 * y3 * D * D + y1 * x2 * x2 * x2 * x2 * y2 * x3 * y3 * y3 * D + y1 * x2 * x2 * x2 * x2 * y2 * y2 * y2 * x3 * y3 * y3 * D * D + x1 * x2 * y2 * y2 * y2 * y2 * x3 * y3 * y3 * D - x1 * x2 * x2 * y2 * y2 * y2 * y3 * D + x1 * x2 * x2 * y2 * y2 * y2 * y3 * y3 * y3 * D - x1 * x2 * x2 * x2 * y2 * y2 * x3 * D - x1 * x2 * x2 * x2 * y2 * y2 * x3 * x3 * x3 * D - x1 * x2 * x2 * x2 * y2 * y2 * y2 * y2 * x3 * y3 * y3 * D * D - x1 * x2 * x2 * x2 * x2 * y2 * x3 * x3 * y3 * D - x1 * x2 * x2 * x2 * x2 * y2 * y2 * y2 * x3 * x3 * y3 * D * D) (y1 * y2 * x3 - y1 * y2 * x3 * y3 * y3 + y1 * y2 * x3 * x3 * x3 + y1 * y2 * x3 * x3 * x3 * y3 * y3 * D + y1 * x2 * y3 - y1 * x2 * y3 * y3 * y3 + y1 * x2 * x3 * x3 * y3 + y1 * x2 * x3 * x3 * y3 * y3 * y3 * D - y1 * x2 * y2 * y2 * x3 * x3 * y3 * D - y1 * x2 * x2 * y2 * x3 * y3 * y3 * D - y1 * y1 * y1 * y2 * x3 + y1 * y1 * y1 * y2 * x3 * y3 * y3 - y1 * y1 * y1 * y2 * x3 * x3 * x3 - y1 * y1 * y1 * y2 * x3 * x3 * x3 * y3 * y3 * D - y1 * y1 * y1 * x2 * y3 + y1 * y1 * y1 * x2 * y3 * y3 * y3 - y1 * y1 * y1 * x2 * x3 * x3 * y3 - y1 * y1 * y1 * x2 * x3 * x3 * y3 * y3 * y3 * D + y1 * y1 * y1 * x2 * y2 * y2 * x3 * x3 * y3 * D + y1 * y1 * y1 * x2 * x2 * y2 * x3 * y3 * y3 * D + x1 * y2 * y3 - x1 * y2 * y3 * y3 * y3 + x1 * y2 * x3 * x3 * y3 + x1 * y2 * x3 * x3 * y3 * y3 * y3 * D + x1 * x2 * x3 - x1 * x2 * x3 * y3 * y3 + x1 * x2 * x3 * x3 * x3 + x1 * x2 * x3 * x3 * x3 * y3 * y3 * D + x1 * x2 * y2 * y2 * x3 * y3 * y3 * D + x1 * x2 * x2 * y2 * x3 * x3 * y3 * D - x1 * y1 * y1 * y2 * y3 + x1 * y1 * y1 * y2 * y3 * y3 * y3 - x1 * y1 * y1 * y2 * x3 * x3 * y3 - x1 * y1 * y1 * y2 * x3 * x3 * y3 * y3 * y3 * D - x1 * y1 * y1 * x2 * x3 + x1 * y1 * y1 * x2 * x3 * y3 * y3 - x1 * y1 * y1 * x2 * x3 * x3 * x3 - x1 * y1 * y1 * x2 * x3 * x3 * x3 * y3 * y3 * D - x1 * y1 * y1 * x2 * y2 * y2 * x3 * y3 * y3 * D + x1 * y1 * y1 * x2 * y2 * y2 * x3 * x3 * x3 * y3 * y3 * D * D - x1 * y1 * y1 * x2 * x2 * y2 * x3 * x3 * y3 * D - x1 * y1 * y1 * x2 * x2 * y2 * x3 * x3 * y3 * y3 * y3 * D * D + x1 * x1 * y1 * y2 * x3 - x1 * x1 * y1 * y2 * x3 * y3 * y3 + x1 * x1 * y1 * y2 * x3 * x3 * x3 + x1 * x1 * y1 * y2 * x3 * x3 * x3 * y3 * y3 * D + x1 * x1 * y1 * x2 * y3 - x1 * x1 * y1 * x2 * y3 * y3 * y3 + x1 * x1 * y1 * x2 * x3 * x3 * y3 + x1 * x1 * y1 * x2 * x3 * x3 * y3 * y3 * y3 * D - x1 * x1 * y1 * x2 * y2 * y2 * x3 * x3 * y3 * D - x1 * x1 * y1 * x2 * y2 * y2 * x3 * x3 * y3 * y3 * y3 * D * D - x1 * x1 * y1 * x2 * x2 * y2 * x3 * y3 * y3 * D + x1 * x1 * y1 * x2 * x2 * y2 * x3 * x3 * x3 * y3 * y3 * D * D + x1 * x1 * x1 * y2 * y3 - x1 * x1 * x1 * y2 * y3 * y3 * y3 + x1 * x1 * x1 * y2 * x3 * x3 * y3 + x1 * x1 * x1 * y2 * x3 * x3 * y3 * y3 * y3 * D + x1 * x1 * x1 * x2 * x3 - x1 * x1 * x1 * x2 * x3 * y3 * y3 + x1 * x1 * x1 * x2 * x3 * x3 * x3 + x1 * x1 * x1 * x2 * x3 * x3 * x3 * y3 * y3 * D + x1 * x1 * x1 * x2 * y2 * y2 * x3 * y3 * y3 * D + x1 * x1 * x1 * x2 * x2 * y2 * x3 * x3 * y3 * D) (-y1 * y2 * x3 + y1 * y2 * y2 * y2 * x3 - y1 * x2 * y3 + y1 * x2 * y2 * y2 * y3 - y1 * x2 * x2 * y2 * x3 - y1 * x2 * x2 * x2 * y3 + y1 * y1 * y1 * y2 * x3 - y1 * y1 * y1 * y2 * y2 * y2 * x3 + y1 * y1 * y1 * x2 * y3 - y1 * y1 * y1 * x2 * y2 * y2 * y3 + y1 * y1 * y1 * x2 * x2 * y2 * x3 + y1 * y1 * y1 * x2 * x2 * x2 * y3 - x1 * y2 * y3 + x1 * y2 * y2 * y2 * y3 - x1 * x2 * x3 + x1 * x2 * y2 * y2 * x3 - x1 * x2 * x2 * y2 * y3 - x1 * x2 * x2 * x2 * x3 + x1 * y1 * y1 * y2 * y3 - x1 * y1 * y1 * y2 * y2 * y2 * y3 + x1 * y1 * y1 * x2 * x3 - x1 * y1 * y1 * x2 * y2 * y2 * x3 - x1 * y1 * y1 * x2 * y2 * y2 * x3 * D + x1 * y1 * y1 * x2 * x2 * y2 * y3 + x1 * y1 * y1 * x2 * x2 * y2 * y3 * D + x1 * y1 * y1 * x2 * x2 * x2 * x3 - x1 * x1 * y1 * y2 * x3 + x1 * x1 * y1 * y2 * y2 * y2 * x3 - x1 * x1 * y1 * x2 * y3 + x1 * x1 * y1 * x2 * y2 * y2 * y3 + x1 * x1 * y1 * x2 * y2 * y2 * y3 * D - x1 * x1 * y1 * x2 * x2 * y2 * x3 - x1 * x1 * y1 * x2 * x2 * y2 * x3 * D - x1 * x1 * y1 * x2 * x2 * x2 * y3 - x1 * x1 * x1 * y2 * y3 + x1 * x1 * x1 * y2 * y2 * y2 * y3 - x1 * x1 * x1 * x2 * x3 + x1 * x1 * x1 * x2 * y2 * y2 * x3 - x1 * x1 * x1 * x2 * x2 * y2 * y3 - x1 * x1 * x1 * x2 * x2 * x2 * x3)
    rwa [Int.mul_zero, Int.mul_zero, Int.mul_zero, Int.add_zero, Int.add_zero, Int.add_zero] at k3
  clear key z1 z2 z3 o1 o2 o3
  generalize (1 + D * (x1 * x2) * (y1 * y2)) = A at *
  generalize (1 - D * (x1 * x2) * (y1 * y2)) = B at *
  generalize (1 + D * (x2 * x3) * (y2 * y3)) = C at *
  generalize (1 - D * (x2 * x3) * (y2 * y3)) = Dd at *
  generalize (x1 * y2 + x2 * y1) = X12 at *
  generalize (y1 * y2 + x1 * x2) = Y12 at *
  generalize (x2 * y3 + x3 * y2) = X23 at *
  generalize (y2 * y3 + x2 * x3) = Y23 at *
  have hM : Cq ((1 + D * (a * x3) * (b * y3)) * (A * B)) (A * B + D * (X12 * x3) * (Y12 * y3)) := by
    have := (Cq.refl (A * B)).add (((Cq.refl D).mul (ha.mul (Cq.refl x3))).mul (hb.mul (Cq.refl y3)))
    rwa [show A * B + D * (a * A * x3) * (b * B * y3) = (1 + D * (a * x3) * (b * y3)) * (A * B) by grind] at this
  have hM' : Cq ((1 + D * (x1 * g) * (y1 * h)) * (C * Dd)) (C * Dd + D * (x1 * X23) * (y1 * Y23)) := by
    have := (Cq.refl (C * Dd)).add (((Cq.refl D).mul ((Cq.refl x1).mul hg)).mul ((Cq.refl y1).mul hh))
    rwa [show C * Dd + D * (x1 * (g * C)) * (y1 * (h * Dd)) = (1 + D * (x1 * g) * (y1 * h)) * (C * Dd) by grind] at this
  have k1 : Cq ((a * y3 + x3 * b) * (A * B)) (X12 * B * y3 + x3 * (Y12 * A)) := by
    have := (((ha.mul (Cq.refl B)).mul (Cq.refl y3)).add ((Cq.refl x3).mul (hb.mul (Cq.refl A))))
    rwa [show a * A * B * y3 + x3 * (b * B * A) = (a * y3 + x3 * b) * (A * B) by grind] at this
  have k2 : Cq ((x1 * h + g * y1) * (C * Dd)) (x1 * (Y23 * C) + X23 * Dd * y1) := by
    have := (((Cq.refl x1).mul (hh.mul (Cq.refl C))).add ((hg.mul (Cq.refl Dd)).mul (Cq.refl y1)))
    rwa [show x1 * (h * Dd * C) + g * C * Dd * y1 = (x1 * h + g * y1) * (C * Dd) by grind] at this
  have nM := (nu.mul (nA.mul nB)).cong hM
  have nM' := (nv.mul (nC.mul nD)).cong hM'
  generalize (A * B + D * (X12 * x3) * (Y12 * y3)) = M at *
  generalize (C * Dd + D * (x1 * X23) * (y1 * Y23)) = M' at *
  generalize (X12 * B * y3 + x3 * (Y12 * A)) = N at *
  generalize (x1 * (Y23 * C) + X23 * Dd * y1) = N' at *
  generalize 1 + D * (a * x3) * (b * y3) = e at *
  generalize 1 + D * (x1 * g) * (y1 * h) = e' at *
  generalize a * y3 + x3 * b = r at *
  generalize x1 * h + g * y1 = r' at *
  have j1 : Cq (u * M) N := by
    refine (((Cq.refl u).mul hM).symm.trans (Cq.of (show u * (e * (A * B)) = u * e * (A * B) by grind))).trans ?_
    exact (hu.mul (Cq.refl (A * B))).trans k1
  have j2 : Cq (v * M') N' := by
    refine (((Cq.refl v).mul hM').symm.trans (Cq.of (show v * (e' * (C * Dd)) = v * e' * (C * Dd) by grind))).trans ?_
    exact (hv.mul (Cq.refl (C * Dd))).trans k2
  refine Cq.cancel (nM.mul nM') ?_
  have w1 := (j1.mul (Cq.refl M')).trans (hN.trans (j2.mul (Cq.refl M)).symm)
  rwa [show u * M * M' = u * (M * M') by grind, show v * M' * M = v * (M * M') by grind] at w1
theorem assoc_y (x1 y1 x2 y2 x3 y3 d : Int) :
    ((y1 * y2 + x1 * x2) * (1 + d * (x1 * x2) * (y1 * y2)) * y3 + (x1 * y2 + x2 * y1) * (1 - d * (x1 * x2) * (y1 * y2)) * x3) * ((1 + d * (x2 * x3) * (y2 * y3)) * (1 - d * (x2 * x3) * (y2 * y3)) - d * (x1 * (x2 * y3 + x3 * y2)) * (y1 * (y2 * y3 + x2 * x3))) =
    (y1 * ((y2 * y3 + x2 * x3) * (1 + d * (x2 * x3) * (y2 * y3))) + x1 * ((x2 * y3 + x3 * y2) * (1 - d * (x2 * x3) * (y2 * y3)))) * ((1 + d * (x1 * x2) * (y1 * y2)) * (1 - d * (x1 * x2) * (y1 * y2)) - d * ((x1 * y2 + x2 * y1) * x3) * ((y1 * y2 + x1 * x2) * y3)) + ((y1 * x2 * y2 * y2 * y2 * y2 * x3 * y3 * y3 * d - y1 * x2 * x2 * y2 * y2 * y2 * y3 * d + y1 * x2 * x2 * y2 * y2 * y2 * y3 * y3 * y3 * d - y1 * x2 * x2 * x2 * y2 * y2 * x3 * d - y1 * x2 * x2 * x2 * y2 * y2 * x3 * x3 * x3 * d - y1 * x2 * x2 * x2 * y2 * y2 * y2 * y2 * x3 * y3 * y3 * d * d - y1 * x2 * x2 * x2 * x2 * y2 * x3 * x3 * y3 * d - y1 * x2 * x2 * x2 * x2 * y2 * y2 * y2 * x3 * x3 * y3 * d * d - x1 * x2 * y2 * y2 * y2 * y2 * x3 * x3 * y3 * d - x1 * x2 * x2 * y2 * y2 * y2 * x3 * d - x1 * x2 * x2 * y2 * y2 * y2 * x3 * x3 * x3 * d - x1 * x2 * x2 * x2 * y2 * y2 * y3 * d + x1 * x2 * x2 * x2 * y2 * y2 * y3 * y3 * y3 * d + x1 * x2 * x2 * x2 * y2 * y2 * y2 * y2 * x3 * x3 * y3 * d * d + x1 * x2 * x2 * x2 * x2 * y2 * x3 * y3 * y3 * d + x1 * x2 * x2 * x2 * x2 * y2 * y2 * y2 * x3 * y3 * y3 * d * d) * (y1 * y1 - x1 * x1 - (1 + d * (x1 * x1) * (y1 * y1))) + (y1 * y2 * y3 - y1 * y2 * y3 * y3 * y3 + y1 * y2 * x3 * x3 * y3 + y1 * y2 * x3 * x3 * y3 * y3 * y3 * d + y1 * x2 * x3 - y1 * x2 * x3 * y3 * y3 + y1 * x2 * x3 * x3 * x3 + y1 * x2 * x3 * x3 * x3 * y3 * y3 * d + y1 * x2 * y2 * y2 * x3 * y3 * y3 * d + y1 * x2 * x2 * y2 * x3 * x3 * y3 * d - y1 * y1 * y1 * y2 * y3 + y1 * y1 * y1 * y2 * y3 * y3 * y3 - y1 * y1 * y1 * y2 * x3 * x3 * y3 - y1 * y1 * y1 * y2 * x3 * x3 * y3 * y3 * y3 * d - y1 * y1 * y1 * x2 * x3 + y1 * y1 * y1 * x2 * x3 * y3 * y3 - y1 * y1 * y1 * x2 * x3 * x3 * x3 - y1 * y1 * y1 * x2 * x3 * x3 * x3 * y3 * y3 * d - y1 * y1 * y1 * x2 * y2 * y2 * x3 * y3 * y3 * d - y1 * y1 * y1 * x2 * x2 * y2 * x3 * x3 * y3 * d + x1 * y2 * x3 - x1 * y2 * x3 * y3 * y3 + x1 * y2 * x3 * x3 * x3 + x1 * y2 * x3 * x3 * x3 * y3 * y3 * d + x1 * x2 * y3 - x1 * x2 * y3 * y3 * y3 + x1 * x2 * x3 * x3 * y3 + x1 * x2 * x3 * x3 * y3 * y3 * y3 * d - x1 * x2 * y2 * y2 * x3 * x3 * y3 * d - x1 * x2 * x2 * y2 * x3 * y3 * y3 * d - x1 * y1 * y1 * y2 * x3 + x1 * y1 * y1 * y2 * x3 * y3 * y3 - x1 * y1 * y1 * y2 * x3 * x3 * x3 - x1 * y1 * y1 * y2 * x3 * x3 * x3 * y3 * y3 * d - x1 * y1 * y1 * x2 * y3 + x1 * y1 * y1 * x2 * y3 * y3 * y3 - x1 * y1 * y1 * x2 * x3 * x3 * y3 - x1 * y1 * y1 * x2 * x3 * x3 * y3 * y3 * y3 * d + x1 * y1 * y1 * x2 * y2 * y2 * x3 * x3 * y3 * d + x1 * y1 * y1 * x2 * y2 * y2 * x3 * x3 * y3 * y3 * y3 * d * d + x1 * y1 * y1 * x2 * x2 * y2 * x3 * y3 * y3 * d - x1 * y1 * y1 * x2 * x2 * y2 * x3 * x3 * x3 * y3 * y3 * d * d + x1 * x1 * y1 * y2 * y3 - x1 * x1 * y1 * y2 * y3 * y3 * y3 + x1 * x1 * y1 * y2 * x3 * x3 * y3 + x1 * x1 * y1 * y2 * x3 * x3 * y3 * y3 * y3 * d + x1 * x1 * y1 * x2 * x3 - x1 * x1 * y1 * x2 * x3 * y3 * y3 + x1 * x1 * y1 * x2 * x3 * x3 * x3 + x1 * x1 * y1 * x2 * x3 * x3 * x3 * y3 * y3 * d + x1 * x1 * y1 * x2 * y2 * y2 * x3 * y3 * y3 * d - x1 * x1 * y1 * x2 * y2 * y2 * x3 * x3 * x3 * y3 * y3 * d * d + x1 * x1 * y1 * x2 * x2 * y2 * x3 * x3 * y3 * d + x1 * x1 * y1 * x2 * x2 * y2 * x3 * x3 * y3 * y3 * y3 * d * d + x1 * x1 * x1 * y2 * x3 - x1 * x1 * x1 * y2 * x3 * y3 * y3 + x1 * x1 * x1 * y2 * x3 * x3 * x3 + x1 * x1 * x1 * y2 * x3 * x3 * x3 * y3 * y3 * d + x1 * x1 * x1 * x2 * y3 - x1 * x1 * x1 * x2 * y3 * y3 * y3 + x1 * x1 * x1 * x2 * x3 * x3 * y3 + x1 * x1 * x1 * x2 * x3 * x3 * y3 * y3 * y3 * d - x1 * x1 * x1 * x2 * y2 * y2 * x3 * x3 * y3 * d - x1 * x1 * x1 * x2 * x2 * y2 * x3 * y3 * y3 * d) * (y2 * y2 - x2 * x2 - (1 + d * (x2 * x2) * (y2 * y2))) + (-y1 * y2 * y3 + y1 * y2 * y2 * y2 * y3 - y1 * x2 * x3 + y1 * x2 * y2 * y2 * x3 - y1 * x2 * x2 * y2 * y3 - y1 * x2 * x2 * x2 * x3 + y1 * y1 * y1 * y2 * y3 - y1 * y1 * y1 * y2 * y2 * y2 * y3 + y1 * y1 * y1 * x2 * x3 - y1 * y1 * y1 * x2 * y2 * y2 * x3 + y1 * y1 * y1 * x2 * x2 * y2 * y3 + y1 * y1 * y1 * x2 * x2 * x2 * x3 - x1 * y2 * x3 + x1 * y2 * y2 * y2 * x3 - x1 * x2 * y3 + x1 * x2 * y2 * y2 * y3 - x1 * x2 * x2 * y2 * x3 - x1 * x2 * x2 * x2 * y3 + x1 * y1 * y1 * y2 * x3 - x1 * y1 * y1 * y2 * y2 * y2 * x3 + x1 * y1 * y1 * x2 * y3 - x1 * y1 * y1 * x2 * y2 * y2 * y3 - x1 * y1 * y1 * x2 * y2 * y2 * y3 * d + x1 * y1 * y1 * x2 * x2 * y2 * x3 + x1 * y1 * y1 * x2 * x2 * y2 * x3 * d + x1 * y1 * y1 * x2 * x2 * x2 * y3 - x1 * x1 * y1 * y2 * y3 + x1 * x1 * y1 * y2 * y2 * y2 * y3 - x1 * x1 * y1 * x2 * x3 + x1 * x1 * y1 * x2 * y2 * y2 * x3 + x1 * x1 * y1 * x2 * y2 * y2 * x3 * d - x1 * x1 * y1 * x2 * x2 * y2 * y3 - x1 * x1 * y1 * x2 * x2 * y2 * y3 * d - x1 * x1 * y1 * x2 * x2 * x2 * x3 - x1 * x1 * x1 * y2 * x3 + x1 * x1 * x1 * y2 * y2 * y2 * x3 - x1 * x1 * x1 * x2 * y3 + x1 * x1 * x1 * x2 * y2 * y2 * y3 - x1 * x1 * x1 * x2 * x2 * y2 * x3 - x1 * x1 * x1 * x2 * x2 * x2 * y3) * (y3 * y3 - x3 * x3 - (1 + d * (x3 * x3) * (y3 * y3)))) := by
  refine Int.sub_eq_iff_eq_add'.1 ?_
  grind
theorem assoc_y' {x1 y1 x2 y2 x3 y3 a b g h u v : Int} (o1 : On x1 y1) (o2 : On x2 y2) (o3 : On x3 y3)
    (ha : Cq (a * (1 + DQ * (x1 * x2) * (y1 * y2))) (x1 * y2 + x2 * y1)) (hb : Cq (b * (1 - DQ * (x1 * x2) * (y1 * y2))) (y1 * y2 + x1 * x2)) (hg : Cq (g * (1 + DQ * (x2 * x3) * (y2 * y3))) (x2 * y3 + x3 * y2)) (hh : Cq (h * (1 - DQ * (x2 * x3) * (y2 * y3))) (y2 * y3 + x2 * x3))
    (hu : Cq (u * (1 - DQ * (a * x3) * (b * y3))) (b * y3 + a * x3)) (hv : Cq (v * (1 - DQ * (x1 * g) * (y1 * h))) (y1 * h + x1 * g))
    (nA : Nz (1 + DQ * (x1 * x2) * (y1 * y2))) (nB : Nz (1 - DQ * (x1 * x2) * (y1 * y2))) (nC : Nz (1 + DQ * (x2 * x3) * (y2 * y3))) (nD : Nz (1 - DQ * (x2 * x3) * (y2 * y3))) (nu : Nz (1 - DQ * (a * x3) * (b * y3))) (nv : Nz (1 - DQ * (x1 * g) * (y1 * h))) : Cq u v := by
  have key := assoc_y x1 y1 x2 y2 x3 y3 DQ
  unfold On at o1 o2 o3
  have z1 : Cq (y1 * y1 - x1 * x1 - (1 + DQ * (x1 * x1) * (y1 * y1))) 0 := by
    have := o1.sub (Cq.refl (1 + DQ * (x1 * x1) * (y1 * y1)))
    rwa [Int.sub_self] at this
  have z2 : Cq (y2 * y2 - x2 * x2 - (1 + DQ * (x2 * x2) * (y2 * y2))) 0 := by
    have := o2.sub (Cq.refl (1 + DQ * (x2 * x2) * (y2 * y2)))
    rwa [Int.sub_self] at this
  have z3 : Cq (y3 * y3 - x3 * x3 - (1 + DQ * (x3 * x3) * (y3 * y3))) 0 := by
    have := o3.sub (Cq.refl (1 + DQ * (x3 * x3) * (y3 * y3)))
    rwa [Int.sub_self] at this
  generalize (y1 * y1 - x1 * x1 - (1 + DQ * (x1 * x1) * (y1 * y1))) = E1 at *
  generalize (y2 * y2 - x2 * x2 - (1 + DQ * (x2 * x2) * (y2 * y2))) = E2 at *
  generalize (y3 * y3 - x3 * x3 - (1 + DQ * (x3 * x3) * (y3 * y3))) = E3 at *
  generalize DQ = D at *
  have hN : Cq (((y1 * y2 + x1 * x2) * (1 + D * (x1 * x2) * (y1 * y2)) * y3 + (x1 * y2 + x2 * y1) * (1 - D * (x1 * x2) * (y1 * y2)) * x3) * ((1 + D * (x2 * x3) * (y2 * y3)) * (1 - D * (x2 * x3) * (y2 * y3)) - D * (x1 * (x2 * y3 + x3 * y2)) * (y1 * (y2 * y3 + x2 * x3)))) ((y1 * ((y2 * y3 + x2 * x3) * (1 + D * (x2 * x3) * (y2 * y3))) + x1 * ((x2 * y3 + x3 * y2) * (1 - D * (x2 * x3) * (y2 * y3)))) * ((1 + D * (x1 * x2) * (y1 * y2)) * (1 - D * (x1 * x2) * (y1 * y2)) - D * ((x1 * y2 + x2 * y1) * x3) * ((y1 * y2 + x1 * x2) * y3))) := by
    refine (Cq.of key).trans ?_
    have k := fun q1 q2 q3 : Int => (((Cq.refl q1).mul z1).add ((Cq.refl q2).mul z2)).add ((Cq.refl q3).mul z3)
    have k2 := fun w q1 q2 q3 : Int => (Cq.refl w).add (k q1 q2 q3)
    have k3 := k2 ((y1 * ((y2 * y3 + x2 * x3) * (1 + D * (x2 * x3) * (y2 * y3))) + x1 * ((x2 * y3 + x3 * y2) * (1 - D * (x2 * x3) * (y2 * y3)))) * ((1 + D * (x1 * x2) * (y1 * y2)) * (1 - D * (x1 * x2) * (y1 * y2)) - D * ((x1 * y2 + x2 * y1) * x3) * ((y1 * y2 + x1 * x2) * y3))) (y1 * x2 * y2 * y2 * y2 * y2 * x3 * y3 * y3 * D - y1 * x2 * x2 * y2 * y2 * y2 * y3 * D + y1 * x2 * x2 * y2 * y2 * y2 * y3 * y3 * y3 * D - y1 * x2 * x2 * x2 * y2 * y2 * x3 * D - y1 * x2 * x2 * x2 * y2 * y2 * x3 * x3 * x3 * D - y1 * x2 * x2 * x2 * y2 * y2 * y2 * y2 * x3 * y3 * y3 * D * D - y1 * x2 * x2 * x2 * x2 * y2 * x3 * x3 * y3 * D - y1 * x2 * x2 * x2 * x2 * y2 * y2 * y2 * x3 * x3 * y3 * D * D - x1 * x2 * y2 * y2 * y2 * y2 * x3 * x3 * y3 * D - x1 * x2 * x2 * y2 * y2 * y2 * x3 * D - x1 * x2 * x2 * y2 * y2 * y2 * x3 * x3 * x3 * D - x1 * x2 * x2 * x2 * y2 * y2 * y3 * D + x1 * x2 * x2 * x2 * y2 * y2 * y3 * y3 * y3 * D + x1 * x2 * x2 * x2 * y2 * y2 * y2 * y2 * x3 * x3 * y3 * D * D + x1 * x2 * x2 * x2 * x2 * y2 * x3 * y3 * y3 * D + x1 * x2 * x2 * x2 * x2 * y2 * y2 * y2 * x3 * y3 * y3 * D * D) (y1 * y2 * y3 - y1 * y2 * y3 * y3 * y3 + y1 * y2 * x3 * x3 * y3 + y1 * y2 * x3 * x3 * y3 * y3 * y3 * D + y1 * x2 * x3 - y1 * x2 * x3 * y3 * y3 + y1 * x2 * x3 * x3 * x3 + y1 * x2 * x3 * x3 * x3 * y3 * y3 * D + y1 * x2 * y2 * y2 * x3 * y3 * y3 * D + y1 * x2 * x2 * y2 * x3 * x3 * y3 * D - y1 * y1 * y1 * y2 * y3 + y1 * y1 * y1 * y2 * y3 * y3 * y3 - y1 * y1 * y1 * y2 * x3 * x3 * y3 - y1 * y1 * y1 * y2 * x3 * x3 * y3 * y3 * y3 * D - y1 * y1 * y1 * x2 * x3 + y1 * y1 * y1 * x2 * x3 * y3 * y3 - y1 * y1 * y1 * x2 * x3 * x3 * x3 - y1 * y1 * y1 * x2 * x3 * x3 * x3 * y3 * y3 * D - y1 * y1 * y1 * x2 * y2 * y2 * x3 * y3 * y3 * D - y1 * y1 * y1 * x2 * x2 * y2 * x3 * x3 * y3 * D + x1 * y2 * x3 - x1 * y2 * x3 * y3 * y3 + x1 * y2 * x3 * x3 * x3 + x1 * y2 * x3 * x3 * x3 * y3 * y3 * D + x1 * x2 * y3 - x1 * x2 * y3 * y3 * y3 + x1 * x2 * x3 * x3 * y3 + x1 * x2 * x3 * x3 * y3 * y3 * y3 * D - x1 * x2 * y2 * y2 * x3 * x3 * y3 * D - x1 * x2 * x2 * y2 * x3 * y3 * y3 * D - x1 * y1 * y1 * y2 * x3 + x1 * y1 * y1 * y2 * x3 * y3 * y3 - x1 * y1 * y1 * y2 * x3 * x3 * x3 - x1 * y1 * y1 * y2 * x3 * x3 * x3 * y3 * y3 * D - x1 * y1 * y1 * x2 * y3 + x1 * y1 * y1 * x2 * y3 * y3 * y3 - x1 * y1 * y1 * x2 * x3 * x3 * y3 - x1 * y1 * y1 * x2 * x3 * x3 * y3 * y3 * y3 * D + x1 * y1 * y1 * x2 * y2 * y2 * x3 * x3 * y3 * D + x1 * y1 * y1 * x2 * y2 * y2 * x3 * x3 * y3 * y3 * y3 * D * D + x1 * y1 * y1 * x2 * x2 * y2 * x3 * y3 * y3 * D - x1 * y1 * y1 * x2 * x2 * y2 * x3 * x3 * x3 * y3 * y3 * D * D + x1 * x1 * y1 * y2 * y3 - x1 * x1 * y1 * y2 * y3 * y3 * y3 + x1 * x1 * y1 * y2 * x3 * x3 * y3 + x1 * x1 * y1 * y2 * x3 * x3 * y3 * y3 * y3 * D + x1 * x1 * y1 * x2 * x3 - x1 * x1 * y1 * x2 * x3 * y3 * y3 + x1 * x1 * y1 * x2 * x3 * x3 * x3 + x1 * x1 * y1 * x2 * x3 * x3 * x3 * y3 * y3 * D + x1 * x1 * y1 * x2 * y2 * y2 * x3 * y3 * y3 * D - x1 * x1 * y1 * x2 * y2 * y2 * x3 * x3 * x3 * y3 * y3 * D * D + x1 * x1 * y1 * x2 * x2 * y2 * x3 * x3 * y3 * D + x1 * x1 * y1 * x2 * x2 * y2 * x3 * x3 * y3 * y3 * y3 * D * D + x1 * x1 * x1 * y2 * x3 - x1 * x1 * x1 * y2 * x3 * y3 * y3 + x1 * x1 * x1 * y2 * x3 * x3 * x3 + x1 * x1 * x1 * y2 * x3 * x3 * x3 * y3 * y3 * D + x1 * x1 * x1 * x2 * y3 - x1 * x1 * x1 * x2 * y3 * y3 * y3 + x1 * x1 * x1 * x2 * x3 * x3 * y3 + x1 * x1 * x1 * x2 * x3 * x3 * y3 * y3 * y3 * D - x1 * x1 * x1 * x2 * y2 * y2 * x3 * x3 * y3 * D - x1 * x1 * x1 * x2 * x2 * y2 * x3 * y3 * y3 * D) (-y1 * y2 * y3 + y1 * y2 * y2 * y2 * y3 - y1 * x2 * x3 + y1 * x2 * y2 * y2 * x3 - y1 * x2 * x2 * y2 * y3 - y1 * x2 * x2 * x2 * x3 + y1 * y1 * y1 * y2 * y3 - y1 * y1 * y1 * y2 * y2 * y2 * y3 + y1 * y1 * y1 * x2 * x3 - y1 * y1 * y1 * x2 * y2 * y2 * x3 + y1 * y1 * y1 * x2 * x2 * y2 * y3 + y1 * y1 * y1 * x2 * x2 * x2 * x3 - x1 * y2 * x3 + x1 * y2 * y2 * y2 * x3 - x1 * x2 * y3 + x1 * x2 * y2 * y2 * y3 - x1 * x2 * x2 * y2 * x3 - x1 * x2 * x2 * x2 * y3 + x1 * y1 * y1 * y2 * x3 - x1 * y1 * y1 * y2 * y2 * y2 * x3 + x1 * y1 * y1 * x2 * y3 - x1 * y1 * y1 * x2 * y2 * y2 * y3 - x1 * y1 * y1 * x2 * y2 * y2 * y3 * D + x1 * y1 * y1 * x2 * x2 * y2 * x3 + x1 * y1 * y1 * x2 * x2 * y2 * x3 * D + x1 * y1 * y1 * x2 * x2 * x2 * y3 - x1 * x1 * y1 * y2 * y3 + x1 * x1 * y1 * y2 * y2 * y2 * y3 - x1 * x1 * y1 * x2 * x3 + x1 * x1 * y1 * x2 * y2 * y2 * x3 + x1 * x1 * y1 * x2 * y2 * y2 * x3 * D - x1 * x1 * y1 * x2 * x2 * y2 * y3 - x1 * x1 * y1 * x2 * x2 * y2 * y3 * D - x1 * x1 * y1 * x2 * x2 * x2 * x3 - x1 * x1 * x1 * y2 * x3 + x1 * x1 * x1 * y2 * y2 * y2 * x3 - x1 * x1 * x1 * x2 * y3 + x1 * x1 * x1 * x2 * y2 * y2 * y3 - x1 * x1 * x1 * x2 * x2 * y2 * x3 - x1 * x1 * x1 * x2 * x2 * x2 * y3)
    rwa [Int.mul_zero, Int.mul_zero, Int.mul_zero, Int.add_zero, Int.add_zero, Int.add_zero] at k3
  clear key z1 z2 z3 o1 o2 o3
  generalize (1 + D * (x1 * x2) * (y1 * y2)) = A at *
  generalize (1 - D * (x1 * x2) * (y1 * y2)) = B at *
  generalize (1 + D * (x2 * x3) * (y2 * y3)) = C at *
  generalize (1 - D * (x2 * x3) * (y2 * y3)) = Dd at *
  generalize (x1 * y2 + x2 * y1) = X12 at *
  generalize (y1 * y2 + x1 * x2) = Y12 at *
  generalize (x2 * y3 + x3 * y2) = X23 at *
  generalize (y2 * y3 + x2 * x3) = Y23 at *
  have hM : Cq ((1 - D * (a * x3) * (b * y3)) * (A * B)) (A * B - D * (X12 * x3) * (Y12 * y3)) := by
    have := (Cq.refl (A * B)).sub (((Cq.refl D).mul (ha.mul (Cq.refl x3))).mul (hb.mul (Cq.refl y3)))
    rwa [show A * B - D * (a * A * x3) * (b * B * y3) = (1 - D * (a * x3) * (b * y3)) * (A * B) by grind] at this
  have hM' : Cq ((1 - D * (x1 * g) * (y1 * h)) * (C * Dd)) (C * Dd - D * (x1 * X23) * (y1 * Y23)) := by
    have := (Cq.refl (C * Dd)).sub (((Cq.refl D).mul ((Cq.refl x1).mul hg)).mul ((Cq.refl y1).mul hh))
    rwa [show C * Dd - D * (x1 * (g * C)) * (y1 * (h * Dd)) = (1 - D * (x1 * g) * (y1 * h)) * (C * Dd) by grind] at this
  have k1 : Cq ((b * y3 + a * x3) * (A * B)) (Y12 * A * y3 + X12 * B * x3) := by
    have := (((hb.mul (Cq.refl A)).mul (Cq.refl y3)).add ((ha.mul (Cq.refl B)).mul (Cq.refl x3)))
    rwa [show b * B * A * y3 + a * A * B * x3 = (b * y3 + a * x3) * (A * B) by grind] at this
  have k2 : Cq ((y1 * h + x1 * g) * (C * Dd)) (y1 * (Y23 * C) + x1 * (X23 * Dd)) := by
    have := (((Cq.refl y1).mul (hh.mul (Cq.refl C))).add ((Cq.refl x1).mul (hg.mul (Cq.refl Dd))))
    rwa [show y1 * (h * Dd * C) + x1 * (g * C * Dd) = (y1 * h + x1 * g) * (C * Dd) by grind] at this
  have nM := (nu.mul (nA.mul nB)).cong hM
  have nM' := (nv.mul (nC.mul nD)).cong hM'
  generalize (A * B - D * (X12 * x3) * (Y12 * y3)) = M at *
  generalize (C * Dd - D * (x1 * X23) * (y1 * Y23)) = M' at *
  generalize (Y12 * A * y3 + X12 * B * x3) = N at *
  generalize (y1 * (Y23 * C) + x1 * (X23 * Dd)) = N' at *
  generalize 1 - D * (a * x3) * (b * y3) = e at *
  generalize 1 - D * (x1 * g) * (y1 * h) = e' at *
  generalize b * y3 + a * x3 = r at *
  generalize y1 * h + x1 * g = r' at *
  have j1 : Cq (u * M) N := by
    refine (((Cq.refl u).mul hM).symm.trans (Cq.of (show u * (e * (A * B)) = u * e * (A * B) by grind))).trans ?_
    exact (hu.mul (Cq.refl (A * B))).trans k1
  have j2 : Cq (v * M') N' := by
    refine (((Cq.refl v).mul hM').symm.trans (Cq.of (show v * (e' * (C * Dd)) = v * e' * (C * Dd) by grind))).trans ?_
    exact (hv.mul (Cq.refl (C * Dd))).trans k2
  refine Cq.cancel (nM.mul nM') ?_
  have w1 := (j1.mul (Cq.refl M')).trans (hN.trans (j2.mul (Cq.refl M)).symm)
  rwa [show u * M * M' = u * (M * M') by grind, show v * M' * M = v * (M * M') by grind] at w1
end Go.Fld
set_option linter.unusedVariables false
set_option maxRecDepth 100000
namespace Go.Proofs.Ytibldmjnddppaaa.Fld
open Go Go.Sim Go.Fld

theorem a_assoc {x1 y1 x2 y2 x3 y3 : Int} (o1 : On x1 y1) (o2 : On x2 y2) (o3 : On x3 y3) :
    Cq (aX (aX x1 y1 x2 y2) (aY x1 y1 x2 y2) x3 y3) (aX x1 y1 (aX x2 y2 x3 y3) (aY x2 y2 x3 y3)) ∧
    Cq (aY (aX x1 y1 x2 y2) (aY x1 y1 x2 y2) x3 y3) (aY x1 y1 (aX x2 y2 x3 y3) (aY x2 y2 x3 y3)) := by
  have o12 := a_on o1 o2
  have o23 := a_on o2 o3
  have ha := aX_at o1 o2
  have hb := aY_at o1 o2
  have hg := aX_at o2 o3
  have hh := aY_at o2 o3
  have hu := aX_at o12 o3
  have hw := aY_at o12 o3
  have hv := aX_at o1 o23
  have hz := aY_at o1 o23
  obtain ⟨nA, nB⟩ := dens o1 o2
  obtain ⟨nC, nD⟩ := dens o2 o3
  obtain ⟨n1, n2⟩ := dens o12 o3
  obtain ⟨n3, n4⟩ := dens o1 o23
  unfold eA at *
  generalize aX (aX x1 y1 x2 y2) (aY x1 y1 x2 y2) x3 y3 = u at *
  generalize aY (aX x1 y1 x2 y2) (aY x1 y1 x2 y2) x3 y3 = w at *
  generalize aX x1 y1 (aX x2 y2 x3 y3) (aY x2 y2 x3 y3) = v at *
  generalize aY x1 y1 (aX x2 y2 x3 y3) (aY x2 y2 x3 y3) = z at *
  generalize aX x1 y1 x2 y2 = a at *
  generalize aY x1 y1 x2 y2 = b at *
  generalize aX x2 y2 x3 y3 = g at *
  generalize aY x2 y2 x3 y3 = h at *
  exact ⟨assoc_x' o1 o2 o3 ha hb hg hh hu hv nA nB nC nD n1 n3, assoc_y' o1 o2 o3 ha hb hg hh hw hz nA nB nC nD n2 n4⟩
theorem a_comm (x1 y1 x2 y2 : Int) : aX x1 y1 x2 y2 = aX x2 y2 x1 y1 ∧ aY x1 y1 x2 y2 = aY x2 y2 x1 y1 := by
  unfold aX aY eA
  rw [Int.mul_comm x2 x1, Int.mul_comm y2 y1, Int.add_comm (x2 * y1)]
  exact ⟨rfl, rfl⟩
/-- alike -/
theorem a_cong {x1 y1 x2 y2 a1 b1 a2 b2 : Int} (o1 : On x1 y1) (o2 : On x2 y2) (p1 : On a1 b1) (p2 : On a2 b2) (hx : Cq x1 a1) (hy : Cq y1 b1) (hx2 : Cq x2 a2) (hy2 : Cq y2 b2) :
    Cq (aX x1 y1 x2 y2) (aX a1 b1 a2 b2) ∧ Cq (aY x1 y1 x2 y2) (aY a1 b1 a2 b2) := by
  have e : Cq (eA x1 y1 x2 y2) (eA a1 b1 a2 b2) := ((Cq.refl DQ).mul (hx.mul hx2)).mul (hy.mul hy2)
  obtain ⟨n1, n2⟩ := dens p1 p2
  have u1 := aX_at o1 o2
  have u2 := aX_at p1 p2
  have w1 := aY_at o1 o2
  have w2 := aY_at p1 p2
  change Nz (1 + eA a1 b1 a2 b2) at n1
  change Nz (1 - eA a1 b1 a2 b2) at n2
  refine ⟨Cq.cancel n1 ?_, Cq.cancel n2 ?_⟩
  · refine (((Cq.refl _).mul ((Cq.refl 1).add e)).symm.trans u1).trans (Cq.trans ?_ u2.symm)
    exact (hx.mul hy2).add (hx2.mul hy)
  · refine (((Cq.refl _).mul ((Cq.refl 1).sub e)).symm.trans w1).trans (Cq.trans ?_ w2.symm)
    exact (hy.mul hy2).add (hx.mul hx2)
theorem a_zero {x y : Int} (o : On x y) : Cq (aX x y 0 1) x ∧ Cq (aY x y 0 1) y := by
  have h1 := aX_at o on_no
  have h2 := aY_at o on_no
  unfold eA at h1 h2
  rw [Int.mul_zero, Int.mul_zero, Int.zero_mul] at h1 h2
  rw [show x * 1 + 0 * y = x by omega] at h1
  simp only [Int.add_zero, Int.sub_zero, Int.mul_one] at h1 h2
  exact ⟨h1, h2⟩
theorem on_turn {x y : Int} (o : On x y) : On (0 - x) y := by
  unfold On at *
  rwa [show (0 - x) * (0 - x) = x * x by grind]
theorem a_turn {x y : Int} (o : On x y) : Cq (aX x y (0 - x) y) 0 ∧ Cq (aY x y (0 - x) y) 1 := by
  have h1 := aX_at o (on_turn o)
  have h2 := aY_at o (on_turn o)
  obtain ⟨n1, n2⟩ := dens o (on_turn o)
  change Nz (1 + eA x y (0 - x) y) at n1
  change Nz (1 - eA x y (0 - x) y) at n2
  refine ⟨Cq.cancel n1 (h1.trans (Cq.of ?_)), Cq.cancel n2 (h2.trans ?_)⟩
  · rw [Int.zero_mul]; grind
  · unfold On at o
    unfold eA
    rw [show y * y + x * (0 - x) = y * y - x * x by grind, show 1 * (1 - DQ * (x * (0 - x)) * (y * y)) = 1 + DQ * (x * x) * (y * y) by generalize DQ = D; grind]
    exact o
end Go.Proofs.Ytibldmjnddppaaa.Fld
set_option linter.unusedVariables false
set_option maxRecDepth 100000
namespace Go.Proofs.Ytibldmjnddppaaa.Fld
open Go Go.Sim Go.Fld
abbrev Pt := Int × Int
def ad (q r : Pt) : Pt := (aX q.1 q.2 r.1 r.2, aY q.1 q.2 r.1 r.2)
def OnP (q : Pt) : Prop := On q.1 q.2
def PE (q r : Pt) : Prop := Cq q.1 r.1 ∧ Cq q.2 r.2
theorem PE.refl (q : Pt) : PE q q := ⟨Cq.refl _, Cq.refl _⟩
theorem PE.symm {q r : Pt} (h : PE q r) : PE r q := ⟨h.1.symm, h.2.symm⟩
theorem PE.trans {q r s : Pt} (h : PE q r) (k : PE r s) : PE q s := ⟨h.1.trans k.1, h.2.trans k.2⟩
theorem OnP.ad {q r : Pt} (h : OnP q) (k : OnP r) : OnP (ad q r) := a_on h k
theorem ad_cong {q r s t : Pt} (h1 : OnP q) (h2 : OnP r) (h3 : OnP s) (h4 : OnP t) (e1 : PE q s) (e2 : PE r t) : PE (ad q r) (ad s t) := a_cong h1 h2 h3 h4 e1.1 e1.2 e2.1 e2.2
theorem ad_assoc {q r s : Pt} (h1 : OnP q) (h2 : OnP r) (h3 : OnP s) : PE (ad (ad q r) s) (ad q (ad r s)) := a_assoc h1 h2 h3
theorem ad_comm (q r : Pt) : ad q r = ad r q := by
  have := a_comm q.1 q.2 r.1 r.2
  unfold ad
  rw [this.1, this.2]
def o0 : Pt := (0, 1)
theorem on_o0 : OnP o0 := on_no
theorem ad_zero {q : Pt} (h : OnP q) : PE (ad q o0) q := a_zero h
theorem zero_ad {q : Pt} (h : OnP q) : PE (ad o0 q) q := by rw [ad_comm]; exact ad_zero h
def nt (q : Pt) : Nat → Pt
  | 0 => o0
  | n + 1 => ad (nt q n) q
theorem OnP.nt {q : Pt} (h : OnP q) : ∀ n, OnP (nt q n)
  | 0 => on_o0
  | n + 1 => (OnP.nt h n).ad h
theorem nt_add {q : Pt} (h : OnP q) (m : Nat) : ∀ n, PE (nt q (m + n)) (ad (nt q m) (nt q n))
  | 0 => (ad_zero (h.nt m)).symm
  | n + 1 => by
    show PE (ad (nt q (m + n)) q) (ad (nt q m) (ad (nt q n) q))
    exact (ad_cong (h.nt _) h ((h.nt m).ad (h.nt n)) h (nt_add h m n) (PE.refl q)).trans (ad_assoc (h.nt m) (h.nt n) h)
theorem nt_cong {q r : Pt} (h : OnP q) (k : OnP r) (e : PE q r) : ∀ n, PE (nt q n) (nt r n)
  | 0 => PE.refl _
  | n + 1 => ad_cong (h.nt n) h (k.nt n) k (nt_cong h k e n) e
theorem nt_mul {q : Pt} (h : OnP q) (m : Nat) : ∀ n, PE (nt q (m * n)) (nt (nt q m) n)
  | 0 => PE.refl _
  | n + 1 => by
    rw [Nat.mul_succ]
    exact (nt_add h (m * n) m).trans (ad_cong (h.nt _) (h.nt m) ((h.nt m).nt n) (h.nt m) (nt_mul h m n) (PE.refl _))
/-- the number that the bits are -/
def bitsN (k : List Int) : Nat → Nat → Nat
  | 0, a => a
  | n + 1, a => bitsN k n (a + a + (bif bitK k n then 1 else 0))
theorem times_nt {k : List Int} {q : Pt} (h : OnP q) : ∀ (n : Nat) (a : Nat) (r : Pt), OnP r → PE r (nt q a) → PE (timesA k q.1 q.2 n r) (nt q (bitsN k n a)) ∧ OnP (timesA k q.1 q.2 n r)
  | 0, a, r, hr, e => ⟨e, hr⟩
  | n + 1, a, r, hr, e => by
    have h2 : PE (ad r r) (nt q (a + a)) := (ad_cong hr hr (h.nt a) (h.nt a) e e).trans (nt_add h a a).symm
    simp only [timesA, bitsN]
    cases bitK k n with
    | false => exact times_nt h n (a + a + 0) (ad r r) (hr.ad hr) h2
    | true => exact times_nt h n (a + a + 1) (ad (ad r r) q) ((hr.ad hr).ad h) (ad_cong (hr.ad hr) h (h.nt _) h h2 (PE.refl q))
end Go.Proofs.Ytibldmjnddppaaa.Fld
set_option maxRecDepth 100000
namespace Go.Proofs.Ytibldmjnddppaaa.Fld
open Go Go.Sim Go.Fld
def LL : List Int := [0xed, 0xd3, 0xf5, 0x5c, 0x1a, 0x63, 0x12, 0x58, 0xd6, 0x9c, 0xf7, 0xa2, 0xde, 0xf9, 0xde, 0x14, 0, 0, 0, 0, 0, 0, 0, 0, 0, 0, 0, 0, 0, 0, 0, 0x10]
theorem ordL : encM (timesM LL baseM 256 noM) = dg32 1 := by decide +kernel
end Go.Proofs.Ytibldmjnddppaaa.Fld
set_option linter.unusedVariables false
set_option maxRecDepth 100000
namespace Go.Proofs.Ytibldmjnddppaaa.Fld
open Go Go.Sim
open Go.Proofs Go.Fld

/-! ### 7: towpath/towpathlaw4.PointNothing (pure) -/
noncomputable def env7 : List (FuncId × Entry) := [(8, .pure C8.sem), (9, .pure C9.sem), (10, .pure C10.sem), (12, .pure C12.sem), (14, .pure C14.sem), (16, .pure C16.sem), (18, .pure C18.sem)]
theorem envOk7 : EnvOk Try.prog (envOf env7) := envOf_ok (all_cons cok8 (all_cons cok9 (all_cons cok10 (all_cons cok12 (all_cons cok14 (all_cons cok16 (all_cons cok18 (all_nil))))))))
noncomputable def raw7 (a0 : List Int) : Option (List Hv) := let x1 : List Int := encM (timesM (a0) baseM 256 noM); let x2 : List Int := [1, 0, 0, 0, 0, 0, 0, 0, 0, 0, 0, 0, 0, 0, 0, 0, 0, 0, 0, 0, 0, 0, 0, 0, 0, 0, 0, 0, 0, 0, 0, 0]; bif okM (x1) && okM (x2) then (bif okM (x1) then (let x3 : List Int := if okM (x1) then negM (x1) else dg32 0; bif okM (x1) && okM (x3) then (bif okM (x3) then (bif okM (x1) then (bif arrEq 32 (if okM (x1) && okM (x2) then encM (sumM (pM (x1)) (pM (x2))) else dg32 0) (x1) then (bif arrEq 32 (if okM (x1) && okM (x3) then encM (sumM (pM (x1)) (pM (x3))) else dg32 0) ([1, 0, 0, 0, 0, 0, 0, 0, 0, 0, 0, 0, 0, 0, 0, 0, 0, 0, 0, 0, 0, 0, 0, 0, 0, 0, 0, 0, 0, 0, 0, 0]) then (bif arrEq 32 (if okM (x3) then negM (x3) else dg32 0) (x1) then (bif arrEq 32 (if okM (x1) then encM (timesM ([237, 211, 245, 92, 26, 99, 18, 88, 214, 156, 247, 162, 222, 249, 222, 20, 0, 0, 0, 0, 0, 0, 0, 0, 0, 0, 0, 0, 0, 0, 0, 16]) (pM (x1)) 256 noM) else dg32 0) ([1, 0, 0, 0, 0, 0, 0, 0, 0, 0, 0, 0, 0, 0, 0, 0, 0, 0, 0, 0, 0, 0, 0, 0, 0, 0, 0, 0, 0, 0, 0, 0]) then (bif okM (x1) then (some [.b (okR (x3))]) else (some [.b (false)])) else (some [.b (false)])) else (some [.b (false)])) else (some [.b (false)])) else (some [.b (false)])) else (some [.b (false)])) else (some [.b (false)])) else (some [.b (false)])) else (some [.b (false)])) else (some [.b (false)])
theorem l7 : LamOk Try.prog (lamOf []) (codeOf Try.f7) := lamOk_nil
theorem ev7 (a0 : List Int) : evalF Try.prog (envOf env7) (lamOf []) 70 Try.f7 (codeOf Try.f7) [.arr .u8 32 a0] [] 0 (fun v _ => matchP .bool v) = raw7 a0 := by kernel_rfl
end Go.Proofs.Ytibldmjnddppaaa.Fld
set_option linter.unusedVariables false
set_option maxRecDepth 100000
namespace Go.Proofs.Ytibldmjnddppaaa.Fld
open Go Go.Sim Go.Fld
theorem sq_pm {a b : Int} (h : Cq (a * a) (b * b)) : Cq a b ∨ Cq a (0 - b) := by
  have : (a - b) * (a + b) % p = 0 := by
    have := h.sub (Cq.refl (b * b))
    rw [Int.sub_self, show a * a - b * b = (a - b) * (a + b) by grind] at this
    exact this
  rcases no_zero_div this with k | k
  · left
    have := (show Cq (a - b) 0 from k).add (Cq.refl b)
    rwa [show a - b + b = a by omega, Int.zero_add] at this
  · right
    have := (show Cq (a + b) 0 from k).sub (Cq.refl b)
    rwa [show a + b - b = a by omega] at this
/-- which of the two -/
theorem pick {x E : Int} (hE : 0 ≤ E ∧ E < p) (he : E % 2 = 0) (hx : Cq x E ∨ Cq x (0 - E)) : (x % p % 2 = 1 → Cq x (0 - E)) ∧ (x % p % 2 ≠ 1 → Cq x E) := by
  unfold Cq at *
  have e1 : E % p = E := Int.emod_eq_of_lt hE.1 hE.2
  have e2 : (0 - E) % p = if E = 0 then 0 else p - E := by
    split
    · rename_i h; rw [h]; rfl
    · rename_i h
      have : (0 - E) % p = (p - E) % p := by rw [show p - E = 0 - E + p by omega, Int.add_emod_right]
      rw [this]
      exact Int.emod_eq_of_lt (by omega) (by omega)
  rw [e1, e2] at hx ⊢
  clear e1 e2
  have hp : p % 2 = 1 := by decide
  generalize p = P at *
  split at hx <;> constructor <;> intro h <;> rcases hx with k | k <;> (try split) <;> omega
theorem dec_enc {x y : Int} (o : On x y) : Cq (xM (encL x y)) x ∧ Cq (yV (encL x y)) y := by
  have hok := enc_ok o
  have hl := encL_in x y
  have hd := dec_on hl.1 hl.2 hok
  obtain ⟨e1, e2⟩ := enc_y x y
  have hyc : Cq (y % p) y := Int.emod_emod _ _
  have hy := modp_Q y
  have hX := xxM_rep hy
  have o' : On x (y % p) := by
    have h2 := hyc.symm.mul hyc.symm
    unfold On at *
    exact ((h2.sub (Cq.refl _)).symm.trans o).trans ((Cq.refl 1).add ((Cq.refl _).mul h2))
  have hs := (on_iff (q_of hX.cg)).2 o'
  rw [e1] at hd
  have hs2 := (on_iff (q_of hX.cg)).2 hd
  have hE := xEv_Q (xxM (y % p))
  have hpm := sq_pm (hs.trans hs2.symm)
  have hEp : 0 ≤ xEv (xxM (y % p)) ∧ xEv (xxM (y % p)) < p ∧ xEv (xxM (y % p)) % 2 = 0 := by
    unfold xEv
    split
    · exact ⟨(evenP_in _).1, (evenP_in _).2, even_even _⟩
    · decide
  have hdm := q_of (dM_rep rep0 (rep_self hE)).cg
  refine ⟨?_, by rw [e1]; exact hyc⟩
  unfold xM at hpm ⊢
  rw [e1, e2] at hpm ⊢
  generalize xEv (xxM (y % p)) = E at *
  by_cases hx : x % p % 2 = 1
  · rw [decide_eq_true hx, if_pos rfl] at hpm ⊢
    have hpm' : Cq x E ∨ Cq x (0 - E) := by
      rcases hpm with k | k
      · exact Or.inr (k.trans hdm)
      · left
        have := k.trans ((Cq.refl 0).sub hdm)
        rwa [show 0 - (0 - E) = E by omega] at this
    exact hdm.trans ((pick ⟨hEp.1, hEp.2.1⟩ hEp.2.2 hpm').1 hx).symm
  · rw [decide_eq_false hx, if_neg (by decide)] at hpm ⊢
    exact ((pick ⟨hEp.1, hEp.2.1⟩ hEp.2.2 hpm).2 hx).symm
end Go.Proofs.Ytibldmjnddppaaa.Fld
set_option linter.unusedVariables false
set_option maxRecDepth 100000
namespace Go.Proofs.Ytibldmjnddppaaa.Fld
open Go Go.Sim Go.Fld
/-- AffM of what bytes say, at any alike numbers -/
theorem pM_aff {b : List Int} (hb : b.length = 32) (rb : ∀ y ∈ b, 0 ≤ y ∧ y < 256) : AffM (pM b) (xM b) (yV b) :=
  ⟨_, pM_rep hb rb, ⟨Cq.of (Int.mul_one _).symm, Cq.of (Int.mul_one _).symm, Cq.of (Int.mul_one _).symm, one_nz⟩⟩
theorem AffM.to {P : M4} {x y x' y' : Int} (h : AffM P x y) (hx : Cq x x') (hy : Cq y y') : AffM P x' y' := by
  obtain ⟨e, h1, h2⟩ := h
  exact ⟨e, h1, h2.X.trans (hx.mul (Cq.refl _)), h2.Y.trans (hy.mul (Cq.refl _)), h2.T.trans ((hx.mul hy).mul (Cq.refl _)), h2.Z⟩
theorem aff_enc {x y : Int} (o : On x y) : AffM (pM (encL x y)) x y := (pM_aff (encL_in x y).1 (encL_in x y).2).to (dec_enc o).1 (dec_enc o).2
theorem sum_enc {x y u v : Int} (o : On x y) (o' : On u v) : encM (sumM (pM (encL x y)) (pM (encL u v))) = encL (aX x y u v) (aY x y u v) := enc_M ((aff_enc o).sum (aff_enc o') o o')
theorem neg_enc {x y : Int} (o : On x y) : negM (encL x y) = encL (0 - x) y := by
  have d := dec_enc o
  have hx := rep_self (xM_in (encL x y))
  have hy := rep_self (yV_in (encL_in x y).1 (encL_in x y).2)
  have o1 := ov_rep rep1
  unfold negM
  refine encL_cong ?_ ?_
  · have h1 := (pr_rep (dM_rep rep0 hx) o1).cg.trans ((Cg.refl (0 - xM (encL x y))).mul ov_one)
    rw [Int.mul_one] at h1
    exact h1.trans (g_of ((Cq.refl 0).sub d.1))
  · have h1 := (pr_rep hy o1).cg.trans ((Cg.refl (yV (encL x y))).mul ov_one)
    rw [Int.mul_one] at h1
    exact h1.trans (g_of d.2)
theorem times_enc {x y : Int} (o : On x y) (k : List Int) : encM (timesM k (pM (encL x y)) 256 noM) = encL (timesA k x y 256 (0, 1)).1 (timesA k x y 256 (0, 1)).2 := enc_M (times_M (aff_enc o) o 256 (0, 1) noM no_M on_no)
theorem encP {q r : Pt} (h : PE q r) : encL q.1 q.2 = encL r.1 r.2 := encL_cong (g_of h.1) (g_of h.2)
theorem enc_inj {x y u v : Int} (o : On x y) (o' : On u v) (h : encL x y = encL u v) : Cq x u ∧ Cq y v := by
  have d := dec_enc o
  rw [h] at d
  have d' := dec_enc o'
  exact ⟨d.1.symm.trans d'.1, d.2.symm.trans d'.2⟩
def oB : List Int := [1, 0, 0, 0, 0, 0, 0, 0, 0, 0, 0, 0, 0, 0, 0, 0, 0, 0, 0, 0, 0, 0, 0, 0, 0, 0, 0, 0, 0, 0, 0, 0]
theorem oB_is : oB = encL 0 1 := by decide +kernel
abbrev baseP : Pt := (BX, BY)
theorem base_nt (k : List Int) : PE (timesA k BX BY 256 (0, 1)) (nt baseP (bitsN k 256 0)) ∧ OnP (timesA k BX BY 256 (0, 1)) := times_nt (q := baseP) on_base 256 0 (0, 1) on_no (PE.refl _)
theorem base_enc (k : List Int) : encM (timesM k baseM 256 noM) = encL (timesA k BX BY 256 (0, 1)).1 (timesA k BX BY 256 (0, 1)).2 := enc_M (times_M base_M on_base 256 (0, 1) noM no_M on_no)
/-- the order -/
theorem ord_nt : PE (nt baseP (bitsN LL 256 0)) o0 := by
  have h := base_nt LL
  have e := base_enc LL
  rw [ordL, show dg32 1 = encL 0 1 by decide +kernel] at e
  exact h.1.symm.trans (enc_inj h.2 on_no e.symm)
theorem nt_o0 : ∀ n, PE (nt o0 n) o0
  | 0 => PE.refl _
  | n + 1 => (ad_cong (on_o0.nt n) on_o0 on_o0 on_o0 (nt_o0 n) (PE.refl _)).trans (ad_zero on_o0)
theorem L_times (k : List Int) {q : Pt} (oq : OnP q) (hq : PE q (nt baseP (bitsN k 256 0))) : PE (timesA LL q.1 q.2 256 (0, 1)) o0 := by
  have hb : OnP baseP := on_base
  have h := times_nt (k := LL) oq 256 0 (0, 1) on_no (PE.refl _)
  refine h.1.trans ((nt_cong oq (hb.nt _) hq _).trans ?_)
  generalize bitsN k 256 0 = m
  have hL := ord_nt
  generalize bitsN LL 256 0 = l at *
  refine (nt_mul hb m l).symm.trans ?_
  rw [Nat.mul_comm]
  exact (nt_mul hb l m).trans ((nt_cong (hb.nt l) on_o0 hL m).trans (nt_o0 m))
theorem law7 (a : List Int) (w0 : a.length = 32) (r0 : ∀ y ∈ a, inK .u8 y) : raw7 a = some [.b true] := by
  unfold raw7
  rw [base_enc]
  obtain ⟨h1, h2⟩ := base_nt a
  have hL := L_times a h2 h1
  generalize timesA a BX BY 256 (0, 1) = q at *
  have o : On q.1 q.2 := h2
  have ot := on_turn o
  dsimp only
  rw [show ([1, 0, 0, 0, 0, 0, 0, 0, 0, 0, 0, 0, 0, 0, 0, 0, 0, 0, 0, 0, 0, 0, 0, 0, 0, 0, 0, 0, 0, 0, 0, 0] : List Int) = encL 0 1 from oB_is, show ([237, 211, 245, 92, 26, 99, 18, 88, 214, 156, 247, 162, 222, 249, 222, 20, 0, 0, 0, 0, 0, 0, 0, 0, 0, 0, 0, 0, 0, 0, 0, 16] : List Int) = LL from rfl]
  have k1 := enc_ok o
  have k2 := enc_ok on_no
  have k3 := enc_ok ot
  rw [k1, k2, if_pos rfl, neg_enc o, k3, Bool.and_self, cond_true, cond_true, cond_true, cond_true, cond_true, if_pos rfl, if_pos rfl, if_pos rfl, if_pos rfl, sum_enc o on_no, sum_enc o ot, neg_enc ot, times_enc o,
    encL_cong (g_of (a_zero o).1) (g_of (a_zero o).2), encL_cong (g_of (a_turn o).1) (g_of (a_turn o).2), encP hL, show 0 - (0 - q.1) = q.1 by omega]
  rw [show encL o0.1 o0.2 = encL 0 1 from rfl, arrEq_self, arrEq_self, cond_true, cond_true, cond_true, cond_true, cond_true, ← ok_same (encL_in _ _).1 (encL_in _ _).2, k3]
end Go.Proofs.Ytibldmjnddppaaa.Fld
