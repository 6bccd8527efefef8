/- The other reckoning with wider limbs: differences, powers. The other reckoning's inverse with wider limbs. Points: constants, what is narrowed, written. -/
import Derived.Test.YtibldmjnddppaaaProg
import Derived.Test.YtibldmjnddppaaaSimX2
import Derived.Test.YtibldmjnddppaaaPfdX4
set_option linter.unusedVariables false
set_option maxRecDepth 100000
namespace Go.Proofs.Ytibldmjnddppaaa.Fld.W
open Go Go.Sim
open Go.Proofs Go.Fld

/-! ### 69: towpath/towpathref1.power (pure) -/
noncomputable def env69 : List (FuncId × Entry) := [(46, .pure C46w.sem), (48, .pure C48w.sem)]
theorem envOk69 : EnvOk Try.prog (envOf env69) := envOf_ok (all_cons cok46w (all_cons cok48w (all_nil)))
def h69_0 : Tpl := ⟨[none, none, none, some (.ptr 0 []), none, none, some (.ptr 1 []), some (.int .u64), some (.ptr 2 []), some (.int .i64), none, none, none, none, none, none, none, none, none, none, none, none, none, none, none, none, none, none, none, none, none, none, none, none, none], [some (.arr .u64 16), some (.arr .u64 16), some (.arr .u64 16)], 3⟩
def e69_0 : Tpl := ⟨[none, none, none, none, none, none, some (.ptr 1 []), none, some (.ptr 2 []), none, none, none, none, none, none, none, none, none, none, none, none, none, none, none, none, none, none, none, none, none, none, none, none, none, none], [none, some (.arr .u64 16), some (.arr .u64 16)], 3⟩
def t69_0 (z0 : Int) (z1 : Int) (z2 : List Int) (z3 : List Int) (z4 : List Int) : Option (Sum (List Hv) (Bool × List Hv)) := bif decide ((z1) ≥ (0)) then (bif lim18 (z4) && lim18 (z4) then (bif decide ((z1) ≥ (6)) then (let x1 : List Int := dg16 (fo (fo (v16 (convL (z4) (z4))))); bif lim18 (x1) && lim18 (z2) then (some (.inl [.i (z0), .i (wr .i64 ((z1) - (1))), .l (z2), .l (z3), .l (dg16 (fo (fo (v16 (convL (x1) (z2))))))])) else none) else (bif decide ((z1) < 0) then none else (bif (andI .u64 ((z0) / (2 ^ (min (z1).toNat 64))) (1)) == (1) then (let x2 : List Int := dg16 (fo (fo (v16 (convL (z4) (z4))))); bif lim18 (x2) && lim18 (z2) then (some (.inl [.i (z0), .i (wr .i64 ((z1) - (1))), .l (z2), .l (z3), .l (dg16 (fo (fo (v16 (convL (x2) (z2))))))])) else none) else (let x3 : List Int := dg16 (fo (fo (v16 (convL (z4) (z4))))); some (.inl [.i (z0), .i (wr .i64 ((z1) - (1))), .l (z2), .l (z3), .l (x3)]))))) else none) else (some (.inr (false, [.l (z3), .l (z4)])))
def g69_0 : StepG := apH [.i, .i, .l, .l, .l] t69_0
theorem g69_0_at (z0 : Int) (z1 : Int) (z2 : List Int) (z3 : List Int) (z4 : List Int) : g69_0 [.i z0, .i z1, .l z2, .l z3, .l z4] = t69_0 z0 z1 z2 z3 z4 := (congrFun (show g69_0 = apH [.i, .i, .l, .l, .l] t69_0 from rfl) _).trans ((fun F => rfl : ∀ F : Int → Int → List Int → List Int → List Int → Option (Sum (List Hv) (Bool × List Hv)), apH [.i, .i, .l, .l, .l] F [.i z0, .i z1, .l z2, .l z3, .l z4] = F z0 z1 z2 z3 z4) t69_0)
theorem l69_0 : LamOk Try.prog (lamOf []) (codeOf Try.f69) := lamOk_nil
theorem b69_0 : BlkSound Try.prog 0 (blkOf (codeOf Try.f69) 0) (loopE h69_0 e69_0 g69_0) := loopE_at (u := 70) envOk69 mix 0 (by kernel_rfl) l69_0 (ks := [.i, .i, .l, .l, .l]) (t := t69_0) (fun _ => rfl) (fun _ => rfl) (fun z0 z1 z2 z3 z4 => by show _ = _; kernel_rfl)
def raw69 (a0 : List Int) (a1 : Int) (a2 : Int) : Option (List Hv) := (loopN g69_0 bigN [.i (wr .u64 ((64) - (a2))), .i (wr .i64 ((a1) - (1))), .l (a0), .l (List.replicate 16 0), .l ([1, 0, 0, 0, 0, 0, 0, 0, 0, 0, 0, 0, 0, 0, 0, 0])]).bind fun r1 => bif r1.1 then none else (some [.l (hl r1.2 1)])
theorem l69 : LamOk Try.prog (lamOf [(0, loopE h69_0 e69_0 g69_0)]) (codeOf Try.f69) := lamOk_of (by kernel_rfl) (blk_cons b69_0 (blk_nil))
def G69 : GFn := ⟨[.arr .u64 16, .int .i64, .int .u64], .arr .u64 16, apH [.l, .i, .i] raw69⟩
theorem ok69 : EntryOk Try.prog 69 (.pure G69.sem) := gfn_pure (u := 70) envOk69 mix Try.func69 (by kernel_rfl) (by kernel_rfl) l69 G69 (by kernel_rfl) (by kernel_rfl) [.l, .i, .i] rfl (fun a0 a1 a2 => by show _ = _; kernel_rfl)
theorem at69 (a0 : List Int) (a1 : Int) (a2 : Int) : G69.fn [.l a0, .i a1, .i a2] = raw69 a0 a1 a2 := (congrFun (show G69.fn = apH [.l, .i, .i] raw69 from rfl) _).trans ((fun F => rfl : ∀ F : List Int → Int → Int → Option (List Hv), apH [.l, .i, .i] F [.l a0, .i a1, .i a2] = F a0 a1 a2) raw69)
end Go.Proofs.Ytibldmjnddppaaa.Fld.W
set_option linter.unusedVariables false
set_option maxRecDepth 100000
namespace Go.Proofs.Ytibldmjnddppaaa.Fld
open Go Go.Sim Go.Fld

theorem rsubw {a0 a1 a2 a3 a4 a5 a6 a7 a8 a9 a10 a11 a12 a13 a14 a15 b0 b1 b2 b3 b4 b5 b6 b7 b8 b9 b10 b11 b12 b13 b14 b15 : Int} (h0 : 0 ≤ a0 ∧ a0 < 65536) (h1 : 0 ≤ a1 ∧ a1 < 65536) (h2 : 0 ≤ a2 ∧ a2 < 65536) (h3 : 0 ≤ a3 ∧ a3 < 65536) (h4 : 0 ≤ a4 ∧ a4 < 65536) (h5 : 0 ≤ a5 ∧ a5 < 65536) (h6 : 0 ≤ a6 ∧ a6 < 65536) (h7 : 0 ≤ a7 ∧ a7 < 65536) (h8 : 0 ≤ a8 ∧ a8 < 65536) (h9 : 0 ≤ a9 ∧ a9 < 65536) (h10 : 0 ≤ a10 ∧ a10 < 65536) (h11 : 0 ≤ a11 ∧ a11 < 65536) (h12 : 0 ≤ a12 ∧ a12 < 65536) (h13 : 0 ≤ a13 ∧ a13 < 65536) (h14 : 0 ≤ a14 ∧ a14 < 65536) (h15 : 0 ≤ a15 ∧ a15 < 65536) (k0 : 0 ≤ b0 ∧ b0 < 130000) (k1 : 0 ≤ b1 ∧ b1 < 130000) (k2 : 0 ≤ b2 ∧ b2 < 130000) (k3 : 0 ≤ b3 ∧ b3 < 130000) (k4 : 0 ≤ b4 ∧ b4 < 130000) (k5 : 0 ≤ b5 ∧ b5 < 130000) (k6 : 0 ≤ b6 ∧ b6 < 130000) (k7 : 0 ≤ b7 ∧ b7 < 130000) (k8 : 0 ≤ b8 ∧ b8 < 130000) (k9 : 0 ≤ b9 ∧ b9 < 130000) (k10 : 0 ≤ b10 ∧ b10 < 130000) (k11 : 0 ≤ b11 ∧ b11 < 130000) (k12 : 0 ≤ b12 ∧ b12 < 130000) (k13 : 0 ≤ b13 ∧ b13 < 130000) (k14 : 0 ≤ b14 ∧ b14 < 130000) (k15 : 0 ≤ b15 ∧ b15 < 130000) :
    raw32 a0 a1 a2 a3 a4 a5 a6 a7 a8 a9 a10 a11 a12 a13 a14 a15 b0 b1 b2 b3 b4 b5 b6 b7 b8 b9 b10 b11 b12 b13 b14 b15 = some [.l (dg16 (fo (fo (v16 [a0, a1, a2, a3, a4, a5, a6, a7, a8, a9, a10, a11, a12, a13, a14, a15] - v16 [b0, b1, b2, b3, b4, b5, b6, b7, b8, b9, b10, b11, b12, b13, b14, b15] + 231584178474632390847141970017375815706539969331281128078915168015826259279796))))] := by
  unfold raw32
  simp only [wr_addr, wr_subl]
  simp only [wr_u64 (n := a0 + (131070 - b0) - 74) (show 0 ≤ a0 + (131070 - b0) - 74 by omega) (by omega), wr_u64 (n := a1 + (131070 - b1)) (show 0 ≤ a1 + (131070 - b1) by omega) (by omega), wr_u64 (n := a2 + (131070 - b2)) (show 0 ≤ a2 + (131070 - b2) by omega) (by omega), wr_u64 (n := a3 + (131070 - b3)) (show 0 ≤ a3 + (131070 - b3) by omega) (by omega), wr_u64 (n := a4 + (131070 - b4)) (show 0 ≤ a4 + (131070 - b4) by omega) (by omega), wr_u64 (n := a5 + (131070 - b5)) (show 0 ≤ a5 + (131070 - b5) by omega) (by omega), wr_u64 (n := a6 + (131070 - b6)) (show 0 ≤ a6 + (131070 - b6) by omega) (by omega), wr_u64 (n := a7 + (131070 - b7)) (show 0 ≤ a7 + (131070 - b7) by omega) (by omega), wr_u64 (n := a8 + (131070 - b8)) (show 0 ≤ a8 + (131070 - b8) by omega) (by omega), wr_u64 (n := a9 + (131070 - b9)) (show 0 ≤ a9 + (131070 - b9) by omega) (by omega), wr_u64 (n := a10 + (131070 - b10)) (show 0 ≤ a10 + (131070 - b10) by omega) (by omega), wr_u64 (n := a11 + (131070 - b11)) (show 0 ≤ a11 + (131070 - b11) by omega) (by omega), wr_u64 (n := a12 + (131070 - b12)) (show 0 ≤ a12 + (131070 - b12) by omega) (by omega), wr_u64 (n := a13 + (131070 - b13)) (show 0 ≤ a13 + (131070 - b13) by omega) (by omega), wr_u64 (n := a14 + (131070 - b14)) (show 0 ≤ a14 + (131070 - b14) by omega) (by omega), wr_u64 (n := a15 + (131070 - b15)) (show 0 ≤ a15 + (131070 - b15) by omega) (by omega)]
  rw [all57 (mem16 (by omega) (by omega) (by omega) (by omega) (by omega) (by omega) (by omega) (by omega) (by omega) (by omega) (by omega) (by omega) (by omega) (by omega) (by omega) (by omega)), cond_true, show v16 [a0 + (131070 - b0) - 74, a1 + (131070 - b1), a2 + (131070 - b2), a3 + (131070 - b3), a4 + (131070 - b4), a5 + (131070 - b5), a6 + (131070 - b6), a7 + (131070 - b7), a8 + (131070 - b8), a9 + (131070 - b9), a10 + (131070 - b10), a11 + (131070 - b11), a12 + (131070 - b12), a13 + (131070 - b13), a14 + (131070 - b14), a15 + (131070 - b15)] = v16 [a0, a1, a2, a3, a4, a5, a6, a7, a8, a9, a10, a11, a12, a13, a14, a15] - v16 [b0, b1, b2, b3, b4, b5, b6, b7, b8, b9, b10, b11, b12, b13, b14, b15] + 231584178474632390847141970017375815706539969331281128078915168015826259279796 by simp only [v16, valD]; omega]

def lim17 (l : List Int) : Bool := l.all fun y => decide (y < 130000)
theorem lim17_in {l : List Int} (hr : ∀ y ∈ l, inK .u64 y) (h : lim17 l = true) : ∀ y ∈ l, 0 ≤ y ∧ y < 130000 := fun y hy =>
  ⟨(hr y hy).1, by simpa using List.all_eq_true.1 h y hy⟩
theorem lim17_dg16 (v : Int) : lim17 (dg16 v) = true := List.all_eq_true.2 fun y hy => decide_eq_true (by have := dg16_r v y hy; omega)
def C32w : CFn := ⟨[.arr .u64 16, .arr .u64 16], .arr .u64 16, fun hs => carried (hl hs 0) && lim17 (hl hs 1), fun hs => [.l (dg16 (fo (fo (v16 (hl hs 0) - v16 (hl hs 1) + 231584178474632390847141970017375815706539969331281128078915168015826259279796))))]⟩
theorem cok32w : EntryOk Try.prog 32 (.pure C32w.sem) := cfn_at rfl rfl rfl ok32 (fun x hx rx y hy ry hg => by
  have hg' : (carried x && lim17 y) = true := hg
  rw [Bool.and_eq_true] at hg'
  have cx := carried_in rx hg'.1
  have cy := lim17_in ry hg'.2
  obtain ⟨a0, a1, a2, a3, a4, a5, a6, a7, a8, a9, a10, a11, a12, a13, a14, a15, rfl⟩ := len16 hx
  obtain ⟨b0, b1, b2, b3, b4, b5, b6, b7, b8, b9, b10, b11, b12, b13, b14, b15, rfl⟩ := len16 hy
  refine (at32 a0 a1 a2 a3 a4 a5 a6 a7 a8 a9 a10 a11 a12 a13 a14 a15 b0 b1 b2 b3 b4 b5 b6 b7 b8 b9 b10 b11 b12 b13 b14 b15).trans ?_
  exact rsubw (cx a0 (by simp)) (cx a1 (by simp)) (cx a2 (by simp)) (cx a3 (by simp)) (cx a4 (by simp)) (cx a5 (by simp)) (cx a6 (by simp)) (cx a7 (by simp)) (cx a8 (by simp)) (cx a9 (by simp)) (cx a10 (by simp)) (cx a11 (by simp)) (cx a12 (by simp)) (cx a13 (by simp)) (cx a14 (by simp)) (cx a15 (by simp)) (cy b0 (by simp)) (cy b1 (by simp)) (cy b2 (by simp)) (cy b3 (by simp)) (cy b4 (by simp)) (cy b5 (by simp)) (cy b6 (by simp)) (cy b7 (by simp)) (cy b8 (by simp)) (cy b9 (by simp)) (cy b10 (by simp)) (cy b11 (by simp)) (cy b12 (by simp)) (cy b13 (by simp)) (cy b14 (by simp)) (cy b15 (by simp)))

/-- a product with a list that may be wider -/
def rml (x : Int) (al : List Int) : Int := fo (fo (v16 (convL (dg16 x) al)))
structure Wide (al : List Int) : Prop where
  len : al.length = 16
  lim : ∀ y ∈ al, 0 ≤ y ∧ y < 262144
theorem Wide.b {al : List Int} (h : Wide al) : lim18 al = true := List.all_eq_true.2 fun y hy => decide_eq_true (h.lim y hy).2
theorem wide_dg16 (v : Int) : Wide (dg16 v) := ⟨dg16_l v, fun y hy => by have := dg16_r v y hy; omega⟩
theorem rml_in (x : Int) {al : List Int} (h : Wide al) : 0 ≤ rml x al ∧ rml x al < Q := by
  have := convw_in (dg16_l x) h.len (wide_dg16 x).lim h.lim
  exact fofo_in this.1 this.2
theorem rml_mod {x : Int} {al : List Int} (hx : 0 ≤ x ∧ x < Q) (h : Wide al) : rml x al % p = x * v16 al % p := by
  unfold rml
  rw [fo_mod, fo_mod, v16_convL (dg16_l x) h.len, v16_in hx.1 hx.2]
def rpowL (low : Int) (al : List Int) : Nat → Int → Int
  | 0, x => x
  | n + 1, x => rpowL low al n (bif rbit low n then rml (rm x x) al else rm x x)
theorem rpowL_in (low : Int) {al : List Int} (ha : Wide al) : ∀ (n : Nat) (x : Int), 0 ≤ x ∧ x < Q → 0 ≤ rpowL low al n x ∧ rpowL low al n x < Q
  | 0, x, h => h
  | n + 1, x, h => by
    simp only [rpowL]
    apply rpowL_in low ha
    cases rbit low n
    · exact rm_in _ _
    · exact rml_in _ ha
theorem rpowL_mod {low : Int} {al : List Int} (ha : Wide al) : ∀ (n : Nat) (x : Int), 0 ≤ x ∧ x < Q → rpowL low al n x % p = x ^ (2 ^ n) * v16 al ^ (rexp low n) % p
  | 0, x, _ => by simp [rpowL, rexp, Int.pow_succ]
  | n + 1, x, hx => by
    have h1 := rm_in x x
    have h2 := rml_in (rm x x) ha
    have hsq : rm x x % p = x ^ 2 % p := by rw [rm_mod hx hx, show x * x = x ^ 2 by grind]
    cases hb : rbit low n with
    | false =>
      have e : rpowL low al (n + 1) x = rpowL low al n (rm x x) := by simp only [rpowL, hb, cond_false]
      have e' : rexp low (n + 1) = rexp low n := by simp [rexp, hb]
      rw [e, e', rpowL_mod ha n _ h1, pow_cong hsq, ← Int.pow_mul, ← Nat.pow_succ']
    | true =>
      have e : rpowL low al (n + 1) x = rpowL low al n (rml (rm x x) al) := by simp only [rpowL, hb, cond_true]
      have e' : rexp low (n + 1) = 2 ^ n + rexp low n := by simp [rexp, hb]
      have key : rml (rm x x) al % p = x ^ 2 * v16 al % p := by rw [rml_mod h1 ha, Int.mul_emod, hsq, ← Int.mul_emod]
      have e3 : (x ^ 2 * v16 al) ^ 2 ^ n * v16 al ^ rexp low n = x ^ 2 ^ (n + 1) * v16 al ^ (2 ^ n + rexp low n) := by
        rw [Int.mul_pow, ← Int.pow_mul, Int.pow_add, ← Nat.pow_succ', Int.mul_assoc]
      rw [e, e', rpowL_mod ha n _ h2, pow_cong key, e3]
theorem rpowL_one {low : Int} {al : List Int} (ha : Wide al) (n : Nat) : rpowL low al n 1 % p = v16 al ^ rexp low n % p := by
  rw [rpowL_mod ha n 1 (by decide), Int.one_pow, Int.one_mul]

theorem step69w (low : Int) (h0 : 0 ≤ low) (h1 : low < 18446744073709551616) {al : List Int} (ha : Wide al) (x : Int) (t : List Int) (i : Nat) (hi : i < 1000) :
    W.g69_0 [.i low, .i i, .l al, .l t, .l (dg16 x)] = some (.inl [.i low, .i ((i : Int) - 1), .l al, .l t, .l (dg16 (bif rbit low i then rml (rm x x) al else rm x x))]) := by
  rw [W.g69_0_at]
  unfold W.t69_0
  have hc : ∀ v, lim18 (dg16 v) = true := lim_dg16
  rw [decide_eq_true (show (i : Int) ≥ 0 by omega), cond_true, hc, Bool.and_self, cond_true]
  have e1 : dg16 (fo (fo (v16 (convL (dg16 x) (dg16 x))))) = dg16 (rm x x) := rfl
  dsimp only
  rw [e1]
  rw [hc, ha.b, Bool.and_self, cond_true, wr_i64 (n := (i : Int) - 1) (by omega) (by omega)]
  have e2 : dg16 (fo (fo (v16 (convL (dg16 (rm x x)) al)))) = dg16 (rml (rm x x) al) := rfl
  rw [e2]
  by_cases h6 : 6 ≤ i
  · rw [decide_eq_true (show (i : Int) ≥ 6 by omega), cond_true]
    rw [show rbit low i = true by simp [rbit, h6], cond_true]
  · rw [decide_eq_false (show ¬ (i : Int) ≥ 6 by omega), cond_false, decide_eq_false (show ¬ (i : Int) < 0 by omega), cond_false, Int.toNat_natCast, bit_low h0 h1 i (by omega)]
    rw [show rbit low i = decide (low / 2 ^ i % 2 = 1) by simp [rbit, h6]]
    cases decide (low / 2 ^ i % 2 = 1) <;> rfl

theorem loop69w (low : Int) (h0 : 0 ≤ low) (h1 : low < 18446744073709551616) {al : List Int} (ha : Wide al) (t : List Int) : ∀ (n : Nat) (hn : n ≤ 1000) (x : Int),
    EndsIn n W.g69_0 [.i low, .i ((n : Int) - 1), .l al, .l t, .l (dg16 x)] (false, [.l t, .l (dg16 (rpowL low al n x))])
  | 0, _, x => ends_done (by rw [W.g69_0_at]; unfold W.t69_0; rfl)
  | n + 1, hn, x => by
    refine ends_step ?_ (loop69w low h0 h1 ha t n (by omega) (bif rbit low n then rml (rm x x) al else rm x x))
    rw [show ((n + 1 : Nat) : Int) - 1 = n by omega]
    exact step69w low h0 h1 ha x t n (by omega)

theorem one16' : ([1, 0, 0, 0, 0, 0, 0, 0, 0, 0, 0, 0, 0, 0, 0, 0] : List Int) = dg16 1 := by decide +kernel
def wguard (a : List Int) (n k : Int) : Bool := lim18 a && decide (0 ≤ n) && decide (n ≤ 1000) && decide (k ≤ 64)
def C69w : CFn := ⟨[.arr .u64 16, .int .i64, .int .u64], .arr .u64 16, fun hs => wguard (hl hs 0) (hi hs 1) (hi hs 2), fun hs => [.l (dg16 (rpowL (64 - hi hs 2) (hl hs 0) (hi hs 1).toNat 1))]⟩
theorem cok69w : EntryOk Try.prog 69 (.pure C69w.sem) := cfn_at rfl rfl rfl W.ok69 (fun x hx rx n hn k hk hg => by
  have hg : (lim18 x && decide (0 ≤ n) && decide (n ≤ 1000) && decide (k ≤ 64)) = true := hg
  simp only [Bool.and_eq_true, decide_eq_true_eq] at hg
  obtain ⟨⟨⟨g1, g2⟩, g3⟩, g4⟩ := hg
  have cx : Wide x := ⟨hx, lim_in rx g1⟩
  refine (W.at69 x n k).trans ?_
  show W.raw69 x n k = some [.l (dg16 (rpowL (64 - k) x n.toNat 1))]
  unfold W.raw69
  obtain ⟨m, rfl⟩ := Int.eq_ofNat_of_zero_le g2
  have hk0 : 0 ≤ k := hk.1
  rw [show wr .u64 (64 - k) = 64 - k by simp only [wr]; omega, wr_i64 (n := (m : Int) - 1) (by omega) (by omega), one16']
  rw [(loop69w (64 - k) (by omega) (by omega) cx (List.replicate 16 0) m (by omega) 1).big (by omega)]
  rfl)
end Go.Proofs.Ytibldmjnddppaaa.Fld
set_option linter.unusedVariables false
set_option maxRecDepth 100000
namespace Go.Proofs.Ytibldmjnddppaaa.Fld.W
open Go Go.Sim
open Go.Proofs Go.Fld

/-! ### 49: towpath/towpathref1.invert (pure) -/
noncomputable def env49 : List (FuncId × Entry) := [(69, .pure C69w.sem)]
theorem envOk49 : EnvOk Try.prog (envOf env49) := envOf_ok (all_cons cok69w (all_nil))
def raw49 (a0 : List Int) : Option (List Hv) := bif wguard (a0) (255) (21) then (some [.l (dg16 (rpowL (64 - (21)) (a0) (Int.toNat (255)) 1))]) else none
theorem l49 : LamOk Try.prog (lamOf []) (codeOf Try.f49) := lamOk_nil
def G49 : GFn := ⟨[.arr .u64 16], .arr .u64 16, apH [.l] raw49⟩
theorem ok49 : EntryOk Try.prog 49 (.pure G49.sem) := gfn_pure (u := 70) envOk49 mix Try.func49 (by kernel_rfl) (by kernel_rfl) l49 G49 (by kernel_rfl) (by kernel_rfl) [.l] rfl (fun a0 => by show _ = _; kernel_rfl)
theorem at49 (a0 : List Int) : G49.fn [.l a0] = raw49 a0 := (congrFun (show G49.fn = apH [.l] raw49 from rfl) _).trans ((fun F => rfl : ∀ F : List Int → Option (List Hv), apH [.l] F [.l a0] = F a0) raw49)
end Go.Proofs.Ytibldmjnddppaaa.Fld.W
set_option linter.unusedVariables false
set_option maxRecDepth 100000
namespace Go.Proofs.Ytibldmjnddppaaa.Fld
open Go Go.Sim Go.Fld
def C49w : CFn := ⟨[.arr .u64 16], .arr .u64 16, fun hs => lim18 (hl hs 0), fun hs => [.l (dg16 (rpowL 43 (hl hs 0) 255 1))]⟩
theorem cok49w : EntryOk Try.prog 49 (.pure C49w.sem) := cfn_at rfl rfl rfl W.ok49 (fun x hx rx hg => by
  refine (W.at49 x).trans ?_
  show W.raw49 x = some [.l (dg16 (rpowL 43 x 255 1))]
  unfold W.raw49
  have hg : lim18 x = true := hg
  rw [show wguard x 255 21 = lim18 x by unfold wguard; simp, hg]
  rfl)
end Go.Proofs.Ytibldmjnddppaaa.Fld
set_option linter.unusedVariables false
set_option maxRecDepth 100000
namespace Go.Proofs.Ytibldmjnddppaaa.Fld
open Go Go.Sim
open Go.Proofs Go.Fld

/-! ### 42: towpath/edwards.curve (pure) -/
noncomputable def env42 : List (FuncId × Entry) := []
theorem envOk42 : EnvOk Try.prog (envOf env42) := envOf_ok (all_nil)
def raw42  : Option (List Hv) := some [.l ([8496970652267935907, 31536524315187371, 10144147576115030168, 5909686906226998899])]
theorem l42 : LamOk Try.prog (lamOf []) (codeOf Try.f42) := lamOk_nil
def G42 : GFn := ⟨[], .arr .u64 4, apH [] raw42⟩
theorem ok42 : EntryOk Try.prog 42 (.pure G42.sem) := gfn_pure (u := 70) envOk42 mix Try.func42 (by kernel_rfl) (by kernel_rfl) l42 G42 (by kernel_rfl) (by kernel_rfl) [] rfl (by show _ = _; kernel_rfl)
/-! ### 34: towpath/edwards.base (pure) -/
noncomputable def env34 : List (FuncId × Entry) := [(38, .pure C38.sem), (39, .pure C39.sem)]
theorem envOk34 : EnvOk Try.prog (envOf env34) := envOf_ok (all_cons cok38 (all_cons cok39 (all_nil)))
def raw34  : Option (List Hv) := let x1 : List Int := [14507833142362363162, 7578651490590762930, 13881468655802702940, 2407515759118799870]; let x2 : List Int := [7378697629483820632, 7378697629483820646, 7378697629483820646, 7378697629483820646]; some [.l (x1), .l (x2), .l (dg4 (1)), .l (dg4 (fo (fo (fo (v4 (x1) * v4 (x2))))))]
theorem l34 : LamOk Try.prog (lamOf []) (codeOf Try.f34) := lamOk_nil
def G34 : GFn := ⟨[], .agg [.arr .u64 4, .arr .u64 4, .arr .u64 4, .arr .u64 4], apH [] raw34⟩
theorem ok34 : EntryOk Try.prog 34 (.pure G34.sem) := gfn_pure (u := 70) envOk34 mix Try.func34 (by kernel_rfl) (by kernel_rfl) l34 G34 (by kernel_rfl) (by kernel_rfl) [] rfl (by show _ = _; kernel_rfl)
/-! ### 57: towpath/edwards.nothing (pure) -/
noncomputable def env57 : List (FuncId × Entry) := [(38, .pure C38.sem)]
theorem envOk57 : EnvOk Try.prog (envOf env57) := envOf_ok (all_cons cok38 (all_nil))
def raw57  : Option (List Hv) := some [.l ([0, 0, 0, 0]), .l (dg4 (1)), .l (dg4 (1)), .l ([0, 0, 0, 0])]
theorem l57 : LamOk Try.prog (lamOf []) (codeOf Try.f57) := lamOk_nil
def G57 : GFn := ⟨[], .agg [.arr .u64 4, .arr .u64 4, .arr .u64 4, .arr .u64 4], apH [] raw57⟩
theorem ok57 : EntryOk Try.prog 57 (.pure G57.sem) := gfn_pure (u := 70) envOk57 mix Try.func57 (by kernel_rfl) (by kernel_rfl) l57 G57 (by kernel_rfl) (by kernel_rfl) [] rfl (by show _ = _; kernel_rfl)
/-! ### 30: towpath/towpathref1.dee (pure) -/
noncomputable def env30 : List (FuncId × Entry) := [(32, .pure C32w.sem), (46, .pure C46w.sem), (48, .pure C48w.sem), (49, .pure C49w.sem)]
theorem envOk30 : EnvOk Try.prog (envOf env30) := envOf_ok (all_cons cok32w (all_cons cok46w (all_cons cok48w (all_cons cok49w (all_nil)))))
def raw30  : Option (List Hv) := let x1 : List Int := List.replicate 16 0; let x2 : List Int := [121665, 0, 0, 0, 0, 0, 0, 0, 0, 0, 0, 0, 0, 0, 0, 0]; bif carried (x1) && lim17 (x2) then (let x3 : List Int := [121666, 0, 0, 0, 0, 0, 0, 0, 0, 0, 0, 0, 0, 0, 0, 0]; bif lim18 (x3) then (let x4 : List Int := dg16 (fo (fo (v16 (x1) - v16 (x2) + 231584178474632390847141970017375815706539969331281128078915168015826259279796))); let x5 : List Int := dg16 (rpowL 43 (x3) 255 1); bif lim18 (x4) && lim18 (x5) then (some [.l (dg16 (fo (fo (v16 (convL (x4) (x5))))))]) else none) else none) else none
theorem l30 : LamOk Try.prog (lamOf []) (codeOf Try.f30) := lamOk_nil
def G30 : GFn := ⟨[], .arr .u64 16, apH [] raw30⟩
theorem ok30 : EntryOk Try.prog 30 (.pure G30.sem) := gfn_pure (u := 70) envOk30 mix Try.func30 (by kernel_rfl) (by kernel_rfl) l30 G30 (by kernel_rfl) (by kernel_rfl) [] rfl (by show _ = _; kernel_rfl)
/-! ### 29: towpath/towpathref1.widen (pure) -/
noncomputable def env29 : List (FuncId × Entry) := [(48, .pure C48w.sem)]
theorem envOk29 : EnvOk Try.prog (envOf env29) := envOf_ok (all_cons cok48w (all_nil))
def raw29 (a0 : List Int) (a1 : List Int) : Option (List Hv) := some [.l (a0), .l (a1), .l ([1, 0, 0, 0, 0, 0, 0, 0, 0, 0, 0, 0, 0, 0, 0, 0])]
theorem l29 : LamOk Try.prog (lamOf []) (codeOf Try.f29) := lamOk_nil
def G29 : GFn := ⟨[.agg [.arr .u64 16, .arr .u64 16]], .agg [.arr .u64 16, .arr .u64 16, .arr .u64 16], apH [.l, .l] raw29⟩
theorem ok29 : EntryOk Try.prog 29 (.pure G29.sem) := gfn_pure (u := 70) envOk29 mix Try.func29 (by kernel_rfl) (by kernel_rfl) l29 G29 (by kernel_rfl) (by kernel_rfl) [.l, .l] rfl (fun a0 a1 => by show _ = _; kernel_rfl)
theorem at29 (a0 : List Int) (a1 : List Int) : G29.fn [.l a0, .l a1] = raw29 a0 a1 := (congrFun (show G29.fn = apH [.l, .l] raw29 from rfl) _).trans ((fun F => rfl : ∀ F : List Int → List Int → Option (List Hv), apH [.l, .l] F [.l a0, .l a1] = F a0 a1) raw29)
/-! ### 27: towpath/towpathref1.narrow (pure) -/
noncomputable def env27 : List (FuncId × Entry) := [(46, .pure C46w.sem), (49, .pure C49w.sem)]
theorem envOk27 : EnvOk Try.prog (envOf env27) := envOf_ok (all_cons cok46w (all_cons cok49w (all_nil)))
def raw27 (a0 : List Int) (a1 : List Int) (a2 : List Int) : Option (List Hv) := bif lim18 (a2) then (let x1 : List Int := dg16 (rpowL 43 (a2) 255 1); bif lim18 (a0) && lim18 (x1) then (bif lim18 (a1) && lim18 (x1) then (some [.l (dg16 (fo (fo (v16 (convL (a0) (x1)))))), .l (dg16 (fo (fo (v16 (convL (a1) (x1))))))]) else none) else none) else none
theorem l27 : LamOk Try.prog (lamOf []) (codeOf Try.f27) := lamOk_nil
def G27 : GFn := ⟨[.agg [.arr .u64 16, .arr .u64 16, .arr .u64 16]], .agg [.arr .u64 16, .arr .u64 16], apH [.l, .l, .l] raw27⟩
theorem ok27 : EntryOk Try.prog 27 (.pure G27.sem) := gfn_pure (u := 70) envOk27 mix Try.func27 (by kernel_rfl) (by kernel_rfl) l27 G27 (by kernel_rfl) (by kernel_rfl) [.l, .l, .l] rfl (fun a0 a1 a2 => by show _ = _; kernel_rfl)
theorem at27 (a0 : List Int) (a1 : List Int) (a2 : List Int) : G27.fn [.l a0, .l a1, .l a2] = raw27 a0 a1 a2 := (congrFun (show G27.fn = apH [.l, .l, .l] raw27 from rfl) _).trans ((fun F => rfl : ∀ F : List Int → List Int → List Int → Option (List Hv), apH [.l, .l, .l] F [.l a0, .l a1, .l a2] = F a0 a1 a2) raw27)
/-! ### 22: towpath/towpathref1.encode (pure) -/
noncomputable def env22 : List (FuncId × Entry) := [(52, .pure C52.sem)]
theorem envOk22 : EnvOk Try.prog (envOf env22) := envOf_ok (all_cons cok52 (all_nil))
def raw22 (a0 : List Int) (a1 : List Int) : Option (List Hv) := bif (a1).all fun y => decide (y < 144115188075855872) then (bif (a0).all fun y => decide (y < 144115188075855872) then (let x1 : List Int := dg32 (v16 (a1) % p); some [.l (setP 0 (x1) 31 (orI .u8 ((x1).getD 31 0) (wr .u8 ((andI .u8 ((dg32 (v16 (a0) % p)).getD 0 0) (1)) * 128))))]) else none) else none
theorem l22 : LamOk Try.prog (lamOf []) (codeOf Try.f22) := lamOk_nil
def G22 : GFn := ⟨[.agg [.arr .u64 16, .arr .u64 16]], .arr .u8 32, apH [.l, .l] raw22⟩
theorem ok22 : EntryOk Try.prog 22 (.pure G22.sem) := gfn_pure (u := 70) envOk22 mix Try.func22 (by kernel_rfl) (by kernel_rfl) l22 G22 (by kernel_rfl) (by kernel_rfl) [.l, .l] rfl (fun a0 a1 => by show _ = _; kernel_rfl)
theorem at22 (a0 : List Int) (a1 : List Int) : G22.fn [.l a0, .l a1] = raw22 a0 a1 := (congrFun (show G22.fn = apH [.l, .l] raw22 from rfl) _).trans ((fun F => rfl : ∀ F : List Int → List Int → Option (List Hv), apH [.l, .l] F [.l a0, .l a1] = F a0 a1) raw22)
end Go.Proofs.Ytibldmjnddppaaa.Fld
set_option linter.unusedVariables false
set_option maxRecDepth 100000
namespace Go.Proofs.Ytibldmjnddppaaa.Fld
open Go Go.Sim Go.Fld

/-- the curve's number -/
abbrev DD : Int := 37095705934669439343138083508754565189542113879843219016388785533085940283555
abbrev BX : Int := 15112221349535400772501151409588531511454012693041857206046113283949847762202
abbrev BY : Int := 46316835694926478169428394003475163141307993866256225615783033603165251855960
theorem dd_at : dg4 DD = [8496970652267935907, 31536524315187371, 10144147576115030168, 5909686906226998899] := by decide +kernel
theorem bx_at : dg4 BX = [14507833142362363162, 7578651490590762930, 13881468655802702940, 2407515759118799870] := by decide +kernel
theorem by_at : dg4 BY = [7378697629483820632, 7378697629483820646, 7378697629483820646, 7378697629483820646] := by decide +kernel
def C42 : CFn := ⟨[], .arr .u64 4, fun _ => true, fun _ => [.l (dg4 DD)]⟩
theorem cok42 : EntryOk Try.prog 42 (.pure C42.sem) := cfn_at rfl rfl rfl ok42 (fun _ => by
  show raw42 = some [.l (dg4 DD)]
  unfold raw42; rw [dd_at])
def P4 : Pat := .agg [.arr .u64 4, .arr .u64 4, .arr .u64 4, .arr .u64 4]
def C34 : CFn := ⟨[], .agg [.arr .u64 4, .arr .u64 4, .arr .u64 4, .arr .u64 4], fun _ => true, fun _ => [.l (dg4 BX), .l (dg4 BY), .l (dg4 1), .l (dg4 (pr BX BY))]⟩
theorem cok34 : EntryOk Try.prog 34 (.pure C34.sem) := cfn_at rfl rfl rfl ok34 (fun _ => by
  show raw34 = some [.l (dg4 BX), .l (dg4 BY), .l (dg4 1), .l (dg4 (pr BX BY))]
  unfold raw34
  dsimp only
  rw [← bx_at, ← by_at, v4_in (v := BX) (by decide) (by decide), v4_in (v := BY) (by decide) (by decide)]
  rfl)
def C57 : CFn := ⟨[], .agg [.arr .u64 4, .arr .u64 4, .arr .u64 4, .arr .u64 4], fun _ => true, fun _ => [.l (dg4 0), .l (dg4 1), .l (dg4 1), .l (dg4 0)]⟩
theorem cok57 : EntryOk Try.prog 57 (.pure C57.sem) := cfn_at rfl rfl rfl ok57 (fun _ => by
  show raw57 = some [.l (dg4 0), .l (dg4 1), .l (dg4 1), .l (dg4 0)]
  unfold raw57; rw [zero4])

def l121665 : List Int := [121665, 0, 0, 0, 0, 0, 0, 0, 0, 0, 0, 0, 0, 0, 0, 0]
def l121666 : List Int := [121666, 0, 0, 0, 0, 0, 0, 0, 0, 0, 0, 0, 0, 0, 0, 0]
/-- the same, as the other reckoning has it -/
def deeR : Int := rm (fo (fo (0 - v16 l121665 + 231584178474632390847141970017375815706539969331281128078915168015826259279796))) (rpowL 43 l121666 255 1)
theorem w121666 : Wide l121666 := ⟨rfl, by
  intro y hy
  simp only [l121666, List.mem_cons, List.not_mem_nil, or_false] at hy
  omega⟩
def C30 : CFn := ⟨[], .arr .u64 16, fun _ => true, fun _ => [.l (dg16 deeR)]⟩
theorem raw30_is : raw30 = some [.l (dg16 deeR)] := by
  have h1 : carried (List.replicate 16 0) = true := by decide +kernel
  have h2 : lim17 l121665 = true := by decide +kernel
  have h0 : v16 (List.replicate 16 0) = 0 := by decide +kernel
  have key : ∀ (x y z : List Int) (w : Int → Int), carried x = true → lim17 y = true → lim18 z = true → v16 x = 0 →
      (bif carried (x) && lim17 (y) then (bif lim18 (z) then (let x4 : List Int := dg16 (fo (fo (v16 (x) - v16 (y) + 231584178474632390847141970017375815706539969331281128078915168015826259279796))); let x5 : List Int := dg16 (rpowL 43 (z) 255 1); bif lim18 (x4) && lim18 (x5) then (some [Hv.l (dg16 (fo (fo (v16 (convL (x4) (x5))))))]) else none) else none) else none) =
      some [.l (dg16 (rm (fo (fo (0 - v16 y + 231584178474632390847141970017375815706539969331281128078915168015826259279796))) (rpowL 43 z 255 1)))] := by
    intro x y z w e1 e2 e3 e4
    rw [e1, e2, e3, e4]
    simp only [Bool.and_self, cond_true, lim_dg16]
    rfl
  exact key (List.replicate 16 0) l121665 l121666 id h1 h2 w121666.b h0
theorem cok30 : EntryOk Try.prog 30 (.pure C30.sem) := cfn_at rfl rfl rfl ok30 (fun _ => (congrFun (show G30.fn = apH [] raw30 from rfl) []).trans (((fun F => rfl : ∀ F : Option (List Hv), apH [] F [] = F) raw30).trans raw30_is))
theorem dd_cg : DD * 121666 % p = (0 - 121665) % p := by decide +kernel
theorem e43b : rexp 43 255 + 1 = PM := by decide +kernel
theorem deeR_rep : Rep deeR DD := by
  have h := rm_in (fo (fo (0 - v16 l121665 + 231584178474632390847141970017375815706539969331281128078915168015826259279796))) (rpowL 43 l121666 255 1)
  refine ⟨h.1, h.2, ?_⟩
  have e1 : v16 l121665 = 121665 := by decide +kernel
  have e2 : v16 l121666 = 121666 := by decide +kernel
  have hf : 0 ≤ fo (fo (0 - v16 l121665 + 231584178474632390847141970017375815706539969331281128078915168015826259279796)) ∧ fo (fo (0 - v16 l121665 + 231584178474632390847141970017375815706539969331281128078915168015826259279796)) < Q := by rw [e1]; decide +kernel
  unfold Cg deeR
  rw [rm_mod hf (rpowL_in 43 w121666 255 1 (by decide)), ← mm_l, fo_mod, fo_mod, ← mm_r, rpowL_one w121666, mm_r, e1, e2]
  have e3 : (0 - 121665 + 231584178474632390847141970017375815706539969331281128078915168015826259279796) % p = DD * 121666 % p := by decide +kernel
  rw [e3, mm_l, Int.mul_assoc, ← Int.pow_succ', e43b, ← mm_r, fermatP (v := 121666) (by decide), Int.mul_one]

theorem rpowL_dg (low a : Int) : ∀ (n : Nat) (x : Int), rpowL low (dg16 a) n x = rpow low a n x
  | 0, _ => rfl
  | n + 1, x => by
    simp only [rpowL, rpow]
    exact rpowL_dg low a n _
def C29 : CFn := ⟨[.agg [.arr .u64 16, .arr .u64 16]], .agg [.arr .u64 16, .arr .u64 16, .arr .u64 16], fun _ => true, fun hs => [.l (hl hs 0), .l (hl hs 1), .l (dg16 1)]⟩
theorem cok29 : EntryOk Try.prog 29 (.pure C29.sem) := cfn_at rfl rfl rfl ok29 (fun x hx rx y hy ry _ => by
  refine (at29 x y).trans ?_
  show raw29 x y = some [.l x, .l y, .l (dg16 1)]
  unfold raw29; rw [one16'])
def C27 : CFn := ⟨[.agg [.arr .u64 16, .arr .u64 16, .arr .u64 16]], .agg [.arr .u64 16, .arr .u64 16], fun hs => carried (hl hs 0) && carried (hl hs 1) && carried (hl hs 2), fun hs => [.l (dg16 (rm (v16 (hl hs 0)) (rpow 43 (v16 (hl hs 2)) 255 1))), .l (dg16 (rm (v16 (hl hs 1)) (rpow 43 (v16 (hl hs 2)) 255 1)))]⟩
theorem cok27 : EntryOk Try.prog 27 (.pure C27.sem) := cfn_at rfl rfl rfl ok27 (fun x hx rx y hy ry z hz rz hg => by
  have hg : (carried x && carried y && carried z) = true := hg
  simp only [Bool.and_eq_true] at hg
  obtain ⟨X, rfl, eX, -⟩ := dg16_of hx rx hg.1.1
  obtain ⟨Y, rfl, eY, -⟩ := dg16_of hy ry hg.1.2
  obtain ⟨Z, rfl, eZ, -⟩ := dg16_of hz rz hg.2
  refine (at27 _ _ _).trans ?_
  show raw27 (dg16 X) (dg16 Y) (dg16 Z) = some [.l (dg16 (rm (v16 (dg16 X)) (rpow 43 (v16 (dg16 Z)) 255 1))), .l (dg16 (rm (v16 (dg16 Y)) (rpow 43 (v16 (dg16 Z)) 255 1)))]
  rw [eX, eY, eZ]
  unfold raw27
  dsimp only
  rw [lim_dg16, cond_true, lim_dg16, lim_dg16, Bool.and_self, cond_true, lim_dg16, Bool.and_self, cond_true, rpowL_dg]
  rfl)

/-- a point's bytes, from numbers that stand for its x and y -/
def encL (x y : Int) : List Int := setP 0 (dg32 (y % p)) 31 (orI .u8 ((dg32 (y % p)).getD 31 0) (if x % p % 2 = 1 then 128 else 0))
theorem encL_cong {x y x' y' : Int} (hx : Cg x x') (hy : Cg y y') : encL x y = encL x' y' := by unfold encL; rw [hx, hy]
theorem bit128 (x : Int) : wr .u8 (andI .u8 ((dg32 (x % p)).getD 0 0) 1 * 128) = if x % p % 2 = 1 then 128 else 0 := by
  have h := modp_Q x
  rw [v32_low (dg32_l _) (digs_range (by decide) _ _), v32_in h.1 h.2, andI8_odd (by omega)]
  by_cases k : x % p % 2 = 1
  · rw [if_pos k, show x % p % 256 % 2 = 1 by omega]; rfl
  · rw [if_neg k, show x % p % 256 % 2 = 0 by omega]; rfl
def C22 : CFn := ⟨[.agg [.arr .u64 16, .arr .u64 16]], .arr .u8 32, fun hs => carried (hl hs 0) && carried (hl hs 1), fun hs => [.l (encL (v16 (hl hs 0)) (v16 (hl hs 1)))]⟩
theorem cok22 : EntryOk Try.prog 22 (.pure C22.sem) := cfn_at rfl rfl rfl ok22 (fun x hx rx y hy ry hg => by
  have hg : (carried x && carried y) = true := hg
  simp only [Bool.and_eq_true] at hg
  obtain ⟨X, rfl, eX, -⟩ := dg16_of hx rx hg.1
  obtain ⟨Y, rfl, eY, -⟩ := dg16_of hy ry hg.2
  refine (at22 _ _).trans ?_
  show raw22 (dg16 X) (dg16 Y) = some [.l (encL (v16 (dg16 X)) (v16 (dg16 Y)))]
  rw [eX, eY]
  unfold raw22
  dsimp only
  rw [all57_dg16, cond_true, all57_dg16, cond_true, eX, eY, bit128]
  rfl)
end Go.Proofs.Ytibldmjnddppaaa.Fld
