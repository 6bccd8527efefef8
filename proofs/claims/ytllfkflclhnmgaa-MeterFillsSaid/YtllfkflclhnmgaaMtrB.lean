import Derived.Test.YtllfkflclhnmgaaMtrA
set_option linter.unusedVariables false
namespace Go.Proofs.Ytllfkflclhnmgaa.Mtr
open Go Go.Sim

theorem clamp (a : Int) (h1 : 1 ≤ a) (h2 : a ≤ 1000) : raw14 a = some [.i a] := by
  unfold raw14
  have e1 : (if (1 : Int) > a then 1 else a) = a := by omega
  simp only [e1]
  have e2 : (if (1000 : Int) < a then 1000 else a) = a := by omega
  rw [e2]

theorem new_is (a b : Int) (h1 : 1 ≤ a) (h2 : a ≤ 1000) (h3 : 1 ≤ b) (h4 : b ≤ 1000) : raw7 a b = some [.i a, .i b, .i a, .i 0] := by
  unfold raw7
  rw [clamp a h1 h2, clamp b h3 h4]
  rfl

theorem take_is (a b c d : Int) (h : 0 ≤ c) (h' : c ≤ 1000) : raw9 a b c d = if c = 0 then some [.b false, .i a, .i b, .i c, .i d] else some [.b true, .i a, .i b, .i (c - 1), .i d] := by
  unfold raw9
  by_cases e : c = 0
  · simp [e]
  · rw [wr_i64 (by omega) (by omega)]
    have : (c == (0 : Int)) = false := by simp [e]
    simp only [this, cond_false, if_neg e]

theorem tick_is (a b c d : Int) (h1 : 1 ≤ a) (h2 : a ≤ 1000) (h3 : 1 ≤ b) (h4 : b ≤ 1000) (h5 : 0 ≤ c) (h6 : c ≤ a) (h7 : 0 ≤ d) (h8 : d < b) :
    raw11 a b c d = if d + 1 = b then some [.i a, .i b, .i (min a (c + 1)), .i 0] else some [.i a, .i b, .i c, .i (d + 1)] := by
  unfold raw11
  have hb : (b == 0) = false := by simp; omega
  simp only [hb, cond_false]
  rw [wr_i64 (n := d + 1) (by omega) (by omega), wr_i64 (n := c + 1) (by omega) (by omega)]
  by_cases e : d + 1 = b
  · rw [if_pos e, e, Int.tmod_self]
    simp only [beq_self_eq_true, cond_true]
    have : (if a < c + 1 then a else c + 1) = min a (c + 1) := by omega
    rw [this]
  · rw [if_neg e, Int.tmod_eq_of_lt (by omega) (by omega)]
    have : (d + 1 == (0 : Int)) = false := by simp; omega
    simp only [this, cond_false]

theorem level_is (a b c d : Int) : raw13 a b c d = some [.i c, .i a, .i b, .i c, .i d] := rfl

theorem known_is : raw6 = some [.b true] := by
  unfold raw6
  rw [new_is 1 2 (by omega) (by omega) (by omega) (by omega)]
  simp only [Option.bind_some, hi, List.getElem?_cons_zero, List.getElem?_cons_succ]
  rw [take_is _ _ _ _ (by omega) (by omega)]
  simp [hb, take_is, tick_is, level_is]

/- the inner loop of the first law: what is taken leaves the level -/
theorem inner4 (a2 a3 x1 x2 t i cap ev l k : Int) (ha3 : 0 ≤ a3) (ha3' : a3 < 256) (ht : 0 ≤ t) (ht' : t ≤ 100000) (hl : 0 ≤ l) (hl' : l ≤ 1000) :
    ∃ x, loopN g4_2 bigN [.i a2, .i a3, .i x1, .i x2, .i t, .i i, .i 0, .i cap, .i ev, .i l, .i k] = some x ∧
      ∃ t' l', x = (false, [.i a2, .i a3, .i x1, .i x2, .i t', .i i, .i cap, .i ev, .i l', .i k]) ∧ t' + l' = t + l ∧ 0 ≤ l' ∧ t ≤ t' := by
  have hm : wr .i64 (a3.tmod 12) = a3.tmod 12 := wr_i64 (by have := Int.tmod_nonneg 12 ha3; omega) (by have := Int.tmod_lt_of_pos a3 (b := 12) (by omega); omega)
  have hm0 := Int.tmod_nonneg 12 ha3
  have hm1 := Int.tmod_lt_of_pos a3 (b := 12) (by omega)
  have step := loopN_ok (G := g4_2) (Q := fun x => ∃ t' l', x = (false, [.i a2, .i a3, .i x1, .i x2, .i t', .i i, .i cap, .i ev, .i l', .i k]) ∧ t' + l' = t + l ∧ 0 ≤ l' ∧ t ≤ t')
    (I := fun j v => ∃ jj t' l', j = (a3.tmod 12 - jj).toNat ∧ 0 ≤ jj ∧ jj ≤ a3.tmod 12 ∧ t' + l' = t + l ∧ 0 ≤ l' ∧ t ≤ t' ∧
    v = [.i a2, .i a3, .i x1, .i x2, .i t', .i i, .i jj, .i cap, .i ev, .i l', .i k]) ?_
  · exact step (a3.tmod 12 - 0).toNat _ bigN ⟨0, t, l, rfl, by omega, hm0, rfl, hl, by omega, rfl⟩ (lt_bigN (by omega))
  · rintro j v ⟨jj, t', l', hj, h0, h1, h2, h3, h4, rfl⟩
    simp only [g4_2_at, t4_2, hm]
    by_cases e : jj < a3.tmod 12
    · right
      refine ⟨(a3.tmod 12 - (jj + 1)).toNat, ?_⟩
      simp only [e, decide_true, cond_true]
      rw [take_is _ _ _ _ h3 (by omega), wr_i64 (n := jj + 1) (by omega) (by omega)]
      by_cases e2 : l' = 0
      · rw [if_pos e2]
        refine ⟨_, by omega, rfl, jj + 1, t', l', rfl, by omega, by omega, h2, h3, h4, rfl⟩
      · rw [if_neg e2, wr_i64 (n := t' + 1) (by omega) (by omega)]
        refine ⟨_, by omega, rfl, jj + 1, t' + 1, l' - 1, rfl, by omega, by omega, by omega, by omega, by omega, rfl⟩
    · left
      simp only [e, decide_false, cond_false]
      exact ⟨_, rfl, t', l', rfl, h2, h3, h4⟩

theorem outer4 (a2 a3 cap ev : Int) (ha2 : 0 ≤ a2) (ha2' : a2 < 256) (ha3 : 0 ≤ a3) (ha3' : a3 < 256) (hc : 1 ≤ cap) (hc' : cap ≤ 10) (he : 1 ≤ ev) (he' : ev ≤ 10) :
    ∃ x, loopN g4_0 bigN [.i a2, .i a3, .i cap, .i ev, .i 0, .i 0, .i cap, .i ev, .i cap, .i 0] = some x ∧
      ∃ t l k, x = (false, [.i a2, .i cap, .i ev, .i t, .i cap, .i ev, .i l, .i k]) ∧ t ≤ cap + a2.tdiv ev ∧ 0 ≤ l ∧ l ≤ cap := by
  have step := loopN_ok (G := g4_0) (Q := fun x => ∃ t l k, x = (false, [.i a2, .i cap, .i ev, .i t, .i cap, .i ev, .i l, .i k]) ∧ t ≤ cap + a2.tdiv ev ∧ 0 ≤ l ∧ l ≤ cap) (I := fun j v => ∃ i t l k q, j = (a2 - i).toNat ∧ 0 ≤ i ∧ i ≤ a2 ∧ 0 ≤ k ∧ k < ev ∧ 0 ≤ l ∧ l ≤ cap ∧ 0 ≤ t ∧ 0 ≤ q ∧ i = q * ev + k ∧ t + l ≤ cap + q ∧
    v = [.i a2, .i a3, .i cap, .i ev, .i t, .i i, .i cap, .i ev, .i l, .i k]) ?_
  · exact step (a2 - 0).toNat _ bigN ⟨0, 0, cap, 0, 0, rfl, by omega, ha2, by omega, by omega, by omega, by omega, by omega, by omega, by omega, by omega, rfl⟩ (lt_bigN (by omega))
  · rintro j v ⟨i, t, l, k, q, hj, h0, h1, h2, h3, h4, h5, h6, h7, h8, h9, rfl⟩
    have hq : q ≤ i := by
      have : q * 1 ≤ q * ev := Int.mul_le_mul_of_nonneg_left he h7
      omega
    simp only [g4_0_at, t4_0]
    rw [wr_i64 (n := a2) (by omega) (by omega)]
    by_cases e : i < a2
    · right
      refine ⟨(a2 - (i + 1)).toNat, ?_⟩
      simp only [e, decide_true, cond_true]
      obtain ⟨x, hx, t', l', rfl, k1, k2, k3⟩ := inner4 a2 a3 cap ev t i cap ev l k ha3 ha3' h6 (by omega) h4 (by omega)
      rw [hx]
      simp only [Option.bind_some, cond_false, hi, List.getElem?_cons_zero, List.getElem?_cons_succ]
      rw [tick_is cap ev l' k hc (by omega) he (by omega) k2 (by omega) h2 h3, wr_i64 (n := i + 1) (by omega) (by omega)]
      by_cases e2 : k + 1 = ev
      · rw [if_pos e2]
        refine ⟨_, by omega, rfl, i + 1, t', min cap (l' + 1), 0, q + 1, rfl, by omega, by omega, by omega, by omega, by omega, by omega, by omega, by omega, ?_, by omega, rfl⟩
        rw [Int.add_mul]; omega
      · rw [if_neg e2]
        refine ⟨_, by omega, rfl, i + 1, t', l', k + 1, q, rfl, by omega, by omega, by omega, by omega, by omega, by omega, by omega, by omega, by omega, by omega, rfl⟩
    · left
      simp only [e, decide_false, cond_false]
      refine ⟨_, rfl, t, l, k, rfl, ?_, h4, h5⟩
      have hia : i = a2 := by omega
      subst hia
      have : i.tdiv ev = q := by
        rw [Int.tdiv_eq_ediv_of_nonneg h0, h8, Int.add_comm, Int.add_mul_ediv_right _ _ (by omega), Int.ediv_eq_zero_of_lt h2 h3]
        omega
      rw [this]
      omega

theorem law4 (a0 a1 a2 a3 : Int) (h0 : 0 ≤ a0) (h0' : a0 < 256) (h1 : 0 ≤ a1) (h1' : a1 < 256) (h2 : 0 ≤ a2) (h2' : a2 < 256) (h3 : 0 ≤ a3) (h3' : a3 < 256) : raw4 a0 a1 a2 a3 = some [.b true] := by
  unfold raw4
  rw [known_is]
  have m0 := Int.tmod_nonneg 10 h0
  have m1 := Int.tmod_lt_of_pos a0 (b := 10) (by omega)
  have m2 := Int.tmod_nonneg 10 h1
  have m3 := Int.tmod_lt_of_pos a1 (b := 10) (by omega)
  simp only [Option.bind_some, hb, List.getElem?_cons_zero, Bool.not_true, cond_false]
  rw [wr_i64 (n := a0.tmod 10) (by omega) (by omega), wr_i64 (n := a1.tmod 10) (by omega) (by omega), wr_i64 (n := a0.tmod 10 + 1) (by omega) (by omega), wr_i64 (n := a1.tmod 10 + 1) (by omega) (by omega)]
  generalize hcap : a0.tmod 10 + 1 = cap
  generalize hev : a1.tmod 10 + 1 = ev
  rw [new_is cap ev (by omega) (by omega) (by omega) (by omega)]
  simp only [Option.bind_some, hi, List.getElem?_cons_zero, List.getElem?_cons_succ]
  obtain ⟨x, hx, t, l, k, rfl, k1, k2, k3⟩ := outer4 a2 a3 cap ev h2 h2' h3 h3' (by omega) (by omega) (by omega) (by omega)
  rw [hx]
  have he : (ev == 0) = false := by simp; omega
  simp only [Option.bind_some, cond_false, List.getElem?_cons_zero, List.getElem?_cons_succ, he, level_is]
  have d1 : 0 ≤ a2.tdiv ev := Int.tdiv_nonneg h2 (by omega)
  have d2 : a2.tdiv ev ≤ a2 := by rw [Int.tdiv_eq_ediv_of_nonneg h2]; exact Int.ediv_le_self _ h2
  have w1 := wr_i64 (n := a2) (by omega) (by omega)
  have w2 := wr_i64 (n := a2.tdiv ev) (by omega) (by omega)
  have w3 := wr_i64 (n := cap + a2.tdiv ev) (by omega) (by omega)
  simp [w1, w2, w3, k1, k2, k3]

theorem takes5 (a3 cap ev n : Int) (hn : 0 ≤ n) (hn' : n ≤ cap) (hc' : cap ≤ 1000) :
    ∃ x, loopN g5_0 bigN [.i a3, .i cap, .i ev, .i n, .i 0, .i cap, .i ev, .i cap, .i 0] = some x ∧ x = (false, [.i a3, .i cap, .i ev, .i n, .i cap, .i ev, .i (cap - n), .i 0]) := by
  have step := loopN_ok (G := g5_0) (Q := fun x => x = (false, [.i a3, .i cap, .i ev, .i n, .i cap, .i ev, .i (cap - n), .i 0]))
    (I := fun j v => ∃ i, j = (n - i).toNat ∧ 0 ≤ i ∧ i ≤ n ∧ v = [.i a3, .i cap, .i ev, .i n, .i i, .i cap, .i ev, .i (cap - i), .i 0]) ?_
  · exact step (n - 0).toNat _ bigN ⟨0, rfl, by omega, hn, by simp⟩ (lt_bigN (by omega))
  · rintro j v ⟨i, hj, h0, h1, rfl⟩
    simp only [g5_0_at, t5_0]
    by_cases e : i < n
    · right
      refine ⟨(n - (i + 1)).toNat, ?_⟩
      simp only [e, decide_true, cond_true]
      rw [take_is _ _ _ _ (by omega) (by omega), wr_i64 (n := i + 1) (by omega) (by omega), if_neg (by omega)]
      refine ⟨_, by omega, rfl, i + 1, rfl, by omega, by omega, ?_⟩
      simp only [hi, List.getElem?_cons_zero, List.getElem?_cons_succ]
      rw [show cap - (i + 1) = cap - i - 1 by omega]
    · left
      simp only [e, decide_false, cond_false]
      refine ⟨_, rfl, ?_⟩
      rw [show i = n by omega]

theorem ticks5 (cap ev n T : Int) (hn : 0 ≤ n) (hn' : n ≤ cap) (hc : 1 ≤ cap) (hc' : cap ≤ 1000) (he : 1 ≤ ev) (he' : ev ≤ 1000) (hT : 0 ≤ T) (hT' : T ≤ 1000) :
    ∃ x, loopN g5_2 bigN [.i cap, .i ev, .i n, .i T, .i 0, .i cap, .i ev, .i (cap - n), .i 0] = some x ∧ ∃ k, x = (false, [.i cap, .i ev, .i n, .i T, .i cap, .i ev, .i (min cap (cap - n + T.tdiv ev)), .i k]) := by
  have step := loopN_ok (G := g5_2) (Q := fun x => ∃ k, x = (false, [.i cap, .i ev, .i n, .i T, .i cap, .i ev, .i (min cap (cap - n + T.tdiv ev)), .i k]))
    (I := fun j v => ∃ i k q, j = (T - i).toNat ∧ 0 ≤ i ∧ i ≤ T ∧ 0 ≤ k ∧ k < ev ∧ 0 ≤ q ∧ i = q * ev + k ∧ v = [.i cap, .i ev, .i n, .i T, .i i, .i cap, .i ev, .i (min cap (cap - n + q)), .i k]) ?_
  · exact step (T - 0).toNat _ bigN ⟨0, 0, 0, rfl, by omega, hT, by omega, by omega, by omega, by omega, by rw [show min cap (cap - n + 0) = cap - n by omega]⟩ (lt_bigN (by omega))
  · rintro j v ⟨i, k, q, hj, h0, h1, h2, h3, h4, h5, rfl⟩
    simp only [g5_2_at, t5_2]
    by_cases e : i < T
    · right
      refine ⟨(T - (i + 1)).toNat, ?_⟩
      simp only [e, decide_true, cond_true]
      rw [tick_is cap ev _ k hc hc' he he' (by omega) (by omega) h2 h3, wr_i64 (n := i + 1) (by omega) (by omega)]
      by_cases e2 : k + 1 = ev
      · rw [if_pos e2]
        refine ⟨_, by omega, rfl, i + 1, 0, q + 1, rfl, by omega, by omega, by omega, by omega, by omega, by rw [Int.add_mul]; omega, ?_⟩
        simp only [hi, List.getElem?_cons_zero, List.getElem?_cons_succ]
        rw [show min cap (cap - n + (q + 1)) = min cap (min cap (cap - n + q) + 1) by omega]
      · rw [if_neg e2]
        exact ⟨_, by omega, rfl, i + 1, k + 1, q, rfl, by omega, by omega, by omega, by omega, by omega, by omega, rfl⟩
    · left
      simp only [e, decide_false, cond_false]
      refine ⟨_, rfl, k, ?_⟩
      have hia : i = T := by omega
      subst hia
      have : i.tdiv ev = q := by
        rw [Int.tdiv_eq_ediv_of_nonneg h0, h5, Int.add_comm, Int.add_mul_ediv_right _ _ (by omega), Int.ediv_eq_zero_of_lt h2 h3]
        omega
      rw [this]

theorem law5 (a0 a1 a2 a3 : Int) (h0 : 0 ≤ a0) (h0' : a0 < 256) (h1 : 0 ≤ a1) (h1' : a1 < 256) (h2 : 0 ≤ a2) (h2' : a2 < 256) (h3 : 0 ≤ a3) (h3' : a3 < 65536) : raw5 a0 a1 a2 a3 = some [.b true] := by
  unfold raw5
  rw [known_is]
  have m0 := Int.tmod_nonneg 20 h0
  have m1 := Int.tmod_lt_of_pos a0 (b := 20) (by omega)
  have m2 := Int.tmod_nonneg 9 h1
  have m3 := Int.tmod_lt_of_pos a1 (b := 9) (by omega)
  simp only [Option.bind_some, hb, List.getElem?_cons_zero, Bool.not_true, cond_false]
  rw [wr_i64 (n := a0.tmod 20) (by omega) (by omega), wr_i64 (n := a1.tmod 9) (by omega) (by omega), wr_i64 (n := a0.tmod 20 + 1) (by omega) (by omega), wr_i64 (n := a1.tmod 9 + 1) (by omega) (by omega)]
  generalize hcap : a0.tmod 20 + 1 = cap
  generalize hev : a1.tmod 9 + 1 = ev
  rw [new_is cap ev (by omega) (by omega) (by omega) (by omega), wr_i64 (n := cap + 1) (by omega) (by omega), wr_i64 (n := a2) (by omega) (by omega)]
  have hz : (cap + 1 == 0) = false := by simp; omega
  simp only [Option.bind_some, hi, List.getElem?_cons_zero, List.getElem?_cons_succ, hz, cond_false]
  have n0 := Int.tmod_nonneg (cap + 1) h2
  have n1 := Int.tmod_lt_of_pos a2 (b := cap + 1) (by omega)
  generalize a2.tmod (cap + 1) = n at n0 n1
  obtain ⟨x, hx, rfl⟩ := takes5 a3 cap ev n n0 (by omega) (by omega)
  rw [hx]
  simp only [Option.bind_some, cond_false, List.getElem?_cons_zero, List.getElem?_cons_succ]
  have t0 := Int.tmod_nonneg 300 h3
  have t1 := Int.tmod_lt_of_pos a3 (b := 300) (by omega)
  rw [wr_i64 (n := a3.tmod 300) (by omega) (by omega)]
  generalize a3.tmod 300 = T at t0 t1
  obtain ⟨x, hx, k, rfl⟩ := ticks5 cap ev n T n0 (by omega) (by omega) (by omega) (by omega) (by omega) t0 (by omega)
  rw [hx]
  have he : (ev == 0) = false := by simp; omega
  simp only [Option.bind_some, cond_false, List.getElem?_cons_zero, List.getElem?_cons_succ, he, level_is]
  have d1 : 0 ≤ T.tdiv ev := Int.tdiv_nonneg t0 (by omega)
  have d2 : T.tdiv ev ≤ T := by rw [Int.tdiv_eq_ediv_of_nonneg t0]; exact Int.ediv_le_self _ t0
  have w1 := wr_i64 (n := T.tdiv ev) (by omega) (by omega)
  have w2 := wr_i64 (n := cap - n) (by omega) (by omega)
  have w3 := wr_i64 (n := cap - n + T.tdiv ev) (by omega) (by omega)
  simp only [w1, w2, w3]
  have : (min cap (cap - n + T.tdiv ev) == if cap - n + T.tdiv ev < cap then cap - n + T.tdiv ev else cap) = true := by simp only [beq_iff_eq]; omega
  rw [this]
end Go.Proofs.Ytllfkflclhnmgaa.Mtr
