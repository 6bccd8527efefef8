/- Bytes of numbers, of prefixes. Slices of bytes joined. A prefix's bytes. A certificate's bytes. A certificate written. The reference's bytes. The reference's certificate written. The reference's certificate and route written. Routes written. Routes written by the reference. -/
import Derived.Test.YtfiillledfkdkaaDoorRtX4
import Derived.Test.YtfiillledfkdkaaDoorRtX5
set_option linter.unusedVariables false
set_option linter.unusedSimpArgs false
set_option linter.unusedSimpArgs false
namespace Go.Proofs
open Go.Shelf Go.RowKit Go.Lib Go.Rt Go.Nam Go.Tp
/-- The bytes of a number, the highest first. -/
def Rt.be (n : Int) : Nat → List Int
  | 0 => []
  | i + 1 => (n / 2 ^ (8 * i) % 256) :: Rt.be n i
theorem Rt.be_length (n : Int) : ∀ k, (Rt.be n k).length = k
  | 0 => rfl
  | k + 1 => by simp [Rt.be, Rt.be_length n k]
theorem Rt.info5 : (Tryd.prog.info? 5).map (fun i => (i.zero, i.size, i.bytes)) = some (some (.int .u8 0), 1, 1) := by kernel_rfl
set_option maxHeartbeats 1000000 in
set_option maxRecDepth 100000 in
theorem Rt.number (n : Int) (k : Nat) (h0 : 0 ≤ n) (h1 : n < 18446744073709551616) (hk : k ≤ 8) (w : World) :
    Calls Tryd.prog 45 #[.int .u64 n, .int .i64 (k : Int)] w fun e w' => ∃ v, e = .returned v ∧ w'.ownsRow w.heap.size 5 1 v k ((Rt.be n k).map (Value.int .u8)) ∧ Below w.heap.size w w' := by
  obtain ⟨i5, hi5, hz0, hz1, hz2⟩ := info_parts Rt.info5
  go_enter Tryd.func45, Tryd.ntmps45
  go_wp2
  go_loopw [5, 6] (fun v i wr => ∃ j : Nat, j ≤ k ∧ i = .int .i64 ((j : Int) - 1) ∧ (∃ xs, wr.ownsRow w.heap.size 5 1 v (k - j) xs ∧ Hid (xs ++ (Rt.be n j).map (Value.int .u8) = (Rt.be n k).map (Value.int .u8))) ∧ Below w.heap.size w wr) (fun _ i _ => (Go.RowKit.intOf i + 1).toNat)
  case atStart => exact ⟨k, Nat.le_refl _, rfl, ⟨[], by rw [Nat.sub_self]; exact World.ownsRow_nil _ _ _ _, Lib.hid rfl⟩, Below.refl _ _⟩
  case round =>
    obtain ⟨j, hj, rfl, ⟨xs, hown, HX⟩, hbw⟩ := hrel
    obtain ⟨bo, hbo⟩ : ∃ bo, w.heap.size = bo := ⟨_, rfl⟩
    have hlt := hown.lt
    by_cases hj0 : 0 < j
    · have HO := Lib.hid hown
      have HL := Lib.hid hlt
      have HB := hbw.size
      clear hown hlt
      go_wp2_with (at_builtin; refine wpList_append_sl rfl (.tmp 13) (.tmp 20) 34 rfl w.heap.size 5 i5 _ 1 Tryd.underlying34 hi5 hz0 hz1 hz2 rfl _ (k - j) xs rfl (HO.out.alloc _) _ 1 1 _ rfl (Sl.of_row (heap_alloc_new wr _) 1 1 (by simp) (Nat.le_refl _) (by simp [maxLen])) (by intro u hu; simp at hu; subst hu; rfl) (by simp only [maxLen]; omega) (by omega) (by simp; omega) ?_; intro v' w1 hown1 hg1 hat1)
      go_roundw
      case rel =>
        obtain ⟨i, rfl⟩ : ∃ i, j = i + 1 := ⟨j - 1, by omega⟩
        refine ⟨i, by omega, by simp, ⟨_, by rw [show k - i = k - (i + 1) + 1 by omega]; exact hown1, Lib.hid ?_⟩, (hbw.alloc HB _).grown hg1 (by simp; omega) (fun b hb => (HL.out b hb).1)⟩
        have := HX.out
        rw [← this]
        simp [Rt.be]
      case measure => simp [Go.RowKit.intOf]; omega
    · have : j = 0 := by omega
      subst this
      have HO := Lib.hid hown
      have hx : xs = (Rt.be n k).map (Value.int .u8) := by have := HX.out; simpa [Rt.be] using this
      clear hown hlt
      go_wp2
      go_ret
      exact ⟨_, rfl, by rw [← hx]; exact HO.out, hbw⟩
theorem Rt.bs_of_own {w : World} {base n : Nat} {v : Value} {l : List Int} (h : w.ownsRow base 5 1 v n (l.map (Value.int .u8))) : (Bs l).p v w := by
  obtain ⟨a, c, rfl, hs, _⟩ := Sl.of_own h
  exact ⟨a, n, c, rfl, hs⟩
theorem Rt.numberO (n : Int) (k : Nat) (h0 : 0 ≤ n) (h1 : n < 18446744073709551616) (hk : k ≤ 8) (w : World) :
    Calls Tryd.prog 45 #[.int .u64 n, .int .i64 (k : Int)] w (Ret (Ow 5 w.heap.size (Rt.be n k)) w) :=
  (Rt.number n k h0 h1 hk w).mono fun _ _ ⟨v, e, ho, hb⟩ => ⟨v, e, ⟨_, ho⟩, hb⟩
theorem Rt.numberT (n : Int) (k : Nat) (h0 : 0 ≤ n) (h1 : n < 18446744073709551616) (hk : k ≤ 8) (w : World) :
    Calls Tryd.prog 45 #[.int .u64 n, .int .i64 (k : Int)] w (Ret (Bs (Rt.be n k)) w) :=
  (Rt.number n k h0 h1 hk w).mono fun _ _ ⟨v, e, ho, hb⟩ => ⟨v, e, Rt.bs_of_own ho, hb⟩

set_option maxHeartbeats 1000000 in
set_option maxRecDepth 100000 in
theorem Rt.grow (n : Nat) (hn : n ≤ 70368744177664) (w : World) :
    Calls Tryd.prog 71 #[.slice none 0 0, .int .i64 (n : Int)] w fun e w' => ∃ v, e = .returned v ∧ w'.ownsRow w.heap.size 5 1 v 0 [] ∧ Below w.heap.size w w' := by
  obtain ⟨i5, hi5, hz0, hz1, hz2⟩ := info_parts Rt.info5
  by_cases h0 : n = 0
  · subst h0
    go_enter Tryd.func71, Tryd.ntmps71
    go_wp2
    go_ret
    exact ⟨_, rfl, World.ownsRow_nil _ _ _ _, Below.refl _ _⟩
  · have hG := grownCap_ge w n 0 5
    have hm := grownCap_le_maxLen w n 0 5 (by unfold maxLen; omega)
    have hz : ∀ ty, (Builtin.append_ #[34, 3] ty #[.slice none 0 0, .int .i64 (n : Int)]).run Tryd.prog w = .ok (.slice (some ⟨w.heap.size, 0, none⟩) n (grownCap w n 0 5)) (w.drew.alloc (.cells (Builtin.zeroCells #[.int .u8 0] n ++ Builtin.zeroCells #[.int .u8 0] (grownCap w n 0 5 - n)) 5)) := fun ty => by
      have h := Lib.run_append_grow_zeros (P := Tryd.prog) w 34 3 ty 5 i5 (.int .u8 0) .i64 .i64 Tryd.underlying34 Tryd.underlying3 hi5 hz0 none 0 0 [] (run_firstCells_none w.drew i5.size 0 0 0) n (by omega) (by omega) (by omega) (by omega) (by rw [hz2]; omega)
        (growslice_fits (by omega) (by rw [hz2]; omega))
      simp only [Nat.zero_add, Array.empty_append] at h
      exact h
    generalize grownCap w n 0 5 = G at *
    have h1 : ¬ (n : Int) < 0 := by omega
    have h2 : (0 : Int) < (n : Int) := by omega
    have hsz : (Builtin.zeroCells #[Value.int .u8 0] n ++ Builtin.zeroCells #[.int .u8 0] (G - n)).size = G := by simp [size_zeroCells]; omega
    generalize (Builtin.zeroCells #[Value.int .u8 0] n ++ Builtin.zeroCells #[.int .u8 0] (G - n)) = cs at *
    have hmm := hm
    unfold maxLen at hmm
    have HZ := Lib.hid hz
    clear hz
    go_enter Tryd.func71, Tryd.ntmps71
    go_wp2_with (at_builtin; refine wpList_append_run rfl _ _ 34 3 rfl _ _ _ _ rfl rfl (HZ.out _) ?_)
    go_ret
    refine ⟨_, rfl, ?_, (Below.refl _ _).drew.alloc (Nat.le_refl _) _⟩
    exact World.ownsRow_made w.drew cs G (Nat.le_refl _) hm (by rw [hsz, Nat.mul_one])
end Go.Proofs
set_option linter.unusedSimpArgs false
namespace Go.Proofs
open Go.Shelf Go.RowKit Go.Lib Go.Rt Go.Nam Go.Tp
theorem Rt.take_flat (L : List (List Int)) (j : Nat) (l : List Int) (h : L[j]? = some l) : (L.take (j + 1)).flatten = (L.take j).flatten ++ l := by
  rw [List.take_add_one, h]; simp
theorem Rt.take_flat_le (L : List (List Int)) (j : Nat) : (L.take j).flatten.length ≤ L.flatten.length := by
  conv => rhs; rw [← List.take_append_drop j L]
  rw [List.flatten_append, List.length_append]
  omega
theorem Rt.u8_one (l : List Int) : ∀ u ∈ l.map (Value.int .u8), u.oneCell' = true := by
  intro u hu
  obtain ⟨z, _, rfl⟩ := List.mem_map.1 hu
  rfl
set_option maxHeartbeats 1000000 in
set_option maxRecDepth 100000 in
theorem Rt.concatO (L : List (List Int)) (v : Value) (w : World) (hv : (BsS L).p v w) (hL : L.length ≤ 1048576) (hT : L.flatten.length ≤ 35184372088832) :
    Calls Tryd.prog 44 #[v] w (Ret (Ow 5 w.heap.size L.flatten) w) := by
  obtain ⟨i5, hi5, hz0, hz1, hz2⟩ := info_parts Rt.info5
  obtain ⟨a, c, vs, rfl, hs, hx⟩ := hv
  have HS := Lib.hid hs
  have HX := Lib.hid hx
  have hg := fun (n : Nat) (h : n ≤ 70368744177664) (w : World) => Rt.grow n h w
  have hcap := hs.cap
  have hbig := hs.big
  unfold maxLen at hbig
  clear hs hx
  obtain ⟨N, hN⟩ : ∃ N, L.length = N := ⟨_, rfl⟩
  obtain ⟨M, hM⟩ : ∃ M, L.flatten.length = M := ⟨_, rfl⟩
  have HN := Lib.hid hN
  have HM := Lib.hid hM
  rw [hN] at hL hcap ⊢
  rw [hM] at hT
  clear hN hM
  go_enter Tryd.func44, Tryd.ntmps44
  go_wp2
  go_loop [3, 11] (fun t i => ∃ j k : Nat, j ≤ N ∧ i = .int .i64 (j : Int) ∧ t = .int .i64 (k : Int) ∧ Hid ((L.take j).flatten.length = k)) (fun _ i => N - (Go.RowKit.intOf i).toNat)
  case atStart => exact ⟨0, 0, Nat.zero_le _, rfl, rfl, Lib.hid rfl⟩
  case round =>
    obtain ⟨j, k, hj, rfl, rfl, HK⟩ := hrel
    have hk : k ≤ M := by have h1 := Rt.take_flat_le L j; have h2 := HK.out; have h3 := HM.out; omega
    by_cases hjn : j < N
    · have hg : ∃ l, L[j]? = some l := ⟨_, List.getElem?_eq_getElem (by rw [HN.out]; exact hjn)⟩
      obtain ⟨l, hl⟩ := hg
      obtain ⟨u, hu, aj, nj, cj, rfl, hsl⟩ := HX.out j l hl
      obtain ⟨b, off, ha, hb⟩ := HS.out.at_ (by rw [HN.out]; omega)
      subst ha
      have hcell := HS.out.cell b off rfl j _ hu
      have hk2 : k + nj = (L.take (j + 1)).flatten.length := by rw [Rt.take_flat L j l hl, List.length_append, HK.out, ← hsl.len, List.length_map]
      have hkM : k + nj ≤ M := by rw [hk2]; have := Rt.take_flat_le L (j + 1); have := HM.out; omega
      have HK2 := Lib.hid hk2
      have HL := Lib.hid hl
      clear hu hsl hk2 hl
      go_wp2
      go_round
      case rel => exact ⟨j + 1, k + nj, by omega, by simp, by simp, Lib.hid HK2.out.symm⟩
      case measure => simp [Go.RowKit.intOf]; omega
    · have : j = N := by omega
      subst this
      go_wp2_with (go_at_call 71; go_fit (hg k (by omega) _); rintro e w1 ⟨v1, rfl, ho, hb⟩)
      have HO1 := Lib.hid ho
      clear ho
      go_loopw [6, 27] (fun t i wr => ∃ i' : Nat, i' ≤ j ∧ i = .int .i64 (i' : Int) ∧ (∃ n, wr.ownsRow w.heap.size 5 1 t n (((L.take i').flatten).map (Value.int .u8))) ∧ Below w.heap.size w wr) (fun _ i _ => j - (Go.RowKit.intOf i).toNat)
      case atStart => exact ⟨0, Nat.zero_le _, rfl, ⟨0, by simpa using HO1.out⟩, hb⟩
      case round =>
        obtain ⟨i', hi', rfl, ⟨n, ho⟩, hbw⟩ := hrel
        have hlt := ho.lt
        have hn : n ≤ M := by have h1 := Rt.take_flat_le L i'; have h2 := HM.out; have h3 := ho.1; simp only [List.length_map, Nat.mul_one] at h3; omega
        have HO := Lib.hid ho
        have HLT := Lib.hid hlt
        have HB := hbw.size
        clear ho hlt
        by_cases hin : i' < j
        · have hg : ∃ l, L[i']? = some l := ⟨_, List.getElem?_eq_getElem (by rw [HN.out]; exact hin)⟩
          obtain ⟨l, hl⟩ := hg
          obtain ⟨u, hu, aj, nj, cj, rfl, hsl⟩ := HX.out i' l hl
          obtain ⟨b, off, ha, hb'⟩ := HS.out.at_ (by rw [HN.out]; omega)
          subst ha
          have hcell := (HS.out.keep hbw).cell b off rfl i' _ hu
          have hn2 : n + nj ≤ M := by
            have h1 := Rt.take_flat_le L (i' + 1); have h2 := HM.out; have h3 := HO.out.1; have h4 := hsl.len
            rw [Rt.take_flat L i' l hl, List.length_append] at h1
            simp only [List.length_map, Nat.mul_one] at h3 h4
            omega
          have HSL := Lib.hid (hsl.keep hbw)
          have HL := Lib.hid hl
          clear hu hsl hl
          go_wp2_with (at_builtin; refine wpList_append_sl rfl (.tmp 31) (.tmp 32) 34 rfl w.heap.size 5 i5 _ 1 Tryd.underlying34 hi5 hz0 hz1 hz2 rfl _ n _ rfl HO.out _ _ _ _ rfl HSL.out (Rt.u8_one l) (by simp only [maxLen]; omega) (by omega) HB ?_; intro v' w1 hown1 hg1 hat1)
          go_roundw
          case rel =>
            refine ⟨i' + 1, by omega, by simp, ⟨n + nj, by rw [Rt.take_flat L i' l HL.out, List.map_append]; exact hown1⟩, hbw.grown hg1 HB (fun b hb => (HLT.out b hb).1)⟩
          case measure => simp [Go.RowKit.intOf]; omega
        · have : i' = j := by omega
          subst this
          go_wp2
          go_ret
          refine ⟨_, rfl, ⟨n, ?_⟩, hbw⟩
          have := HO.out
          rwa [List.take_of_length_le (by rw [HN.out]; exact Nat.le_refl _)] at this
theorem Rt.concat (L : List (List Int)) (v : Value) (w : World) (hv : (BsS L).p v w) (hL : L.length ≤ 1048576) (hT : L.flatten.length ≤ 35184372088832) :
    Calls Tryd.prog 44 #[v] w (Ret (Bs L.flatten) w) := (Rt.concatO L v w hv hL hT).mono fun _ _ h => Tp.ret_bs h
end Go.Proofs
set_option linter.unusedSimpArgs false
namespace Go.Proofs
open Go.Shelf Go.RowKit Go.Lib Go.Rt Go.Nam Go.Tp
theorem Rt.Row.at {w : World} {B : Nat} {t : TypeId} {cs : Array Value} (h : Rt.Row w B t cs) (k : Nat) {x : Value} (hk : cs[k]? = some x) : ∀ u, Below w.heap.size w u → u.cell? ⟨B, k, none⟩ = some x := fun _ hu => (h.keep hu).cell k hk
def Rt.vb (v : Bool) : Int := if v then 6 else 4
/-- A prefix's bytes. -/
def Rt.pfxB (v : Bool) (hi lo len : Int) : List Int := [Rt.vb v] ++ Rt.be hi 8 ++ Rt.be lo 8 ++ [len % 256]
theorem Rt.pfxB_length (v : Bool) (hi lo len : Int) : (Rt.pfxB v hi lo len).length = 18 := by simp [Rt.pfxB, Rt.be_length]
set_option maxHeartbeats 1000000 in
set_option maxRecDepth 100000 in
theorem Rt.prefixB (v : Bool) (hi lo len : Int) (w : World) (h0 : 0 ≤ hi) (h1 : hi < 18446744073709551616) (h2 : 0 ≤ lo) (h3 : lo < 18446744073709551616) :
    Calls Tryd.prog 46 #[.agg #[.bool v, .int .u64 hi, .int .u64 lo, .int .i64 len]] w (Ret (Bs (Rt.pfxB v hi lo len)) w) := by
  obtain ⟨w1, e1, r1, hb1, hlt⟩ := Rt.box w #[.bool v, .int .u64 hi, .int .u64 lo, .int .i64 len] 26
  have f0 := r1.cell 0 rfl
  have F1 := r1.at 1 rfl
  have F2 := r1.at 2 rfl
  have F3 := r1.at 3 rfl
  have n1 : ∀ u, Calls Tryd.prog 45 #[.int .u64 hi, .int .i64 8] u (Ret (Bs (Rt.be hi 8)) u) := fun u => Rt.numberT hi 8 h0 h1 (by omega) u
  have n2 : ∀ u, Calls Tryd.prog 45 #[.int .u64 lo, .int .i64 8] u (Ret (Bs (Rt.be lo 8)) u) := fun u => Rt.numberT lo 8 h2 h3 (by omega) u
  obtain ⟨V, hV⟩ : ∃ V, Rt.vb v = V := ⟨_, rfl⟩
  unfold Rt.pfxB
  rw [hV]
  go_enter Tryd.func46, Tryd.ntmps46
  cases v
  all_goals (
    unfold Rt.vb at hV
    simp only [Bool.false_eq_true, if_false, if_true] at hV
    subst hV
    go_wp2
    refine Tp.region_ex (by kernel_rfl) 17 23 [[(3, none)], [(7, some 0)], [(1, none)], [(9, some 2)], [(10, some 3)], [(11, some 4)], [(1, none)], [(13, some 6)], [(14, some 7)], [(15, some 8)], [(1, none)], [(17, some 10)], [(18, some 11)], [(19, some 12)], [(8, some 1), (12, some 5), (16, some 9), (20, some 13)], [(21, some 14)], [(22, some 15)]] (by kernel_rfl) rfl ?_
    apply Exists.intro [_, _, _, _, _, _, _, _, _, _, _, _, _, _, _, _, _]
    refine ⟨⟨?_, ?_, ?_, ?_, ?_, ?_, ?_, ?_, ?_, ?_, ?_, ?_, ?_, ?_, ?_, ?_, ?_, trivial⟩, ?_⟩
    · intro A u hC hG hF hu hR; clear hG
      refine Tp.facts_old (fun h3 => ?_) rfl; conv at h3 => rhs; whnf
      refine Tp.facts_nil ?_
      refine Tp.wants_plain rfl ?_
      (apply Tp.gives_run; (simp [go_sem, hC, hF, hu, h3, F1, F2, F3]; exact rfl); (refine Tp.given_is ?_; exact rfl))
    · intro A u hC hG hF hu hR; clear hG
      first | refine Tp.facts_is rfl (fun h7 => ?_) | refine Tp.facts_ty rfl (fun v7 h7 k7 => ?_)
      refine Tp.facts_nil ?_
      refine Tp.wants_plain rfl ?_
      (apply Tp.gives_run; (simp [go_sem, hC, hF, hu, h7, F1, F2, F3]; exact rfl); (refine Tp.given_ty ?_ (Tp.bs_new u [_] 5 1 rfl (by omega)) ((Below.refl _ _).alloc (Nat.le_refl _) _); exact rfl))
    · intro A u hC hG hF hu hR; clear hG
      refine Tp.facts_old (fun h1 => ?_) rfl; conv at h1 => rhs; whnf
      refine Tp.facts_nil ?_
      refine Tp.wants_plain rfl ?_
      (apply Tp.gives_run; (simp [go_sem, hC, hF, hu, h1, F1, F2, F3]; exact rfl); (refine Tp.given_is ?_; exact rfl))
    · intro A u hC hG hF hu hR; clear hG
      first | refine Tp.facts_is rfl (fun h9 => ?_) | refine Tp.facts_ty rfl (fun v9 h9 k9 => ?_)
      refine Tp.facts_nil ?_
      refine Tp.wants_plain rfl ?_
      (apply Tp.gives_run; (simp [go_sem, hC, hF, hu, h9, F1, F2, F3]; exact rfl); (refine Tp.given_is ?_; exact rfl))
    · intro A u hC hG hF hu hR; clear hG
      first | refine Tp.facts_is rfl (fun h10 => ?_) | refine Tp.facts_ty rfl (fun v10 h10 k10 => ?_)
      refine Tp.facts_nil ?_
      refine Tp.wants_plain rfl ?_
      (apply Tp.gives_run; (simp [go_sem, hC, hF, hu, h10, F1, F2, F3]; exact rfl); (refine Tp.given_is ?_; exact rfl))
    · intro A u hC hG hF hu hR; clear hG
      first | refine Tp.facts_is rfl (fun h11 => ?_) | refine Tp.facts_ty rfl (fun v11 h11 k11 => ?_)
      refine Tp.facts_nil ?_
      refine Tp.wants_plain rfl ?_
      (apply Tp.gives_run; (simp [go_sem, hC, hF, hu, h11, F1, F2, F3]; exact rfl); (refine Tp.given_call ?_ (n1 u); exact rfl))
    · intro A u hC hG hF hu hR; clear hG
      refine Tp.facts_old (fun h1 => ?_) rfl; conv at h1 => rhs; whnf
      refine Tp.facts_nil ?_
      refine Tp.wants_plain rfl ?_
      (apply Tp.gives_run; (simp [go_sem, hC, hF, hu, h1, F1, F2, F3]; exact rfl); (refine Tp.given_is ?_; exact rfl))
    · intro A u hC hG hF hu hR; clear hG
      first | refine Tp.facts_is rfl (fun h13 => ?_) | refine Tp.facts_ty rfl (fun v13 h13 k13 => ?_)
      refine Tp.facts_nil ?_
      refine Tp.wants_plain rfl ?_
      (apply Tp.gives_run; (simp [go_sem, hC, hF, hu, h13, F1, F2, F3]; exact rfl); (refine Tp.given_is ?_; exact rfl))
    · intro A u hC hG hF hu hR; clear hG
      first | refine Tp.facts_is rfl (fun h14 => ?_) | refine Tp.facts_ty rfl (fun v14 h14 k14 => ?_)
      refine Tp.facts_nil ?_
      refine Tp.wants_plain rfl ?_
      (apply Tp.gives_run; (simp [go_sem, hC, hF, hu, h14, F1, F2, F3]; exact rfl); (refine Tp.given_is ?_; exact rfl))
    · intro A u hC hG hF hu hR; clear hG
      first | refine Tp.facts_is rfl (fun h15 => ?_) | refine Tp.facts_ty rfl (fun v15 h15 k15 => ?_)
      refine Tp.facts_nil ?_
      refine Tp.wants_plain rfl ?_
      (apply Tp.gives_run; (simp [go_sem, hC, hF, hu, h15, F1, F2, F3]; exact rfl); (refine Tp.given_call ?_ (n2 u); exact rfl))
    · intro A u hC hG hF hu hR; clear hG
      refine Tp.facts_old (fun h1 => ?_) rfl; conv at h1 => rhs; whnf
      refine Tp.facts_nil ?_
      refine Tp.wants_plain rfl ?_
      (apply Tp.gives_run; (simp [go_sem, hC, hF, hu, h1, F1, F2, F3]; exact rfl); (refine Tp.given_is ?_; exact rfl))
    · intro A u hC hG hF hu hR; clear hG
      first | refine Tp.facts_is rfl (fun h17 => ?_) | refine Tp.facts_ty rfl (fun v17 h17 k17 => ?_)
      refine Tp.facts_nil ?_
      refine Tp.wants_plain rfl ?_
      (apply Tp.gives_run; (simp [go_sem, hC, hF, hu, h17, F1, F2, F3]; exact rfl); (refine Tp.given_is ?_; exact rfl))
    · intro A u hC hG hF hu hR; clear hG
      first | refine Tp.facts_is rfl (fun h18 => ?_) | refine Tp.facts_ty rfl (fun v18 h18 k18 => ?_)
      refine Tp.facts_nil ?_
      refine Tp.wants_plain rfl ?_
      (apply Tp.gives_run; (simp [go_sem, hC, hF, hu, h18, F1, F2, F3]; exact rfl); (refine Tp.given_is ?_; exact rfl))
    · intro A u hC hG hF hu hR; clear hG
      first | refine Tp.facts_is rfl (fun h19 => ?_) | refine Tp.facts_ty rfl (fun v19 h19 k19 => ?_)
      refine Tp.facts_nil ?_
      refine Tp.wants_plain rfl ?_
      (apply Tp.gives_run; (simp [go_sem, hC, hF, hu, h19, F1, F2, F3]; exact rfl); (refine Tp.given_ty ?_ (Tp.bs_new u [_] 5 1 rfl (by omega)) ((Below.refl _ _).alloc (Nat.le_refl _) _); exact rfl))
    · intro A u hC hG hF hu hR; clear hG
      first | refine Tp.facts_is rfl (fun h8 => ?_) | refine Tp.facts_ty rfl (fun v8 h8 k8 => ?_)
      first | refine Tp.facts_is rfl (fun h12 => ?_) | refine Tp.facts_ty rfl (fun v12 h12 k12 => ?_)
      first | refine Tp.facts_is rfl (fun h16 => ?_) | refine Tp.facts_ty rfl (fun v16 h16 k16 => ?_)
      first | refine Tp.facts_is rfl (fun h20 => ?_) | refine Tp.facts_ty rfl (fun v20 h20 k20 => ?_)
      refine Tp.facts_nil ?_
      refine Tp.wants_plain rfl ?_
      (obtain ⟨a8, n8, c8, rfl, s8⟩ := k8; obtain ⟨a12, n12, c12, rfl, s12⟩ := k12; obtain ⟨a16, n16, c16, rfl, s16⟩ := k16; obtain ⟨a20, n20, c20, rfl, s20⟩ := k20; apply Tp.gives_run; (simp [go_sem, hC, hF, hu, h8, h12, h16, h20, F1, F2, F3]; exact rfl); (refine Tp.given_ty ?_ (Tp.bss_new u [_, _, _, _] [_, _, _, _] 34 4 rfl (by omega) ⟨⟨a8, n8, c8, rfl, s8⟩, ⟨a12, n12, c12, rfl, s12⟩, ⟨a16, n16, c16, rfl, s16⟩, ⟨a20, n20, c20, rfl, s20⟩, trivial⟩) ((Below.refl _ _).alloc (Nat.le_refl _) _); exact rfl))
    · intro A u hC hG hF hu hR; clear hG
      first | refine Tp.facts_is rfl (fun h21 => ?_) | refine Tp.facts_ty rfl (fun v21 h21 k21 => ?_)
      refine Tp.facts_nil ?_
      refine Tp.wants_plain rfl ?_
      (apply Tp.gives_run; (simp [go_sem, hC, hF, hu, h21, F1, F2, F3]; exact rfl); (refine Tp.given_call ?_ (Rt.concat _ _ u k21 (by simp) (by simp [Rt.be_length])); exact rfl))
    · intro A u hC hG hF hu hR; clear hG
      first | refine Tp.facts_is rfl (fun h22 => ?_) | refine Tp.facts_ty rfl (fun v22 h22 k22 => ?_)
      refine Tp.facts_nil ?_
      refine Tp.wants_plain rfl ?_
      first | (apply Tp.gives_run; (simp [go_sem, hC, hF, hu, h22, F1, F2, F3]; exact rfl); (refine Tp.given_is ?_; exact rfl)) | (apply Tp.gives_run; (simp [go_sem, hC, hF, h22]; exact rfl); (refine Tp.given_ty ?_ k22 (Below.refl _ _); exact rfl))
    intro wq1 bq1
    first | refine Tp.fin_is rfl rfl rfl ?_ | refine Tp.fin_ty rfl rfl rfl (fun y7 q7 => ?_)
    first | refine Tp.fin_is rfl rfl rfl ?_ | refine Tp.fin_ty rfl rfl rfl (fun y8 q8 => ?_)
    first | refine Tp.fin_is rfl rfl rfl ?_ | refine Tp.fin_ty rfl rfl rfl (fun y9 q9 => ?_)
    first | refine Tp.fin_is rfl rfl rfl ?_ | refine Tp.fin_ty rfl rfl rfl (fun y10 q10 => ?_)
    first | refine Tp.fin_is rfl rfl rfl ?_ | refine Tp.fin_ty rfl rfl rfl (fun y11 q11 => ?_)
    first | refine Tp.fin_is rfl rfl rfl ?_ | refine Tp.fin_ty rfl rfl rfl (fun y12 q12 => ?_)
    first | refine Tp.fin_is rfl rfl rfl ?_ | refine Tp.fin_ty rfl rfl rfl (fun y13 q13 => ?_)
    first | refine Tp.fin_is rfl rfl rfl ?_ | refine Tp.fin_ty rfl rfl rfl (fun y14 q14 => ?_)
    first | refine Tp.fin_is rfl rfl rfl ?_ | refine Tp.fin_ty rfl rfl rfl (fun y15 q15 => ?_)
    first | refine Tp.fin_is rfl rfl rfl ?_ | refine Tp.fin_ty rfl rfl rfl (fun y16 q16 => ?_)
    first | refine Tp.fin_is rfl rfl rfl ?_ | refine Tp.fin_ty rfl rfl rfl (fun y17 q17 => ?_)
    first | refine Tp.fin_is rfl rfl rfl ?_ | refine Tp.fin_ty rfl rfl rfl (fun y18 q18 => ?_)
    first | refine Tp.fin_is rfl rfl rfl ?_ | refine Tp.fin_ty rfl rfl rfl (fun y19 q19 => ?_)
    first | refine Tp.fin_is rfl rfl rfl ?_ | refine Tp.fin_ty rfl rfl rfl (fun y20 q20 => ?_)
    first | refine Tp.fin_is rfl rfl rfl ?_ | refine Tp.fin_ty rfl rfl rfl (fun y21 q21 => ?_)
    first | refine Tp.fin_is rfl rfl rfl ?_ | refine Tp.fin_ty rfl rfl rfl (fun y22 q22 => ?_)
    first | refine Tp.fin_is rfl rfl rfl ?_ | refine Tp.fin_ty rfl rfl rfl (fun y2 q2 => ?_)
    refine Tp.fin_nil ?_
    simp only [Act.put, List.setIfInBounds_toArray, List.set_cons_succ, List.set_cons_zero, List.drop_succ_cons, List.drop_zero, List.drop_nil]
    go_wp2
    go_ret
    refine ⟨_, rfl, ?_, hb1.trans (bq1.mono hb1.size)⟩
    have e : IntKind.u8.wrap len = len % 256 := IntKind.wrap_u8 len
    exact Tp.bs_cast q2 (by simp [e]))
end Go.Proofs
set_option linter.unusedSimpArgs false
namespace Go.Proofs
open Go.Shelf Go.RowKit Go.Lib Go.Rt Go.Nam Go.Tp
def Rt.CV.sgI (x : Rt.CV) : List Int := x.sg.map fun b => (b.toNat : Int)
def Rt.CV.body (x : Rt.CV) : List Int := [99, 101, 114, 116] ++ [(x.st.size : Int) % 256] ++ bytesI x.st ++ Rt.pfxB x.v x.hi x.lo x.len ++ [x.mx % 256] ++ Rt.be x.fr 8 ++ Rt.be x.ti 8 ++ Rt.be x.se 4
/-- What is in range in one. -/
structure Rt.CV.In (x : Rt.CV) : Prop where
  in_ : Rt.CrtIn x.st x.hi x.lo x.len x.mx x.fr x.ti x.se
  sg : x.sg.length = 64
theorem Rt.CV.body_length (x : Rt.CV) : x.body.length = 44 + x.st.size := by simp [Rt.CV.body, Rt.be_length, Rt.pfxB_length, bytesI_length]; omega
def Rt.CV.bodyParts (x : Rt.CV) : List (List Int) := [[99, 101, 114, 116], [(x.st.size : Int) % 256], bytesI x.st, Rt.pfxB x.v x.hi x.lo x.len, [x.mx % 256], Rt.be x.fr 8, Rt.be x.ti 8, Rt.be x.se 4]
theorem Rt.CV.body_flat (x : Rt.CV) : x.bodyParts.flatten = x.body := by simp [Rt.CV.body, Rt.CV.bodyParts]
set_option maxHeartbeats 1000000 in
set_option maxRecDepth 100000 in
theorem Rt.certBody (x : Rt.CV) (hI : x.In) (hs : x.st.size ≤ 1099511627776) (w : World) : Calls Tryd.prog 70 #[.agg x.cells] w (Ret (Ow 5 w.heap.size x.body) w) := by
  have n1 : ∀ u, Calls Tryd.prog 45 #[.int .u64 x.fr, .int .i64 8] u (Ret (Bs (Rt.be x.fr 8)) u) := fun u => Rt.numberT x.fr 8 hI.in_.f0 hI.in_.f1 (by omega) u
  have n2 : ∀ u, Calls Tryd.prog 45 #[.int .u64 x.ti, .int .i64 8] u (Ret (Bs (Rt.be x.ti 8)) u) := fun u => Rt.numberT x.ti 8 hI.in_.t0 hI.in_.t1 (by omega) u
  have hs0 := hI.in_.s0
  have hs1 := hI.in_.s1
  have hse : IntKind.u64.wrap x.se = x.se := by rw [IntKind.wrap_u64]; omega
  have n3 : ∀ u, Calls Tryd.prog 45 #[.int .u64 x.se, .int .i64 4] u (Ret (Bs (Rt.be x.se 4)) u) := fun u => Rt.numberT x.se 4 hs0 (by omega) (by omega) u
  have np := fun u => Rt.prefixB x.v x.hi x.lo x.len u hI.in_.h0 hI.in_.h1 hI.in_.h2 hI.in_.h3
  have hC := x.crt hI.sg
  have e1 : IntKind.u8.wrap (x.st.size : Int) = (x.st.size : Int) % 256 := IntKind.wrap_u8 _
  have e2 : IntKind.u8.wrap x.mx = x.mx % 256 := IntKind.wrap_u8 _
  have HF := Lib.hid x.body_flat
  have HL := Lib.hid x.body_length
  have HS := Lib.hid hs
  clear hI hs
  unfold Rt.CV.bodyParts at HF
  generalize x.body = B at *
  generalize x.cells = cs at *
  obtain ⟨st, v, hi, lo, len, mx, fr, ti, se, sg⟩ := x
  simp only at *
  generalize hp : Rt.pfxB v hi lo len = PB at *
  obtain ⟨w1, ea, r1, hb1, hlt⟩ := Rt.box w cs 31
  have F0 := r1.at 0 hC.c0
  have F1 := r1.at 1 hC.c1
  have F2 := r1.at 2 hC.c2
  have F3 := r1.at 3 hC.c3
  have F4 := r1.at 4 hC.c4
  have F5 := r1.at 5 hC.c5
  have F6 := r1.at 6 hC.c6
  have F7 := r1.at 7 hC.c7
  have F8 := r1.at 8 hC.c8
  have Hp := Lib.hid hp
  clear hC hp
  go_enter Tryd.func70, Tryd.ntmps70
  go_wp2
  refine Tp.region_c 0 1 (by kernel_rfl) 28 32 [[], [(3, some 0)], [(1, none)], [(5, some 2)], [(6, some 3)], [(7, some 4)], [(8, some 5)], [(1, none)], [(10, some 7)], [(11, some 8)], [(1, none)], [(13, some 10)], [(14, some 11)], [(1, none)], [(16, some 13)], [(17, some 14)], [(18, some 15)], [(1, none)], [(20, some 17)], [(21, some 18)], [(1, none)], [(23, some 20)], [(24, some 21)], [(1, none)], [(26, some 23)], [(27, some 24)], [(28, some 25)], [(4, some 1), (9, some 6), (12, some 9), (15, some 12), (19, some 16), (22, some 19), (25, some 22), (29, some 26)]] (by kernel_rfl) rfl ?_
  apply Exists.intro [_, _, _, _, _, _, _, _, _, _, _, _, _, _, _, _, _, _, _, _, _, _, _, _, _, _, _, _]
  refine ⟨⟨?_, ?_, ?_, ?_, ?_, ?_, ?_, ?_, ?_, ?_, ?_, ?_, ?_, ?_, ?_, ?_, ?_, ?_, ?_, ?_, ?_, ?_, ?_, ?_, ?_, ?_, ?_, ?_, trivial⟩, ?_, ?_⟩
  · intro A u hC hG hF hu hR; clear hG
    refine Tp.facts_nil ?_
    refine Tp.wants_plain rfl ?_
    refine Tp.aim_l ?_
    (apply Tp.gives_run; (simp [go_sem, hC, hF, hu, F0, F1, F2, F3, F4, F5, F6, F7, F8, e1, e2, hse]; exact rfl); (refine Tp.given_ty ?_ (Tp.lit_new u w1.heap.size [99, 101, 114, 116] 5 4 rfl hu.size) ((Below.refl _ _).alloc (Nat.le_refl _) _); exact rfl))
  · intro A u hC hG hF hu hR; clear hG
    first | refine Tp.facts_is rfl (fun h3 => ?_) | refine Tp.facts_ty rfl (fun v3 h3 k3 => ?_)
    refine Tp.facts_nil ?_
    refine Tp.wants_plain rfl ?_
    refine Tp.mark_lit (w := w1) 34 5 (.tmp 3) rfl h3 k3 Tryd.underlying34 Tryd.underlying5 (by simp) ?_; exact rfl
  · intro A u hC hG hF hu hR; clear hG
    refine Tp.facts_old (fun h1 => ?_) rfl; conv at h1 => rhs; whnf
    refine Tp.facts_nil ?_
    refine Tp.wants_plain rfl ?_
    refine Tp.aim_l ?_
    (apply Tp.gives_run; (simp [go_sem, hC, hF, hu, h1, F0, F1, F2, F3, F4, F5, F6, F7, F8, e1, e2, hse]; exact rfl); (refine Tp.given_is ?_; exact rfl))
  · intro A u hC hG hF hu hR; clear hG
    first | refine Tp.facts_is rfl (fun h5 => ?_) | refine Tp.facts_ty rfl (fun v5 h5 k5 => ?_)
    refine Tp.facts_nil ?_
    refine Tp.wants_plain rfl ?_
    refine Tp.aim_l ?_
    (apply Tp.gives_run; (simp [go_sem, hC, hF, hu, h5, F0, F1, F2, F3, F4, F5, F6, F7, F8, e1, e2, hse]; exact rfl); (refine Tp.given_is ?_; exact rfl))
  · intro A u hC hG hF hu hR; clear hG
    first | refine Tp.facts_is rfl (fun h6 => ?_) | refine Tp.facts_ty rfl (fun v6 h6 k6 => ?_)
    refine Tp.facts_nil ?_
    refine Tp.wants_plain rfl ?_
    refine Tp.aim_l ?_
    (apply Tp.gives_run; (simp [go_sem, hC, hF, hu, h6, F0, F1, F2, F3, F4, F5, F6, F7, F8, e1, e2, hse]; exact rfl); (refine Tp.given_is ?_; exact rfl))
  · intro A u hC hG hF hu hR; clear hG
    first | refine Tp.facts_is rfl (fun h7 => ?_) | refine Tp.facts_ty rfl (fun v7 h7 k7 => ?_)
    refine Tp.facts_nil ?_
    refine Tp.wants_plain rfl ?_
    refine Tp.aim_l ?_
    (apply Tp.gives_run; (simp [go_sem, hC, hF, hu, h7, F0, F1, F2, F3, F4, F5, F6, F7, F8, e1, e2, hse]; exact rfl); (refine Tp.given_is ?_; exact rfl))
  · intro A u hC hG hF hu hR; clear hG
    first | refine Tp.facts_is rfl (fun h8 => ?_) | refine Tp.facts_ty rfl (fun v8 h8 k8 => ?_)
    refine Tp.facts_nil ?_
    refine Tp.wants_plain rfl ?_
    refine Tp.aim_l ?_
    (apply Tp.gives_run; (simp [go_sem, hC, hF, hu, h8, F0, F1, F2, F3, F4, F5, F6, F7, F8, e1, e2, hse]; exact rfl); (refine Tp.given_ty ?_ (Tp.bs_new u [_] 5 1 rfl (by omega)) ((Below.refl _ _).alloc (Nat.le_refl _) _); exact rfl))
  · intro A u hC hG hF hu hR; clear hG
    refine Tp.facts_old (fun h1 => ?_) rfl; conv at h1 => rhs; whnf
    refine Tp.facts_nil ?_
    refine Tp.wants_plain rfl ?_
    refine Tp.aim_l ?_
    (apply Tp.gives_run; (simp [go_sem, hC, hF, hu, h1, F0, F1, F2, F3, F4, F5, F6, F7, F8, e1, e2, hse]; exact rfl); (refine Tp.given_is ?_; exact rfl))
  · intro A u hC hG hF hu hR; clear hG
    first | refine Tp.facts_is rfl (fun h10 => ?_) | refine Tp.facts_ty rfl (fun v10 h10 k10 => ?_)
    refine Tp.facts_nil ?_
    refine Tp.wants_plain rfl ?_
    refine Tp.aim_l ?_
    (apply Tp.gives_run; (simp [go_sem, hC, hF, hu, h10, F0, F1, F2, F3, F4, F5, F6, F7, F8, e1, e2, hse]; exact rfl); (refine Tp.given_is ?_; exact rfl))
  · intro A u hC hG hF hu hR; clear hG
    first | refine Tp.facts_is rfl (fun h11 => ?_) | refine Tp.facts_ty rfl (fun v11 h11 k11 => ?_)
    refine Tp.facts_nil ?_
    refine Tp.wants_plain rfl ?_
    refine Tp.aim_l ?_
    refine Tp.bytes_of_string 9 34 5 (.tmp 11) rfl h11 Tryd.underlying9 Tryd.underlying34 Tryd.underlying5 (by have := HS.out; omega) ?_; exact rfl
  · intro A u hC hG hF hu hR; clear hG
    refine Tp.facts_old (fun h1 => ?_) rfl; conv at h1 => rhs; whnf
    refine Tp.facts_nil ?_
    refine Tp.wants_plain rfl ?_
    refine Tp.aim_l ?_
    (apply Tp.gives_run; (simp [go_sem, hC, hF, hu, h1, F0, F1, F2, F3, F4, F5, F6, F7, F8, e1, e2, hse]; exact rfl); (refine Tp.given_is ?_; exact rfl))
  · intro A u hC hG hF hu hR; clear hG
    first | refine Tp.facts_is rfl (fun h13 => ?_) | refine Tp.facts_ty rfl (fun v13 h13 k13 => ?_)
    refine Tp.facts_nil ?_
    refine Tp.wants_plain rfl ?_
    refine Tp.aim_l ?_
    (apply Tp.gives_run; (simp [go_sem, hC, hF, hu, h13, F0, F1, F2, F3, F4, F5, F6, F7, F8, e1, e2, hse]; exact rfl); (refine Tp.given_is ?_; exact rfl))
  · intro A u hC hG hF hu hR; clear hG
    first | refine Tp.facts_is rfl (fun h14 => ?_) | refine Tp.facts_ty rfl (fun v14 h14 k14 => ?_)
    refine Tp.facts_nil ?_
    refine Tp.wants_plain rfl ?_
    refine Tp.aim_l ?_
    (apply Tp.gives_run; (simp [go_sem, hC, hF, hu, h14, F0, F1, F2, F3, F4, F5, F6, F7, F8, e1, e2, hse]; exact rfl); (refine Tp.given_call ?_ (np u); exact rfl))
  · intro A u hC hG hF hu hR; clear hG
    refine Tp.facts_old (fun h1 => ?_) rfl; conv at h1 => rhs; whnf
    refine Tp.facts_nil ?_
    refine Tp.wants_plain rfl ?_
    refine Tp.aim_l ?_
    (apply Tp.gives_run; (simp [go_sem, hC, hF, hu, h1, F0, F1, F2, F3, F4, F5, F6, F7, F8, e1, e2, hse]; exact rfl); (refine Tp.given_is ?_; exact rfl))
  · intro A u hC hG hF hu hR; clear hG
    first | refine Tp.facts_is rfl (fun h16 => ?_) | refine Tp.facts_ty rfl (fun v16 h16 k16 => ?_)
    refine Tp.facts_nil ?_
    refine Tp.wants_plain rfl ?_
    refine Tp.aim_l ?_
    (apply Tp.gives_run; (simp [go_sem, hC, hF, hu, h16, F0, F1, F2, F3, F4, F5, F6, F7, F8, e1, e2, hse]; exact rfl); (refine Tp.given_is ?_; exact rfl))
  · intro A u hC hG hF hu hR; clear hG
    first | refine Tp.facts_is rfl (fun h17 => ?_) | refine Tp.facts_ty rfl (fun v17 h17 k17 => ?_)
    refine Tp.facts_nil ?_
    refine Tp.wants_plain rfl ?_
    refine Tp.aim_l ?_
    (apply Tp.gives_run; (simp [go_sem, hC, hF, hu, h17, F0, F1, F2, F3, F4, F5, F6, F7, F8, e1, e2, hse]; exact rfl); (refine Tp.given_is ?_; exact rfl))
  · intro A u hC hG hF hu hR; clear hG
    first | refine Tp.facts_is rfl (fun h18 => ?_) | refine Tp.facts_ty rfl (fun v18 h18 k18 => ?_)
    refine Tp.facts_nil ?_
    refine Tp.wants_plain rfl ?_
    refine Tp.aim_l ?_
    (apply Tp.gives_run; (simp [go_sem, hC, hF, hu, h18, F0, F1, F2, F3, F4, F5, F6, F7, F8, e1, e2, hse]; exact rfl); (refine Tp.given_ty ?_ (Tp.bs_new u [_] 5 1 rfl (by omega)) ((Below.refl _ _).alloc (Nat.le_refl _) _); exact rfl))
  · intro A u hC hG hF hu hR; clear hG
    refine Tp.facts_old (fun h1 => ?_) rfl; conv at h1 => rhs; whnf
    refine Tp.facts_nil ?_
    refine Tp.wants_plain rfl ?_
    refine Tp.aim_l ?_
    (apply Tp.gives_run; (simp [go_sem, hC, hF, hu, h1, F0, F1, F2, F3, F4, F5, F6, F7, F8, e1, e2, hse]; exact rfl); (refine Tp.given_is ?_; exact rfl))
  · intro A u hC hG hF hu hR; clear hG
    first | refine Tp.facts_is rfl (fun h20 => ?_) | refine Tp.facts_ty rfl (fun v20 h20 k20 => ?_)
    refine Tp.facts_nil ?_
    refine Tp.wants_plain rfl ?_
    refine Tp.aim_l ?_
    (apply Tp.gives_run; (simp [go_sem, hC, hF, hu, h20, F0, F1, F2, F3, F4, F5, F6, F7, F8, e1, e2, hse]; exact rfl); (refine Tp.given_is ?_; exact rfl))
  · intro A u hC hG hF hu hR; clear hG
    first | refine Tp.facts_is rfl (fun h21 => ?_) | refine Tp.facts_ty rfl (fun v21 h21 k21 => ?_)
    refine Tp.facts_nil ?_
    refine Tp.wants_plain rfl ?_
    refine Tp.aim_l ?_
    (apply Tp.gives_run; (simp [go_sem, hC, hF, hu, h21, F0, F1, F2, F3, F4, F5, F6, F7, F8, e1, e2, hse]; exact rfl); (refine Tp.given_call ?_ (n1 u); exact rfl))
  · intro A u hC hG hF hu hR; clear hG
    refine Tp.facts_old (fun h1 => ?_) rfl; conv at h1 => rhs; whnf
    refine Tp.facts_nil ?_
    refine Tp.wants_plain rfl ?_
    refine Tp.aim_l ?_
    (apply Tp.gives_run; (simp [go_sem, hC, hF, hu, h1, F0, F1, F2, F3, F4, F5, F6, F7, F8, e1, e2, hse]; exact rfl); (refine Tp.given_is ?_; exact rfl))
  · intro A u hC hG hF hu hR; clear hG
    first | refine Tp.facts_is rfl (fun h23 => ?_) | refine Tp.facts_ty rfl (fun v23 h23 k23 => ?_)
    refine Tp.facts_nil ?_
    refine Tp.wants_plain rfl ?_
    refine Tp.aim_l ?_
    (apply Tp.gives_run; (simp [go_sem, hC, hF, hu, h23, F0, F1, F2, F3, F4, F5, F6, F7, F8, e1, e2, hse]; exact rfl); (refine Tp.given_is ?_; exact rfl))
  · intro A u hC hG hF hu hR; clear hG
    first | refine Tp.facts_is rfl (fun h24 => ?_) | refine Tp.facts_ty rfl (fun v24 h24 k24 => ?_)
    refine Tp.facts_nil ?_
    refine Tp.wants_plain rfl ?_
    refine Tp.aim_l ?_
    (apply Tp.gives_run; (simp [go_sem, hC, hF, hu, h24, F0, F1, F2, F3, F4, F5, F6, F7, F8, e1, e2, hse]; exact rfl); (refine Tp.given_call ?_ (n2 u); exact rfl))
  · intro A u hC hG hF hu hR; clear hG
    refine Tp.facts_old (fun h1 => ?_) rfl; conv at h1 => rhs; whnf
    refine Tp.facts_nil ?_
    refine Tp.wants_plain rfl ?_
    refine Tp.aim_l ?_
    (apply Tp.gives_run; (simp [go_sem, hC, hF, hu, h1, F0, F1, F2, F3, F4, F5, F6, F7, F8, e1, e2, hse]; exact rfl); (refine Tp.given_is ?_; exact rfl))
  · intro A u hC hG hF hu hR; clear hG
    first | refine Tp.facts_is rfl (fun h26 => ?_) | refine Tp.facts_ty rfl (fun v26 h26 k26 => ?_)
    refine Tp.facts_nil ?_
    refine Tp.wants_plain rfl ?_
    refine Tp.aim_l ?_
    (apply Tp.gives_run; (simp [go_sem, hC, hF, hu, h26, F0, F1, F2, F3, F4, F5, F6, F7, F8, e1, e2, hse]; exact rfl); (refine Tp.given_is ?_; exact rfl))
  · intro A u hC hG hF hu hR; clear hG
    first | refine Tp.facts_is rfl (fun h27 => ?_) | refine Tp.facts_ty rfl (fun v27 h27 k27 => ?_)
    refine Tp.facts_nil ?_
    refine Tp.wants_plain rfl ?_
    refine Tp.aim_l ?_
    (apply Tp.gives_run; (simp [go_sem, hC, hF, hu, h27, F0, F1, F2, F3, F4, F5, F6, F7, F8, e1, e2, hse]; exact rfl); (refine Tp.given_is ?_; exact rfl))
  · intro A u hC hG hF hu hR; clear hG
    first | refine Tp.facts_is rfl (fun h28 => ?_) | refine Tp.facts_ty rfl (fun v28 h28 k28 => ?_)
    refine Tp.facts_nil ?_
    refine Tp.wants_plain rfl ?_
    refine Tp.aim_l ?_
    (apply Tp.gives_run; (simp [go_sem, hC, hF, hu, h28, F0, F1, F2, F3, F4, F5, F6, F7, F8, e1, e2, hse]; exact rfl); (refine Tp.given_call ?_ (n3 u); exact rfl))
  · intro A u hC hG hF hu hR; clear hG
    first | refine Tp.facts_is rfl (fun h4 => ?_) | refine Tp.facts_ty rfl (fun v4 h4 k4 => ?_)
    first | refine Tp.facts_is rfl (fun h9 => ?_) | refine Tp.facts_ty rfl (fun v9 h9 k9 => ?_)
    first | refine Tp.facts_is rfl (fun h12 => ?_) | refine Tp.facts_ty rfl (fun v12 h12 k12 => ?_)
    first | refine Tp.facts_is rfl (fun h15 => ?_) | refine Tp.facts_ty rfl (fun v15 h15 k15 => ?_)
    first | refine Tp.facts_is rfl (fun h19 => ?_) | refine Tp.facts_ty rfl (fun v19 h19 k19 => ?_)
    first | refine Tp.facts_is rfl (fun h22 => ?_) | refine Tp.facts_ty rfl (fun v22 h22 k22 => ?_)
    first | refine Tp.facts_is rfl (fun h25 => ?_) | refine Tp.facts_ty rfl (fun v25 h25 k25 => ?_)
    first | refine Tp.facts_is rfl (fun h29 => ?_) | refine Tp.facts_ty rfl (fun v29 h29 k29 => ?_)
    refine Tp.facts_nil ?_
    refine Tp.wants_plain rfl ?_
    refine Tp.aim_l ?_
    (obtain ⟨a4, n4, c4, rfl, s4⟩ := k4; obtain ⟨a9, n9, c9, rfl, s9⟩ := k9; obtain ⟨a12, n12, c12, rfl, s12⟩ := k12; obtain ⟨a15, n15, c15, rfl, s15⟩ := k15; obtain ⟨a19, n19, c19, rfl, s19⟩ := k19; obtain ⟨a22, n22, c22, rfl, s22⟩ := k22; obtain ⟨a25, n25, c25, rfl, s25⟩ := k25; obtain ⟨a29, n29, c29, rfl, s29⟩ := k29; apply Tp.gives_run; (simp [go_sem, hC, hF, hu, h4, h9, h12, h15, h19, h22, h25, h29, F0, F1, F2, F3, F4, F5, F6, F7, F8, e1, e2, hse]; exact rfl); (refine Tp.given_ty ?_ (Tp.bss_new u [_, _, _, _, _, _, _, _] [_, _, _, _, _, _, _, _] 34 8 rfl (by omega) ⟨⟨a4, n4, c4, rfl, s4⟩, ⟨a9, n9, c9, rfl, s9⟩, ⟨a12, n12, c12, rfl, s12⟩, ⟨a15, n15, c15, rfl, s15⟩, ⟨a19, n19, c19, rfl, s19⟩, ⟨a22, n22, c22, rfl, s22⟩, ⟨a25, n25, c25, rfl, s25⟩, ⟨a29, n29, c29, rfl, s29⟩, trivial⟩) ((Below.refl _ _).alloc (Nat.le_refl _) _); exact rfl))
  · exact ⟨.inl rfl, .inr (by first | exact Tp.cst_is _ | exact Tp.cst_bs _ | exact Tp.cst_any | exact Tp.cst_bss _), .inr (by first | exact Tp.cst_is _ | exact Tp.cst_bs _ | exact Tp.cst_any | exact Tp.cst_bss _), .inr (by first | exact Tp.cst_is _ | exact Tp.cst_bs _ | exact Tp.cst_any | exact Tp.cst_bss _), .inr (by first | exact Tp.cst_is _ | exact Tp.cst_bs _ | exact Tp.cst_any | exact Tp.cst_bss _), .inr (by first | exact Tp.cst_is _ | exact Tp.cst_bs _ | exact Tp.cst_any | exact Tp.cst_bss _), .inr (by first | exact Tp.cst_is _ | exact Tp.cst_bs _ | exact Tp.cst_any | exact Tp.cst_bss _), .inr (by first | exact Tp.cst_is _ | exact Tp.cst_bs _ | exact Tp.cst_any | exact Tp.cst_bss _), .inr (by first | exact Tp.cst_is _ | exact Tp.cst_bs _ | exact Tp.cst_any | exact Tp.cst_bss _), .inr (by first | exact Tp.cst_is _ | exact Tp.cst_bs _ | exact Tp.cst_any | exact Tp.cst_bss _), .inr (by first | exact Tp.cst_is _ | exact Tp.cst_bs _ | exact Tp.cst_any | exact Tp.cst_bss _), .inr (by first | exact Tp.cst_is _ | exact Tp.cst_bs _ | exact Tp.cst_any | exact Tp.cst_bss _), .inr (by first | exact Tp.cst_is _ | exact Tp.cst_bs _ | exact Tp.cst_any | exact Tp.cst_bss _), .inr (by first | exact Tp.cst_is _ | exact Tp.cst_bs _ | exact Tp.cst_any | exact Tp.cst_bss _), .inr (by first | exact Tp.cst_is _ | exact Tp.cst_bs _ | exact Tp.cst_any | exact Tp.cst_bss _), .inr (by first | exact Tp.cst_is _ | exact Tp.cst_bs _ | exact Tp.cst_any | exact Tp.cst_bss _), .inr (by first | exact Tp.cst_is _ | exact Tp.cst_bs _ | exact Tp.cst_any | exact Tp.cst_bss _), .inr (by first | exact Tp.cst_is _ | exact Tp.cst_bs _ | exact Tp.cst_any | exact Tp.cst_bss _), .inr (by first | exact Tp.cst_is _ | exact Tp.cst_bs _ | exact Tp.cst_any | exact Tp.cst_bss _), .inr (by first | exact Tp.cst_is _ | exact Tp.cst_bs _ | exact Tp.cst_any | exact Tp.cst_bss _), .inr (by first | exact Tp.cst_is _ | exact Tp.cst_bs _ | exact Tp.cst_any | exact Tp.cst_bss _), .inr (by first | exact Tp.cst_is _ | exact Tp.cst_bs _ | exact Tp.cst_any | exact Tp.cst_bss _), .inr (by first | exact Tp.cst_is _ | exact Tp.cst_bs _ | exact Tp.cst_any | exact Tp.cst_bss _), .inr (by first | exact Tp.cst_is _ | exact Tp.cst_bs _ | exact Tp.cst_any | exact Tp.cst_bss _), .inr (by first | exact Tp.cst_is _ | exact Tp.cst_bs _ | exact Tp.cst_any | exact Tp.cst_bss _), .inr (by first | exact Tp.cst_is _ | exact Tp.cst_bs _ | exact Tp.cst_any | exact Tp.cst_bss _), .inr (by first | exact Tp.cst_is _ | exact Tp.cst_bs _ | exact Tp.cst_any | exact Tp.cst_bss _), .inr (by first | exact Tp.cst_is _ | exact Tp.cst_bs _ | exact Tp.cst_any | exact Tp.cst_bss _), trivial⟩
  intro wq1 bq1
  refine Tp.fin_used rfl rfl (fun y3 => ?_)
  first | refine Tp.fin_is rfl rfl rfl ?_ | refine Tp.fin_ty rfl rfl rfl (fun y4 q4 => ?_)
  first | refine Tp.fin_is rfl rfl rfl ?_ | refine Tp.fin_ty rfl rfl rfl (fun y5 q5 => ?_)
  first | refine Tp.fin_is rfl rfl rfl ?_ | refine Tp.fin_ty rfl rfl rfl (fun y6 q6 => ?_)
  first | refine Tp.fin_is rfl rfl rfl ?_ | refine Tp.fin_ty rfl rfl rfl (fun y7 q7 => ?_)
  first | refine Tp.fin_is rfl rfl rfl ?_ | refine Tp.fin_ty rfl rfl rfl (fun y8 q8 => ?_)
  first | refine Tp.fin_is rfl rfl rfl ?_ | refine Tp.fin_ty rfl rfl rfl (fun y9 q9 => ?_)
  first | refine Tp.fin_is rfl rfl rfl ?_ | refine Tp.fin_ty rfl rfl rfl (fun y10 q10 => ?_)
  first | refine Tp.fin_is rfl rfl rfl ?_ | refine Tp.fin_ty rfl rfl rfl (fun y11 q11 => ?_)
  first | refine Tp.fin_is rfl rfl rfl ?_ | refine Tp.fin_ty rfl rfl rfl (fun y12 q12 => ?_)
  first | refine Tp.fin_is rfl rfl rfl ?_ | refine Tp.fin_ty rfl rfl rfl (fun y13 q13 => ?_)
  first | refine Tp.fin_is rfl rfl rfl ?_ | refine Tp.fin_ty rfl rfl rfl (fun y14 q14 => ?_)
  first | refine Tp.fin_is rfl rfl rfl ?_ | refine Tp.fin_ty rfl rfl rfl (fun y15 q15 => ?_)
  first | refine Tp.fin_is rfl rfl rfl ?_ | refine Tp.fin_ty rfl rfl rfl (fun y16 q16 => ?_)
  first | refine Tp.fin_is rfl rfl rfl ?_ | refine Tp.fin_ty rfl rfl rfl (fun y17 q17 => ?_)
  first | refine Tp.fin_is rfl rfl rfl ?_ | refine Tp.fin_ty rfl rfl rfl (fun y18 q18 => ?_)
  first | refine Tp.fin_is rfl rfl rfl ?_ | refine Tp.fin_ty rfl rfl rfl (fun y19 q19 => ?_)
  first | refine Tp.fin_is rfl rfl rfl ?_ | refine Tp.fin_ty rfl rfl rfl (fun y20 q20 => ?_)
  first | refine Tp.fin_is rfl rfl rfl ?_ | refine Tp.fin_ty rfl rfl rfl (fun y21 q21 => ?_)
  first | refine Tp.fin_is rfl rfl rfl ?_ | refine Tp.fin_ty rfl rfl rfl (fun y22 q22 => ?_)
  first | refine Tp.fin_is rfl rfl rfl ?_ | refine Tp.fin_ty rfl rfl rfl (fun y23 q23 => ?_)
  first | refine Tp.fin_is rfl rfl rfl ?_ | refine Tp.fin_ty rfl rfl rfl (fun y24 q24 => ?_)
  first | refine Tp.fin_is rfl rfl rfl ?_ | refine Tp.fin_ty rfl rfl rfl (fun y25 q25 => ?_)
  first | refine Tp.fin_is rfl rfl rfl ?_ | refine Tp.fin_ty rfl rfl rfl (fun y26 q26 => ?_)
  first | refine Tp.fin_is rfl rfl rfl ?_ | refine Tp.fin_ty rfl rfl rfl (fun y27 q27 => ?_)
  first | refine Tp.fin_is rfl rfl rfl ?_ | refine Tp.fin_ty rfl rfl rfl (fun y28 q28 => ?_)
  first | refine Tp.fin_is rfl rfl rfl ?_ | refine Tp.fin_ty rfl rfl rfl (fun y29 q29 => ?_)
  first | refine Tp.fin_is rfl rfl rfl ?_ | refine Tp.fin_ty rfl rfl rfl (fun y30 q30 => ?_)
  refine Tp.fin_nil ?_
  simp only [Act.put, List.setIfInBounds_toArray, List.set_cons_succ, List.set_cons_zero, List.drop_succ_cons, List.drop_zero, List.drop_nil]
  have hc := Rt.concatO _ _ wq1 q30 (by simp) (by rw [HF.out, HL.out]; have := HS.out; omega)
  rw [HF.out] at hc
  go_wp2_with (go_at_call 44; go_fit hc; rintro e w5 ⟨v5, rfl, o5, b5⟩)
  go_ret
  have b2 := hb1.trans (bq1.mono hb1.size)
  exact ⟨_, rfl, Tp.ow_base o5 b2.size, b2.trans (b5.mono b2.size)⟩
end Go.Proofs
set_option linter.unusedSimpArgs false
namespace Go.Proofs
open Go.Shelf Go.RowKit Go.Lib Go.Rt Go.Nam Go.Tp
def Rt.CV.bytes (x : Rt.CV) : List Int := x.body ++ x.sgI
theorem Rt.CV.sig_cells (x : Rt.CV) (h : x.sg.length = 64) : (x.cells.toList.drop 9).take 64 = x.sgI.map (Value.int .u8) := by
  unfold Rt.CV.cells Rt.CV.list Rt.CV.sgI
  simp only [List.drop_succ_cons, List.drop_zero]
  rw [List.take_of_length_le (by simp [h])]
  simp [Function.comp_def, Extern.Stop.cell]
theorem Rt.CV.cells_size (x : Rt.CV) (h : x.sg.length = 64) : x.cells.size = 73 := by simp [Rt.CV.cells, Rt.CV.list, h]
theorem Rt.Row.whole31 {w : World} {B : Nat} {cs : Array Value} (h : Rt.Row w B 31 cs) (hs : cs.size = 73) : (loadVar 31 ⟨B, 0, none⟩).run Tryd.prog w = .ok (.agg cs) w :=
  run_loadVar_row w B 31 31 cs (0, 0) _ h Tryd.underlying31 rfl (by rw [hs]; exact Rt.size31)
def Rt.PutPost (w : World) (ok : Bool) (l : List Int) (e : Ending) (w' : World) : Prop :=
  Below w.heap.size w w' ∧ if ok then ∃ v, e = .returned (.tuple #[v, .int .i64 0]) ∧ (Ow 5 w.heap.size l).p v w' else e = .returned (.tuple #[.slice none 0 0, .int .i64 20])
set_option maxHeartbeats 1000000 in
set_option maxRecDepth 100000 in
theorem Rt.certPut (x : Rt.CV) (hI : x.In) (hs : x.st.size ≤ 1099511627776) (w : World) (hT : Utf8Tabs 0 1 w) :
    Calls Tryd.prog 43 #[.agg x.cells] w (Rt.PutPost w (Rt.cR x.st x.v x.hi x.lo x.len x.mx x.fr x.ti) x.bytes) := by
  obtain ⟨i5, hi5, hz0, hz1, hz2⟩ := info_parts Rt.info5
  have hc := fun w hT => Rt.certRight x.cells x.st x.v x.hi x.lo x.len x.mx x.fr x.ti x.se w (x.crt hI.sg) hI.in_ hT
  have hb := fun w => Rt.certBody x hI hs w
  have hcs := x.cells_size hI.sg
  have HG := Lib.hid (x.sig_cells hI.sg)
  have HL := Lib.hid x.body_length
  have HS := Lib.hid hs
  have HE : Hid (x.bytes = x.body ++ x.sgI) := Lib.hid rfl
  have HSL : Hid (x.sgI.length = 64) := Lib.hid (by simp [Rt.CV.sgI, hI.sg])
  clear hs hI
  generalize x.bytes = BY at *
  generalize x.body = BO at *
  generalize x.sgI = SG at *
  generalize Rt.cR x.st x.v x.hi x.lo x.len x.mx x.fr x.ti = OK at *
  generalize x.cells = cs at *
  obtain ⟨w1, ea, r1, hb1, hlt⟩ := Rt.box w cs 31
  have hT1 := Utf8Tabs_below hT hb1
  have HW : ∀ u, Below w1.heap.size w1 u → (loadVar 31 ⟨w.heap.size, 0, none⟩).run Tryd.prog u = .ok (.agg cs) u := fun u hu => (r1.keep hu).whole31 hcs
  have hW1 := Lib.hid (HW w1 (Below.refl _ _))
  have HW := Lib.hid HW
  go_enter Tryd.func43, Tryd.ntmps43
  cases OK
  · go_wp2_with (first
      | (guard_target =~ wpList _ _ _ (_ :: _) _ _; refine Rt.load_at 31 rfl ⟨w.heap.size, 0, none⟩ rfl (by kernel_rfl) hW1.out ?_)
      | (go_at_call 31; go_fit (hc _ hT1); rintro e w2 ⟨rfl, hb2⟩))
    go_ret2
    exact ⟨hb1.trans (hb2.mono hb1.size), rfl⟩
  · go_wp2_with (first
      | (guard_target =~ wpList _ _ _ (_ :: _) _ _; refine Rt.load_at 31 rfl ⟨w.heap.size, 0, none⟩ rfl (by kernel_rfl) hW1.out ?_)
      | (go_at_call 31; go_fit (hc _ hT1); rintro e w2 ⟨rfl, hb2⟩; have r2 := r1.keep hb2))
    refine Tp.region_ex (by kernel_rfl) 4 12 [[(1, none)], [(7, some 0)], [(1, none)], [(9, some 2)]] (by kernel_rfl) rfl ?_
    apply Exists.intro [_, _, _, _]
    refine ⟨⟨?_, ?_, ?_, ?_, trivial⟩, ?_⟩
    · intro A u hC hG hF hu hR; clear hG
      refine Tp.facts_old (fun h1 => ?_) rfl; conv at h1 => rhs; whnf
      refine Tp.facts_nil ?_
      refine Tp.wants_plain rfl ?_
      refine Tp.load_var rfl h1 (HW.out u (hb2.trans (hu.mono hb2.size))) ?_; exact rfl
    · intro A u hC hG hF hu hR; clear hG
      first | refine Tp.facts_is rfl (fun h7 => ?_) | refine Tp.facts_ty rfl (fun v7 h7 k7 => ?_)
      refine Tp.facts_nil ?_
      refine Tp.wants_plain rfl ?_
      (apply Tp.gives_run; (simp [go_sem, hC, hF, hu, h7]; exact rfl); (refine Tp.given_call ?_ (T := Ow 5 w2.heap.size BO) (Calls.mono (hb u) fun _ _ h => Tp.ret_base h hu.size); exact rfl))
    · intro A u hC hG hF hu hR; clear hG
      refine Tp.facts_old (fun h1 => ?_) rfl; conv at h1 => rhs; whnf
      refine Tp.facts_nil ?_
      refine Tp.wants_plain rfl ?_
      (apply Tp.gives_run; (simp [go_sem, hC, hF, hu, h1]; exact rfl); (refine Tp.given_is ?_; exact rfl))
    · intro A u hC hG hF hu hR; clear hG
      first | refine Tp.facts_is rfl (fun h9 => ?_) | refine Tp.facts_ty rfl (fun v9 h9 k9 => ?_)
      refine Tp.facts_nil ?_
      refine Tp.wants_plain rfl ?_
      (apply Tp.gives_run; (simp [go_sem, hC, hF, hu, h9]; exact rfl); (refine Tp.given_is ?_; exact rfl))
    intro wq1 bq1
    first | refine Tp.fin_is rfl rfl rfl ?_ | refine Tp.fin_ty rfl rfl rfl (fun y7 q7 => ?_)
    first | refine Tp.fin_is rfl rfl rfl ?_ | refine Tp.fin_ty rfl rfl rfl (fun y8 q8 => ?_)
    first | refine Tp.fin_is rfl rfl rfl ?_ | refine Tp.fin_ty rfl rfl rfl (fun y9 q9 => ?_)
    first | refine Tp.fin_is rfl rfl rfl ?_ | refine Tp.fin_ty rfl rfl rfl (fun y10 q10 => ?_)
    refine Tp.fin_nil ?_
    simp only [Act.put, List.setIfInBounds_toArray, List.set_cons_succ, List.set_cons_zero, List.drop_succ_cons, List.drop_zero, List.drop_nil]
    obtain ⟨n8, o8⟩ := q8
    have r3 := r2.keep bq1
    have hsl := Sl.of_mid r3 9 64 64 (by omega) (Nat.le_refl _) (by simp [maxLen])
    rw [HG.out] at hsl
    have hn8 : n8 = 44 + x.st.size := by have h1 := o8.1; have h2 := HL.out; simp only [List.length_map, Nat.mul_one] at h1; omega
    have hlt8 := o8.lt
    have O8 := Lib.hid o8
    have HSL8 := Lib.hid hsl
    have hss := HS.out
    have HLT := Lib.hid hlt8
    clear o8 hsl hlt8
    go_wp2_with (at_builtin; refine wpList_append_sl rfl (.tmp 8) (.tmp 10) 34 rfl w2.heap.size 5 i5 _ 1 Tryd.underlying34 hi5 hz0 hz1 hz2 rfl _ n8 _ rfl O8.out _ _ _ _ rfl HSL8.out (Rt.u8_one SG) (by simp only [maxLen]; omega) (by omega) bq1.size ?_; intro v' w4 hown4 hg4 hat4)
    go_ret2
    have b2 := hb1.trans (hb2.mono hb1.size)
    have b3 := b2.trans (bq1.mono b2.size)
    refine ⟨b3.grown hg4 b3.size (fun g hg => Nat.le_trans b2.size (HLT.out g hg).1), v', rfl, Tp.ow_base ⟨_, by rw [HE.out, List.map_append]; exact hown4⟩ b2.size⟩
end Go.Proofs
set_option linter.unusedSimpArgs false
namespace Go.Proofs
open Go.Shelf Go.RowKit Go.Lib Go.Rt Go.Nam Go.Tp
set_option maxHeartbeats 1000000 in
set_option maxRecDepth 100000 in
theorem Rt.version (v : Bool) (w : World) : Calls Tryd.prog 72 #[.bool v] w fun e w' => e = .returned (.int .u8 (Rt.vb v)) ∧ w = w' := by
  unfold Rt.vb
  go_enter Tryd.func72, Tryd.ntmps72
  cases v
  all_goals (
    go_wp2
    go_ret
    exact ⟨rfl, rfl⟩)
set_option maxHeartbeats 1000000 in
set_option maxRecDepth 100000 in
theorem Rt.putU (base : Nat) (v0 : Value) (xs : List Value) (n : Int) (k : Nat) (h0 : 0 ≤ n) (h1 : n < 18446744073709551616) (hk : k ≤ 8) (w : World) (hown : w.ownsRow base 5 1 v0 xs.length xs) (hm : xs.length ≤ 35184372088832) (hb : base ≤ w.heap.size) :
    Calls Tryd.prog 48 #[v0, .int .u64 n, .int .i64 (k : Int)] w fun e w' => ∃ v, e = .returned v ∧ w'.ownsRow base 5 1 v (xs ++ (Rt.be n k).map (Value.int .u8)).length (xs ++ (Rt.be n k).map (Value.int .u8)) ∧ Gr w w' v0 v := by
  obtain ⟨i5, hi5, hz0, hz1, hz2⟩ := info_parts Rt.info5
  have HO0 := Lib.hid hown
  clear hown
  go_enter Tryd.func48, Tryd.ntmps48
  go_wp2
  go_loopw [0, 7] (fun v i wr => ∃ j : Nat, j ≤ k ∧ i = .int .i64 ((j : Int) - 1) ∧ (∃ ys, wr.ownsRow base 5 1 v ys.length ys ∧ Hid (ys.length = xs.length + (k - j)) ∧ Hid (ys ++ (Rt.be n j).map (Value.int .u8) = xs ++ (Rt.be n k).map (Value.int .u8))) ∧ Gr w wr v0 v) (fun _ i _ => (Go.RowKit.intOf i + 1).toNat)
  case atStart => exact ⟨k, Nat.le_refl _, rfl, ⟨xs, HO0.out, Lib.hid (by omega), Lib.hid rfl⟩, Gr.refl _ _⟩
  case round =>
    obtain ⟨j, hj, rfl, ⟨ys, hown, HY, HX⟩, hgr⟩ := hrel
    have HO := Lib.hid hown
    have HG := Lib.hid hgr
    have hys := HY.out
    have HB := hgr.gr.size
    generalize ys.length = yn at *
    clear hown hgr HY
    by_cases hj0 : 0 < j
    · go_wp2_with (at_builtin; refine wpList_append_sl rfl (.tmp 14) (.tmp 20) 34 rfl base 5 i5 _ 1 Tryd.underlying34 hi5 hz0 hz1 hz2 rfl _ yn ys rfl (HO.out.alloc _) _ 1 1 _ rfl (Sl.of_row (heap_alloc_new wr _) 1 1 (by simp) (Nat.le_refl _) (by simp [maxLen])) (by intro u hu; simp at hu; subst hu; rfl) (by simp only [maxLen]; omega) (by omega) (by simp; omega) ?_; intro v' w1 hown1 hg1 hat1)
      go_roundw
      case rel =>
        obtain ⟨i, rfl⟩ : ∃ i, j = i + 1 := ⟨j - 1, by omega⟩
        have hyl : ys.length = yn := by have := HO.out.1; omega
        refine ⟨i, by omega, by simp, ⟨ys ++ [.int .u8 (n / 2 ^ (8 * i) % 256)], ?_, Lib.hid (by rw [List.length_append, hyl, hys]; simp; omega), Lib.hid ?_⟩, ?_⟩
        · have h := hown1
          simp only [Nat.add_sub_cancel] at h
          rw [List.length_append, hyl]
          simpa using h
        · have := HX.out
          rw [← this]
          simp [Rt.be]
        · exact (HG.out.alloc _).trans ⟨hg1, hat1.imp id fun e g hg => by rw [e] at hg; cases hg; exact Nat.le_refl _⟩
      case measure => simp [Go.RowKit.intOf]; omega
    · have : j = 0 := by omega
      subst this
      go_wp2
      go_ret
      have hyl : ys.length = yn := by have := HO.out.1; omega
      have := HX.out
      refine ⟨_, rfl, ?_, HG.out⟩
      rw [← this]
      simp only [Rt.be, List.map_nil, List.append_nil]
      rw [hyl]
      exact HO.out
set_option maxHeartbeats 1000000 in
set_option maxRecDepth 100000 in
theorem Rt.putPrefix (base : Nat) (v0 : Value) (xs : List Value) (v : Bool) (hi lo len : Int) (w : World) (h0 : 0 ≤ hi) (h1 : hi < 18446744073709551616) (h2 : 0 ≤ lo) (h3 : lo < 18446744073709551616)
    (hown : w.ownsRow base 5 1 v0 xs.length xs) (hm : xs.length ≤ 17592186044416) (hx1 : 1 ≤ xs.length) (hb : base ≤ w.heap.size) :
    Calls Tryd.prog 47 #[v0, .agg #[.bool v, .int .u64 hi, .int .u64 lo, .int .i64 len]] w fun e w' => ∃ u, e = .returned u ∧ w'.ownsRow base 5 1 u (xs ++ (Rt.pfxB v hi lo len).map (Value.int .u8)).length (xs ++ (Rt.pfxB v hi lo len).map (Value.int .u8)) ∧ Gr w w' v0 u := by
  obtain ⟨i5, hi5, hz0, hz1, hz2⟩ := info_parts Rt.info5
  obtain ⟨w1, e1, r1, hb1, hlt⟩ := Rt.box w #[.bool v, .int .u64 hi, .int .u64 lo, .int .i64 len] 26
  have hO1 : w1.ownsRow base 5 1 v0 xs.length xs := by rw [← e1]; exact hown.alloc _
  have hg01 : Gr w w1 v0 v0 := by rw [← e1]; exact (Gr.refl _ _).alloc _
  have hne : ∀ g, v0.ownBlock = some g → g < w.heap.size := fun g hg => (hown.lt g hg).2
  have f0 := r1.cell 0 rfl
  have n1 := fun u xs' v' ho hl hb => Rt.putU base v' xs' hi 8 h0 h1 (by omega) u ho hl hb
  have n2 := fun u xs' v' ho hl hb => Rt.putU base v' xs' lo 8 h2 h3 (by omega) u ho hl hb
  obtain ⟨xn, hxn⟩ : ∃ xn, xs.length = xn := ⟨_, rfl⟩
  rw [hxn] at hO1 hm hx1
  have HXN := Lib.hid hxn
  have HO1 := Lib.hid hO1
  have HNE := Lib.hid hne
  have HG := Lib.hid hg01
  clear hown hO1 hne hxn hg01
  have hv := fun w => Rt.version v w
  unfold Rt.pfxB
  generalize Rt.vb v = V at *
  have hb2 := hb1.size
  obtain ⟨Z, hZ⟩ : ∃ Z, xs ++ ([V] ++ Rt.be hi 8 ++ Rt.be lo 8 ++ [len % 256]).map (Value.int .u8) = Z := ⟨_, rfl⟩
  rw [hZ]
  have HZZ := Lib.hid hZ
  clear hZ
  go_enter Tryd.func47, Tryd.ntmps47
  go_wp2_with (first
    | (go_at_call 72; go_fit (hv _); rintro e w2 ⟨rfl, rfl⟩)
    | (at_builtin; refine wpList_append_sl rfl (.tmp 5) (.tmp 10) 34 rfl base 5 i5 _ 1 Tryd.underlying34 hi5 hz0 hz1 hz2 rfl _ xn xs rfl (HO1.out.alloc _) _ 1 1 _ rfl (Sl.of_row (heap_alloc_new w1 _) 1 1 (by simp) (Nat.le_refl _) (by simp [maxLen])) (by intro u hu; simp at hu; subst hu; rfl) (by simp only [maxLen]; omega) (by omega) (by simp; omega) ?_; intro v' w3 hown1 hg1 hat1))
  have G3 := HG.out.trans (((Gr.refl w1 v0).alloc _).trans ⟨hg1, hat1.imp id fun e g hg => by rw [e] at hg; cases hg; exact Nat.le_refl _⟩)
  obtain ⟨ys, hys⟩ : ∃ ys, xs ++ [Value.int .u8 V] = ys := ⟨_, rfl⟩
  have hown3 : w3.ownsRow base 5 1 v' (xn + 1) ys := by rw [← hys]; simpa using hown1
  have hyl : ys.length = xn + 1 := by have := hown3.1; omega
  rw [← hyl] at hown3
  have hgb : ∀ g, v'.ownBlock = some g → g ≠ w.heap.size := fun g hg e => by
    rcases G3.at_ with h | h
    · have := HNE.out g (h ▸ hg); omega
    · subst e
      rcases hat1 with h1 | h1
      · rw [h1] at hg; have := HNE.out _ hg; omega
      · rw [h1] at hg; simp at hg; omega
  have hrow : ∀ u, w3.grownBy u v'.ownBlock → Rt.Row u w.heap.size 26 #[.bool v, .int .u64 hi, .int .u64 lo, .int .i64 len] := fun u hu => by
    have h1 := (r1.alloc (.cells #[.int .u8 V] 5))
    have h2 := (hg1.block w.heap.size (by simp; omega) (fun e => by have := HNE.out _ e.symm; omega)).trans h1
    exact (hu.block w.heap.size (by have := hg1.size; simp at this; omega) (fun e => hgb _ e.symm rfl)).trans h2
  have F1 := fun u hu => (hrow u hu).cell 1 rfl
  have F2 := fun u hu => (hrow u hu).cell 2 rfl
  have F3 := fun u hu => (hrow u hu).cell 3 rfl
  have hlen8 : ∀ z, (Rt.be z 8).length = 8 := fun z => Rt.be_length z 8
  have hb3 : base ≤ w3.heap.size := by have := hg1.size; simp at this; omega
  have e1 : IntKind.u8.wrap len = len % 256 := IntKind.wrap_u8 len
  clear hrow
  refine Tp.region_o [4, 8] [(4, 8)] v'.ownBlock ((OwG 5 base w3.heap.size v' ys).p v') (fun u u' h k => (OwG 5 base w3.heap.size v' ys).st v' u u' h k) ⟨hown3, .inl rfl⟩ (by kernel_rfl) 13 26 [[(0, none)], [(3, none)], [(13, some 1)], [(14, some 2)], [(12, some 0), (15, some 3)], [(3, none)], [(17, some 5)], [(18, some 6)], [(16, some 4), (19, some 7)], [(3, none)], [(21, some 9)], [(22, some 10)], [(23, some 11)]] (by kernel_rfl) (by kernel_rfl) rfl ?_
  apply Exists.intro [_, _, _, _, _, _, _, _, _, _, _, _, _]
  refine ⟨⟨?_, ?_, ?_, ?_, ?_, ?_, ?_, ?_, ?_, ?_, ?_, ?_, ?_, trivial⟩, ?_, ?_⟩
  · intro A u hC hG hF hu hR; clear hG
    refine Tp.facts_old (fun h0 => ?_) rfl; conv at h0 => rhs; whnf
    refine Tp.facts_nil ?_
    refine Tp.wants_plain rfl ?_
    refine Tp.aim_l ?_
    (apply Tp.gives_run; (simp [go_sem, hC, hF, hu, h0,  F1, F2, F3, e1]; exact rfl); (refine Tp.given_is ?_; exact rfl))
  · intro A u hC hG hF hu hR; clear hG
    refine Tp.facts_old (fun h3 => ?_) rfl; conv at h3 => rhs; whnf
    refine Tp.facts_nil ?_
    refine Tp.wants_plain rfl ?_
    refine Tp.aim_l ?_
    (apply Tp.gives_run; (simp [go_sem, hC, hF, hu, h3,  F1, F2, F3, e1]; exact rfl); (refine Tp.given_is ?_; exact rfl))
  · intro A u hC hG hF hu hR; clear hG
    first | refine Tp.facts_is rfl (fun h13 => ?_) | refine Tp.facts_ty rfl (fun v13 h13 k13 => ?_)
    refine Tp.facts_nil ?_
    refine Tp.wants_plain rfl ?_
    refine Tp.aim_l ?_
    (apply Tp.gives_run; (simp [go_sem, hC, hF, hu, h13,  F1, F2, F3, e1]; exact rfl); (refine Tp.given_is ?_; exact rfl))
  · intro A u hC hG hF hu hR; clear hG
    first | refine Tp.facts_is rfl (fun h14 => ?_) | refine Tp.facts_ty rfl (fun v14 h14 k14 => ?_)
    refine Tp.facts_nil ?_
    refine Tp.wants_plain rfl ?_
    refine Tp.aim_l ?_
    (apply Tp.gives_run; (simp [go_sem, hC, hF, hu, h14,  F1, F2, F3, e1]; exact rfl); (refine Tp.given_is ?_; exact rfl))
  · intro A u hC hG hF hu hR; clear hG
    first | refine Tp.facts_is rfl (fun h12 => ?_) | refine Tp.facts_ty rfl (fun v12 h12 k12 => ?_)
    first | refine Tp.facts_is rfl (fun h15 => ?_) | refine Tp.facts_ty rfl (fun v15 h15 k15 => ?_)
    refine Tp.facts_nil ?_
    refine Tp.wants_plain rfl ?_
    (apply Tp.gives_run; (simp [go_sem, hC, hF, hu, h12, h15,  F1, F2, F3, e1]; exact rfl); (refine Tp.given_own ?_ (by decide) (Tp.own_step (n1 u ys v' (hR (by kernel_rfl)).1 (by omega) (Nat.le_trans hb3 hu.size)) (hR (by kernel_rfl)) (by omega) hu.size); exact rfl))
  · intro A u hC hG hF hu hR; clear hG
    refine Tp.facts_old (fun h3 => ?_) rfl; conv at h3 => rhs; whnf
    refine Tp.facts_nil ?_
    refine Tp.wants_plain rfl ?_
    refine Tp.aim_l ?_
    (apply Tp.gives_run; (simp [go_sem, hC, hF, hu, h3,  F1, F2, F3, e1]; exact rfl); (refine Tp.given_is ?_; exact rfl))
  · intro A u hC hG hF hu hR; clear hG
    first | refine Tp.facts_is rfl (fun h17 => ?_) | refine Tp.facts_ty rfl (fun v17 h17 k17 => ?_)
    refine Tp.facts_nil ?_
    refine Tp.wants_plain rfl ?_
    refine Tp.aim_l ?_
    (apply Tp.gives_run; (simp [go_sem, hC, hF, hu, h17,  F1, F2, F3, e1]; exact rfl); (refine Tp.given_is ?_; exact rfl))
  · intro A u hC hG hF hu hR; clear hG
    first | refine Tp.facts_is rfl (fun h18 => ?_) | refine Tp.facts_ty rfl (fun v18 h18 k18 => ?_)
    refine Tp.facts_nil ?_
    refine Tp.wants_plain rfl ?_
    refine Tp.aim_l ?_
    (apply Tp.gives_run; (simp [go_sem, hC, hF, hu, h18,  F1, F2, F3, e1]; exact rfl); (refine Tp.given_is ?_; exact rfl))
  · intro A u hC hG hF hu hR; clear hG
    first | refine Tp.facts_is rfl (fun h16 => ?_) | refine Tp.facts_ty rfl (fun v16 h16 k16 => ?_)
    first | refine Tp.facts_is rfl (fun h19 => ?_) | refine Tp.facts_ty rfl (fun v19 h19 k19 => ?_)
    refine Tp.facts_nil ?_
    refine Tp.wants_plain rfl ?_
    (apply Tp.gives_run; (simp [go_sem, hC, hF, hu, h16, h19,  F1, F2, F3, e1]; exact rfl); (refine Tp.given_own ?_ (by decide) (Tp.own_step (n2 u (ys ++ (Rt.be hi 8).map (Value.int .u8)) v16 k16.1 (by simp [hlen8]; omega) (Nat.le_trans hb3 hu.size)) k16 (by simp; omega) hu.size); exact rfl))
  · intro A u hC hG hF hu hR; clear hG
    refine Tp.facts_old (fun h3 => ?_) rfl; conv at h3 => rhs; whnf
    refine Tp.facts_nil ?_
    refine Tp.wants_plain rfl ?_
    refine Tp.aim_l ?_
    (apply Tp.gives_run; (simp [go_sem, hC, hF, hu, h3,  F1, F2, F3, e1]; exact rfl); (refine Tp.given_is ?_; exact rfl))
  · intro A u hC hG hF hu hR; clear hG
    first | refine Tp.facts_is rfl (fun h21 => ?_) | refine Tp.facts_ty rfl (fun v21 h21 k21 => ?_)
    refine Tp.facts_nil ?_
    refine Tp.wants_plain rfl ?_
    refine Tp.aim_l ?_
    (apply Tp.gives_run; (simp [go_sem, hC, hF, hu, h21,  F1, F2, F3, e1]; exact rfl); (refine Tp.given_is ?_; exact rfl))
  · intro A u hC hG hF hu hR; clear hG
    first | refine Tp.facts_is rfl (fun h22 => ?_) | refine Tp.facts_ty rfl (fun v22 h22 k22 => ?_)
    refine Tp.facts_nil ?_
    refine Tp.wants_plain rfl ?_
    refine Tp.aim_l ?_
    (apply Tp.gives_run; (simp [go_sem, hC, hF, hu, h22,  F1, F2, F3, e1]; exact rfl); (refine Tp.given_is ?_; exact rfl))
  · intro A u hC hG hF hu hR; clear hG
    first | refine Tp.facts_is rfl (fun h23 => ?_) | refine Tp.facts_ty rfl (fun v23 h23 k23 => ?_)
    refine Tp.facts_nil ?_
    refine Tp.wants_plain rfl ?_
    refine Tp.aim_l ?_
    (apply Tp.gives_run; (simp [go_sem, hC, hF, hu, h23,  F1, F2, F3, e1]; exact rfl); (refine Tp.given_ty ?_ (Tp.cell1_new u 5 _) ((Below.refl _ _).alloc (Nat.le_refl _) _); exact rfl))
  · exact ⟨.inr (by first | exact Tp.ost_is _ | exact Tp.ost_cell1 _ _ | exact Tp.ost_any), .inr (by first | exact Tp.ost_is _ | exact Tp.ost_cell1 _ _ | exact Tp.ost_any), .inr (by first | exact Tp.ost_is _ | exact Tp.ost_cell1 _ _ | exact Tp.ost_any), .inr (by first | exact Tp.ost_is _ | exact Tp.ost_cell1 _ _ | exact Tp.ost_any), .inl (by decide), .inr (by first | exact Tp.ost_is _ | exact Tp.ost_cell1 _ _ | exact Tp.ost_any), .inr (by first | exact Tp.ost_is _ | exact Tp.ost_cell1 _ _ | exact Tp.ost_any), .inr (by first | exact Tp.ost_is _ | exact Tp.ost_cell1 _ _ | exact Tp.ost_any), .inl (by decide), .inr (by first | exact Tp.ost_is _ | exact Tp.ost_cell1 _ _ | exact Tp.ost_any), .inr (by first | exact Tp.ost_is _ | exact Tp.ost_cell1 _ _ | exact Tp.ost_any), .inr (by first | exact Tp.ost_is _ | exact Tp.ost_cell1 _ _ | exact Tp.ost_any), .inr (by first | exact Tp.ost_is _ | exact Tp.ost_cell1 _ _ | exact Tp.ost_any), trivial⟩
  intro wq1 bq1
  first | refine Tp.fin_is rfl rfl rfl ?_ | refine Tp.fin_ty rfl rfl rfl (fun y12 q12 => ?_)
  first | refine Tp.fin_is rfl rfl rfl ?_ | refine Tp.fin_ty rfl rfl rfl (fun y13 q13 => ?_)
  first | refine Tp.fin_is rfl rfl rfl ?_ | refine Tp.fin_ty rfl rfl rfl (fun y14 q14 => ?_)
  first | refine Tp.fin_is rfl rfl rfl ?_ | refine Tp.fin_ty rfl rfl rfl (fun y15 q15 => ?_)
  refine Tp.fin_used rfl rfl (fun y16 => ?_)
  first | refine Tp.fin_is rfl rfl rfl ?_ | refine Tp.fin_ty rfl rfl rfl (fun y17 q17 => ?_)
  first | refine Tp.fin_is rfl rfl rfl ?_ | refine Tp.fin_ty rfl rfl rfl (fun y18 q18 => ?_)
  first | refine Tp.fin_is rfl rfl rfl ?_ | refine Tp.fin_ty rfl rfl rfl (fun y19 q19 => ?_)
  first | refine Tp.fin_is rfl rfl rfl ?_ | refine Tp.fin_ty rfl rfl rfl (fun y20 q20 => ?_)
  first | refine Tp.fin_is rfl rfl rfl ?_ | refine Tp.fin_ty rfl rfl rfl (fun y21 q21 => ?_)
  first | refine Tp.fin_is rfl rfl rfl ?_ | refine Tp.fin_ty rfl rfl rfl (fun y22 q22 => ?_)
  first | refine Tp.fin_is rfl rfl rfl ?_ | refine Tp.fin_ty rfl rfl rfl (fun y23 q23 => ?_)
  first | refine Tp.fin_is rfl rfl rfl ?_ | refine Tp.fin_ty rfl rfl rfl (fun y24 q24 => ?_)
  refine Tp.fin_nil ?_
  simp only [Act.put, List.setIfInBounds_toArray, List.set_cons_succ, List.set_cons_zero, List.drop_succ_cons, List.drop_zero, List.drop_nil]
  obtain ⟨g24, rfl, s24⟩ := Tp.cell1_sl q24
  have GQ : Gr w3 wq1 v' y20 := ⟨bq1, q20.2⟩
  have hbq := bq1.size
  have HO20 := Lib.hid q20.1
  have hl20 : (ys ++ (Rt.be hi 8).map (Value.int .u8) ++ (Rt.be lo 8).map (Value.int .u8)).length = xn + 17 := by simp [hlen8, hyl]
  rw [hl20] at HO20
  have HS24 := Lib.hid s24
  clear s24 q20 q24
  go_wp2_with (at_builtin; refine wpList_append_sl rfl (.tmp 20) (.tmp 24) 34 rfl base 5 i5 _ 1 Tryd.underlying34 hi5 hz0 hz1 hz2 rfl _ (xn + 17) _ rfl HO20.out _ 1 1 _ rfl HS24.out (by intro u hu; simp at hu; subst hu; rfl) (by simp only [maxLen]; omega) (by omega) (by omega) ?_; intro v4 w4 hown4 hg4 hat4)
  go_ret
  refine ⟨_, rfl, ?_, (G3.trans GQ).trans (Gr.mk1 hg4 hat4)⟩
  have hfin : ys ++ (Rt.be hi 8).map (Value.int .u8) ++ (Rt.be lo 8).map (Value.int .u8) ++ [Value.int .u8 (len % 256)] = Z := by rw [← HZZ.out, ← hys]; simp
  rw [← hfin, List.length_append, hl20]
  exact hown4
end Go.Proofs
set_option linter.unusedSimpArgs false
namespace Go.Proofs
open Go.Shelf Go.RowKit Go.Lib Go.Rt Go.Nam Go.Tp
set_option maxHeartbeats 2000000 in
set_option maxRecDepth 100000 in
theorem Rt.certBodyR (x : Rt.CV) (hI : x.In) (hs : x.st.size ≤ 1099511627776) (w : World) : Calls Tryd.prog 73 #[.agg x.cells] w (Ret (Ow 5 w.heap.size x.body) w) := by
  obtain ⟨i5, hi5, hz0, hz1, hz2⟩ := info_parts Rt.info5
  have kc := fun (w : World) (C : Array Value) (n c : Nat) => Lib.run_convert_bytes_const (P := Tryd.prog) w 34 5 C n c Tryd.underlying34 Tryd.underlying5
  have hC := x.crt hI.sg
  have e1 : IntKind.u8.wrap (x.st.size : Int) = (x.st.size : Int) % 256 := IntKind.wrap_u8 _
  have e2 : IntKind.u8.wrap x.mx = x.mx % 256 := IntKind.wrap_u8 _
  have hs0 := hI.in_.s0
  have hs1 := hI.in_.s1
  have hse : IntKind.u64.wrap x.se = x.se := by rw [IntKind.wrap_u64]; omega
  have hq := hI.in_
  obtain ⟨Z, hZ⟩ : ∃ Z, x.body = Z := ⟨_, rfl⟩
  rw [hZ]
  have HZ := Lib.hid hZ
  clear hI hZ
  unfold Rt.CV.body at HZ
  generalize x.cells = cs at *
  obtain ⟨st, v, hi, lo, len, mx, fr, ti, se, sg⟩ := x
  simp only at *
  have np := fun (u : World) (base : Nat) (v0 : Value) (xs : List Value) ho h1 h2 h3 => Rt.putPrefix base v0 xs v hi lo len u hq.h0 hq.h1 hq.h2 hq.h3 ho h1 h2 h3
  have n1 := fun (u : World) (base : Nat) (v0 : Value) (xs : List Value) ho h1 h2 => Rt.putU base v0 xs fr 8 hq.f0 hq.f1 (by omega) u ho h1 h2
  have n2 := fun (u : World) (base : Nat) (v0 : Value) (xs : List Value) ho h1 h2 => Rt.putU base v0 xs ti 8 hq.t0 hq.t1 (by omega) u ho h1 h2
  have n3 := fun (u : World) (base : Nat) (v0 : Value) (xs : List Value) ho h1 h2 => Rt.putU base v0 xs se 4 hs0 (by omega) (by omega) u ho h1 h2
  have hpl := Rt.pfxB_length v hi lo len
  generalize Rt.pfxB v hi lo len = PB at *
  obtain ⟨w1, ea, r1, hb1, hlt⟩ := Rt.box w cs 31
  have HC := Lib.hid hC
  have f0 := r1.cell 0 hC.c0
  have HQ := Lib.hid hq
  clear hC hq
  have hlt1 : w.heap.size ≤ w1.heap.size := hb1.size
  have HS := Lib.hid hs
  clear hs
  have q1 := (heap_alloc_old (w1.alloc (.cells #[.int .u8 99, .int .u8 101, .int .u8 114, .int .u8 116] 5 (4, 5))) (.cells #[.int .u8 ((st.size : Int) % 256)] 5) (by simp : w1.heap.size < _)).trans (heap_alloc_new w1 _)
  have q2 := heap_alloc_new (w1.alloc (.cells #[.int .u8 99, .int .u8 101, .int .u8 114, .int .u8 116] 5 (4, 5))) (.cells #[.int .u8 ((st.size : Int) % 256)] 5)
  have q2 := (show (w1.alloc (.cells #[.int .u8 99, .int .u8 101, .int .u8 114, .int .u8 116] 5 (4, 5))).heap.size = w1.heap.size + 1 by simp) ▸ q2
  have s1 := Lib.hid (Sl.of_row q1 4 4 (by simp) (Nat.le_refl _) (by simp [maxLen]))
  have s2 := Lib.hid (Sl.of_row q2 1 1 (by simp) (Nat.le_refl _) (by simp [maxLen]))
  clear q1 q2
  go_enter Tryd.func73, Tryd.ntmps73
  go_wp2_with (at_builtin; refine wpList_append_full rfl (.tmp 5) (.tmp 10) 34 rfl 5 i5 _ 1 Tryd.underlying34 hi5 hz0 hz1 hz2 rfl w1.heap.size 0 4 _ rfl s1.out (w1.heap.size + 1) 0 1 1 _ rfl s2.out (by omega) (by simp only [maxLen]; omega) (by omega) ?_; intro v3 w3 o3 b3)
  have b03 : Below w1.heap.size w1 w3 := (((Below.refl _ _).alloc (Nat.le_refl _) _).alloc (by simp) _).trans (b3.mono (by simp; omega))
  have r3 := r1.keep b03
  obtain ⟨ys, hys⟩ : ∃ ys, ([99, 101, 114, 116] ++ [(st.size : Int) % 256]).map (Value.int .u8) = ys := ⟨_, rfl⟩
  have O3 : w3.ownsRow w1.heap.size 5 1 v3 ys.length ys := by
    rw [← hys]
    refine Tp.own_mono ?_ (by simp; omega : w1.heap.size ≤ ((w1.alloc (.cells #[.int .u8 99, .int .u8 101, .int .u8 114, .int .u8 116] 5 (4, 5))).alloc (.cells #[.int .u8 ((st.size : Int) % 256)] 5)).heap.size)
    simpa using o3
  have hyl : ys.length = 5 := by rw [← hys]; simp
  have hl3 : w1.heap.size ≤ w3.heap.size := b03.size
  have hst := HS.out
  have hv3 : ∀ g, v3.ownBlock = some g → w1.heap.size ≤ g := fun g hg => (O3.lt g hg).1
  have hrow : ∀ (W u : World) (v : Value), Rt.Row W w.heap.size 31 cs → (∀ g, v.ownBlock = some g → w1.heap.size ≤ g) → W.grownBy u v.ownBlock → Rt.Row u w.heap.size 31 cs := fun W u v hW hv hu =>
    (hu.block w.heap.size hW.lt (fun e => by have := hv _ e.symm; omega)).trans hW
  have HR := Lib.hid hrow
  have HYS := Lib.hid hys
  have HY1 : Hid (([99, 101, 114, 116] ++ [(st.size : Int) % 256]).map (Value.int .u8) = ys) := HYS
  have G0 := fun u hu => (HR.out w3 u v3 r3 hv3 hu).cell 0 HC.out.c0
  have G1 := fun u hu => (HR.out w3 u v3 r3 hv3 hu).cell 1 HC.out.c1
  have G2 := fun u hu => (HR.out w3 u v3 r3 hv3 hu).cell 2 HC.out.c2
  have G3 := fun u hu => (HR.out w3 u v3 r3 hv3 hu).cell 3 HC.out.c3
  have G4 := fun u hu => (HR.out w3 u v3 r3 hv3 hu).cell 4 HC.out.c4
  clear hrow hys HYS o3 b3 f0
  go_wp2
  refine Tp.region_o [3, 6] [(3, 6)] v3.ownBlock ((OwG 5 w1.heap.size w3.heap.size v3 ys).p v3) (fun u u' h k => (OwG 5 w1.heap.size w3.heap.size v3 ys).st v3 u u' h k) ⟨O3, .inl rfl⟩ (by kernel_rfl) 7 37 [[(3, none)], [(1, none)], [(13, some 1)], [(12, some 0), (14, some 2)], [(1, none)], [(16, some 4)], [(15, some 3), (17, some 5)]] (by kernel_rfl) (by kernel_rfl) rfl ?_
  apply Exists.intro [_, _, _, _, _, _, _]
  refine ⟨⟨?_, ?_, ?_, ?_, ?_, ?_, ?_, trivial⟩, ?_, ?_⟩
  · intro A u hC hG hF hu hR; clear hG
    refine Tp.facts_old (fun h3 => ?_) rfl; conv at h3 => rhs; whnf
    refine Tp.facts_nil ?_
    refine Tp.wants_plain rfl ?_
    refine Tp.aim_l ?_
    (apply Tp.gives_run; (simp [go_sem, hC, hF, hu, h3,  G0, G1, G2, G3, G4]; exact rfl); (refine Tp.given_is ?_; exact rfl))
  · intro A u hC hG hF hu hR; clear hG
    refine Tp.facts_old (fun h1 => ?_) rfl; conv at h1 => rhs; whnf
    refine Tp.facts_nil ?_
    refine Tp.wants_plain rfl ?_
    refine Tp.aim_l ?_
    (apply Tp.gives_run; (simp [go_sem, hC, hF, hu, h1,  G0, G1, G2, G3, G4]; exact rfl); (refine Tp.given_is ?_; exact rfl))
  · intro A u hC hG hF hu hR; clear hG
    first | refine Tp.facts_is rfl (fun h13 => ?_) | refine Tp.facts_ty rfl (fun v13 h13 k13 => ?_)
    refine Tp.facts_nil ?_
    refine Tp.wants_plain rfl ?_
    refine Tp.aim_l ?_
    (apply Tp.gives_run; (simp [go_sem, hC, hF, hu, h13,  G0, G1, G2, G3, G4]; exact rfl); (refine Tp.given_is ?_; exact rfl))
  · intro A u hC hG hF hu hR; clear hG
    first | refine Tp.facts_is rfl (fun h12 => ?_) | refine Tp.facts_ty rfl (fun v12 h12 k12 => ?_)
    first | refine Tp.facts_is rfl (fun h14 => ?_) | refine Tp.facts_ty rfl (fun v14 h14 k14 => ?_)
    refine Tp.facts_nil ?_
    refine Tp.wants_plain rfl ?_
    refine Tp.append_str_own (.tmp 12) (.tmp 14) 34 9 5 rfl i5 Tryd.underlying34 Tryd.underlying9 hi5 hz0 hz1 hz2 h12 h14 (hR (by kernel_rfl)) (by omega) (by omega) (by have := hu.size; omega) hu.size (by decide) ?_; exact rfl
  · intro A u hC hG hF hu hR; clear hG
    refine Tp.facts_old (fun h1 => ?_) rfl; conv at h1 => rhs; whnf
    refine Tp.facts_nil ?_
    refine Tp.wants_plain rfl ?_
    refine Tp.aim_l ?_
    (apply Tp.gives_run; (simp [go_sem, hC, hF, hu, h1,  G0, G1, G2, G3, G4]; exact rfl); (refine Tp.given_is ?_; exact rfl))
  · intro A u hC hG hF hu hR; clear hG
    first | refine Tp.facts_is rfl (fun h16 => ?_) | refine Tp.facts_ty rfl (fun v16 h16 k16 => ?_)
    refine Tp.facts_nil ?_
    refine Tp.wants_plain rfl ?_
    refine Tp.aim_l ?_
    (apply Tp.gives_run; (simp [go_sem, hC, hF, hu, h16,  G0, G1, G2, G3, G4]; exact rfl); (refine Tp.given_is ?_; exact rfl))
  · intro A u hC hG hF hu hR; clear hG
    first | refine Tp.facts_is rfl (fun h15 => ?_) | refine Tp.facts_ty rfl (fun v15 h15 k15 => ?_)
    first | refine Tp.facts_is rfl (fun h17 => ?_) | refine Tp.facts_ty rfl (fun v17 h17 k17 => ?_)
    refine Tp.facts_nil ?_
    refine Tp.wants_plain rfl ?_
    (apply Tp.gives_run; (simp [go_sem, hC, hF, hu, h15, h17,  G0, G1, G2, G3, G4]; exact rfl); (refine Tp.given_own ?_ (by decide) (Tp.own_step (np u w1.heap.size v15 _ k15.1 (by rw [List.length_append, List.length_map, bytesI_length]; omega) (by rw [List.length_append]; omega) (by have := hu.size; omega)) k15 (by rw [List.length_append]; omega) hu.size); exact rfl))
  · exact ⟨.inr (by first | exact Tp.ost_is _ | exact Tp.ost_cell1 _ _ | exact Tp.ost_any), .inr (by first | exact Tp.ost_is _ | exact Tp.ost_cell1 _ _ | exact Tp.ost_any), .inr (by first | exact Tp.ost_is _ | exact Tp.ost_cell1 _ _ | exact Tp.ost_any), .inl (by decide), .inr (by first | exact Tp.ost_is _ | exact Tp.ost_cell1 _ _ | exact Tp.ost_any), .inr (by first | exact Tp.ost_is _ | exact Tp.ost_cell1 _ _ | exact Tp.ost_any), .inl (by decide), trivial⟩
  intro wq1 bq1
  first | refine Tp.fin_is rfl rfl rfl ?_ | refine Tp.fin_ty rfl rfl rfl (fun y12 q12 => ?_)
  first | refine Tp.fin_is rfl rfl rfl ?_ | refine Tp.fin_ty rfl rfl rfl (fun y13 q13 => ?_)
  first | refine Tp.fin_is rfl rfl rfl ?_ | refine Tp.fin_ty rfl rfl rfl (fun y14 q14 => ?_)
  refine Tp.fin_used rfl rfl (fun y15 => ?_)
  first | refine Tp.fin_is rfl rfl rfl ?_ | refine Tp.fin_ty rfl rfl rfl (fun y16 q16 => ?_)
  first | refine Tp.fin_is rfl rfl rfl ?_ | refine Tp.fin_ty rfl rfl rfl (fun y17 q17 => ?_)
  first | refine Tp.fin_is rfl rfl rfl ?_ | refine Tp.fin_ty rfl rfl rfl (fun y18 q18 => ?_)
  refine Tp.fin_nil ?_
  simp only [Act.put, List.setIfInBounds_toArray, List.set_cons_succ, List.set_cons_zero, List.drop_succ_cons, List.drop_zero, List.drop_nil]
  have GA : Gr w3 wq1 v3 y18 := ⟨bq1, q18.2⟩
  have r4 := HR.out w3 wq1 v3 r3 hv3 bq1
  have f5 := r4.cell 5 HC.out.c5
  have hl4 : w1.heap.size ≤ wq1.heap.size := by have := bq1.size; omega
  obtain ⟨zs, hzs⟩ : ∃ zs, ys ++ (bytesI st).map (Value.int .u8) ++ PB.map (Value.int .u8) = zs := ⟨_, rfl⟩
  have hzl : zs.length = 23 + st.size := by rw [← hzs]; simp only [List.length_append, List.length_map, bytesI_length, hyl, hpl]; omega
  have O18 := q18.1
  rw [hzs, hzl] at O18
  have HO18 := Lib.hid O18
  have HZS := Lib.hid hzs
  have HG4 := Lib.hid GA
  clear hzs q18 O18 GA
  go_wp2_with (at_builtin; refine wpList_append_sl rfl (.tmp 19) (.tmp 23) 34 rfl w1.heap.size 5 i5 _ 1 Tryd.underlying34 hi5 hz0 hz1 hz2 rfl _ (23 + st.size) zs rfl (HO18.out.alloc _) _ 1 1 _ rfl (Sl.of_row (heap_alloc_new wq1 _) 1 1 (by simp) (Nat.le_refl _) (by simp [maxLen])) (by intro u hu; simp at hu; subst hu; rfl) (by simp only [maxLen]; omega) (by omega) (by simp; omega) ?_; intro v5 w5 own5 hg5 hat5)
  have G5 : Gr w3 w5 v3 v5 := (HG4.out.alloc _).trans ⟨hg5, hat5.imp id fun e g hg => by rw [e] at hg; cases hg; exact Nat.le_refl _⟩
  obtain ⟨xs, hxs⟩ : ∃ xs, zs ++ [Value.int .u8 (mx % 256)] = xs := ⟨_, rfl⟩
  have hxl : xs.length = 24 + st.size := by rw [← hxs, List.length_append, hzl]; simp; omega
  have O5 : w5.ownsRow w1.heap.size 5 1 v5 xs.length xs := by
    rw [hxl, ← hxs]
    have := own5
    simp only [List.take_one, List.head?_cons, Option.toList_some] at this
    rw [show 24 + st.size = 23 + st.size + 1 by omega]
    simpa using own5
  have r5 := HR.out w3 w5 v3 r3 hv3 G5.gr
  have hv5 : ∀ g, v5.ownBlock = some g → w1.heap.size ≤ g := fun g hg => (O5.lt g hg).1
  have hl5 : w1.heap.size ≤ w5.heap.size := by have := G5.gr.size; omega
  have G6 := fun u hu => (HR.out w5 u v5 r5 hv5 hu).cell 6 HC.out.c6
  have G7 := fun u hu => (HR.out w5 u v5 r5 hv5 hu).cell 7 HC.out.c7
  have HX1 := Lib.hid hxs
  have HG5 := Lib.hid G5
  clear own5 hxs G5 hg5 hat5 G0 G1 G2 G3 G4
  go_wp2
  refine Tp.region_o [3, 6] [(3, 6)] v5.ownBlock ((OwG 5 w1.heap.size w5.heap.size v5 xs).p v5) (fun u u' h k => (OwG 5 w1.heap.size w5.heap.size v5 xs).st v5 u u' h k) ⟨O5, .inl rfl⟩ (by kernel_rfl) 7 37 [[(3, none)], [(1, none)], [(26, some 1)], [(25, some 0), (27, some 2)], [(1, none)], [(29, some 4)], [(28, some 3), (30, some 5)]] (by kernel_rfl) (by kernel_rfl) rfl ?_
  apply Exists.intro [_, _, _, _, _, _, _]
  refine ⟨⟨?_, ?_, ?_, ?_, ?_, ?_, ?_, trivial⟩, ?_, ?_⟩
  · intro A u hC hG hF hu hR; clear hG
    refine Tp.facts_old (fun h3 => ?_) rfl; conv at h3 => rhs; whnf
    refine Tp.facts_nil ?_
    refine Tp.wants_plain rfl ?_
    refine Tp.aim_l ?_
    (apply Tp.gives_run; (simp [go_sem, hC, hF, hu, h3,  G6, G7]; exact rfl); (refine Tp.given_is ?_; exact rfl))
  · intro A u hC hG hF hu hR; clear hG
    refine Tp.facts_old (fun h1 => ?_) rfl; conv at h1 => rhs; whnf
    refine Tp.facts_nil ?_
    refine Tp.wants_plain rfl ?_
    refine Tp.aim_l ?_
    (apply Tp.gives_run; (simp [go_sem, hC, hF, hu, h1,  G6, G7]; exact rfl); (refine Tp.given_is ?_; exact rfl))
  · intro A u hC hG hF hu hR; clear hG
    first | refine Tp.facts_is rfl (fun h26 => ?_) | refine Tp.facts_ty rfl (fun v26 h26 k26 => ?_)
    refine Tp.facts_nil ?_
    refine Tp.wants_plain rfl ?_
    refine Tp.aim_l ?_
    (apply Tp.gives_run; (simp [go_sem, hC, hF, hu, h26,  G6, G7]; exact rfl); (refine Tp.given_is ?_; exact rfl))
  · intro A u hC hG hF hu hR; clear hG
    first | refine Tp.facts_is rfl (fun h25 => ?_) | refine Tp.facts_ty rfl (fun v25 h25 k25 => ?_)
    first | refine Tp.facts_is rfl (fun h27 => ?_) | refine Tp.facts_ty rfl (fun v27 h27 k27 => ?_)
    refine Tp.facts_nil ?_
    refine Tp.wants_plain rfl ?_
    (apply Tp.gives_run; (simp [go_sem, hC, hF, hu, h25, h27,  G6, G7]; exact rfl); (refine Tp.given_own ?_ (by decide) (Tp.own_step (n1 u w1.heap.size v5 _ (hR (by kernel_rfl)).1 (by omega) (by have := hu.size; omega)) (hR (by kernel_rfl)) (by omega) hu.size); exact rfl))
  · intro A u hC hG hF hu hR; clear hG
    refine Tp.facts_old (fun h1 => ?_) rfl; conv at h1 => rhs; whnf
    refine Tp.facts_nil ?_
    refine Tp.wants_plain rfl ?_
    refine Tp.aim_l ?_
    (apply Tp.gives_run; (simp [go_sem, hC, hF, hu, h1,  G6, G7]; exact rfl); (refine Tp.given_is ?_; exact rfl))
  · intro A u hC hG hF hu hR; clear hG
    first | refine Tp.facts_is rfl (fun h29 => ?_) | refine Tp.facts_ty rfl (fun v29 h29 k29 => ?_)
    refine Tp.facts_nil ?_
    refine Tp.wants_plain rfl ?_
    refine Tp.aim_l ?_
    (apply Tp.gives_run; (simp [go_sem, hC, hF, hu, h29,  G6, G7]; exact rfl); (refine Tp.given_is ?_; exact rfl))
  · intro A u hC hG hF hu hR; clear hG
    first | refine Tp.facts_is rfl (fun h28 => ?_) | refine Tp.facts_ty rfl (fun v28 h28 k28 => ?_)
    first | refine Tp.facts_is rfl (fun h30 => ?_) | refine Tp.facts_ty rfl (fun v30 h30 k30 => ?_)
    refine Tp.facts_nil ?_
    refine Tp.wants_plain rfl ?_
    (apply Tp.gives_run; (simp [go_sem, hC, hF, hu, h28, h30,  G6, G7]; exact rfl); (refine Tp.given_own ?_ (by decide) (Tp.own_step (n2 u w1.heap.size v28 _ k28.1 (by rw [List.length_append, List.length_map, Rt.be_length]; omega) (by have := hu.size; omega)) k28 (by rw [List.length_append]; omega) hu.size); exact rfl))
  · exact ⟨.inr (by first | exact Tp.ost_is _ | exact Tp.ost_cell1 _ _ | exact Tp.ost_any), .inr (by first | exact Tp.ost_is _ | exact Tp.ost_cell1 _ _ | exact Tp.ost_any), .inr (by first | exact Tp.ost_is _ | exact Tp.ost_cell1 _ _ | exact Tp.ost_any), .inl (by decide), .inr (by first | exact Tp.ost_is _ | exact Tp.ost_cell1 _ _ | exact Tp.ost_any), .inr (by first | exact Tp.ost_is _ | exact Tp.ost_cell1 _ _ | exact Tp.ost_any), .inl (by decide), trivial⟩
  intro wq2 bq2
  first | refine Tp.fin_is rfl rfl rfl ?_ | refine Tp.fin_ty rfl rfl rfl (fun y25 q25 => ?_)
  first | refine Tp.fin_is rfl rfl rfl ?_ | refine Tp.fin_ty rfl rfl rfl (fun y26 q26 => ?_)
  first | refine Tp.fin_is rfl rfl rfl ?_ | refine Tp.fin_ty rfl rfl rfl (fun y27 q27 => ?_)
  refine Tp.fin_used rfl rfl (fun y28 => ?_)
  first | refine Tp.fin_is rfl rfl rfl ?_ | refine Tp.fin_ty rfl rfl rfl (fun y29 q29 => ?_)
  first | refine Tp.fin_is rfl rfl rfl ?_ | refine Tp.fin_ty rfl rfl rfl (fun y30 q30 => ?_)
  first | refine Tp.fin_is rfl rfl rfl ?_ | refine Tp.fin_ty rfl rfl rfl (fun y31 q31 => ?_)
  refine Tp.fin_nil ?_
  simp only [Act.put, List.setIfInBounds_toArray, List.set_cons_succ, List.set_cons_zero, List.drop_succ_cons, List.drop_zero, List.drop_nil]
  have GB : Gr w5 wq2 v5 y31 := ⟨bq2, q31.2⟩
  have r6 := HR.out w5 wq2 v5 r5 hv5 bq2
  have f8 := r6.cell 8 HC.out.c8
  have hl6 : w1.heap.size ≤ wq2.heap.size := by have := bq2.size; omega
  have h31 := n3 wq2 w1.heap.size y31 _ q31.1 (by simp only [List.length_append, List.length_map, Rt.be_length]; omega) hl6
  have hfin : xs ++ (Rt.be fr 8).map (Value.int .u8) ++ (Rt.be ti 8).map (Value.int .u8) ++ (Rt.be se 4).map (Value.int .u8) = Z.map (Value.int .u8) := by
    rw [← HX1.out, ← HZS.out, ← HY1.out, ← HZ.out]; simp
  rw [hfin] at h31
  have HG := Lib.hid (HG5.out.trans GB)
  clear q31 GB hfin
  go_wp2_with (go_at_call 48; go_fit h31; rintro e w7 ⟨v7, rfl, o7, g7⟩)
  go_ret
  have GT := HG.out.trans g7
  have b07 : Below w1.heap.size w1 w7 := b03.trans (GT.below hl3 hv3)
  exact ⟨v7, rfl, ⟨_, Tp.own_mono o7 hlt1⟩, hb1.trans (b07.mono hlt1)⟩
end Go.Proofs
set_option linter.unusedSimpArgs false
namespace Go.Proofs
open Go.Shelf Go.RowKit Go.Lib Go.Rt Go.Nam Go.Tp
set_option maxHeartbeats 1000000 in
set_option maxRecDepth 100000 in
theorem Rt.certPutR (x : Rt.CV) (hI : x.In) (hs : x.st.size ≤ 1099511627776) (w : World) (hT : Utf8Tabs 0 1 w) :
    Calls Tryd.prog 49 #[.agg x.cells] w (Rt.PutPost w (Rt.cR x.st x.v x.hi x.lo x.len x.mx x.fr x.ti) x.bytes) := by
  obtain ⟨i5, hi5, hz0, hz1, hz2⟩ := info_parts Rt.info5
  have hc := fun w hT => Rt.certRightR x.cells x.st x.v x.hi x.lo x.len x.mx x.fr x.ti x.se w (x.crt hI.sg) hI.in_ hT
  have hb := fun w => Rt.certBodyR x hI hs w
  have hcs := x.cells_size hI.sg
  have HG := Lib.hid (x.sig_cells hI.sg)
  have HL := Lib.hid x.body_length
  have HS := Lib.hid hs
  have HE : Hid (x.bytes = x.body ++ x.sgI) := Lib.hid rfl
  have HSL : Hid (x.sgI.length = 64) := Lib.hid (by simp [Rt.CV.sgI, hI.sg])
  clear hs hI
  generalize x.bytes = BY at *
  generalize x.body = BO at *
  generalize x.sgI = SG at *
  generalize Rt.cR x.st x.v x.hi x.lo x.len x.mx x.fr x.ti = OK at *
  generalize x.cells = cs at *
  obtain ⟨w1, ea, r1, hb1, hlt⟩ := Rt.box w cs 31
  have hT1 := Utf8Tabs_below hT hb1
  have HW : ∀ u, Below w1.heap.size w1 u → (loadVar 31 ⟨w.heap.size, 0, none⟩).run Tryd.prog u = .ok (.agg cs) u := fun u hu => (r1.keep hu).whole31 hcs
  have hW1 := Lib.hid (HW w1 (Below.refl _ _))
  have HW := Lib.hid HW
  go_enter Tryd.func49, Tryd.ntmps49
  cases OK
  · go_wp2_with (first
      | (guard_target =~ wpList _ _ _ (_ :: _) _ _; refine Rt.load_at 31 rfl ⟨w.heap.size, 0, none⟩ rfl (by kernel_rfl) hW1.out ?_)
      | (go_at_call 35; go_fit (hc _ hT1); rintro e w2 ⟨rfl, hb2⟩))
    go_ret2
    exact ⟨hb1.trans (hb2.mono hb1.size), rfl⟩
  · go_wp2_with (first
      | (guard_target =~ wpList _ _ _ (_ :: _) _ _; refine Rt.load_at 31 rfl ⟨w.heap.size, 0, none⟩ rfl (by kernel_rfl) hW1.out ?_)
      | (go_at_call 35; go_fit (hc _ hT1); rintro e w2 ⟨rfl, hb2⟩; have r2 := r1.keep hb2))
    refine Tp.region_ex (by kernel_rfl) 4 12 [[(1, none)], [(7, some 0)], [(1, none)], [(9, some 2)]] (by kernel_rfl) rfl ?_
    apply Exists.intro [_, _, _, _]
    refine ⟨⟨?_, ?_, ?_, ?_, trivial⟩, ?_⟩
    · intro A u hC hG hF hu hR; clear hG
      refine Tp.facts_old (fun h1 => ?_) rfl; conv at h1 => rhs; whnf
      refine Tp.facts_nil ?_
      refine Tp.wants_plain rfl ?_
      refine Tp.load_var rfl h1 (HW.out u (hb2.trans (hu.mono hb2.size))) ?_; exact rfl
    · intro A u hC hG hF hu hR; clear hG
      first | refine Tp.facts_is rfl (fun h7 => ?_) | refine Tp.facts_ty rfl (fun v7 h7 k7 => ?_)
      refine Tp.facts_nil ?_
      refine Tp.wants_plain rfl ?_
      (apply Tp.gives_run; (simp [go_sem, hC, hF, hu, h7]; exact rfl); (refine Tp.given_call ?_ (T := Ow 5 w2.heap.size BO) (Calls.mono (hb u) fun _ _ h => Tp.ret_base h hu.size); exact rfl))
    · intro A u hC hG hF hu hR; clear hG
      refine Tp.facts_old (fun h1 => ?_) rfl; conv at h1 => rhs; whnf
      refine Tp.facts_nil ?_
      refine Tp.wants_plain rfl ?_
      (apply Tp.gives_run; (simp [go_sem, hC, hF, hu, h1]; exact rfl); (refine Tp.given_is ?_; exact rfl))
    · intro A u hC hG hF hu hR; clear hG
      first | refine Tp.facts_is rfl (fun h9 => ?_) | refine Tp.facts_ty rfl (fun v9 h9 k9 => ?_)
      refine Tp.facts_nil ?_
      refine Tp.wants_plain rfl ?_
      (apply Tp.gives_run; (simp [go_sem, hC, hF, hu, h9]; exact rfl); (refine Tp.given_is ?_; exact rfl))
    intro wq1 bq1
    first | refine Tp.fin_is rfl rfl rfl ?_ | refine Tp.fin_ty rfl rfl rfl (fun y7 q7 => ?_)
    first | refine Tp.fin_is rfl rfl rfl ?_ | refine Tp.fin_ty rfl rfl rfl (fun y8 q8 => ?_)
    first | refine Tp.fin_is rfl rfl rfl ?_ | refine Tp.fin_ty rfl rfl rfl (fun y9 q9 => ?_)
    first | refine Tp.fin_is rfl rfl rfl ?_ | refine Tp.fin_ty rfl rfl rfl (fun y10 q10 => ?_)
    refine Tp.fin_nil ?_
    simp only [Act.put, List.setIfInBounds_toArray, List.set_cons_succ, List.set_cons_zero, List.drop_succ_cons, List.drop_zero, List.drop_nil]
    obtain ⟨n8, o8⟩ := q8
    have r3 := r2.keep bq1
    have hsl := Sl.of_mid r3 9 64 64 (by omega) (Nat.le_refl _) (by simp [maxLen])
    rw [HG.out] at hsl
    have hn8 : n8 = 44 + x.st.size := by have h1 := o8.1; have h2 := HL.out; simp only [List.length_map, Nat.mul_one] at h1; omega
    have hlt8 := o8.lt
    have O8 := Lib.hid o8
    have HSL8 := Lib.hid hsl
    have hss := HS.out
    have HLT := Lib.hid hlt8
    clear o8 hsl hlt8
    go_wp2_with (at_builtin; refine wpList_append_sl rfl (.tmp 8) (.tmp 10) 34 rfl w2.heap.size 5 i5 _ 1 Tryd.underlying34 hi5 hz0 hz1 hz2 rfl _ n8 _ rfl O8.out _ _ _ _ rfl HSL8.out (Rt.u8_one SG) (by simp only [maxLen]; omega) (by omega) bq1.size ?_; intro v' w4 hown4 hg4 hat4)
    go_ret2
    have b2 := hb1.trans (hb2.mono hb1.size)
    have b3 := b2.trans (bq1.mono b2.size)
    refine ⟨b3.grown hg4 b3.size (fun g hg => Nat.le_trans b2.size (HLT.out g hg).1), v', rfl, Tp.ow_base ⟨_, by rw [HE.out, List.map_append]; exact hown4⟩ b2.size⟩
/-- A route as a value; its path's slice apart. -/
structure Rt.RV where
  v : Bool
  hi : Int
  lo : Int
  len : Int
  path : List ByteArray
  co : Int
  cert : Rt.CV
def Rt.RV.cells (x : Rt.RV) (a : Option Addr) (n c : Nat) : Array Value := (.bool x.v :: .int .u64 x.hi :: .int .u64 x.lo :: .int .i64 x.len :: .slice a n c :: .int .u32 x.co :: x.cert.list).toArray
structure Rt.RV.In (x : Rt.RV) : Prop where
  h0 : 0 ≤ x.hi
  h1 : x.hi < 18446744073709551616
  h2 : 0 ≤ x.lo
  h3 : x.lo < 18446744073709551616
  l0 : -9223372036854775808 ≤ x.len
  l1 : x.len < 9223372036854775808
  c0 : 0 ≤ x.co
  c1 : x.co < 4294967296
  cert : x.cert.In
theorem Rt.RV.size (x : Rt.RV) (h : x.cert.sg.length = 64) (a : Option Addr) (n c : Nat) : (x.cells a n c).size = 79 := by simp [Rt.RV.cells, Rt.CV.list, h]
theorem Rt.RV.rou (x : Rt.RV) (h : x.cert.sg.length = 64) (a : Option Addr) (n c : Nat) : Rt.Rou (x.cells a n c) x.v x.hi x.lo x.len a n c x.co x.cert.cells := by
  refine ⟨x.size h a n c, rfl, rfl, rfl, rfl, rfl, rfl, ?_⟩
  apply Array.ext'
  simp [Rt.RV.cells, Rt.CV.cells]
  rw [List.take_of_length_le (by simp [Rt.CV.list, h])]
def Rt.RV.right (x : Rt.RV) : Bool := Rt.rR x.v x.hi x.lo x.len x.path x.co (Rt.cR x.cert.st x.cert.v x.cert.hi x.cert.lo x.cert.len x.cert.mx x.cert.fr x.cert.ti)
/-- The path's bytes. -/
def Rt.pathB (l : List ByteArray) : List Int := l.flatMap fun s => ((s.size : Int) % 256) :: bytesI s
def Rt.RV.bytes (x : Rt.RV) : List Int := [(x.path.length : Int) % 256] ++ Rt.pathB x.path ++ Rt.be x.co 4 ++ Rt.pfxB x.v x.hi x.lo x.len ++ x.cert.bytes
end Go.Proofs
set_option linter.unusedSimpArgs false
namespace Go.Proofs
open Go.Shelf Go.RowKit Go.Lib Go.Rt Go.Nam Go.Tp
theorem Rt.width4 (l : List UInt8) : (decodeL l).2 ≤ 4 := by
  rw [decodeL_N]
  rcases decodeN_shape l.length (l.getD 0 0).toNat (l.getD 1 0).toNat (l.getD 2 0).toNat (l.getD 3 0).toNat with ⟨c, e⟩ | ⟨c1, c2, c3, cv, e⟩ | ⟨c1, c2, c3, c4, cv, cs, e⟩ | ⟨c1, c2, c3, c4, c5, cv, cw, e⟩ | e
  all_goals (rw [e]; simp)
theorem Rt.length_count (l : List UInt8) : l.length ≤ 4 * count l := by
  refine steps_ind (P := fun l => l.length ≤ 4 * count l) (by simp) ?_ l
  intro l h ih
  have hw := Rt.width4 l
  rw [count_step l h]
  rw [List.length_drop] at ih
  omega
theorem Rt.valid_small (s : ByteArray) (h : validN s.data.toList = true) : s.size ≤ 64 := by
  have h1 := Rt.length_count s.data.toList
  unfold validN at h
  simp only [Bool.and_eq_true, decide_eq_true_eq] at h
  rw [Lib.size_eq]
  omega
theorem Rt.right_small (x : Rt.RV) (h : x.right = true) : x.path.length ≤ 16 ∧ (∀ j, j < x.path.length → (x.path.getD j ByteArray.empty).size ≤ 64) ∧ x.cert.st.size ≤ 64 ∧ x.co ≤ 16777216 := by
  unfold Rt.RV.right Rt.rR at h
  simp only [Bool.and_eq_true, decide_eq_true_eq] at h
  obtain ⟨⟨⟨⟨_, h1⟩, h2⟩, h3⟩, h4⟩ := h
  refine ⟨h1, fun j hj => ?_, ?_, h2⟩
  · unfold Rt.pathOk at h4
    have := List.all_eq_true.1 h4 j (by rw [List.mem_range']; exact ⟨j, by omega, by omega⟩)
    unfold Rt.okAt at this
    simp only [Bool.and_eq_true] at this
    exact Rt.valid_small _ this.1
  · unfold Rt.cR at h3
    simp only [Bool.and_eq_true] at h3
    exact Rt.valid_small _ h3.1.1.1.1
theorem Rt.right_cert (x : Rt.RV) (h : x.right = true) : Rt.cR x.cert.st x.cert.v x.cert.hi x.cert.lo x.cert.len x.cert.mx x.cert.fr x.cert.ti = true := by
  unfold Rt.RV.right Rt.rR at h
  simp only [Bool.and_eq_true] at h
  exact h.1.2
theorem Rt.pathB_step (l : List ByteArray) (i : Nat) (h : i < l.length) : Rt.pathB (l.take (i + 1)) = Rt.pathB (l.take i) ++ (((l.getD i ByteArray.empty).size : Int) % 256 :: bytesI (l.getD i ByteArray.empty)) := by
  unfold Rt.pathB
  rw [List.take_add_one, List.flatMap_append]
  simp [List.getD, h]
theorem Rt.pathB_le (l : List ByteArray) (h : ∀ j, j < l.length → (l.getD j ByteArray.empty).size ≤ 64) : ∀ i, i ≤ l.length → (Rt.pathB (l.take i)).length ≤ 65 * i
  | 0, _ => by simp [Rt.pathB]
  | i + 1, hi => by
    have := Rt.pathB_le l h i (by omega)
    have h2 := h i (by omega)
    rw [Rt.pathB_step l i (by omega), List.length_append, List.length_cons, bytesI_length]
    omega
theorem Rt.size33 : (Tryd.prog.info? 33).map (·.size) = some 79 := by kernel_rfl
theorem Rt.Row.whole33 {w : World} {B : Nat} {cs : Array Value} (h : Rt.Row w B 33 cs) (hs : cs.size = 79) : (loadVar 33 ⟨B, 0, none⟩).run Tryd.prog w = .ok (.agg cs) w :=
  run_loadVar_row w B 33 33 cs (0, 0) _ h Tryd.underlying33 rfl (by rw [hs]; exact Rt.size33)
set_option maxHeartbeats 2000000 in
set_option maxRecDepth 100000 in
theorem Rt.put (x : Rt.RV) (hI : x.In) (hs : x.cert.st.size ≤ 140737488351232) (a : Option Addr) (n c : Nat) (w : World) (hZ : Rt.Strs w a n x.path) (hnc : n ≤ c) (hT : Utf8Tabs 0 1 w) :
    Calls Tryd.prog 23 #[.agg (x.cells a n c)] w (Rt.PutPost w x.right x.bytes) := by
  obtain ⟨i5, hi5, hz0, hz1, hz2⟩ := info_parts Rt.info5
  have hR := x.rou hI.cert.sg a n c
  have hc := fun w hZ hT => Rt.routeRight (x.cells a n c) x.v x.hi x.lo x.len a n c x.path x.co x.cert.cells x.cert.st x.cert.v x.cert.hi x.cert.lo x.cert.len x.cert.mx x.cert.fr x.cert.ti x.cert.se w hR hZ (x.cert.crt hI.cert.sg) hI.cert.in_ hT hI.h0 hI.h1 hI.h2 hI.h3 hI.l1 hI.l0 hnc hI.c0 hI.c1
  have hcs := x.size hI.cert.sg a n c
  obtain ⟨w1, ea, r1, hb1, hlt⟩ := Rt.box w (x.cells a n c) 33
  have hT1 := Utf8Tabs_below hT hb1
  have hZ1 := hZ.keep hb1
  have hW1 := Lib.hid (r1.whole33 hcs)
  have HC := Lib.hid hR
  have hsm := Rt.right_small x
  have hrc := Rt.right_cert x
  have hm := fun w (h : x.cert.st.size ≤ 64) hT => Rt.certPut x.cert hI.cert (by omega) w hT
  have hn4 := fun w => Rt.numberT x.co 4 hI.c0 (by have := hI.c1; omega) (by omega) w
  have hpx := fun w => Rt.prefixB x.v x.hi x.lo x.len w hI.h0 hI.h1 hI.h2 hI.h3
  obtain ⟨OK, hOK⟩ : ∃ OK, x.right = OK := ⟨_, rfl⟩
  have hcc : ∀ w, Rt.Strs w a n x.path → Utf8Tabs 0 1 w → Calls Tryd.prog 12 #[.agg (x.cells a n c)] w fun e w' => e = .returned (.bool OK) ∧ Below w.heap.size w w' := by rw [← hOK]; exact hc
  have hlen := hZ.len
  rw [hOK] at hsm hrc ⊢
  have HI := Lib.hid hI
  clear hc hOK hZ hR hI
  generalize x.cells a n c = cs at *
  go_enter Tryd.func23, Tryd.ntmps23
  cases OK
  · go_wp2_with (first
      | (guard_target =~ wpList _ _ _ (_ :: _) _ _; refine Rt.load_at 33 rfl ⟨w.heap.size, 0, none⟩ rfl (by kernel_rfl) hW1.out ?_)
      | (go_at_call 12; go_fit (hcc _ hZ1 hT1); rintro e w2 ⟨rfl, hb2⟩))
    go_ret2
    exact ⟨hb1.trans (hb2.mono hb1.size), rfl⟩
  · obtain ⟨hn16, hnm, hst, hco⟩ := hsm rfl
    have hm : ∀ w, Utf8Tabs 0 1 w → Calls Tryd.prog 43 #[.agg x.cert.cells] w (Rt.PutPost w true x.cert.bytes) := fun w hT => by have h := hm w hst hT; rwa [hrc rfl] at h
    have hbl : x.cert.bytes.length ≤ 300 := by
      have h1 := x.cert.body_length
      have h2 := HI.out.cert.sg
      simp only [Rt.CV.bytes, Rt.CV.sgI, List.length_append, List.length_map, h1, h2]; omega
    have hZB : Hid (x.bytes = [(x.path.length : Int) % 256] ++ Rt.pathB x.path ++ Rt.be x.co 4 ++ Rt.pfxB x.v x.hi x.lo x.len ++ x.cert.bytes) := Lib.hid rfl
    have hpx2 := Rt.pfxB_length x.v x.hi x.lo x.len
    have hpb := Rt.pathB_le x.path hnm n (by omega)
    rw [List.take_of_length_le (by omega)] at hpb
    have hn5 : ∀ w, Calls Tryd.prog 45 #[.int .u64 x.co, .int .i64 4] w (Ret (Bs (Rt.be x.co 4)) w) := hn4
    clear hn4 hrc
    have HNM := Lib.hid hnm
    rw [hlen] at hn16
    have HLEN := Lib.hid hlen
    have e1 : IntKind.u8.wrap (n : Int) = (n : Int) % 256 := IntKind.wrap_u8 _
    clear hsm hnm hlen
    obtain ⟨hb02, hbT⟩ : w.heap.size ≤ w1.heap.size ∧ True := ⟨by omega, trivial⟩
    go_wp2_with (first
      | (guard_target =~ wpList _ _ _ (_ :: _) _ _; refine Rt.load_at 33 rfl ⟨w.heap.size, 0, none⟩ rfl (by kernel_rfl) hW1.out ?_)
      | (go_at_call 12; go_fit (hcc _ hZ1 hT1); rintro e w2 ⟨rfl, hb2⟩; have r2 := r1.keep hb2; have f4 := r2.cell 4 HC.out.c4; have hl2 := r2.lt; have hl3 : w1.heap.size ≤ w2.heap.size := hb2.size))
    have hT2 := Utf8Tabs_below hT1 hb2
    have HZ2 := Lib.hid (hZ1.keep hb2)
    have hO0 := Lib.hid (World.ownsRow_lit (base := w2.heap.size) (e := 5) (size := 1) w2 #[Value.int .u8 ((n : Int) % 256)] 1 (Nat.le_refl _) (by simp [maxLen]) (by simp))
    clear hZ1 f4
    go_loopw [4, 20] (fun t i wr => ∃ j : Nat, j ≤ n ∧ i = .int .i64 (j : Int) ∧ (∃ m, wr.ownsRow w2.heap.size 5 1 t m (([(n : Int) % 256] ++ Rt.pathB (x.path.take j)).map (Value.int .u8))) ∧ Below w2.heap.size w2 wr) (fun _ i _ => n - (Go.RowKit.intOf i).toNat)
    case atStart => exact ⟨0, Nat.zero_le _, rfl, ⟨1, by simpa [Rt.pathB] using hO0.out⟩, (Below.refl _ _).alloc (Nat.le_refl _) _⟩
    case round =>
      obtain ⟨j, hj, rfl, ⟨m, ho⟩, hbw⟩ := hrel
      have hlt := ho.lt
      have hpl := Rt.pathB_le x.path HNM.out j (by rw [HLEN.out]; exact hj)
      have hm2 : m ≤ 2000 := by have h3 := ho.1; simp only [List.length_map, Nat.mul_one, List.length_append, List.length_cons, List.length_nil] at h3; omega
      have HO := Lib.hid ho
      have HLT := Lib.hid hlt
      have HB := hbw.size
      clear ho hlt hpl
      by_cases hjn : j < n
      · obtain ⟨b, off, ha, hblt⟩ := HZ2.out.at_ j hjn
        subst ha
        have hz := HZ2.out.keep hbw
        have hld := hz.cell b off rfl j hjn
        have hsm2 := HNM.out j (by rw [HLEN.out]; exact hjn)
        have HST := Lib.hid (Rt.pathB_step x.path j (by rw [HLEN.out]; exact hjn))
        have hu8 : ∀ z : ByteArray, IntKind.u8.wrap (z.size : Int) = (z.size : Int) % 256 := fun z => IntKind.wrap_u8 _
        generalize x.path.getD j ByteArray.empty = s at *
        clear hz
        go_wp2_with (first
          | (at_builtin; refine wpList_append_sl rfl (.tmp 24) (.tmp 28) 34 rfl w2.heap.size 5 i5 _ 1 Tryd.underlying34 hi5 hz0 hz1 hz2 rfl _ m _ rfl (HO.out.alloc _) _ 1 1 _ rfl (Sl.of_row (heap_alloc_new wr _) 1 1 (by simp) (Nat.le_refl _) (by simp [maxLen])) (by intro u hu; simp at hu; subst hu; rfl) (by simp only [maxLen]; omega) (by omega) (by simp; omega) ?_; intro v5 w5 own5 hg5 hat5; have hb5 : w2.heap.size ≤ w5.heap.size := (by have := hg5.size; simp at this; omega))
          | (at_builtin; refine Tp.wpList_append_str rfl (.tmp 29) (.tmp 30) 34 9 rfl w2.heap.size 5 i5 Tryd.underlying34 Tryd.underlying9 hi5 hz0 hz1 hz2 _ (m + 1) _ rfl own5 s rfl (by omega) hb5 ?_; intro v6 w6 own6 g6))
        go_roundw
        case rel =>
          refine ⟨j + 1, by omega, by simp, ⟨m + 1 + s.size, ?_⟩, ?_⟩
          · rw [HST.out]
            have h := own6
            simp at h ⊢
            exact h
          · have hb6 := (hbw.alloc HB _).grown hg5 (by simp; omega) (fun g hg => (HLT.out g hg).1)
            exact hb6.grown g6.gr hb5 (fun g hg => (own5.lt g hg).1)
        case measure => simp [Go.RowKit.intOf]; omega
      · have : j = n := by omega
        subst this
        have r3 := (r2.keep hbw)
        have hW3 := Lib.hid (r3.cert hcs HC.out.cc)
        have g0 := r3.cell 0 HC.out.c0
        have hT3 := Utf8Tabs_below hT2 hbw
        obtain ⟨a4, c4, rfl, s4, hb4⟩ := Sl.of_own HO.out
        rw [List.take_of_length_le (by rw [HLEN.out]; exact Nat.le_refl _)] at s4
        have HS4 := Lib.hid s4
        have hc0 := HI.out.c0
        have hc1 := HI.out.c1
        have e2 : IntKind.u64.wrap x.co = x.co := by rw [IntKind.wrap_u64]; omega
        clear s4 hb4 HO HLT
        go_wp2_with (first
          | (guard_target =~ wpList _ _ _ (_ :: _) _ _; refine Rt.load_at 31 rfl ⟨w.heap.size, 6, none⟩ rfl (by kernel_rfl) hW3.out ?_)
          | (go_at_call 43; go_fit (hm _ hT3); rintro e w4 ⟨hb43, v43, rfl, o43⟩))
        obtain ⟨a7, n7, c7, rfl, s7⟩ := Tp.ow_bs o43
        have HS7 := Lib.hid s7
        have r4 := r3.keep hb43
        have K0 := r4.at 0 HC.out.c0
        have K1 := r4.at 1 HC.out.c1
        have K2 := r4.at 2 HC.out.c2
        have K3 := r4.at 3 HC.out.c3
        have K5 := r4.at 5 HC.out.c5
        clear s7 o43 g0
        go_wp2
        refine Tp.region_ex (by kernel_rfl) 10 50 [[(4, none)], [(1, none)], [(40, some 1)], [(41, some 2)], [(42, some 3)], [(1, none)], [(44, some 5)], [(45, some 6)], [(7, none)], [(39, some 0), (43, some 4), (46, some 7), (47, some 8)]] (by kernel_rfl) rfl ?_
        apply Exists.intro [_, _, _, _, _, _, _, _, _, _]
        refine ⟨⟨?_, ?_, ?_, ?_, ?_, ?_, ?_, ?_, ?_, ?_, trivial⟩, ?_⟩
        · intro A u hC hG hF hu hR; clear hG
          refine Tp.facts_old (fun h4 => ?_) rfl; conv at h4 => rhs; whnf
          refine Tp.facts_nil ?_
          refine Tp.wants_plain rfl ?_
          (apply Tp.gives_run; (simp [go_sem, hC, hF, hu, h4, K0, K1, K2, K3, K5, e2]; exact rfl); (refine Tp.given_is ?_; exact rfl))
        · intro A u hC hG hF hu hR; clear hG
          refine Tp.facts_old (fun h1 => ?_) rfl; conv at h1 => rhs; whnf
          refine Tp.facts_nil ?_
          refine Tp.wants_plain rfl ?_
          (apply Tp.gives_run; (simp [go_sem, hC, hF, hu, h1, K0, K1, K2, K3, K5, e2]; exact rfl); (refine Tp.given_is ?_; exact rfl))
        · intro A u hC hG hF hu hR; clear hG
          first | refine Tp.facts_is rfl (fun h40 => ?_) | refine Tp.facts_ty rfl (fun v40 h40 k40 => ?_)
          refine Tp.facts_nil ?_
          refine Tp.wants_plain rfl ?_
          (apply Tp.gives_run; (simp [go_sem, hC, hF, hu, h40, K0, K1, K2, K3, K5, e2]; exact rfl); (refine Tp.given_is ?_; exact rfl))
        · intro A u hC hG hF hu hR; clear hG
          first | refine Tp.facts_is rfl (fun h41 => ?_) | refine Tp.facts_ty rfl (fun v41 h41 k41 => ?_)
          refine Tp.facts_nil ?_
          refine Tp.wants_plain rfl ?_
          (apply Tp.gives_run; (simp [go_sem, hC, hF, hu, h41, K0, K1, K2, K3, K5, e2]; exact rfl); (refine Tp.given_is ?_; exact rfl))
        · intro A u hC hG hF hu hR; clear hG
          first | refine Tp.facts_is rfl (fun h42 => ?_) | refine Tp.facts_ty rfl (fun v42 h42 k42 => ?_)
          refine Tp.facts_nil ?_
          refine Tp.wants_plain rfl ?_
          (apply Tp.gives_run; (simp [go_sem, hC, hF, hu, h42, K0, K1, K2, K3, K5, e2]; exact rfl); (refine Tp.given_call ?_ (hn5 u); exact rfl))
        · intro A u hC hG hF hu hR; clear hG
          refine Tp.facts_old (fun h1 => ?_) rfl; conv at h1 => rhs; whnf
          refine Tp.facts_nil ?_
          refine Tp.wants_plain rfl ?_
          (apply Tp.gives_run; (simp [go_sem, hC, hF, hu, h1, K0, K1, K2, K3, K5, e2]; exact rfl); (refine Tp.given_is ?_; exact rfl))
        · intro A u hC hG hF hu hR; clear hG
          first | refine Tp.facts_is rfl (fun h44 => ?_) | refine Tp.facts_ty rfl (fun v44 h44 k44 => ?_)
          refine Tp.facts_nil ?_
          refine Tp.wants_plain rfl ?_
          (apply Tp.gives_run; (simp [go_sem, hC, hF, hu, h44, K0, K1, K2, K3, K5, e2]; exact rfl); (refine Tp.given_is ?_; exact rfl))
        · intro A u hC hG hF hu hR; clear hG
          first | refine Tp.facts_is rfl (fun h45 => ?_) | refine Tp.facts_ty rfl (fun v45 h45 k45 => ?_)
          refine Tp.facts_nil ?_
          refine Tp.wants_plain rfl ?_
          (apply Tp.gives_run; (simp [go_sem, hC, hF, hu, h45, K0, K1, K2, K3, K5, e2]; exact rfl); (refine Tp.given_call ?_ (hpx u); exact rfl))
        · intro A u hC hG hF hu hR; clear hG
          refine Tp.facts_old (fun h7 => ?_) rfl; conv at h7 => rhs; whnf
          refine Tp.facts_nil ?_
          refine Tp.wants_plain rfl ?_
          (apply Tp.gives_run; (simp [go_sem, hC, hF, hu, h7, K0, K1, K2, K3, K5, e2]; exact rfl); (refine Tp.given_is ?_; exact rfl))
        · intro A u hC hG hF hu hR; clear hG
          first | refine Tp.facts_is rfl (fun h39 => ?_) | refine Tp.facts_ty rfl (fun v39 h39 k39 => ?_)
          first | refine Tp.facts_is rfl (fun h43 => ?_) | refine Tp.facts_ty rfl (fun v43 h43 k43 => ?_)
          first | refine Tp.facts_is rfl (fun h46 => ?_) | refine Tp.facts_ty rfl (fun v46 h46 k46 => ?_)
          first | refine Tp.facts_is rfl (fun h47 => ?_) | refine Tp.facts_ty rfl (fun v47 h47 k47 => ?_)
          refine Tp.facts_nil ?_
          refine Tp.wants_plain rfl ?_
          (obtain ⟨a43, n43, c43, rfl, s43⟩ := k43; obtain ⟨a46, n46, c46, rfl, s46⟩ := k46; apply Tp.gives_run; (simp [go_sem, hC, hF, hu, h39, h43, h46, h47, K0, K1, K2, K3, K5, e2]; exact rfl); (refine Tp.given_ty ?_ (Tp.bss_new u [_, _, _, _] [_, _, _, _] 34 4 rfl (by omega) ⟨⟨a4, m, c4, rfl, (HS4.out.keep hb43).keep hu⟩, ⟨a43, n43, c43, rfl, s43⟩, ⟨a46, n46, c46, rfl, s46⟩, ⟨a7, n7, c7, rfl, HS7.out.keep hu⟩, trivial⟩) ((Below.refl _ _).alloc (Nat.le_refl _) _); exact rfl))
        intro wq1 bq1
        first | refine Tp.fin_is rfl rfl rfl ?_ | refine Tp.fin_ty rfl rfl rfl (fun y39 q39 => ?_)
        first | refine Tp.fin_is rfl rfl rfl ?_ | refine Tp.fin_ty rfl rfl rfl (fun y40 q40 => ?_)
        first | refine Tp.fin_is rfl rfl rfl ?_ | refine Tp.fin_ty rfl rfl rfl (fun y41 q41 => ?_)
        first | refine Tp.fin_is rfl rfl rfl ?_ | refine Tp.fin_ty rfl rfl rfl (fun y42 q42 => ?_)
        first | refine Tp.fin_is rfl rfl rfl ?_ | refine Tp.fin_ty rfl rfl rfl (fun y43 q43 => ?_)
        first | refine Tp.fin_is rfl rfl rfl ?_ | refine Tp.fin_ty rfl rfl rfl (fun y44 q44 => ?_)
        first | refine Tp.fin_is rfl rfl rfl ?_ | refine Tp.fin_ty rfl rfl rfl (fun y45 q45 => ?_)
        first | refine Tp.fin_is rfl rfl rfl ?_ | refine Tp.fin_ty rfl rfl rfl (fun y46 q46 => ?_)
        first | refine Tp.fin_is rfl rfl rfl ?_ | refine Tp.fin_ty rfl rfl rfl (fun y47 q47 => ?_)
        first | refine Tp.fin_is rfl rfl rfl ?_ | refine Tp.fin_ty rfl rfl rfl (fun y48 q48 => ?_)
        refine Tp.fin_nil ?_
        simp only [Act.put, List.setIfInBounds_toArray, List.set_cons_succ, List.set_cons_zero, List.drop_succ_cons, List.drop_zero, List.drop_nil]
        have hcn := Rt.concatO _ _ wq1 q48 (by simp) (by simp [Rt.be_length, hpx2]; omega)
        have efl : ([[(j : Int) % 256] ++ Rt.pathB x.path, Rt.be x.co 4, Rt.pfxB x.v x.hi x.lo x.len, x.cert.bytes] : List (List Int)).flatten = x.bytes := by rw [hZB.out, HLEN.out]; simp
        rw [efl] at hcn
        clear q48 efl
        go_wp2_with (go_at_call 44; go_fit hcn; rintro e w5 ⟨v5, rfl, o5, b5⟩)
        go_ret2
        have b2 := hb1.trans (hb2.mono hb1.size)
        have b3 := b2.trans (hbw.mono b2.size)
        have b4 := b3.trans (hb43.mono b3.size)
        have b6 := b4.trans (bq1.mono b4.size)
        exact ⟨b6.trans (b5.mono b6.size), v5, rfl, Tp.ow_base o5 b6.size⟩
end Go.Proofs
set_option linter.unusedSimpArgs false
namespace Go.Proofs
open Go.Shelf Go.RowKit Go.Lib Go.Rt Go.Nam Go.Tp
set_option maxHeartbeats 1000000 in
set_option maxRecDepth 100000 in
theorem Rt.putU1 (base : Nat) (v0 : Value) (xs : List Value) (n : Int) (k : Nat) (h0 : 0 ≤ n) (h1 : n < 18446744073709551616) (hk : k ≤ 8) (w : World) (hown : w.ownsRow base 5 1 v0 xs.length xs) (hm : xs.length ≤ 35184372088832) (hx1 : 1 ≤ xs.length) (hb : base ≤ w.heap.size) :
    Calls Tryd.prog 48 #[v0, .int .u64 n, .int .i64 (k : Int)] w fun e w' => ∃ v, e = .returned v ∧ w'.ownsRow base 5 1 v (xs ++ (Rt.be n k).map (Value.int .u8)).length (xs ++ (Rt.be n k).map (Value.int .u8)) ∧ Gr w w' v0 v ∧ OneK w w' := by
  obtain ⟨i5, hi5, hz0, hz1, hz2⟩ := info_parts Rt.info5
  have HO0 := Lib.hid hown
  clear hown
  go_enter Tryd.func48, Tryd.ntmps48
  go_wp2
  go_loopw [0, 7] (fun v i wr => ∃ j : Nat, j ≤ k ∧ i = .int .i64 ((j : Int) - 1) ∧ (∃ ys, wr.ownsRow base 5 1 v ys.length ys ∧ Hid (ys.length = xs.length + (k - j)) ∧ Hid (ys ++ (Rt.be n j).map (Value.int .u8) = xs ++ (Rt.be n k).map (Value.int .u8))) ∧ Gr w wr v0 v ∧ OneK w wr) (fun _ i _ => (Go.RowKit.intOf i + 1).toNat)
  case atStart => exact ⟨k, Nat.le_refl _, rfl, ⟨xs, HO0.out, Lib.hid (by omega), Lib.hid rfl⟩, Gr.refl _ _, OneK.refl _⟩
  case round =>
    obtain ⟨j, hj, rfl, ⟨ys, hown, HY, HX⟩, hgr, hok⟩ := hrel
    have HO := Lib.hid hown
    have HG := Lib.hid hgr
    have HK := Lib.hid hok
    have hys := HY.out
    have HB := hgr.gr.size
    generalize ys.length = yn at *
    clear hown hgr hok HY
    by_cases hj0 : 0 < j
    · go_wp2_with (at_builtin; refine wpList_append_sl1 rfl (.tmp 14) (.tmp 20) 34 rfl base 5 i5 _ 1 Tryd.underlying34 hi5 hz0 hz1 hz2 rfl _ yn ys rfl (HO.out.alloc _) _ 1 1 _ rfl (Sl.of_row (heap_alloc_new wr _) 1 1 (by simp) (Nat.le_refl _) (by simp [maxLen])) (by intro u hu; simp at hu; subst hu; rfl) (by simp only [maxLen]; omega) (by omega) (by simp; omega) (by omega) (Nat.le_refl _) ?_; intro v' w1 hown1 hg1 hk1)
      go_roundw
      case rel =>
        obtain ⟨i, rfl⟩ : ∃ i, j = i + 1 := ⟨j - 1, by omega⟩
        have hyl : ys.length = yn := by have := HO.out.1; omega
        refine ⟨i, by omega, by simp, ⟨ys ++ [.int .u8 (n / 2 ^ (8 * i) % 256)], ?_, Lib.hid (by rw [List.length_append, hyl, hys]; simp; omega), Lib.hid ?_⟩, ?_⟩
        · have h := hown1
          simp only [Nat.add_sub_cancel] at h
          rw [List.length_append, hyl]
          simpa using h
        · have := HX.out
          rw [← this]
          simp [Rt.be]
        · exact ⟨(HG.out.alloc _).trans hg1, (HK.out.trans HB (OneK.below ((Below.refl _ _).alloc (Nat.le_refl _) _))).trans (by simp; omega) hk1⟩
      case measure => simp [Go.RowKit.intOf]; omega
    · have : j = 0 := by omega
      subst this
      go_wp2
      go_ret
      have hyl : ys.length = yn := by have := HO.out.1; omega
      have := HX.out
      refine ⟨_, rfl, ?_, HG.out, HK.out⟩
      rw [← this]
      simp only [Rt.be, List.map_nil, List.append_nil]
      rw [hyl]
      exact HO.out
set_option maxHeartbeats 2000000 in
set_option maxRecDepth 100000 in
theorem Rt.putR (x : Rt.RV) (hI : x.In) (hs : x.cert.st.size ≤ 140737488351232) (a : Option Addr) (n c : Nat) (w : World) (hZ : Rt.Strs w a n x.path) (hnc : n ≤ c) (hT : Utf8Tabs 0 1 w) :
    Calls Tryd.prog 24 #[.agg (x.cells a n c)] w (Rt.PutPost w x.right x.bytes) := by
  obtain ⟨i5, hi5, hz0, hz1, hz2⟩ := info_parts Rt.info5
  have hR := x.rou hI.cert.sg a n c
  have hc := fun w hZ hT => Rt.routeRightR (x.cells a n c) x.v x.hi x.lo x.len a n c x.path x.co x.cert.cells x.cert.st x.cert.v x.cert.hi x.cert.lo x.cert.len x.cert.mx x.cert.fr x.cert.ti x.cert.se w hR hZ (x.cert.crt hI.cert.sg) hI.cert.in_ hT hI.h0 hI.h1 hI.h2 hI.h3 hI.l1 hI.l0 hnc hI.c0 hI.c1
  have hcs := x.size hI.cert.sg a n c
  obtain ⟨w1, ea, r1, hb1, hlt⟩ := Rt.box w (x.cells a n c) 33
  have hT1 := Utf8Tabs_below hT hb1
  have hZ1 := hZ.keep hb1
  have hW1 := Lib.hid (r1.whole33 hcs)
  have HC := Lib.hid hR
  have hsm := Rt.right_small x
  have hrc := Rt.right_cert x
  have hm := fun w (h : x.cert.st.size ≤ 64) hT => Rt.certPutR x.cert hI.cert (by omega) w hT
  have np := fun (u : World) (base : Nat) (v0 : Value) (xs : List Value) ho h1 h2 h3 => Rt.putPrefix base v0 xs x.v x.hi x.lo x.len u hI.h0 hI.h1 hI.h2 hI.h3 ho h1 h2 h3
  have n1 := fun (u : World) (base : Nat) (v0 : Value) (xs : List Value) ho h1 h2 h3 => Rt.putU1 base v0 xs x.co 4 hI.c0 (by have := hI.c1; omega) (by omega) u ho h1 h2 h3
  obtain ⟨OK, hOK⟩ : ∃ OK, x.right = OK := ⟨_, rfl⟩
  have hcc : ∀ w, Rt.Strs w a n x.path → Utf8Tabs 0 1 w → Calls Tryd.prog 13 #[.agg (x.cells a n c)] w fun e w' => e = .returned (.bool OK) ∧ Below w.heap.size w w' := by rw [← hOK]; exact hc
  have hlen := hZ.len
  rw [hOK] at hsm hrc ⊢
  have HI := Lib.hid hI
  clear hc hOK hZ hR hI
  generalize x.cells a n c = cs at *
  go_enter Tryd.func24, Tryd.ntmps24
  cases OK
  · go_wp2_with (first
      | (guard_target =~ wpList _ _ _ (_ :: _) _ _; refine Rt.load_at 33 rfl ⟨w.heap.size, 0, none⟩ rfl (by kernel_rfl) hW1.out ?_)
      | (go_at_call 13; go_fit (hcc _ hZ1 hT1); rintro e w2 ⟨rfl, hb2⟩))
    go_ret2
    exact ⟨hb1.trans (hb2.mono hb1.size), rfl⟩
  · obtain ⟨hn16, hnm, hst, hco⟩ := hsm rfl
    have hm : ∀ w, Utf8Tabs 0 1 w → Calls Tryd.prog 49 #[.agg x.cert.cells] w (Rt.PutPost w true x.cert.bytes) := fun w hT => by have h := hm w hst hT; rwa [hrc rfl] at h
    have hbl : x.cert.bytes.length ≤ 300 := by
      have h1 := x.cert.body_length
      have h2 := HI.out.cert.sg
      simp only [Rt.CV.bytes, Rt.CV.sgI, List.length_append, List.length_map, h1, h2]; omega
    have hZB : Hid (x.bytes = [(x.path.length : Int) % 256] ++ Rt.pathB x.path ++ Rt.be x.co 4 ++ Rt.pfxB x.v x.hi x.lo x.len ++ x.cert.bytes) := Lib.hid rfl
    have hpx2 := Rt.pfxB_length x.v x.hi x.lo x.len
    clear hrc
    have HNM := Lib.hid hnm
    rw [hlen] at hn16
    have HLEN := Lib.hid hlen
    have e1 : IntKind.u8.wrap (n : Int) = (n : Int) % 256 := IntKind.wrap_u8 _
    clear hsm hnm hlen
    have hb02 : w.heap.size ≤ w1.heap.size := by omega
    go_wp2_with (first
      | (guard_target =~ wpList _ _ _ (_ :: _) _ _; refine Rt.load_at 33 rfl ⟨w.heap.size, 0, none⟩ rfl (by kernel_rfl) hW1.out ?_)
      | (go_at_call 13; go_fit (hcc _ hZ1 hT1); rintro e w2 ⟨rfl, hb2⟩; have r2 := r1.keep hb2; have f4 := r2.cell 4 HC.out.c4; have hl2 := r2.lt; have hl3 : w1.heap.size ≤ w2.heap.size := hb2.size))
    have hT2 := Utf8Tabs_below hT1 hb2
    have HZ2 := Lib.hid (hZ1.keep hb2)
    have hO0 := Lib.hid (World.ownsRow_lit (base := w2.heap.size) (e := 5) (size := 1) w2 #[Value.int .u8 ((n : Int) % 256)] 1 (Nat.le_refl _) (by simp [maxLen]) (by simp))
    clear hZ1 f4
    go_loopw [4, 5] (fun t i wr => ∃ j : Nat, j ≤ n ∧ i = .int .i64 (j : Int) ∧ (∃ m, wr.ownsRow w2.heap.size 5 1 t m (([(n : Int) % 256] ++ Rt.pathB (x.path.take j)).map (Value.int .u8))) ∧ Below w2.heap.size w2 wr) (fun _ i _ => n - (Go.RowKit.intOf i).toNat)
    case atStart => exact ⟨0, Nat.zero_le _, rfl, ⟨1, by simpa [Rt.pathB] using hO0.out⟩, (Below.refl _ _).alloc (Nat.le_refl _) _⟩
    case round =>
      obtain ⟨j, hj, rfl, ⟨m, ho⟩, hbw⟩ := hrel
      have hlt := ho.lt
      have hpl := Rt.pathB_le x.path HNM.out j (by rw [HLEN.out]; exact hj)
      obtain ⟨xs, hxs⟩ : ∃ xs, ([(n : Int) % 256] ++ Rt.pathB (x.path.take j)).map (Value.int .u8) = xs := ⟨_, rfl⟩
      rw [hxs] at ho
      have hxm : m = xs.length := by have h3 := ho.1; omega
      subst hxm
      have hm2 : 1 ≤ xs.length ∧ xs.length ≤ 2000 := by rw [← hxs]; simp only [List.length_map, List.length_append, List.length_cons, List.length_nil]; omega
      obtain ⟨hm1, hm2⟩ := hm2
      have HXS := Lib.hid hxs
      have HO := Lib.hid ho
      have HLT := Lib.hid hlt
      have HB := hbw.size
      have r3 := r2.keep hbw
      have f4 := r3.cell 4 HC.out.c4
      have hl4 := r3.lt
      clear ho hlt hpl hxs
      by_cases hjn : j < n
      · obtain ⟨b, off, ha, hblt⟩ := HZ2.out.at_ j hjn
        subst ha
        have hz := HZ2.out.keep hbw
        have hld := hz.cell b off rfl j hjn
        have hsm2 := HNM.out j (by rw [HLEN.out]; exact hjn)
        have HST := Lib.hid (Rt.pathB_step x.path j (by rw [HLEN.out]; exact hjn))
        have hu8 : ∀ z : ByteArray, IntKind.u8.wrap (z.size : Int) = (z.size : Int) % 256 := fun z => IntKind.wrap_u8 _
        generalize x.path.getD j ByteArray.empty = s at *
        have q0 : (0 : Int) ≤ (j : Int) := Int.natCast_nonneg _
        have q1 : (j : Int) < (n : Int) := by omega
        have hvb : ∀ g, u4.ownBlock = some g → w2.heap.size ≤ g := fun g hg => (HLT.out g hg).1
        have K4 : ∀ u, wr.grownBy u u4.ownBlock → u.cell? ⟨w.heap.size, 4, none⟩ = some (.slice (some ⟨b, off, none⟩) n c) := fun u hu => by
          rw [← f4]
          exact World.cell?_of_block (hu.block w.heap.size hl4 (fun e => by have := hvb _ e.symm; omega))
        have K5 : ∀ u, wr.grownBy u u4.ownBlock → u.cell? ⟨b, off + j, none⟩ = some (.string s) := fun u hu => by
          rw [← hld]
          exact World.cell?_of_block (hu.block b (by have := hbw.size; omega) (fun e => by have := hvb _ e.symm; omega))
        clear hz
        go_wp2
        refine Tp.region_o [9, 15] [(9, 15)] u4.ownBlock ((OwG 5 w2.heap.size wr.heap.size u4 xs).p u4) (fun u u' h k => (OwG 5 w2.heap.size wr.heap.size u4 xs).st u4 u u' h k) ⟨HO.out, .inl rfl⟩ (by kernel_rfl) 16 56 [[(4, none)], [(1, none)], [(24, some 1)], [(5, none)], [(25, some 2), (26, some 3)], [(27, some 4)], [(28, some 5)], [(29, some 6)], [(30, some 7)], [(23, some 0), (31, some 8)], [(1, none)], [(33, some 10)], [(5, none)], [(34, some 11), (35, some 12)], [(36, some 13)], [(32, some 9), (37, some 14)]] (by kernel_rfl) (by kernel_rfl) rfl ?_
        apply Exists.intro [_, _, _, _, _, _, _, _, _, _, _, _, _, _, _, _]
        refine ⟨⟨?_, ?_, ?_, ?_, ?_, ?_, ?_, ?_, ?_, ?_, ?_, ?_, ?_, ?_, ?_, ?_, trivial⟩, ?_, ?_⟩
        · intro A u hC hG hF hu hR; clear hG
          refine Tp.facts_old (fun h4 => ?_) rfl; conv at h4 => rhs; whnf
          refine Tp.facts_nil ?_
          refine Tp.wants_plain rfl ?_
          refine Tp.aim_l ?_
          (apply Tp.gives_run; (simp [go_sem, hC, hF, hu, h4,  K4, K5, hu8, q0, q1, hjn]; exact rfl); (refine Tp.given_is ?_; exact rfl))
        · intro A u hC hG hF hu hR; clear hG
          refine Tp.facts_old (fun h1 => ?_) rfl; conv at h1 => rhs; whnf
          refine Tp.facts_nil ?_
          refine Tp.wants_plain rfl ?_
          refine Tp.aim_l ?_
          (apply Tp.gives_run; (simp [go_sem, hC, hF, hu, h1,  K4, K5, hu8, q0, q1, hjn]; exact rfl); (refine Tp.given_is ?_; exact rfl))
        · intro A u hC hG hF hu hR; clear hG
          first | refine Tp.facts_is rfl (fun h24 => ?_) | refine Tp.facts_ty rfl (fun v24 h24 k24 => ?_)
          refine Tp.facts_nil ?_
          refine Tp.wants_plain rfl ?_
          refine Tp.aim_l ?_
          (apply Tp.gives_run; (simp [go_sem, hC, hF, hu, h24,  K4, K5, hu8, q0, q1, hjn]; exact rfl); (refine Tp.given_is ?_; exact rfl))
        · intro A u hC hG hF hu hR; clear hG
          refine Tp.facts_old (fun h5 => ?_) rfl; conv at h5 => rhs; whnf
          refine Tp.facts_nil ?_
          refine Tp.wants_plain rfl ?_
          refine Tp.aim_l ?_
          (apply Tp.gives_run; (simp [go_sem, hC, hF, hu, h5,  K4, K5, hu8, q0, q1, hjn]; exact rfl); (refine Tp.given_is ?_; exact rfl))
        · intro A u hC hG hF hu hR; clear hG
          first | refine Tp.facts_is rfl (fun h25 => ?_) | refine Tp.facts_ty rfl (fun v25 h25 k25 => ?_)
          first | refine Tp.facts_is rfl (fun h26 => ?_) | refine Tp.facts_ty rfl (fun v26 h26 k26 => ?_)
          refine Tp.facts_nil ?_
          refine Tp.wants_plain rfl ?_
          refine Tp.aim_l ?_
          (apply Tp.gives_run; (simp [go_sem, hC, hF, hu, h25, h26,  K4, K5, hu8, q0, q1, hjn]; exact rfl); (refine Tp.given_is ?_; exact rfl))
        · intro A u hC hG hF hu hR; clear hG
          first | refine Tp.facts_is rfl (fun h27 => ?_) | refine Tp.facts_ty rfl (fun v27 h27 k27 => ?_)
          refine Tp.facts_nil ?_
          refine Tp.wants_plain rfl ?_
          refine Tp.aim_l ?_
          (apply Tp.gives_run; (simp [go_sem, hC, hF, hu, h27,  K4, K5, hu8, q0, q1, hjn]; exact rfl); (refine Tp.given_is ?_; exact rfl))
        · intro A u hC hG hF hu hR; clear hG
          first | refine Tp.facts_is rfl (fun h28 => ?_) | refine Tp.facts_ty rfl (fun v28 h28 k28 => ?_)
          refine Tp.facts_nil ?_
          refine Tp.wants_plain rfl ?_
          refine Tp.aim_l ?_
          (apply Tp.gives_run; (simp [go_sem, hC, hF, hu, h28,  K4, K5, hu8, q0, q1, hjn]; exact rfl); (refine Tp.given_is ?_; exact rfl))
        · intro A u hC hG hF hu hR; clear hG
          first | refine Tp.facts_is rfl (fun h29 => ?_) | refine Tp.facts_ty rfl (fun v29 h29 k29 => ?_)
          refine Tp.facts_nil ?_
          refine Tp.wants_plain rfl ?_
          refine Tp.aim_l ?_
          (apply Tp.gives_run; (simp [go_sem, hC, hF, hu, h29,  K4, K5, hu8, q0, q1, hjn]; exact rfl); (refine Tp.given_is ?_; exact rfl))
        · intro A u hC hG hF hu hR; clear hG
          first | refine Tp.facts_is rfl (fun h30 => ?_) | refine Tp.facts_ty rfl (fun v30 h30 k30 => ?_)
          refine Tp.facts_nil ?_
          refine Tp.wants_plain rfl ?_
          refine Tp.aim_l ?_
          (apply Tp.gives_run; (simp [go_sem, hC, hF, hu, h30,  K4, K5, hu8, q0, q1, hjn]; exact rfl); (refine Tp.given_ty ?_ (Tp.cell1_new u 5 _) ((Below.refl _ _).alloc (Nat.le_refl _) _); exact rfl))
        · intro A u hC hG hF hu hR; clear hG
          first | refine Tp.facts_is rfl (fun h23 => ?_) | refine Tp.facts_ty rfl (fun v23 h23 k23 => ?_)
          first | refine Tp.facts_is rfl (fun h31 => ?_) | refine Tp.facts_ty rfl (fun v31 h31 k31 => ?_)
          refine Tp.facts_nil ?_
          refine Tp.wants_plain rfl ?_
          refine Tp.append_cell_own (.tmp 23) (.tmp 31) 34 5 rfl i5 _ 1 Tryd.underlying34 hi5 hz0 hz1 hz2 rfl h23 h31 (hR (by kernel_rfl)) k31 rfl (by simp only [maxLen]; omega) (by omega) hm1 (by have := hu.size; omega) hu.size (by decide) ?_; exact rfl
        · intro A u hC hG hF hu hR; clear hG
          refine Tp.facts_old (fun h1 => ?_) rfl; conv at h1 => rhs; whnf
          refine Tp.facts_nil ?_
          refine Tp.wants_plain rfl ?_
          refine Tp.aim_l ?_
          (apply Tp.gives_run; (simp [go_sem, hC, hF, hu, h1,  K4, K5, hu8, q0, q1, hjn]; exact rfl); (refine Tp.given_is ?_; exact rfl))
        · intro A u hC hG hF hu hR; clear hG
          first | refine Tp.facts_is rfl (fun h33 => ?_) | refine Tp.facts_ty rfl (fun v33 h33 k33 => ?_)
          refine Tp.facts_nil ?_
          refine Tp.wants_plain rfl ?_
          refine Tp.aim_l ?_
          (apply Tp.gives_run; (simp [go_sem, hC, hF, hu, h33,  K4, K5, hu8, q0, q1, hjn]; exact rfl); (refine Tp.given_is ?_; exact rfl))
        · intro A u hC hG hF hu hR; clear hG
          refine Tp.facts_old (fun h5 => ?_) rfl; conv at h5 => rhs; whnf
          refine Tp.facts_nil ?_
          refine Tp.wants_plain rfl ?_
          refine Tp.aim_l ?_
          (apply Tp.gives_run; (simp [go_sem, hC, hF, hu, h5,  K4, K5, hu8, q0, q1, hjn]; exact rfl); (refine Tp.given_is ?_; exact rfl))
        · intro A u hC hG hF hu hR; clear hG
          first | refine Tp.facts_is rfl (fun h34 => ?_) | refine Tp.facts_ty rfl (fun v34 h34 k34 => ?_)
          first | refine Tp.facts_is rfl (fun h35 => ?_) | refine Tp.facts_ty rfl (fun v35 h35 k35 => ?_)
          refine Tp.facts_nil ?_
          refine Tp.wants_plain rfl ?_
          refine Tp.aim_l ?_
          (apply Tp.gives_run; (simp [go_sem, hC, hF, hu, h34, h35,  K4, K5, hu8, q0, q1, hjn]; exact rfl); (refine Tp.given_is ?_; exact rfl))
        · intro A u hC hG hF hu hR; clear hG
          first | refine Tp.facts_is rfl (fun h36 => ?_) | refine Tp.facts_ty rfl (fun v36 h36 k36 => ?_)
          refine Tp.facts_nil ?_
          refine Tp.wants_plain rfl ?_
          refine Tp.aim_l ?_
          (apply Tp.gives_run; (simp [go_sem, hC, hF, hu, h36,  K4, K5, hu8, q0, q1, hjn]; exact rfl); (refine Tp.given_is ?_; exact rfl))
        · intro A u hC hG hF hu hR; clear hG
          first | refine Tp.facts_is rfl (fun h32 => ?_) | refine Tp.facts_ty rfl (fun v32 h32 k32 => ?_)
          first | refine Tp.facts_is rfl (fun h37 => ?_) | refine Tp.facts_ty rfl (fun v37 h37 k37 => ?_)
          refine Tp.facts_nil ?_
          refine Tp.wants_plain rfl ?_
          refine Tp.append_str_own (.tmp 32) (.tmp 37) 34 9 5 rfl i5 Tryd.underlying34 Tryd.underlying9 hi5 hz0 hz1 hz2 h32 h37 k32 (by rw [List.length_append]; simp; omega) (by rw [List.length_append]; simp; omega) (by have := hu.size; omega) hu.size (by decide) ?_; exact rfl
        · exact ⟨.inr (by first | exact Tp.ost_is _ | exact Tp.ost_cell1 _ _ | exact Tp.ost_any), .inr (by first | exact Tp.ost_is _ | exact Tp.ost_cell1 _ _ | exact Tp.ost_any), .inr (by first | exact Tp.ost_is _ | exact Tp.ost_cell1 _ _ | exact Tp.ost_any), .inr (by first | exact Tp.ost_is _ | exact Tp.ost_cell1 _ _ | exact Tp.ost_any), .inr (by first | exact Tp.ost_is _ | exact Tp.ost_cell1 _ _ | exact Tp.ost_any), .inr (by first | exact Tp.ost_is _ | exact Tp.ost_cell1 _ _ | exact Tp.ost_any), .inr (by first | exact Tp.ost_is _ | exact Tp.ost_cell1 _ _ | exact Tp.ost_any), .inr (by first | exact Tp.ost_is _ | exact Tp.ost_cell1 _ _ | exact Tp.ost_any), .inr (by first | exact Tp.ost_is _ | exact Tp.ost_cell1 _ _ | exact Tp.ost_any), .inl (by decide), .inr (by first | exact Tp.ost_is _ | exact Tp.ost_cell1 _ _ | exact Tp.ost_any), .inr (by first | exact Tp.ost_is _ | exact Tp.ost_cell1 _ _ | exact Tp.ost_any), .inr (by first | exact Tp.ost_is _ | exact Tp.ost_cell1 _ _ | exact Tp.ost_any), .inr (by first | exact Tp.ost_is _ | exact Tp.ost_cell1 _ _ | exact Tp.ost_any), .inr (by first | exact Tp.ost_is _ | exact Tp.ost_cell1 _ _ | exact Tp.ost_any), .inl (by decide), trivial⟩
        intro wq1 bq1
        first | refine Tp.fin_is rfl rfl rfl ?_ | refine Tp.fin_ty rfl rfl rfl (fun y23 q23 => ?_)
        first | refine Tp.fin_is rfl rfl rfl ?_ | refine Tp.fin_ty rfl rfl rfl (fun y24 q24 => ?_)
        first | refine Tp.fin_is rfl rfl rfl ?_ | refine Tp.fin_ty rfl rfl rfl (fun y25 q25 => ?_)
        first | refine Tp.fin_is rfl rfl rfl ?_ | refine Tp.fin_ty rfl rfl rfl (fun y26 q26 => ?_)
        first | refine Tp.fin_is rfl rfl rfl ?_ | refine Tp.fin_ty rfl rfl rfl (fun y27 q27 => ?_)
        first | refine Tp.fin_is rfl rfl rfl ?_ | refine Tp.fin_ty rfl rfl rfl (fun y28 q28 => ?_)
        first | refine Tp.fin_is rfl rfl rfl ?_ | refine Tp.fin_ty rfl rfl rfl (fun y29 q29 => ?_)
        first | refine Tp.fin_is rfl rfl rfl ?_ | refine Tp.fin_ty rfl rfl rfl (fun y30 q30 => ?_)
        first | refine Tp.fin_is rfl rfl rfl ?_ | refine Tp.fin_ty rfl rfl rfl (fun y31 q31 => ?_)
        refine Tp.fin_used rfl rfl (fun y32 => ?_)
        first | refine Tp.fin_is rfl rfl rfl ?_ | refine Tp.fin_ty rfl rfl rfl (fun y33 q33 => ?_)
        first | refine Tp.fin_is rfl rfl rfl ?_ | refine Tp.fin_ty rfl rfl rfl (fun y34 q34 => ?_)
        first | refine Tp.fin_is rfl rfl rfl ?_ | refine Tp.fin_ty rfl rfl rfl (fun y35 q35 => ?_)
        first | refine Tp.fin_is rfl rfl rfl ?_ | refine Tp.fin_ty rfl rfl rfl (fun y36 q36 => ?_)
        first | refine Tp.fin_is rfl rfl rfl ?_ | refine Tp.fin_ty rfl rfl rfl (fun y37 q37 => ?_)
        first | refine Tp.fin_is rfl rfl rfl ?_ | refine Tp.fin_ty rfl rfl rfl (fun y38 q38 => ?_)
        refine Tp.fin_nil ?_
        simp only [Act.put, List.setIfInBounds_toArray, List.set_cons_succ, List.set_cons_zero, List.drop_succ_cons, List.drop_zero, List.drop_nil]
        go_wp2
        go_roundw
        case rel =>
          refine ⟨j + 1, by omega, by simp, ?_, ?_⟩
          · have e3 : ([(n : Int) % 256] ++ Rt.pathB (x.path.take (j + 1))).map (Value.int .u8) = xs ++ [Value.int .u8 ((s.size : Int) % 256)] ++ (bytesI s).map (Value.int .u8) := by
              rw [HST.out, ← HXS.out]; simp
            rw [e3]
            exact ⟨_, q38.1⟩
          · exact hbw.grown bq1 HB (fun g hg => (HLT.out g hg).1)
        case measure => simp [Go.RowKit.intOf]; omega
      · have : j = n := by omega
        subst this
        rw [List.take_of_length_le (by rw [HLEN.out]; exact Nat.le_refl _)] at HXS
        have g0 := r3.cell 0 HC.out.c0
        have hvb : ∀ g, u4.ownBlock = some g → w2.heap.size ≤ g := fun g hg => (HLT.out g hg).1
        have hrow : ∀ u, wr.grownBy u u4.ownBlock → Rt.Row u w.heap.size 33 cs := fun u hu =>
          (hu.block w.heap.size hl4 (fun e => by have := hvb _ e.symm; omega)).trans r3
        have K0 := fun u hu => (hrow u hu).cell 0 HC.out.c0
        have K1 := fun u hu => (hrow u hu).cell 1 HC.out.c1
        have K2 := fun u hu => (hrow u hu).cell 2 HC.out.c2
        have K3 := fun u hu => (hrow u hu).cell 3 HC.out.c3
        have K5 := fun u hu => (hrow u hu).cell 5 HC.out.c5
        have hc0 := HI.out.c0
        have hc1 := HI.out.c1
        have e2 : IntKind.u64.wrap x.co = x.co := by rw [IntKind.wrap_u64]; omega
        have HROW := Lib.hid hrow
        clear hrow g0
        go_wp2
        refine Tp.region_o [4, 7] [(4, 7)] u4.ownBlock ((OwG 5 w2.heap.size wr.heap.size u4 xs).p u4) (fun u u' h k => (OwG 5 w2.heap.size wr.heap.size u4 xs).st u4 u u' h k) ⟨HO.out, .inl rfl⟩ (by kernel_rfl) 8 56 [[(4, none)], [(1, none)], [(40, some 1)], [(41, some 2)], [(39, some 0), (42, some 3)], [(1, none)], [(44, some 5)], [(43, some 4), (45, some 6)]] (by kernel_rfl) (by kernel_rfl) rfl ?_
        apply Exists.intro [_, _, _, _, _, _, _, _]
        refine ⟨⟨?_, ?_, ?_, ?_, ?_, ?_, ?_, ?_, trivial⟩, ?_, ?_⟩
        · intro A u hC hG hF hu hR; clear hG
          refine Tp.facts_old (fun h4 => ?_) rfl; conv at h4 => rhs; whnf
          refine Tp.facts_nil ?_
          refine Tp.wants_plain rfl ?_
          refine Tp.aim_l ?_
          (apply Tp.gives_run; (simp [go_sem, hC, hF, hu, h4,  K0, K1, K2, K3, K5, e2]; exact rfl); (refine Tp.given_is ?_; exact rfl))
        · intro A u hC hG hF hu hR; clear hG
          refine Tp.facts_old (fun h1 => ?_) rfl; conv at h1 => rhs; whnf
          refine Tp.facts_nil ?_
          refine Tp.wants_plain rfl ?_
          refine Tp.aim_l ?_
          (apply Tp.gives_run; (simp [go_sem, hC, hF, hu, h1,  K0, K1, K2, K3, K5, e2]; exact rfl); (refine Tp.given_is ?_; exact rfl))
        · intro A u hC hG hF hu hR; clear hG
          first | refine Tp.facts_is rfl (fun h40 => ?_) | refine Tp.facts_ty rfl (fun v40 h40 k40 => ?_)
          refine Tp.facts_nil ?_
          refine Tp.wants_plain rfl ?_
          refine Tp.aim_l ?_
          (apply Tp.gives_run; (simp [go_sem, hC, hF, hu, h40,  K0, K1, K2, K3, K5, e2]; exact rfl); (refine Tp.given_is ?_; exact rfl))
        · intro A u hC hG hF hu hR; clear hG
          first | refine Tp.facts_is rfl (fun h41 => ?_) | refine Tp.facts_ty rfl (fun v41 h41 k41 => ?_)
          refine Tp.facts_nil ?_
          refine Tp.wants_plain rfl ?_
          refine Tp.aim_l ?_
          (apply Tp.gives_run; (simp [go_sem, hC, hF, hu, h41,  K0, K1, K2, K3, K5, e2]; exact rfl); (refine Tp.given_is ?_; exact rfl))
        · intro A u hC hG hF hu hR; clear hG
          first | refine Tp.facts_is rfl (fun h39 => ?_) | refine Tp.facts_ty rfl (fun v39 h39 k39 => ?_)
          first | refine Tp.facts_is rfl (fun h42 => ?_) | refine Tp.facts_ty rfl (fun v42 h42 k42 => ?_)
          refine Tp.facts_nil ?_
          refine Tp.wants_plain rfl ?_
          (apply Tp.gives_run; (simp [go_sem, hC, hF, hu, h39, h42,  K0, K1, K2, K3, K5, e2]; exact rfl); (refine Tp.given_own ?_ (by decide) (Tp.own_step1 (n1 u w2.heap.size u4 _ (hR (by kernel_rfl)).1 (by omega) hm1 (by have := hu.size; omega)) (hR (by kernel_rfl)) hu.size); exact rfl))
        · intro A u hC hG hF hu hR; clear hG
          refine Tp.facts_old (fun h1 => ?_) rfl; conv at h1 => rhs; whnf
          refine Tp.facts_nil ?_
          refine Tp.wants_plain rfl ?_
          refine Tp.aim_l ?_
          (apply Tp.gives_run; (simp [go_sem, hC, hF, hu, h1,  K0, K1, K2, K3, K5, e2]; exact rfl); (refine Tp.given_is ?_; exact rfl))
        · intro A u hC hG hF hu hR; clear hG
          first | refine Tp.facts_is rfl (fun h44 => ?_) | refine Tp.facts_ty rfl (fun v44 h44 k44 => ?_)
          refine Tp.facts_nil ?_
          refine Tp.wants_plain rfl ?_
          refine Tp.aim_l ?_
          (apply Tp.gives_run; (simp [go_sem, hC, hF, hu, h44,  K0, K1, K2, K3, K5, e2]; exact rfl); (refine Tp.given_is ?_; exact rfl))
        · intro A u hC hG hF hu hR; clear hG
          first | refine Tp.facts_is rfl (fun h43 => ?_) | refine Tp.facts_ty rfl (fun v43 h43 k43 => ?_)
          first | refine Tp.facts_is rfl (fun h45 => ?_) | refine Tp.facts_ty rfl (fun v45 h45 k45 => ?_)
          refine Tp.facts_nil ?_
          refine Tp.wants_plain rfl ?_
          (apply Tp.gives_run; (simp [go_sem, hC, hF, hu, h43, h45,  K0, K1, K2, K3, K5, e2]; exact rfl); (refine Tp.given_own ?_ (by decide) (Tp.own_step (np u w2.heap.size v43 _ k43.1 (by simp only [List.length_append, List.length_map, Rt.be_length]; omega) (by simp only [List.length_append, List.length_map, Rt.be_length]; omega) (by have := hu.size; omega)) k43 (by simp only [List.length_append, List.length_map, Rt.be_length]; omega) hu.size); exact rfl))
        · exact ⟨.inr (by first | exact Tp.ost_is _ | exact Tp.ost_cell1 _ _ | exact Tp.ost_any), .inr (by first | exact Tp.ost_is _ | exact Tp.ost_cell1 _ _ | exact Tp.ost_any), .inr (by first | exact Tp.ost_is _ | exact Tp.ost_cell1 _ _ | exact Tp.ost_any), .inr (by first | exact Tp.ost_is _ | exact Tp.ost_cell1 _ _ | exact Tp.ost_any), .inl (by decide), .inr (by first | exact Tp.ost_is _ | exact Tp.ost_cell1 _ _ | exact Tp.ost_any), .inr (by first | exact Tp.ost_is _ | exact Tp.ost_cell1 _ _ | exact Tp.ost_any), .inl (by decide), trivial⟩
        intro wq2 bq2
        first | refine Tp.fin_is rfl rfl rfl ?_ | refine Tp.fin_ty rfl rfl rfl (fun y39 q39 => ?_)
        first | refine Tp.fin_is rfl rfl rfl ?_ | refine Tp.fin_ty rfl rfl rfl (fun y40 q40 => ?_)
        first | refine Tp.fin_is rfl rfl rfl ?_ | refine Tp.fin_ty rfl rfl rfl (fun y41 q41 => ?_)
        first | refine Tp.fin_is rfl rfl rfl ?_ | refine Tp.fin_ty rfl rfl rfl (fun y42 q42 => ?_)
        refine Tp.fin_used rfl rfl (fun y43 => ?_)
        first | refine Tp.fin_is rfl rfl rfl ?_ | refine Tp.fin_ty rfl rfl rfl (fun y44 q44 => ?_)
        first | refine Tp.fin_is rfl rfl rfl ?_ | refine Tp.fin_ty rfl rfl rfl (fun y45 q45 => ?_)
        first | refine Tp.fin_is rfl rfl rfl ?_ | refine Tp.fin_ty rfl rfl rfl (fun y46 q46 => ?_)
        refine Tp.fin_nil ?_
        simp only [Act.put, List.setIfInBounds_toArray, List.set_cons_succ, List.set_cons_zero, List.drop_succ_cons, List.drop_zero, List.drop_nil]
        have GA : Gr wr wq2 u4 y46 := ⟨bq2, q46.2⟩
        have hB6 : Below w2.heap.size w2 wq2 := hbw.grown bq2 HB (fun g hg => (HLT.out g hg).1)
        have r6 := r2.keep hB6
        have hW6 := Lib.hid (r6.cert hcs HC.out.cc)
        have hT6 := Utf8Tabs_below hT2 hB6
        have O46 := q46.1
        have hl46 : (xs ++ (Rt.be x.co 4).map (Value.int .u8) ++ (Rt.pfxB x.v x.hi x.lo x.len).map (Value.int .u8)).length = xs.length + 22 := by simp only [List.length_append, List.length_map, Rt.be_length, hpx2]
        rw [hl46] at O46
        have HO6 := Lib.hid O46
        have hlt6 := Lib.hid O46.lt
        clear O46 q46 GA hl46
        have hb6 := hB6.size
        go_wp2_with (first
          | (guard_target =~ wpList _ _ _ (_ :: _) _ _; refine Rt.load_at 31 rfl ⟨w.heap.size, 6, none⟩ rfl (by kernel_rfl) hW6.out ?_)
          | (go_at_call 49; go_fit (hm _ hT6); rintro e w7 ⟨hb7, v7, rfl, o7⟩; have hb77 := hb7.size; obtain ⟨a7, n7, c7, rfl, s7⟩ := Tp.ow_bs o7; have hn7 := s7.len; rw [List.length_map] at hn7; have HS7 := Lib.hid s7; have HO7 := Lib.hid ((Tp.OwG 5 w2.heap.size 0 y46 (xs ++ (Rt.be x.co 4).map (Value.int .u8) ++ (Rt.pfxB x.v x.hi x.lo x.len).map (Value.int .u8))).st y46 _ _ ⟨by have h := HO6.out; simpa only [List.length_append, List.length_map, Rt.be_length, hpx2, Nat.add_assoc] using h, .inl rfl⟩ hb7); clear s7 o7)
          | (at_builtin; refine wpList_append_sl rfl (.tmp 53) (.tmp 54) 34 rfl w2.heap.size 5 i5 _ 1 Tryd.underlying34 hi5 hz0 hz1 hz2 rfl _ _ _ rfl HO7.out.1 _ _ _ _ rfl HS7.out (Rt.u8_one x.cert.bytes) (by simp only [List.length_append, List.length_map, Rt.be_length, hpx2, maxLen]; omega) (by simp only [List.length_append, List.length_map, Rt.be_length, hpx2]; omega) (by omega) ?_; intro v8 w8 own8 hg8 hat8))
        go_ret2
        have b2 := hb1.trans (hb2.mono hb1.size)
        have b3 := b2.trans (hB6.mono b2.size)
        have b4 := b3.trans (hb7.mono b3.size)
        refine ⟨b4.grown hg8 b4.size (fun g hg => ?_), v8, rfl, ?_⟩
        · have := (hlt6.out g hg).1
          have := b2.size
          omega
        · have e3 : xs ++ (Rt.be x.co 4).map (Value.int .u8) ++ (Rt.pfxB x.v x.hi x.lo x.len).map (Value.int .u8) ++ x.cert.bytes.map (Value.int .u8) = ([(x.path.length : Int) % 256] ++ Rt.pathB x.path ++ Rt.be x.co 4 ++ Rt.pfxB x.v x.hi x.lo x.len ++ x.cert.bytes).map (Value.int .u8) := by
            rw [← HXS.out, HLEN.out]; simp
          have o9 := Tp.own_mono own8 b2.size
          rw [e3, ← hZB.out] at o9
          exact ⟨_, o9⟩
end Go.Proofs
