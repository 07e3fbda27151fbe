/- Plain laws, part Ze: drawn registers and their signals. Conditions: none. -/
import Derived.Test.YtbhkcidnnmpfmaaPlZd
import Derived.Test.YtbhkcidnnmpfmaaPlX
set_option linter.all false
namespace Go.Prg
open Go.Eng

theorem jn_assoc (a b c : Sig) : jn (jn a b) c = jn a (jn b c) := by
  obtain ⟨a1, a2⟩ := a
  obtain ⟨b1, b2⟩ := b
  obtain ⟨c1, c2⟩ := c
  unfold jn
  cases a1 <;> cases a2 <;> cases b1 <;> cases b2 <;> cases c1 <;> cases c2 <;> rfl

theorem joinS_two (S : List Sig) (a k : Nat) : ∀ m, joinS S a (k + m + 1) = jn (joinS S a k) (joinS S (a + k + 1) m)
  | 0 => by simp only [joinS, Nat.add_zero]
  | m + 1 => by
    have ih := joinS_two S a k m
    show jn (joinS S a (k + m + 1)) (S.getD (a + (k + m + 1) + 1) s0) = jn (joinS S a k) (jn (joinS S (a + k + 1) m) (S.getD (a + k + 1 + m + 1) s0))
    rw [← jn_assoc, ← ih, show a + (k + m + 1) + 1 = a + k + 1 + m + 1 by omega]

theorem allG_get (S : List Sig) {z g : Nat} (hz : 1 ≤ z) (hg : g < (allG S z).length) : z * g < S.length ∧ (allG S z).getD g s0 = joinS S (z * g) (min z (S.length - z * g) - 1) := by
  have hdm := Nat.div_add_mod S.length z
  have hlt := Nat.mod_lt S.length (show z > 0 by omega)
  have hl := fullG_len S z (S.length / z)
  rw [allG_len] at hg
  by_cases h : g < S.length / z
  · have h1 := Nat.mul_le_mul_left z (show g + 1 ≤ S.length / z by omega)
    rw [Nat.mul_succ] at h1
    have hG : (allG S z).getD g s0 = joinS S (z * g) (z - 1) := by
      unfold allG
      rw [List.getD_eq_getElem?_getD, List.getElem?_append_left (by omega)]
      simp [fullG, h]
    rw [hG, Nat.min_eq_left (by omega)]
    exact ⟨by omega, rfl⟩
  · have hr : ¬ S.length % z = 0 := fun e => by rw [if_pos e] at hg; omega
    rw [if_neg hr] at hg
    have hge : g = S.length / z := by omega
    have hG : (allG S z).getD g s0 = joinS S (z * g) (S.length % z - 1) := by
      unfold allG
      rw [if_neg hr, hge, mid_get hl]
      rfl
    subst hge
    rw [hG, Nat.min_eq_right (by omega)]
    refine ⟨by omega, ?_⟩
    congr 1
    omega

theorem join_all (S : List Sig) {z : Nat} (hz : 1 ≤ z) : ∀ g, g < (allG S z).length → joinS (allG S z) 0 g = joinS S 0 (min (z * (g + 1)) S.length - 1)
  | 0, hg => by
    obtain ⟨h1, h2⟩ := allG_get S hz hg
    simp only [joinS]
    rw [h2, Nat.mul_zero, Nat.sub_zero, Nat.zero_add, Nat.mul_one]
  | g + 1, hg => by
    have ih := join_all S hz g (by omega)
    obtain ⟨h1, h2⟩ := allG_get S hz hg
    obtain ⟨h3, _⟩ := allG_get S hz (show g < (allG S z).length by omega)
    have e1 : z * (g + 1 + 1) = z * (g + 1) + z := Nat.mul_succ z (g + 1)
    have e2 : z * (g + 1) = z * g + z := Nat.mul_succ z g
    simp only [joinS]
    rw [Nat.zero_add, ih, h2, Nat.min_eq_left (by omega)]
    have := joinS_two S 0 (z * (g + 1) - 1) (min z (S.length - z * (g + 1)) - 1)
    rw [show 0 + (z * (g + 1) - 1) + 1 = z * (g + 1) by omega] at this
    rw [← this]
    congr 1
    omega

/-- the prefixes' signals -/
def preL (S : List Sig) (n : Nat) : List Sig := (List.range n).map fun k => joinS S 0 k
theorem preL_len (S : List Sig) (n : Nat) : (preL S n).length = n := by simp [preL]
theorem preL_succ (S : List Sig) (n : Nat) : preL S (n + 1) = preL S n ++ [joinS S 0 n] := by
  simp only [preL]; rw [List.range_succ, List.map_append]; rfl
theorem preL_get (S : List Sig) {n k : Nat} (h : k < n) : (preL S n).getD k s0 = joinS S 0 k := by
  simp [preL, List.getD_eq_getElem?_getD, h]

theorem i_areSignals (S : List Sig) (h : 1 ≤ S.length ∧ S.length ≤ 16) : F_i_areSignals S = some true := by
  unfold F_i_areSignals
  have e2 : decide (1 ≤ (S.length : Int) ∧ (S.length : Int) ≤ 16) = true := by rw [decide_eq_true_eq]; omega
  simp only [n2i_e, xlen_e, isWidth_e, e2, bind_s]

theorem i_prefix (S : List Sig) (h : 1 ≤ S.length ∧ S.length ≤ 16) : F_i_PrefixSignals S = some (preL S S.length, 0) := by
  unfold F_i_PrefixSignals
  simp (disch := omega) only [i_areSignals S h, bind_s, bnot_t, cond_f, okIx_e, xlen_e, chk_pos]
  refine iter_run (fun k => (((k + 1 : Nat) : Int), S, preL S (k + 1))) (S.length - 1) (by simp [preL, joinS, i2n, xget]) (fun k hk => ?_) ?_
  · have l1 := preL_len S (k + 1)
    have e1 : i2n (((k + 1 : Nat) : Int) - 1) = k := by unfold i2n; omega
    have g1 := preL_get S (show k < k + 1 by omega)
    simp (disch := omega) only [ilt_e, n2i_e, xlen_e, cond_pos, isub_e, iadd_e, w64, okIx_e, l1, chk_pos, e1, xget_e, i2n_e, g1, i_join, bind_s, okRoom_e, List.length_cons, List.length_nil, xapp_e]
    rw [preL_succ S (k + 1)]
    simp only [joinS, Nat.zero_add]
    rfl
  · simp (disch := omega) only [ilt_e, n2i_e, xlen_e, cond_neg]
    rw [show S.length - 1 + 1 = S.length by omega]

theorem foldl_push (l : List Int) : ∀ a : ByteArray, (l.foldl (fun r n => r.push (UInt8.ofNat n.toNat)) a).size = a.size + l.length := by
  induction l with
  | nil => intro a; rfl
  | cons x l ih =>
    intro a
    rw [List.foldl_cons, ih, ByteArray.size_push, List.length_cons]
    omega
theorem slen_b2s (l : List Int) : slen (b2s l) = l.length := by
  show (l.foldl (fun r n => r.push (UInt8.ofNat n.toNat)) ByteArray.empty).size = _
  rw [foldl_push]
  show 0 + l.length = l.length
  omega

theorem i_text (S : List Sig) (h : S.length ≤ 16) : ∃ t, F_i_SignalText S = some t ∧ slen t = S.length := by
  unfold F_i_SignalText
  refine iter_ex (f := _) (fun i (t : Int × Int × List Int × List Sig) => ∃ l : List Int, t = ((S.length : Int), (i : Int), l, S) ∧ l.length = i) (fun t => slen t = S.length) S.length
    (fun i t hi ⟨l, ht, hl⟩ => ?_) (fun t ⟨l, ht, hl⟩ => ?_) S.length 0 _ (by omega) ⟨[], rfl, rfl⟩
  · subst ht
    left
    simp (disch := omega) only [ilt_e, cond_pos, okIx_e, xlen_e, chk_pos, okRoom_e, hl, List.length_cons, List.length_nil, iadd_e, w64, xapp_e]
    cases (xget S (i2n (i : Int)) (false, false)).1 with
    | true => exact ⟨_, rfl, l ++ [109], by simp, by simp [hl]⟩
    | false =>
      cases (xget S (i2n (i : Int)) (false, false)).2 with
      | true => exact ⟨_, rfl, l ++ [112], by simp, by simp [hl]⟩
      | false => exact ⟨_, rfl, l ++ [45], by simp, by simp [hl]⟩
  · subst ht
    simp (disch := omega) only [ilt_e, cond_neg]
    exact ⟨_, rfl, by rw [slen_b2s, hl]⟩

theorem i_carryThrough (s : Sig) : F_i_CarryThrough (s, 0) = some (thr1 s 0, 0) := by
  unfold F_i_CarryThrough
  simp only [between_e, bind_s, i_through]
  rfl

theorem i_groupSignals (S : List Sig) (z : Nat) (hz : 1 ≤ z ∧ z ≤ 16) (h : 1 ≤ S.length ∧ S.length ≤ 16) : F_i_GroupSignals (S, (z : Int)) = some (allG S z, 0) := by
  unfold F_i_GroupSignals
  have e2 : decide (1 ≤ (z : Int) ∧ (z : Int) ≤ 16) = true := by rw [decide_eq_true_eq]; omega
  simp only [i_areSignals S h, isWidth_e, e2, bind_s, bnot_t, cond_f, i_groups S z hz h.2]

/-- how deep the carries are -/
def dep (n k : Int) : Int := 2 * imin n k + (n + k - 1).tdiv k - 1

theorem i_depth (n k : Int) (hn : 1 ≤ n ∧ n ≤ 16) (hk : 1 ≤ k ∧ k ≤ 16) : F_i_depth (n, k) = some (dep n k) := by
  unfold F_i_depth dep
  have h1 : 1 ≤ imin n k ∧ imin n k ≤ 16 := by unfold imin; split <;> omega
  have h2 : 0 ≤ (n + k - 1).tdiv k ∧ (n + k - 1).tdiv k ≤ 31 := by
    rw [Int.tdiv_eq_ediv_of_nonneg (by omega)]
    have a1 := Int.ediv_nonneg (a := n + k - 1) (b := k) (by omega) (by omega)
    have a2 := Int.ediv_le_self k (show 0 ≤ n + k - 1 by omega)
    omega
  simp (disch := omega) only [okDiv_e, chk_pos, iadd_e, isub_e, imul_e, iquo_e, w64]

theorem i_depthAhead (n k : Int) (hn : 1 ≤ n ∧ n ≤ 16) (hk : 1 ≤ k ∧ k ≤ 16) : F_i_DepthAhead (n, k) = some (dep n k, 0) := by
  unfold F_i_DepthAhead
  have e1 : decide (1 ≤ n ∧ n ≤ 16) = true := by rw [decide_eq_true_eq]; omega
  have e2 : decide (1 ≤ k ∧ k ≤ 16) = true := by rw [decide_eq_true_eq]; omega
  simp only [isWidth_e, e1, e2, bind_s, bnot_t, cond_f, i_depth n k hn hk]

/-- the best group up to size i + 1 -/
def bst (n : Int) : Nat → Int
  | 0 => 1
  | i + 1 => if dep n ((i : Int) + 2) < dep n (bst n i) then (i : Int) + 2 else bst n i

theorem bst_in (n : Int) : ∀ i, 1 ≤ bst n i ∧ bst n i ≤ (i : Int) + 1
  | 0 => by simp [bst]
  | i + 1 => by
    have ih := bst_in n i
    simp only [bst]
    split <;> omega

theorem bst_le (n : Int) : ∀ (i : Nat) (j : Int), 1 ≤ j → j ≤ (i : Int) + 1 → dep n (bst n i) ≤ dep n j
  | 0, j, h1, h2 => by
    rw [show j = 1 by omega]
    exact Int.le_refl _
  | i + 1, j, h1, h2 => by
    have ih := bst_le n i
    simp only [bst]
    by_cases hj : j ≤ (i : Int) + 1
    · have := ih j h1 hj
      split <;> omega
    · have hj' : j = (i : Int) + 2 := by omega
      subst hj'
      split <;> omega

theorem i_best (n : Int) (hn : 1 ≤ n ∧ n ≤ 16) : F_i_BestGroup n = some (bst n 15, (dep n (bst n 15), 0)) := by
  unfold F_i_BestGroup
  have e1 : decide (1 ≤ n ∧ n ≤ 16) = true := by rw [decide_eq_true_eq]; omega
  simp only [isWidth_e, e1, bind_s, bnot_t, cond_f]
  refine iter_run (fun i => (n, bst n i, (i : Int) + 2)) 15 rfl (fun i hi => ?_) ?_
  · have hb := bst_in n i
    have d1 := i_depth n ((i : Int) + 2) hn (by omega)
    have d2 := i_depth n (bst n i) hn (by omega)
    simp (disch := omega) only [ile_e, cond_pos, d1, d2, bind_s, ilt_e, iadd_e, w64]
    simp only [bst]
    by_cases h : dep n ((i : Int) + 2) < dep n (bst n i)
    · rw [cond_pos h, if_pos h, show ((i + 1 : Nat) : Int) + 2 = (i : Int) + 2 + 1 by omega]
    · rw [cond_neg h, if_neg h, show ((i + 1 : Nat) : Int) + 2 = (i : Int) + 2 + 1 by omega]
  · have hb := bst_in n 15
    have d2 := i_depth n (bst n 15) hn (by omega)
    simp (disch := omega) only [ile_e, cond_neg, d2, bind_s]
    rfl

theorem a2Same_e (l : List Int) (h : (l.length : Int) ≤ 1000) : F_l_a2Same (l, l) = some true := by
  unfold F_l_a2Same
  simp only [ine_e, n2i_e, xlen_e, not_true_eq_false, decide_false, cond_f]
  refine iter_run (fun i => ((i : Int), l, l)) l.length rfl (fun i hi => ?_) ?_
  · simp (disch := omega) only [ilt_e, cond_pos, okIx_e, xlen_e, chk_pos, not_true_eq_false, decide_false, cond_f, iadd_e, w64]
    rfl
  · simp (disch := omega) only [ilt_e, cond_neg]

theorem groups_len (S : List Sig) (z : Nat) (hz : 1 ≤ z ∧ z ≤ 7) (h : 1 ≤ S.length ∧ S.length ≤ 7) : ((allG S z).length : Int) = ((S.length : Int) + (z : Int) - 1).tdiv z ∧ 1 ≤ (allG S z).length ∧ (allG S z).length ≤ 7 := by
  have key : ∀ (n k : Fin 7), (((n.val + 1) / (k.val + 1) + (if (n.val + 1) % (k.val + 1) = 0 then 0 else 1) : Nat) : Int) = (((n.val + 1 : Nat) : Int) + ((k.val + 1 : Nat) : Int) - 1).tdiv ((k.val + 1 : Nat) : Int) ∧
      1 ≤ (n.val + 1) / (k.val + 1) + (if (n.val + 1) % (k.val + 1) = 0 then 0 else 1) ∧ (n.val + 1) / (k.val + 1) + (if (n.val + 1) % (k.val + 1) = 0 then 0 else 1) ≤ 7 := by decide
  have h1 := key ⟨S.length - 1, by omega⟩ ⟨z - 1, by omega⟩
  simp only [show S.length - 1 + 1 = S.length by omega, show z - 1 + 1 = z by omega] at h1
  rw [allG_len]
  exact h1

theorem law_FnAhead (x : List Int × List Int) (h1 : ∀ d ∈ x.1, 0 ≤ d ∧ d ≤ 255) (h2 : ∀ d ∈ x.2, 0 ≤ d ∧ d ≤ 255) : F_l_FnAhead x = some true := by
  obtain ⟨x, y⟩ := x
  simp only at h1 h2
  unfold F_l_FnAhead F_l_a2Long
  simp only [igt_e, n2i_e, xlen_e]
  by_cases hx : 3000 < (x.length : Int)
  · rw [cond_pos hx]; rfl
  rw [cond_neg hx]
  simp only [bind_s]
  by_cases hy : 3000 < (y.length : Int)
  · rw [cond_pos hy]
  rw [cond_neg hy]
  obtain ⟨w, d, e, e1, hw, hd, he, hd1, hd2⟩ := regs_ok x h1
  obtain ⟨q, e2, q1, q2⟩ := a2At_in y h2 (by omega) 0 7 (by omega)
  have e2' : F_l_a2At (y, (0, 7)) = some q := e2
  obtain ⟨z, hz⟩ : ∃ z : Nat, 1 + q = (z : Int) := ⟨(1 + q).toNat, by omega⟩
  have hq : iadd .i64 1 q = (z : Int) := by rw [iadd_e, w64 (by omega) (by omega)]; exact hz
  have hz2 : 1 ≤ z ∧ z ≤ 7 := by omega
  have hp := pairC_of hw hd he hd1 hd2
  have hS := sigL_len w d e d.length
  have hthr := thr_carr w d e (by omega) hd1 hd2 he
  have a1 := s_carriesOf (w, d) (w, e) (by simp only; omega) (by simp only; omega)
  have a2 := i_signalsOf (w, d) (w, e) (by simp only; omega) (by simp only; omega)
  have a3 := i_carriesA (w, d) (w, e) (z : Int) (by simp only; omega) (by simp only; omega)
  have hz3 : aheadC (w, d) (w, e) (z : Int) = 0 := by
    unfold aheadC
    rw [if_pos hp, if_pos (by omega)]
  unfold carriesR at a1
  unfold signalsR at a2
  unfold carriesA at a3
  rw [if_pos hp] at a1 a2
  rw [if_pos hz3] at a3
  simp only at a1 a2 a3
  generalize hSS : sigL w d e d.length = S at *
  obtain ⟨t, a4, a5⟩ := i_text S (by omega)
  have a6 := i_prefix S (by omega)
  rw [hS] at a5 a6
  have l1 := preL_len S d.length
  have lc := carrL_len w d e d.length
  simp only [e1, bind_s, a1, a2, ine_e, n2i_e, xlen_e, hS, a4, a5, a6, l1, not_true_eq_false, decide_false, cond_f]
  refine iter_run (fun i => ((d.length : Int), (i : Int), y, w, d, w, e, carrL w d e d.length, S, preL S d.length)) d.length rfl (fun i hi => ?_) ?_
  · have g1 := preL_get S hi
    have e5 : i2n ((i : Int) + 1) = i + 1 := by unfold i2n; omega
    have g2 := thr_join S 0 i
    simp only [Nat.zero_add] at g2
    have g2' : thr1 (joinS S 0 i) 0 = thr S (i + 1) := g2
    have g3 := carrL_at w d e (n := d.length) (j := i + 1) (by omega)
    simp (disch := omega) only [ilt_e, cond_pos, okIx_e, xlen_e, l1, lc, chk_pos, xget_e, i2n_e, g1, i_carryThrough, bind_s, iadd_e, w64, e5, g2', g3, hthr (i + 1) (by omega), not_true_eq_false, decide_false, cond_f]
    rfl
  · have b1 := i_groupSignals S z (by omega) (by omega)
    have b2 := i_depthAhead (d.length : Int) (z : Int) (by omega) (by omega)
    have b3 := i_best (d.length : Int) (by omega)
    have b4 := bst_in (d.length : Int) 15
    have b5 := bst_le (d.length : Int) 15 (z : Int) (by omega) (by omega)
    have b6 := i_depthAhead (d.length : Int) (bst (d.length : Int) 15) (by omega) (by omega)
    have b7 := a2Same_e (carrL w d e d.length) (by omega)
    obtain ⟨b8, b9, b10⟩ := groups_len S z hz2 (by omega)
    rw [hS] at b8
    have b11 : 0 ≤ ((d.length : Int) + (z : Int) - 1).tdiv z ∧ ((d.length : Int) + (z : Int) - 1).tdiv z ≤ 7 := by omega
    have hJ := join_all S hz2.1 ((allG S z).length - 1) (by omega)
    have hend := all_end S (z := z) hz2.1
    rw [show (allG S z).length - 1 + 1 = (allG S z).length by omega, hend, hS] at hJ
    simp (disch := omega) only [ilt_e, cond_neg, e2', bind_s, hq, a3, b1, b2, b3, b7, bnot_t, cond_f, okDiv_e, chk_pos, isub_e, iadd_e, iquo_e, w64, n2i_e, xlen_e, b8, not_true_eq_false, decide_false, igt_e, b6, okIx_e]
    refine Eq.trans (congrArg (Option.map Sum.inr) (iter_run (r := true) (fun i => ((d.length : Int), dep (d.length : Int) (bst (d.length : Int) 15), dep (d.length : Int) (bst (d.length : Int) 15), (0 : Int), ((i + 1 : Nat) : Int), S, allG S z, joinS S 0 i)) (d.length - 1) (by simp [joinS, i2n, xget]) (fun i hi => ?_) ?_)) rfl
    · simp (disch := omega) only [ilt_e, cond_pos, okIx_e, xlen_e, chk_pos, xget_e, i2n_e, s_join, bind_s, iadd_e, w64, joinS, Nat.zero_add]
      rfl
    · simp (disch := omega) only [ilt_e, cond_neg, okIx_e, xlen_e, chk_pos]
      refine Eq.trans (congrArg (Option.map Sum.inr) (iter_run (r := true) (fun i => (dep (d.length : Int) (bst (d.length : Int) 15), dep (d.length : Int) (bst (d.length : Int) 15), (0 : Int), ((i + 1 : Nat) : Int), allG S z, (joinS S 0 (d.length - 1)).1, (joinS S 0 (d.length - 1)).2, joinS (allG S z) 0 i)) ((allG S z).length - 1) (by simp [joinS, i2n, xget]) (fun i hi => ?_) ?_)) rfl
      · simp (disch := omega) only [ilt_e, n2i_e, cond_pos, okIx_e, xlen_e, chk_pos, xget_e, i2n_e, s_join, bind_s, iadd_e, w64, joinS, Nat.zero_add]
        rfl
      · simp (disch := omega) only [ilt_e, n2i_e, xlen_e, cond_neg]
        rw [hJ]
        simp only [ieq_e, decide_true, cond_t, beqv_s]
        rfl

theorem FnAhead_true (x : List Int × List Int) (h : wfArgs [.val false (.row false 5 (.int .u8)), .val false (.row false 5 (.int .u8))] x) : ∃ y, F_l_FnAhead x = some y ∧ hhead .bool [] y = true :=
  ⟨true, law_FnAhead x (wf_u8s (show wf (.row false 5 (.int .u8)) x.1 from h.1)) (wf_u8s (show wf (.row false 5 (.int .u8)) x.2 from h.2.1)), rfl⟩

end Go.Prg
