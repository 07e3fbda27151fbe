/- Plain laws, part I: powers, numbers of accumulators. Conditions: none. -/
import Derived.Test.YtbhkcidnnmpfmaaPlH
set_option linter.all false
namespace Go.Prg
open Go.Eng

theorem pow_le {b : Int} (hb : 2 ≤ b) {i k : Nat} (h : i ≤ k) : 1 ≤ b ^ i ∧ b ^ i ≤ b ^ k := by
  obtain ⟨m, rfl⟩ : ∃ m : Nat, b = m := ⟨b.toNat, by omega⟩
  have h1 := Nat.pow_le_pow_right (n := m) (by omega) h
  have h2 := Nat.one_le_pow i m (by omega)
  have e : ∀ j : Nat, ((m ^ j : Nat) : Int) = (m : Int) ^ j := fun j => by simp
  rw [← e, ← e]
  omega

/-- how many numbers registers of n digits have; 0: too many -/
def powC (b : Int) (n : Nat) : Int := if b ^ n - 1 ≤ 1000000000000 then b ^ n else 0

theorem i_power (b : Int) (n : Nat) (hb : 2 ≤ b) (hb' : b ≤ 16) (hn : n ≤ 1000) : F_i_power (b, (n : Int)) = some (powC b n) := by
  unfold F_i_power
  have key : ∀ (f : Int × Int × Int × Int → Option ((Int × Int × Int × Int) ⊕ Int)), (∀ s1, f s1 = (cond (ilt s1.2.2.2 s1.2.2.1)
      (cond (igt (isub .i64 (imul .i64 s1.2.1 s1.1) 1) 1000000000000)
        (some (.inr 0))
        (some (.inl (s1.1, ((imul .i64 s1.2.1 s1.1), (s1.2.2.1, (iadd .i64 s1.2.2.2 1)))))))
      (some (.inr s1.2.1)))) → ∀ j, j ≤ n → b ^ (n - j) - 1 ≤ 1000000000000 → iter f (b, b ^ (n - j), (n : Int), ((n - j : Nat) : Int)) = some (powC b n) := by
    intro f hf j
    induction j with
    | zero =>
      intro _ hv
      refine iter_end ?_
      rw [hf]
      simp (disch := omega) only [ilt_e, cond_neg]
      simp only [Nat.sub_zero] at hv ⊢
      unfold powC
      rw [if_pos hv]
    | succ j ih =>
      intro hj hv
      have h0 := pow_le hb (i := n - (j + 1)) (k := n - j) (by omega)
      have h1 := pow_le hb (i := n - j) (k := n) (by omega)
      have hm := mul16 hb hb' (v := b ^ (n - (j + 1))) (by omega) (by omega)
      have e2 : b ^ (n - (j + 1)) * b = b ^ (n - j) := by rw [← Int.pow_succ]; congr 1; omega
      have e3 : b * b ^ (n - (j + 1)) = b ^ (n - j) := by rw [Int.mul_comm]; exact e2
      rw [e3] at hm
      by_cases hc : 1000000000000 < b ^ (n - j) - 1
      · refine iter_end ?_
        rw [hf]
        simp (disch := omega) only [ilt_e, cond_pos, imul_e, e2, w64, isub_e, igt_e]
        unfold powC
        rw [if_neg (by omega)]
      · refine iter_eq (s' := (b, b ^ (n - j), (n : Int), ((n - j : Nat) : Int))) ?_ (ih (by omega) (by omega))
        rw [hf]
        simp (disch := omega) only [ilt_e, cond_pos, imul_e, e2, w64, isub_e, igt_e, cond_neg, iadd_e]
        rw [show ((n - (j + 1) : Nat) : Int) + 1 = ((n - j : Nat) : Int) from by omega]
  have := key _ (fun _ => rfl) n (Nat.le_refl _) (by simp)
  simpa using this

/-- at most one more than the numbers of registers -/
def cap2 (v : Int) : Int := if v ≤ 1000000000002 then v else 1000000000002

theorem cap2_step {b v : Int} (hb : 2 ≤ b) (hv : 0 ≤ v) : (if (1000000000002 : Int) < cap2 v * b then 1000000000002 else cap2 v * b) = cap2 (v * b) := by
  have h3 : v * 2 ≤ v * b := Int.mul_le_mul_of_nonneg_left hb hv
  unfold cap2
  by_cases h : v ≤ 1000000000002
  · simp only [if_pos h]
    by_cases h2 : v * b ≤ 1000000000002
    · rw [if_neg (by omega), if_pos h2]
    · rw [if_pos (by omega), if_neg h2]
  · simp only [if_neg h]
    rw [if_pos (by omega), if_neg (by omega)]

theorem s_power (b : Int) (n : Nat) (hb : 2 ≤ b) (hb' : b ≤ 16) (hn : n ≤ 1000) : F_s_l10Power (b, (n : Int)) = some (cap2 (b ^ n)) := by
  unfold F_s_l10Power
  refine iter_run (fun i => (b, (n : Int) - i, cap2 (b ^ i))) n (by simp [cap2]) (fun i hi => ?_) ?_
  · have h0 := pow_le hb (i := i) (k := i) (by omega)
    have hc : 0 ≤ cap2 (b ^ i) ∧ cap2 (b ^ i) ≤ 1000000000002 := by unfold cap2; split <;> omega
    have hm := mul16 hb hb' hc.1 hc.2
    rw [Int.mul_comm] at hm
    have hs := cap2_step hb (v := b ^ i) (by omega)
    simp (disch := omega) only [igt_e, cond_pos, imul_e, isub_e, w64, min_e, bind_s, hs]
    rw [Int.pow_succ, show (n : Int) - i - 1 = (n : Int) - ((i + 1 : Nat) : Int) from by omega]
  · simp (disch := omega) only [igt_e, cond_neg]

/-- the number that a register shows -/
def numR (r : Int × List Int) : Int × Int :=
  cond (validR r && decide (r.1 ^ r.2.length - 1 ≤ 1000000000000)) (if valL r.1 r.2 ≤ r.1 ^ r.2.length - 1 - r.1 ^ r.2.length / 2 then valL r.1 r.2 else valL r.1 r.2 - r.1 ^ r.2.length, 0) (0, 1)

theorem i_size (b : Int) (l : List Int) (hl : (l.length : Int) ≤ 9223372036854775807) : F_i_Register_size (b, l) = some (cond (validR (b, l)) (powC b l.length) 0) := by
  unfold F_i_Register_size
  rw [i_validR (b, l) hl]
  simp only [bind_s]
  cases hv : validR (b, l) with
  | false => rfl
  | true =>
    obtain ⟨h1, h2, _, _⟩ := validR_all hv
    simp only at h1 h2
    simp (disch := omega) only [bnot_t, cond_f, F_i_Register_width, bind_s, n2i_e, xlen_e, F_i_numbersOf, F_i_isBase, F_i_isRegisterWidth, between_e, bnot_d, cond_neg, i_power, cond_t]

theorem i_numberOf (r : Int × List Int) (hl : (r.2.length : Int) ≤ 9223372036854775807) : F_i_NumberOf r = some (numR r) := by
  obtain ⟨b, l⟩ := r
  simp only at hl
  unfold F_i_NumberOf F_i_Register_number
  simp only [i_size b l hl, bind_s, numR, ieq_e]
  cases hv : validR (b, l) with
  | false => simp
  | true =>
    obtain ⟨h1, h2, h3, h4⟩ := validR_all hv
    simp only at h1 h2 h3 h4
    have hp := pow_le h1.1 (i := l.length) (k := l.length) (Nat.le_refl _)
    have hval := i_value b l h1.1 h1.2 h3 (by omega)
    have h0 := valL_nonneg (b := b) (by omega) h3
    have hcap : cap (valL b l) = valL b l := by unfold cap; rw [if_pos h4]
    simp only [cond_t, Bool.true_and, hval, bind_s, hcap]
    by_cases hq : b ^ l.length - 1 ≤ 1000000000000
    · have hpc : powC b l.length = b ^ l.length := if_pos hq
      rw [hpc]
      have e : (b ^ l.length).tdiv 2 = b ^ l.length / 2 := Int.tdiv_eq_ediv_of_nonneg (by omega)
      simp (disch := omega) only [cond_neg, okDiv_e, chk_pos, isub_e, iquo_e, w64, ile_e, e, hq, decide_true, cond_t]
      by_cases hc : valL b l ≤ b ^ l.length - 1 - b ^ l.length / 2
      · rw [cond_pos hc, if_pos hc]; rfl
      · rw [cond_neg hc, if_neg hc]; rfl
    · have hpc : powC b l.length = 0 := if_neg hq
      simp [hpc, hq]

theorem s_numberOf (r : Int × List Int) (hl : (r.2.length : Int) ≤ 9223372036854775806) : F_s_NumberOf r = some (numR r) := by
  obtain ⟨b, l⟩ := r
  simp only at hl
  unfold F_s_NumberOf F_s_l09Ok F_s_l09Number F_s_l10Full
  rw [s_validR (b, l) hl]
  simp only [bind_s, numR]
  cases hv : validR (b, l) with
  | false => rfl
  | true =>
    obtain ⟨h1, h2, h3, h4⟩ := validR_all hv
    simp only at h1 h2 h3 h4
    have hp := pow_le h1.1 (i := l.length) (k := l.length) (Nat.le_refl _)
    have hval := s_value b l h1.1 h1.2 h3 (by omega)
    have h0 := valL_nonneg (b := b) (by omega) h3
    have hcap : cap (valL b l) = valL b l := by unfold cap; rw [if_pos h4]
    simp (disch := omega) only [cond_t, Bool.true_and, n2i_e, xlen_e, s_power, bind_s, ile_e, isub_e]
    by_cases hq : b ^ l.length - 1 ≤ 1000000000000
    · have hc2 : cap2 (b ^ l.length) = b ^ l.length := by unfold cap2; rw [if_pos (by omega)]
      have e : (b ^ l.length).tdiv 2 = b ^ l.length / 2 := Int.tdiv_eq_ediv_of_nonneg (by omega)
      simp (disch := omega) only [hc2, w64, hq, decide_true, bnot_t, cond_f, hval, hcap, bind_s, F_s_l09In, F_s_l09Low, s_power, okDiv_e, chk_pos, iquo_e, e, isub_e, l00In_e, bnot_d, cond_t]
      by_cases hc : valL b l ≤ b ^ l.length - 1 - b ^ l.length / 2
      · simp (disch := omega) only [cond_neg, bind_s, if_pos]
      · simp (disch := omega) only [cond_pos, bind_s, if_neg]
    · have hc2 : ¬ cap2 (b ^ l.length) - 1 ≤ 1000000000000 := by unfold cap2; split <;> omega
      have hc3 : -9223372036854775808 ≤ cap2 (b ^ l.length) - 1 ∧ cap2 (b ^ l.length) - 1 ≤ 9223372036854775807 := by unfold cap2; split <;> omega
      rw [w64 hc3.1 hc3.2]
      simp [hc2, hq]

theorem law_NumberOf (x : Int × List Int) (h : (x.2.length : Int) ≤ 9223372036854775807) : F_l_FnExactNumberOf x = some true := by
  unfold F_l_FnExactNumberOf F_l_szRegister
  simp (disch := omega) only [sz_Int64S, bind_s, ilt_e]
  by_cases hs : (1048576 : Int) - x.2.length < 0
  · simp [hs]
  · simp (disch := omega) only [if_neg, cond_neg, bind_s, ilt_e, to_Register, s_numberOf, i_numberOf, eq_Register, decide_true, bnot_t, cond_f, ine_e, not_true_eq_false, decide_false]

theorem FnExactNumberOf_true (x : Int × List Int) (h : wfArgs [.val true (.pair (.int .i64) (.row false 2 (.int .i64)))] x) : ∃ y, F_l_FnExactNumberOf x = some y ∧ hhead .bool [] y = true :=
  ⟨true, law_NumberOf x (maxLen_le (n := x.2.length) h.1.2.1), rfl⟩

end Go.Prg
