/- Plain laws, part C: engines of differences. Conditions: none. -/
import Derived.Test.YthbmjicbhmiofaaPlB
set_option linter.all false
namespace Go.Prg
open Go.Eng
set_option linter.unusedSimpArgs false

theorem between_e (a b c : Int) : F_i_between (a, b, c) = some (decide (b ≤ a ∧ a ≤ c)) := by
  unfold F_i_between
  simp only [ige_e, ile_e]
  by_cases h : b ≤ a
  · simp [h]
  · simp [h]

theorem l00In_e (a b c : Int) : F_s_l00In (a, b, c) = some (decide (b ≤ a ∧ a ≤ c)) := by
  unfold F_s_l00In
  simp only [ige_e, ile_e]
  by_cases h : b ≤ a
  · simp [h]
  · simp [h]

theorem pow10 {n : Nat} (h : n ≤ 12) : 1 ≤ (10 : Int) ^ n ∧ (10 : Int) ^ n ≤ 1000000000000 := by
  have h1 := Nat.pow_le_pow_right (n := 10) (by decide) h
  have h2 := Nat.one_le_pow n 10 (by decide)
  have e : ((10 ^ n : Nat) : Int) = (10 : Int) ^ n := by simp
  rw [← e]
  omega

theorem modulus_e (n : Nat) (h : n ≤ 12) : F_i_modulus (n : Int) = some (10 ^ n) := by
  unfold F_i_modulus
  refine iter_run (fun i => ((10 : Int) ^ i, (n : Int), (i : Int))) n (by simp) (fun i hi => ?_) ?_
  · have := pow10 (n := i) (by omega)
    simp (disch := omega) only [ilt_e, cond_pos, imul_e, iadd_e, w64, Int.pow_succ]
    rfl
  · simp (disch := omega) only [ilt_e, cond_neg]

theorem min_e (a b : Int) : F_s_l00Min (a, b) = some (if a < b then a else b) := by
  unfold F_s_l00Min
  simp only [ilt_e]
  by_cases h : a < b <;> simp [h]

theorem power10_e (n : Nat) (h : n ≤ 12) : F_s_l10Power (10, (n : Int)) = some (10 ^ n) := by
  unfold F_s_l10Power
  refine iter_run (fun i => (10, (n : Int) - i, (10 : Int) ^ i)) n (by simp) (fun i hi => ?_) ?_
  · have h1 := pow10 (n := i) (by omega)
    have h2 := pow10 (n := i + 1) (by omega)
    rw [Int.pow_succ] at h2
    simp (disch := omega) only [igt_e, cond_pos, imul_e, isub_e, w64, min_e, bind_s, if_neg]
    rw [Int.pow_succ]
    congr 4
    omega
  · simp (disch := omega) only [igt_e, cond_neg]

/-- a valid engine -/
def validE (e : Int × List Int) : Bool := decide (1 ≤ e.1 ∧ e.1 ≤ 12) && (decide (1 ≤ (e.2.length : Int) ∧ (e.2.length : Int) ≤ 9) && e.2.all fun c => decide (0 ≤ c ∧ c ≤ 10 ^ e.1.toNat - 1))

theorem i_valid (e : Int × List Int) : F_i_ValidEngine e = some (validE e) := by
  obtain ⟨w, l⟩ := e
  unfold F_i_ValidEngine F_i_isEngineWidth
  simp only [between_e, bind_s, bnot_d, xlen_e, n2i_e, validE]
  by_cases h1 : 1 ≤ w ∧ w ≤ 12
  · rw [cond_neg (by simpa using h1)]
    by_cases h2 : 1 ≤ (l.length : Int) ∧ (l.length : Int) ≤ 9
    · rw [cond_neg (by simpa using h2)]
      obtain ⟨n, rfl⟩ : ∃ n : Nat, w = n := ⟨w.toNat, by omega⟩
      have hp := pow10 (n := n) (by omega)
      have hm := modulus_e n (by omega)
      refine Eq.trans (iter_all (good := true) (bad := false) l (fun c => decide (0 ≤ c ∧ c ≤ 10 ^ n - 1)) (fun i => ((l.length : Int), (i : Int), (n : Int), l)) rfl
              (fun i hi hp' => ?_) (fun i hi hp' => ?_) ?_) ?_
      · have hg : l.getD i 0 = l[i] := getD_lt hi
        have hq : 0 ≤ l[i] ∧ l[i] ≤ 10 ^ n - 1 := by simpa using hp'
        simp (disch := omega) only [ilt_e, cond_pos, okIx_e, xlen_e, chk_pos, hm, bind_s, i2n_e, xget_e, between_e, isub_e, iadd_e, w64, hg, bnot_d, cond_neg]
        rfl
      · have hg : l.getD i 0 = l[i] := getD_lt hi
        have hq : ¬ (0 ≤ l[i] ∧ l[i] ≤ 10 ^ n - 1) := by simpa using hp'
        simp (disch := omega) only [ilt_e, cond_pos, okIx_e, xlen_e, chk_pos, hm, bind_s, i2n_e, xget_e, between_e, isub_e, iadd_e, w64, hg, bnot_d]
      · simp (disch := omega) only [ilt_e, cond_neg, xlen_e, xget0]
      · have h1' := h1
        have h2' := h2
        simp only [Int.toNat_natCast, h1', h2', decide_true, Bool.true_and]
        simp
    · rw [cond_pos (by simpa using h2)]
      simp [h2]
  · rw [cond_pos (by simpa using h1)]
    simp [h1]

theorem s_valid (e : Int × List Int) : F_s_l16Ok e = some (validE e) := by
  obtain ⟨w, l⟩ := e
  unfold F_s_l16Ok F_s_l16Width
  simp only [l00In_e, bind_s, bnot_d, xlen_e, n2i_e, validE, xget0]
  by_cases h1 : 1 ≤ w ∧ w ≤ 12
  · rw [cond_neg (by simpa using h1)]
    by_cases h2 : 1 ≤ (l.length : Int) ∧ (l.length : Int) ≤ 9
    · rw [cond_neg (by simpa using h2)]
      obtain ⟨n, rfl⟩ : ∃ n : Nat, w = n := ⟨w.toNat, by omega⟩
      have hp := pow10 (n := n) (by omega)
      have hm := power10_e n (by omega)
      refine Eq.trans (iter_all (good := true) (bad := false) l (fun c => decide (0 ≤ c ∧ c ≤ 10 ^ n - 1)) (fun i => ((i : Int), [((n : Int), l)])) rfl
              (fun i hi hp' => ?_) (fun i hi hp' => ?_) ?_) ?_
      · have hg : l.getD i 0 = l[i] := getD_lt hi
        have hq : 0 ≤ l[i] ∧ l[i] ≤ 10 ^ n - 1 := by simpa using hp'
        simp (disch := omega) only [ilt_e, cond_pos, okIx_e, xlen_e, xget0, chk_pos, hm, bind_s, i2n_e, xget_e, l00In_e, isub_e, iadd_e, w64, hg, bnot_d, cond_neg]
        rfl
      · have hg : l.getD i 0 = l[i] := getD_lt hi
        have hq : ¬ (0 ≤ l[i] ∧ l[i] ≤ 10 ^ n - 1) := by simpa using hp'
        simp (disch := omega) only [ilt_e, cond_pos, okIx_e, xlen_e, xget0, chk_pos, hm, bind_s, i2n_e, xget_e, l00In_e, isub_e, iadd_e, w64, hg, bnot_d]
      · simp (disch := omega) only [ilt_e, cond_neg, xlen_e, xget0]
      · have h1' := h1
        have h2' := h2
        simp only [Int.toNat_natCast, h1', h2', decide_true, Bool.true_and]
        simp
    · rw [cond_pos (by simpa using h2)]
      simp [h2]
  · rw [cond_pos (by simpa using h1)]
    simp [h1]

end Go.Prg
