/- Plain laws, part C: engines of differences. Conditions: none. -/
import Derived.Test.YtjkaapoklbhokaaDoorPlB
set_option linter.all false
namespace Go.Prg
open Go.Eng
set_option linter.unusedSimpArgs false

theorem between_e (a b c : Int) : F_i_between (a, b, c) = some (decide (b ≤ a ∧ a ≤ c)) := by
  unfold F_i_between
  simp only [ige_e, ile_e]
  by_cases h : b ≤ a
  · simp [h]
  · simp [h]

theorem l00In_e (a b c : Int) : F_s_l00In (a, b, c) = some (decide (b ≤ a ∧ a ≤ c)) := by
  unfold F_s_l00In
  simp only [ige_e, ile_e]
  by_cases h : b ≤ a
  · simp [h]
  · simp [h]

theorem pow10 {n : Nat} (h : n ≤ 12) : 1 ≤ (10 : Int) ^ n ∧ (10 : Int) ^ n ≤ 1000000000000 := by
  have h1 := Nat.pow_le_pow_right (n := 10) (by decide) h
  have h2 := Nat.one_le_pow n 10 (by decide)
  have e : ((10 ^ n : Nat) : Int) = (10 : Int) ^ n := by simp
  rw [← e]
  omega

theorem min_e (a b : Int) : F_s_l00Min (a, b) = some (if a < b then a else b) := by
  unfold F_s_l00Min
  simp only [ilt_e]
  by_cases h : a < b <;> simp [h]

theorem power10_e (n : Nat) (h : n ≤ 12) : F_s_l10Power (10, (n : Int)) = some (10 ^ n) := by
  unfold F_s_l10Power
  refine iter_run (fun i => (10, (n : Int) - i, (10 : Int) ^ i)) n (by simp) (fun i hi => ?_) ?_
  · have h1 := pow10 (n := i) (by omega)
    have h2 := pow10 (n := i + 1) (by omega)
    rw [Int.pow_succ] at h2
    simp (disch := omega) only [igt_e, cond_pos, imul_e, isub_e, w64, min_e, bind_s, if_neg]
    rw [Int.pow_succ]
    congr 4
    omega
  · simp (disch := omega) only [igt_e, cond_neg]

/-- a valid engine -/
def validE (e : Int × List Int) : Bool := decide (1 ≤ e.1 ∧ e.1 ≤ 12) && (decide (1 ≤ (e.2.length : Int) ∧ (e.2.length : Int) ≤ 9) && e.2.all fun c => decide (0 ≤ c ∧ c ≤ 10 ^ e.1.toNat - 1))

end Go.Prg
