/- Plain laws, part I: powers, numbers of accumulators. Conditions: none. -/
import Derived.Test.YthiajmikeaolmaaPlH
set_option linter.all false
namespace Go.Prg
open Go.Eng

theorem pow_le {b : Int} (hb : 2 ≤ b) {i k : Nat} (h : i ≤ k) : 1 ≤ b ^ i ∧ b ^ i ≤ b ^ k := by
  obtain ⟨m, rfl⟩ : ∃ m : Nat, b = m := ⟨b.toNat, by omega⟩
  have h1 := Nat.pow_le_pow_right (n := m) (by omega) h
  have h2 := Nat.one_le_pow i m (by omega)
  have e : ∀ j : Nat, ((m ^ j : Nat) : Int) = (m : Int) ^ j := fun j => by simp
  rw [← e, ← e]
  omega

/-- how many numbers registers of n digits have; 0: too many -/
def powC (b : Int) (n : Nat) : Int := if b ^ n - 1 ≤ 1000000000000 then b ^ n else 0

/-- at most one more than the numbers of registers -/
def cap2 (v : Int) : Int := if v ≤ 1000000000002 then v else 1000000000002

theorem cap2_step {b v : Int} (hb : 2 ≤ b) (hv : 0 ≤ v) : (if (1000000000002 : Int) < cap2 v * b then 1000000000002 else cap2 v * b) = cap2 (v * b) := by
  have h3 : v * 2 ≤ v * b := Int.mul_le_mul_of_nonneg_left hb hv
  unfold cap2
  by_cases h : v ≤ 1000000000002
  · simp only [if_pos h]
    by_cases h2 : v * b ≤ 1000000000002
    · rw [if_neg (by omega), if_pos h2]
    · rw [if_pos (by omega), if_neg h2]
  · simp only [if_neg h]
    rw [if_pos (by omega), if_neg (by omega)]

/-- the number that a register shows -/
def numR (r : Int × List Int) : Int × Int :=
  cond (validR r && decide (r.1 ^ r.2.length - 1 ≤ 1000000000000)) (if valL r.1 r.2 ≤ r.1 ^ r.2.length - 1 - r.1 ^ r.2.length / 2 then valL r.1 r.2 else valL r.1 r.2 - r.1 ^ r.2.length, 0) (0, 1)

end Go.Prg
