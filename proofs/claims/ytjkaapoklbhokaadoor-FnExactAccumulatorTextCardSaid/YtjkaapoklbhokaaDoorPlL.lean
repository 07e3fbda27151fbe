/- Plain laws, part L: machines are valid alike. Conditions: none. -/
import Derived.Test.YtjkaapoklbhokaaDoorPlK
set_option linter.all false
namespace Go.Prg
open Go.Eng

abbrev Reg := Int × List Int
abbrev Mach := Reg × Reg × Reg × Int

def fullB (b : Int) (n : Nat) : Bool := decide (b ^ n - 1 ≤ 1000000000000)
def placesM (m : Mach) : Int := imin ((m.2.1.2.length : Int) - m.1.2.length + 1) m.2.2.1.2.length

/-- a valid machine -/
def validM (m : Mach) : Bool :=
  validR m.1 && (validR m.2.1 && (validR m.2.2.1 && (decide (m.1.1 = m.2.1.1) && (decide (m.1.1 = m.2.2.1.1) && (fullB m.1.1 m.2.1.2.length && (fullB m.1.1 m.2.2.1.2.length && (decide (m.1.2.length ≤ m.2.1.2.length) && decide (0 ≤ m.2.2.2 ∧ m.2.2.2 ≤ placesM m - 1))))))))

theorem powC_zero {b : Int} {n : Nat} (hb : 2 ≤ b) : ieq (powC b n) 0 = !fullB b n := by
  have := pow_le hb (i := n) (k := n) (Nat.le_refl _)
  unfold powC fullB ieq
  by_cases h : b ^ n - 1 ≤ 1000000000000
  · have h2 : ¬ b ^ n = 0 := by omega
    simp [h, h2]
  · simp [h]

theorem cap2_full {b : Int} {n : Nat} (hb : 2 ≤ b) : ile (isub .i64 (cap2 (b ^ n)) 1) 1000000000000 = fullB b n := by
  have := pow_le hb (i := n) (k := n) (Nat.le_refl _)
  have hc3 : -9223372036854775808 ≤ cap2 (b ^ n) - 1 ∧ cap2 (b ^ n) - 1 ≤ 9223372036854775807 := by unfold cap2; split <;> omega
  rw [isub_e, w64 hc3.1 hc3.2]
  unfold fullB ile cap2
  split
  · rfl
  · rename_i h
    have h2 : ¬ b ^ n - 1 ≤ 1000000000000 := by omega
    simp [h2]

end Go.Prg
