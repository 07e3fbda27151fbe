/- Plain laws, part L: machines are valid alike. Conditions: none. -/
import Derived.Test.YtjkaapoklbhokaaPlK
set_option linter.all false
namespace Go.Prg
open Go.Eng

abbrev Reg := Int × List Int
abbrev Mach := Reg × Reg × Reg × Int

def fullB (b : Int) (n : Nat) : Bool := decide (b ^ n - 1 ≤ 1000000000000)
def placesM (m : Mach) : Int := imin ((m.2.1.2.length : Int) - m.1.2.length + 1) m.2.2.1.2.length

/-- a valid machine -/
def validM (m : Mach) : Bool :=
  validR m.1 && (validR m.2.1 && (validR m.2.2.1 && (decide (m.1.1 = m.2.1.1) && (decide (m.1.1 = m.2.2.1.1) && (fullB m.1.1 m.2.1.2.length && (fullB m.1.1 m.2.2.1.2.length && (decide (m.1.2.length ≤ m.2.1.2.length) && decide (0 ≤ m.2.2.2 ∧ m.2.2.2 ≤ placesM m - 1))))))))

theorem powC_zero {b : Int} {n : Nat} (hb : 2 ≤ b) : ieq (powC b n) 0 = !fullB b n := by
  have := pow_le hb (i := n) (k := n) (Nat.le_refl _)
  unfold powC fullB ieq
  by_cases h : b ^ n - 1 ≤ 1000000000000
  · have h2 : ¬ b ^ n = 0 := by omega
    simp [h, h2]
  · simp [h]

theorem cap2_full {b : Int} {n : Nat} (hb : 2 ≤ b) : ile (isub .i64 (cap2 (b ^ n)) 1) 1000000000000 = fullB b n := by
  have := pow_le hb (i := n) (k := n) (Nat.le_refl _)
  have hc3 : -9223372036854775808 ≤ cap2 (b ^ n) - 1 ∧ cap2 (b ^ n) - 1 ≤ 9223372036854775807 := by unfold cap2; split <;> omega
  rw [isub_e, w64 hc3.1 hc3.2]
  unfold fullB ile cap2
  split
  · rfl
  · rename_i h
    have h2 : ¬ b ^ n - 1 ≤ 1000000000000 := by omega
    simp [h2]

theorem i_validM (m : Mach) (h1 : (m.1.2.length : Int) ≤ 9223372036854775806) (h2 : (m.2.1.2.length : Int) ≤ 9223372036854775806) (h3 : (m.2.2.1.2.length : Int) ≤ 9223372036854775806) : F_i_ValidMachine m = some (validM m) := by
  obtain ⟨a, b, c, p⟩ := m
  simp only at h1 h2 h3
  unfold F_i_ValidMachine
  simp only [i_validR a (by omega), i_validR b (by omega), i_validR c (by omega), bind_s, validM]
  cases ha : validR a with
  | false => rfl
  | true =>
    cases hb : validR b with
    | false => rfl
    | true =>
      cases hc : validR c with
      | false => rfl
      | true =>
        obtain ⟨a1, a2, _, _⟩ := validR_all ha
        obtain ⟨b1, b2, _, _⟩ := validR_all hb
        obtain ⟨c1, c2, _, _⟩ := validR_all hc
        simp only [bnot_t, cond_f, Bool.true_and, ine_e]
        by_cases e1 : a.1 = b.1
        · by_cases e2 : a.1 = c.1
          · have e3 : c.1 = b.1 := by rw [← e2, e1]
            simp only [e1, e3, not_true_eq_false, decide_false, cond_f, decide_true, Bool.true_and, F_i_Register_values, F_i_Register_width, bind_s, n2i_e, xlen_e]
            simp (disch := omega) only [i_power, bind_s, powC_zero]
            cases fullB b.1 b.2.length with
            | false => rfl
            | true =>
              cases fullB b.1 c.2.length with
              | false => rfl
              | true =>
                simp only [Bool.not_true, cond_f, Bool.true_and, ile_e, F_i_Machine_places, F_i_Register_width, bind_s, n2i_e, xlen_e, placesM]
                by_cases e4 : a.2.length ≤ b.2.length
                · have e5 : (a.2.length : Int) ≤ b.2.length := by omega
                  simp (disch := omega) only [cond_pos, isub_e, iadd_e, w64, between_e, bind_s, e4, decide_true, Bool.true_and]
                  have : -9223372036854775808 ≤ imin ((b.2.length : Int) - a.2.length + 1) c.2.length - 1 ∧ imin ((b.2.length : Int) - a.2.length + 1) c.2.length - 1 ≤ 9223372036854775807 := by unfold imin; split <;> omega
                  rw [w64 this.1 this.2]
                  rfl
                · have e5 : ¬ (a.2.length : Int) ≤ b.2.length := by omega
                  rw [cond_neg e5]
                  simp [e4]
          · have e3 : ¬ c.1 = b.1 := fun e => e2 (by rw [e1, e])
            simp [e1, e2, e3]
            intro h; exact absurd (by rw [h]) e3
        · simp [e1]

theorem s_validM (m : Mach) (h1 : (m.1.2.length : Int) ≤ 9223372036854775806) (h2 : (m.2.1.2.length : Int) ≤ 9223372036854775806) (h3 : (m.2.2.1.2.length : Int) ≤ 9223372036854775806) : F_s_l10Ok m = some (validM m) := by
  obtain ⟨a, b, c, p⟩ := m
  simp only at h1 h2 h3
  unfold F_s_l10Ok F_s_l10Full
  simp only [s_validR a (by omega), s_validR b (by omega), s_validR c (by omega), bind_s, validM]
  cases ha : validR a with
  | false => rfl
  | true =>
    cases hb : validR b with
    | false => rfl
    | true =>
      cases hc : validR c with
      | false => rfl
      | true =>
        obtain ⟨a1, a2, _, _⟩ := validR_all ha
        obtain ⟨b1, b2, _, _⟩ := validR_all hb
        obtain ⟨c1, c2, _, _⟩ := validR_all hc
        simp only [bnot_t, cond_f, Bool.true_and, ine_e]
        by_cases e1 : a.1 = b.1
        · by_cases e2 : a.1 = c.1
          · simp only [e1, not_true_eq_false, decide_false, cond_f, decide_true, Bool.true_and, n2i_e, xlen_e]
            have e3 : b.1 = c.1 := by rw [← e1, e2]
            simp only [← e3, not_true_eq_false, decide_false, cond_f, decide_true, Bool.true_and]
            simp (disch := omega) only [s_power, bind_s, cap2_full]
            cases fullB b.1 b.2.length with
            | false => rfl
            | true =>
              cases fullB b.1 c.2.length with
              | false => rfl
              | true =>
                simp only [bnot_t, cond_f, Bool.true_and, ile_e, F_s_l10Places, n2i_e, xlen_e, placesM]
                by_cases e4 : a.2.length ≤ b.2.length
                · have e5 : (a.2.length : Int) ≤ b.2.length := by omega
                  have e6 : (if (c.2.length : Int) < (b.2.length : Int) - a.2.length + 1 then (c.2.length : Int) else (b.2.length : Int) - a.2.length + 1) = imin ((b.2.length : Int) - a.2.length + 1) c.2.length := rfl
                  have : -9223372036854775808 ≤ imin ((b.2.length : Int) - a.2.length + 1) c.2.length - 1 ∧ imin ((b.2.length : Int) - a.2.length + 1) c.2.length - 1 ≤ 9223372036854775807 := by unfold imin; split <;> omega
                  simp (disch := omega) only [cond_pos, isub_e, iadd_e, w64, min_e, bind_s, e4, decide_true, Bool.true_and, e6]
                  simp only [l00In_e, bind_s]
                  rfl
                · have e5 : ¬ (a.2.length : Int) ≤ b.2.length := by omega
                  rw [cond_neg e5]
                  simp [e4]
          · have e3 : ¬ b.1 = c.1 := fun h => e2 (by rw [e1, h])
            simp [e1, e3]
        · simp [e1]

end Go.Prg
