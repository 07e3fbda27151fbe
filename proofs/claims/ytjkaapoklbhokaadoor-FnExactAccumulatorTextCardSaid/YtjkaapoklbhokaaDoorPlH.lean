/- Plain laws, part H: registers moved to and fro, numbers of accumulators. Conditions: none. -/
import Derived.Test.YtjkaapoklbhokaaDoorPlG
set_option linter.all false
namespace Go.Prg
open Go.Eng

theorem to_Register (e : Int × List Int) (h : (e.2.length : Int) ≤ 1048576) : F_l_toRegister e = some e := by
  unfold F_l_toRegister
  simp only [to_Int64S e.2 h, bind_s]

theorem eq_Register (a b : Int × List Int) (h : (a.2.length : Int) ≤ 1048576) (h' : (b.2.length : Int) ≤ 1048576) : F_l_eqRegister (a, b) = some (decide (a = b)) := by
  obtain ⟨w, l⟩ := a
  obtain ⟨w', l'⟩ := b
  simp only at h h'
  unfold F_l_eqRegister
  simp only [ine_e]
  by_cases h1 : w = w'
  · rw [cond_neg (by simpa using h1)]
    simp (disch := omega) only [eq_Int64S, bind_s, bnot_d]
    by_cases h2 : l = l' <;> simp [h1, h2]
  · rw [cond_pos (by simpa using h1)]
    simp [h1]

/-- the digits, moved by p places -/
def shiftL (p : Int) (l : List Int) (i : Nat) : List Int := (List.range i).map fun j : Nat => if 0 ≤ (j : Int) - p ∧ (j : Int) - p < l.length then l.getD ((j : Int) - p).toNat 0 else 0

theorem shiftL_len (p : Int) (l : List Int) (i : Nat) : (shiftL p l i).length = i := by simp [shiftL]

theorem shiftL_succ (p : Int) (l : List Int) (i : Nat) : shiftL p l (i + 1) = shiftL p l i ++ [if 0 ≤ (i : Int) - p ∧ (i : Int) - p < l.length then l.getD ((i : Int) - p).toNat 0 else 0] := by
  simp [shiftL, List.range_succ]

/-- the answer -/
def shiftR (x : (Int × List Int) × Int) : (Int × List Int) × Int :=
  cond (validR x.1) (if -16 ≤ x.2 ∧ x.2 ≤ 16 then cond (validR (x.1.1, shiftL x.2 x.1.2 x.1.2.length)) ((x.1.1, shiftL x.2 x.1.2 x.1.2.length), 0) ((0, []), 5) else ((0, []), 2)) ((0, []), 1)

theorem validR_all {r : Int × List Int} (h : validR r = true) : (2 ≤ r.1 ∧ r.1 ≤ 16) ∧ (1 ≤ r.2.length ∧ r.2.length ≤ 16) ∧ digitsOk r.1 r.2 ∧ valL r.1 r.2 ≤ 1000000000000 := by
  simp only [validR, Bool.and_eq_true, decide_eq_true_eq] at h
  exact ⟨h.1, by omega, all_digits.1 h.2.2.1, h.2.2.2⟩

theorem shiftR_len (x : (Int × List Int) × Int) : ((shiftR x).1.2.length : Int) ≤ 16 := by
  unfold shiftR
  cases hv : validR x.1 with
  | false => simp
  | true =>
    have := (validR_all hv).2.1
    simp only [cond_t]
    split
    · cases validR (x.1.1, shiftL x.2 x.1.2 x.1.2.length) with
      | false => simp
      | true => simp only [cond_t, shiftL_len]; omega
    · simp

end Go.Prg
