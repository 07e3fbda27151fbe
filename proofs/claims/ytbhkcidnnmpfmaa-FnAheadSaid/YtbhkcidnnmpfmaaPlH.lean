/- Plain laws, part H: registers moved to and fro, numbers of accumulators. Conditions: none. -/
import Derived.Test.YtbhkcidnnmpfmaaPlG
set_option linter.all false
namespace Go.Prg
open Go.Eng

theorem to_Register (e : Int × List Int) (h : (e.2.length : Int) ≤ 1048576) : F_l_toRegister e = some e := by
  unfold F_l_toRegister
  simp only [to_Int64S e.2 h, bind_s]

theorem eq_Register (a b : Int × List Int) (h : (a.2.length : Int) ≤ 1048576) (h' : (b.2.length : Int) ≤ 1048576) : F_l_eqRegister (a, b) = some (decide (a = b)) := by
  obtain ⟨w, l⟩ := a
  obtain ⟨w', l'⟩ := b
  simp only at h h'
  unfold F_l_eqRegister
  simp only [ine_e]
  by_cases h1 : w = w'
  · rw [cond_neg (by simpa using h1)]
    simp (disch := omega) only [eq_Int64S, bind_s, bnot_d]
    by_cases h2 : l = l' <;> simp [h1, h2]
  · rw [cond_pos (by simpa using h1)]
    simp [h1]

theorem mark_Register (e : Int × List Int) (k : Int) (h : (e.2.length : Int) ≤ 1048576) (hk : 0 ≤ k) (hk' : k ≤ 4000000000000000000) : F_l_markRegister (e, k) = some (k + e.2.length, (e.1, count k e.2.length)) := by
  unfold F_l_markRegister
  simp (disch := omega) only [mark_Int64S, bind_s]

theorem held_Register (w : Int) (n : Nat) (k : Int) (h : (n : Int) ≤ 1048576) (hk : 0 ≤ k) (hk' : k ≤ 4000000000000000000) : F_l_heldRegister ((w, count k n), k) = some (k + n) := by
  unfold F_l_heldRegister
  simp (disch := omega) only [held_Int64S, bind_s, ilt_e, cond_neg]

/-- the digits, moved by p places -/
def shiftL (p : Int) (l : List Int) (i : Nat) : List Int := (List.range i).map fun j : Nat => if 0 ≤ (j : Int) - p ∧ (j : Int) - p < l.length then l.getD ((j : Int) - p).toNat 0 else 0

theorem shiftL_len (p : Int) (l : List Int) (i : Nat) : (shiftL p l i).length = i := by simp [shiftL]

theorem shiftL_succ (p : Int) (l : List Int) (i : Nat) : shiftL p l (i + 1) = shiftL p l i ++ [if 0 ≤ (i : Int) - p ∧ (i : Int) - p < l.length then l.getD ((i : Int) - p).toNat 0 else 0] := by
  simp [shiftL, List.range_succ]

/-- the answer -/
def shiftR (x : (Int × List Int) × Int) : (Int × List Int) × Int :=
  cond (validR x.1) (if -16 ≤ x.2 ∧ x.2 ≤ 16 then cond (validR (x.1.1, shiftL x.2 x.1.2 x.1.2.length)) ((x.1.1, shiftL x.2 x.1.2 x.1.2.length), 0) ((0, []), 5) else ((0, []), 2)) ((0, []), 1)

theorem validR_all {r : Int × List Int} (h : validR r = true) : (2 ≤ r.1 ∧ r.1 ≤ 16) ∧ (1 ≤ r.2.length ∧ r.2.length ≤ 16) ∧ digitsOk r.1 r.2 ∧ valL r.1 r.2 ≤ 1000000000000 := by
  simp only [validR, Bool.and_eq_true, decide_eq_true_eq] at h
  exact ⟨h.1, by omega, all_digits.1 h.2.2.1, h.2.2.2⟩

theorem i_shift (x : (Int × List Int) × Int) (hl : (x.1.2.length : Int) ≤ 9223372036854775806) : F_i_ShiftRegister x = some (shiftR x) := by
  obtain ⟨⟨b, l⟩, p⟩ := x
  simp only at hl
  unfold F_i_ShiftRegister
  rw [i_validR (b, l) (by simp only; omega)]
  simp only [bind_s, between_e, bnot_d, shiftR]
  cases hv : validR (b, l) with
  | false => simp [bnot]
  | true =>
    obtain ⟨_, h2, _, _⟩ := validR_all hv
    simp only at h2
    simp only [bnot_t, cond_f, cond_t]
    by_cases hp : -16 ≤ p ∧ p ≤ 16
    · rw [cond_neg (by simpa using hp), if_pos hp]
      refine iter_run (fun i => (p, (l.length : Int), (i : Int), b, l, (0 : Int), ([] : List Int), b, shiftL p l i)) l.length (by simp [shiftL, n2i, xlen]) (fun i hi => ?_) ?_
      · have hsl := shiftL_len p l i
        simp (disch := omega) only [ilt_e, cond_pos, isub_e, iadd_e, w64, ige_e, F_i_Register_width, bind_s, n2i_e, xlen_e]
        by_cases h0 : 0 ≤ (i : Int) - p
        · by_cases h1 : (i : Int) - p < l.length
          · simp (disch := omega) only [cond_pos, okIx_e, chk_pos, okRoom_e, hsl, List.length_cons, List.length_nil, xapp_e, xget_e, shiftL_succ, if_pos]
            rfl
          · simp (disch := omega) only [cond_pos, cond_neg, chk_pos, okRoom_e, hsl, List.length_cons, List.length_nil, xapp_e, shiftL_succ, if_neg]
            rfl
        · simp (disch := omega) only [cond_neg, chk_pos, okRoom_e, hsl, List.length_cons, List.length_nil, xapp_e, shiftL_succ, if_neg]
          rfl
      · have hsl := shiftL_len p l l.length
        have hvv := i_validR (b, shiftL p l l.length) (by simp only [hsl]; omega)
        simp (disch := omega) only [ilt_e, cond_neg, F_i_sole, hvv, bind_s]
        cases validR (b, shiftL p l l.length) <;> rfl
    · rw [cond_pos (by simpa using hp), if_neg hp]

theorem s_shift (x : (Int × List Int) × Int) (hl : (x.1.2.length : Int) ≤ 9223372036854775806) : F_s_ShiftRegister x = some (shiftR x) := by
  obtain ⟨⟨b, l⟩, p⟩ := x
  simp only at hl
  unfold F_s_ShiftRegister
  rw [s_validR (b, l) (by simp only; omega)]
  simp only [bind_s, l00In_e, bnot_d, shiftR]
  cases hv : validR (b, l) with
  | false => simp [bnot]
  | true =>
    obtain ⟨_, h2, _, _⟩ := validR_all hv
    simp only at h2
    simp only [bnot_t, cond_f, cond_t]
    by_cases hp : -16 ≤ p ∧ p ≤ 16
    · rw [cond_neg (by simpa using hp), if_pos hp]
      refine iter_run (fun i => (p, (i : Int), b, l, (0 : Int), ([] : List Int), b, shiftL p l i)) l.length (by simp [shiftL]) (fun i hi => ?_) ?_
      · have hsl := shiftL_len p l i
        simp (disch := omega) only [ilt_e, cond_pos, isub_e, iadd_e, w64, n2i_e, xlen_e]
        by_cases h0 : 0 ≤ (i : Int) - p ∧ (i : Int) - p ≤ (l.length : Int) - 1
        · simp (disch := omega) only [cond_pos, okIx_e, chk_pos, okRoom_e, hsl, List.length_cons, List.length_nil, xapp_e, xget_e, shiftL_succ, if_pos]
          rfl
        · simp (disch := omega) only [cond_neg, chk_pos, okRoom_e, hsl, List.length_cons, List.length_nil, xapp_e, shiftL_succ, if_neg]
          rfl
      · have hsl := shiftL_len p l l.length
        have hvv := s_validR (b, shiftL p l l.length) (by simp only [hsl]; omega)
        simp (disch := omega) only [ilt_e, cond_neg, n2i_e, xlen_e, hvv, bind_s]
        cases validR (b, shiftL p l l.length) <;> rfl
    · rw [cond_pos (by simpa using hp), if_neg hp]

theorem i_shift' (e : Int × List Int) (p : Int) (hl : (e.2.length : Int) ≤ 9223372036854775806) : F_i_ShiftRegister (e, p) = some (shiftR (e, p)) := i_shift (e, p) hl
theorem s_shift' (e : Int × List Int) (p : Int) (hl : (e.2.length : Int) ≤ 9223372036854775806) : F_s_ShiftRegister (e, p) = some (shiftR (e, p)) := s_shift (e, p) hl

theorem shiftR_len (x : (Int × List Int) × Int) : ((shiftR x).1.2.length : Int) ≤ 16 := by
  unfold shiftR
  cases hv : validR x.1 with
  | false => simp
  | true =>
    have := (validR_all hv).2.1
    simp only [cond_t]
    split
    · cases validR (x.1.1, shiftL x.2 x.1.2 x.1.2.length) with
      | false => simp
      | true => simp only [cond_t, shiftL_len]; omega
    · simp

theorem law_ShiftRegister (x : (Int × List Int) × Int) (h : (x.1.2.length : Int) ≤ 9223372036854775807) : F_l_FnExactShiftRegister x = some true := by
  obtain ⟨e, p⟩ := x
  simp only at h
  have hb := shiftR_len (e, p)
  unfold F_l_FnExactShiftRegister F_l_szRegister
  simp (disch := omega) only [sz_Int64S, bind_s, ilt_e]
  by_cases hs : (1048576 : Int) - e.2.length < 0
  · simp [hs]
  · simp (disch := omega) only [if_neg, cond_neg, bind_s, ilt_e, to_Register, s_shift', i_shift', eq_Register, mark_Register, held_Register, decide_true, bnot_t, cond_f, ine_e, not_true_eq_false, decide_false]

theorem FnExactShiftRegister_true (x : (Int × List Int) × Int) (h : wfArgs [.val true (.pair (.int .i64) (.row false 2 (.int .i64))), .val false (.int .i64)] x) : ∃ y, F_l_FnExactShiftRegister x = some y ∧ hhead .bool [] y = true :=
  ⟨true, law_ShiftRegister x (maxLen_le (n := x.1.2.length) h.1.2.1), rfl⟩

end Go.Prg
