/- Plain laws, part Q: machines: places, settings; numbers accumulated one after the other. Conditions: none. -/
import Derived.Test.YtegnnfaehhgbiaaPlP
set_option linter.all false
namespace Go.Prg
open Go.Eng

theorem wf_i64 {x : Int} (h : wf (.int .i64) x) : -9223372036854775808 ≤ x ∧ x ≤ 9223372036854775807 := by
  have h2 : (Lit.int .i64 x).wf = true := h
  simp only [Lit.wf, Bool.and_eq_true, decide_eq_true_eq] at h2
  have e1 : IntKind.min .i64 = -9223372036854775808 := by decide
  have e2 : IntKind.max .i64 = 9223372036854775807 := by decide
  omega

theorem cpN (l : List Int) (h : (l.length : Int) ≤ 1048576) : F_i_copyNumbers l = some l := by
  unfold F_i_copyNumbers
  simp (disch := omega) only [okRoom_e, xlen_e, xapp_e, List.length_nil, chk_pos, List.nil_append]
theorem ownN (l : List Int) (h : (l.length : Int) ≤ 1048576) : F_s_l00Own l = some l := by
  unfold F_s_l00Own
  simp (disch := omega) only [okRoom_e, xlen_e, xapp_e, List.length_nil, chk_pos, List.nil_append]
theorem cpR (r : Reg) (h : (r.2.length : Int) ≤ 1048576) : F_i_Register_copied r = some r := by
  unfold F_i_Register_copied
  rw [cpN r.2 h]; rfl
theorem ownR (r : Reg) (h : (r.2.length : Int) ≤ 1048576) : F_s_l02Own r = some r := by
  unfold F_s_l02Own
  rw [ownN r.2 h]; rfl
theorem cpM (a b c : Reg) (p : Int) (h1 : (a.2.length : Int) ≤ 1048576) (h2 : (b.2.length : Int) ≤ 1048576) (h3 : (c.2.length : Int) ≤ 1048576) : F_i_Machine_copied (a, (b, (c, p))) = some (a, (b, (c, p))) := by
  unfold F_i_Machine_copied
  simp (disch := omega) only [cpR, bind_s]
theorem ownM (a b c : Reg) (p : Int) (h1 : (a.2.length : Int) ≤ 1048576) (h2 : (b.2.length : Int) ≤ 1048576) (h3 : (c.2.length : Int) ≤ 1048576) : F_s_l10Own (a, (b, (c, p))) = some (a, (b, (c, p))) := by
  unfold F_s_l10Own
  simp (disch := omega) only [ownR, bind_s]

/-- what is known of a valid machine -/
theorem machine_parts {a b c : Reg} {p : Int} (h : validM (a, b, c, p) = true) : (2 ≤ a.1 ∧ a.1 ≤ 16) ∧ (1 ≤ a.2.length ∧ a.2.length ≤ 16) ∧ (1 ≤ b.2.length ∧ b.2.length ≤ 16) ∧ (1 ≤ c.2.length ∧ c.2.length ≤ 16) ∧ a.1 = b.1 ∧ a.1 = c.1 ∧ digitsOk a.1 a.2 ∧ digitsOk b.1 b.2 ∧ digitsOk c.1 c.2 ∧
    fullB a.1 b.2.length = true ∧ fullB a.1 c.2.length = true ∧ a.2.length ≤ b.2.length ∧ (0 ≤ p ∧ p ≤ placesM (a, b, c, p) - 1) := by
  obtain ⟨h1, h2, h3, h4, h5, h6, h7, h8, h9⟩ := validM_all h
  obtain ⟨a1, a2, a3, a4⟩ := validR_all h1
  obtain ⟨_, b2, b3, _⟩ := validR_all h2
  obtain ⟨_, c2, c3, _⟩ := validR_all h3
  exact ⟨a1, a2, b2, c2, h4, h5, a3, b3, c3, h6, h7, h8, h9⟩

theorem i_places (a b c : Reg) (p : Int) (h1 : a.2.length ≤ 16) (h2 : b.2.length ≤ 16) (h3 : c.2.length ≤ 16) : F_i_Machine_places (a, (b, (c, p))) = some (placesM (a, b, c, p)) := by
  unfold F_i_Machine_places F_i_Register_width
  simp (disch := omega) only [bind_s, n2i_e, xlen_e, isub_e, iadd_e, w64]
  rfl

theorem s_places (a b c : Reg) (p : Int) (h1 : a.2.length ≤ 16) (h2 : b.2.length ≤ 16) (h3 : c.2.length ≤ 16) : F_s_l10Places (a, (b, (c, p))) = some (placesM (a, b, c, p)) := by
  unfold F_s_l10Places
  simp (disch := omega) only [bind_s, n2i_e, xlen_e, isub_e, iadd_e, w64, min_e]
  rfl

def placesR (a b c : Reg) (p : Int) : Int × Int := cond (validM (a, b, c, p)) (placesM (a, b, c, p), 0) (0, 1)

theorem i_placesOf (a b c : Reg) (p : Int) (h1 : (a.2.length : Int) ≤ 9223372036854775806) (h2 : (b.2.length : Int) ≤ 9223372036854775806) (h3 : (c.2.length : Int) ≤ 9223372036854775806) : F_i_PlacesOf (a, (b, (c, p))) = some (placesR a b c p) := by
  unfold F_i_PlacesOf placesR
  simp only [i_validM' a b c p h1 h2 h3, bind_s]
  cases h : validM (a, b, c, p) with
  | false => rfl
  | true =>
    obtain ⟨_, q1, q2, q3, _⟩ := machine_parts h
    simp only [bnot_t, cond_f, cond_t, i_places a b c p q1.2 q2.2 q3.2, bind_s]

theorem s_placesOf (a b c : Reg) (p : Int) (h1 : (a.2.length : Int) ≤ 9223372036854775806) (h2 : (b.2.length : Int) ≤ 9223372036854775806) (h3 : (c.2.length : Int) ≤ 9223372036854775806) : F_s_PlacesOf (a, (b, (c, p))) = some (placesR a b c p) := by
  unfold F_s_PlacesOf placesR
  simp only [s_validM' a b c p h1 h2 h3, bind_s]
  cases h : validM (a, b, c, p) with
  | false => rfl
  | true =>
    obtain ⟨_, q1, q2, q3, _⟩ := machine_parts h
    simp only [bnot_t, cond_f, cond_t, s_places a b c p q1.2 q2.2 q3.2, bind_s]

theorem law_PlacesOf (a1 a2 a3 : Reg) (a4 : Int) (h0 : (a1.2.length : Int) ≤ 9223372036854775807) (h1 : (a2.2.length : Int) ≤ 9223372036854775807) (h2 : (a3.2.length : Int) ≤ 9223372036854775807) : F_l_FnExactPlacesOf (a1, (a2, (a3, a4))) = some true := by
  unfold F_l_FnExactPlacesOf
  obtain ⟨v0, e0, q0⟩ := sz_M' a1 a2 a3 a4 1048576 h0 h1 h2 (by omega) (by omega)
  simp only [e0, bind_s, ilt_e]
  rcases q0 with rfl | ⟨q0, q0'⟩
  · rfl
  rw [cond_neg (by omega)]
  simp (disch := omega) only [bind_s, ilt_e, cond_neg, to_Register, to_Machine, to_Int64S, eq_Register, eq_Machine, eq_Int64S, mark_Register, mark_M, mark_Int64S, held_Register, held_M, held_Int64S, decide_true, bnot_t, cond_f, ine_e, not_true_eq_false, decide_false, bnev_s, s_placesOf, i_placesOf]

theorem FnExactPlacesOf_true {t1 : TypeId} (x : (Mach)) (h : wfArgs [.val true (.pair (.pair (.int .i64) (.row false t1 (.int .i64))) (.pair (.pair (.int .i64) (.row false t1 (.int .i64))) (.pair (.pair (.int .i64) (.row false t1 (.int .i64))) (.int .i64))))] x) : ∃ y, F_l_FnExactPlacesOf x = some y ∧ hhead .bool [] y = true :=
  ⟨true, law_PlacesOf x.1 x.2.1 x.2.2.1 x.2.2.2 (maxLen_le (n := x.1.2.length) h.1.1.2.1) (maxLen_le (n := x.2.1.2.length) h.1.2.1.2.1) (maxLen_le (n := x.2.2.1.2.length) h.1.2.2.1.2.1), rfl⟩


def setDigR (a b c : Reg) (p k d : Int) : Mach × Int :=
  cond (validM (a, b, c, p)) (if 0 ≤ k ∧ k ≤ (a.2.length : Int) - 1 then if 0 ≤ d ∧ d ≤ a.1 - 1 then (((a.1, a.2.set k.toNat d), b, c, p), 0) else (zeroM, 2) else (zeroM, 2)) (zeroM, 1)

theorem i_setDig (a b c : Reg) (p k d : Int) (h1 : (a.2.length : Int) ≤ 9223372036854775806) (h2 : (b.2.length : Int) ≤ 9223372036854775806) (h3 : (c.2.length : Int) ≤ 9223372036854775806) : F_i_SetDigit ((a, (b, (c, p))), (k, d)) = some (setDigR a b c p k d) := by
  unfold F_i_SetDigit F_i_Register_width setDigR
  simp only [i_validM' a b c p h1 h2 h3, bind_s]
  cases h : validM (a, b, c, p) with
  | false => rfl
  | true =>
    obtain ⟨q0, q1, q2, q3, _⟩ := machine_parts h
    simp (disch := omega) only [bnot_t, cond_f, cond_t, n2i_e, xlen_e, isub_e, w64, between_e, bind_s, bnot_d]
    by_cases hk : 0 ≤ k ∧ k ≤ (a.2.length : Int) - 1
    · rw [cond_neg (by simpa using hk), if_pos hk]
      by_cases hd : 0 ≤ d ∧ d ≤ a.1 - 1
      · rw [cond_neg (by simpa using hd), if_pos hd, cpM a b c p (by omega) (by omega) (by omega)]
        simp (disch := omega) only [bind_s, okIx_e, chk_pos, xlen_e, xset_e]
      · rw [cond_pos (by simpa using hd), if_neg hd]
    · rw [cond_pos (by simpa using hk), if_neg hk]

theorem s_setDig (a b c : Reg) (p k d : Int) (h1 : (a.2.length : Int) ≤ 9223372036854775806) (h2 : (b.2.length : Int) ≤ 9223372036854775806) (h3 : (c.2.length : Int) ≤ 9223372036854775806) : F_s_SetDigit ((a, (b, (c, p))), (k, d)) = some (setDigR a b c p k d) := by
  unfold F_s_SetDigit setDigR
  simp only [s_validM' a b c p h1 h2 h3, bind_s]
  cases h : validM (a, b, c, p) with
  | false => rfl
  | true =>
    obtain ⟨q0, q1, q2, q3, _⟩ := machine_parts h
    simp (disch := omega) only [bnot_t, cond_f, cond_t, n2i_e, xlen_e, isub_e, w64, l00In_e, bind_s, bnot_d]
    by_cases hk : 0 ≤ k ∧ k ≤ (a.2.length : Int) - 1
    · rw [cond_neg (by simpa using hk), if_pos hk]
      by_cases hd : 0 ≤ d ∧ d ≤ a.1 - 1
      · rw [cond_neg (by simpa using hd), if_pos hd, ownM a b c p (by omega) (by omega) (by omega)]
        simp (disch := omega) only [bind_s, okIx_e, chk_pos, xlen_e, xset_e]
      · rw [cond_pos (by simpa using hd), if_neg hd]
    · rw [cond_pos (by simpa using hk), if_neg hk]

theorem setDigR_len (a b c : Reg) (p k d : Int) : ((setDigR a b c p k d).1.1.2.length : Int) ≤ 16 ∧ ((setDigR a b c p k d).1.2.1.2.length : Int) ≤ 16 ∧ ((setDigR a b c p k d).1.2.2.1.2.length : Int) ≤ 16 := by
  unfold setDigR
  cases h : validM (a, b, c, p) with
  | false => simp
  | true =>
    obtain ⟨q0, q1, q2, q3, _⟩ := machine_parts h
    simp only [cond_t]
    split
    · split
      · simp only [List.length_set]; omega
      · simp
    · simp

/-- machines, measured by their parts -/
theorem mark_MM (m : Mach) (k : Int) (h1 : (m.1.2.length : Int) ≤ 1048576) (h2 : (m.2.1.2.length : Int) ≤ 1048576) (h3 : (m.2.2.1.2.length : Int) ≤ 1048576) (hk : 0 ≤ k) (hk' : k ≤ 3000000000000000000) :
    F_l_markMachine ((m.1, (m.2.1, (m.2.2.1, m.2.2.2))), k) = some (k + m.1.2.length + m.2.1.2.length + m.2.2.1.2.length, ((m.1.1, count k m.1.2.length), ((m.2.1.1, count (k + m.1.2.length) m.2.1.2.length), ((m.2.2.1.1, count (k + m.1.2.length + m.2.1.2.length) m.2.2.1.2.length), m.2.2.2)))) :=
  mark_M m.1 m.2.1 m.2.2.1 m.2.2.2 k h1 h2 h3 hk hk'

theorem law_SetDigit (a1 a2 a3 : Reg) (a4 : Int) (b : Int) (c : Int) (h0 : (a1.2.length : Int) ≤ 9223372036854775807) (h1 : (a2.2.length : Int) ≤ 9223372036854775807) (h2 : (a3.2.length : Int) ≤ 9223372036854775807) : F_l_FnExactSetDigit ((a1, (a2, (a3, a4))), (b, c)) = some true := by
  have hb := (setDigR_len a1 a2 a3 a4 b c).1
  have hb2 := (setDigR_len a1 a2 a3 a4 b c).2.1
  have hb3 := (setDigR_len a1 a2 a3 a4 b c).2.2
  unfold F_l_FnExactSetDigit
  obtain ⟨v0, e0, q0⟩ := sz_M' a1 a2 a3 a4 1048576 h0 h1 h2 (by omega) (by omega)
  simp only [e0, bind_s, ilt_e]
  rcases q0 with rfl | ⟨q0, q0'⟩
  · rfl
  rw [cond_neg (by omega)]
  simp (disch := omega) only [bind_s, ilt_e, cond_neg, to_Register, to_Machine, to_Int64S, eq_Register, eq_Machine, eq_Int64S, mark_Register, mark_M, mark_Int64S, held_Register, held_M, held_Int64S, decide_true, bnot_t, cond_f, ine_e, not_true_eq_false, decide_false, bnev_s, s_setDig, i_setDig]

theorem FnExactSetDigit_true {t1 : TypeId} (x : (Mach) × (Int) × (Int)) (h : wfArgs [.val true (.pair (.pair (.int .i64) (.row false t1 (.int .i64))) (.pair (.pair (.int .i64) (.row false t1 (.int .i64))) (.pair (.pair (.int .i64) (.row false t1 (.int .i64))) (.int .i64)))), .val false (.int .i64), .val false (.int .i64)] x) : ∃ y, F_l_FnExactSetDigit x = some y ∧ hhead .bool [] y = true :=
  ⟨true, law_SetDigit x.1.1 x.1.2.1 x.1.2.2.1 x.1.2.2.2 (x.2.1) (x.2.2) (maxLen_le (n := x.1.1.2.length) h.1.1.2.1) (maxLen_le (n := x.1.2.1.2.length) h.1.2.1.2.1) (maxLen_le (n := x.1.2.2.1.2.length) h.1.2.2.1.2.1), rfl⟩


theorem rest_zero {b v : Int} (hb : 2 ≤ b) (hv : 0 ≤ v) (n : Nat) : restI b v n = 0 ↔ v ≤ b ^ n - 1 := by
  have h1 := valL_dig hb hv n
  have h2 := valL_lt hb (digL_ok hb hv n)
  have h3 := restI_in hb hv n
  have h4 := valL_nonneg (b := b) (by omega) (digL_ok hb hv n)
  have h5 := pow_nonneg' hb n
  rw [digL_len] at h2
  constructor
  · intro h
    rw [h] at h1
    omega
  · intro h
    rcases Int.lt_or_le 0 (restI b v n) with h' | h'
    · have := Int.mul_le_mul_of_nonneg_left (show 1 ≤ restI b v n by omega) (show 0 ≤ b ^ n by omega)
      omega
    · omega

def setValR (a b c : Reg) (p v : Int) : Mach × Int :=
  cond (validM (a, b, c, p)) (if 0 ≤ v ∧ v ≤ a.1 ^ a.2.length - 1 then (((a.1, digL a.1 v a.2.length), b, c, p), 0) else (zeroM, 2)) (zeroM, 1)

theorem setValR_len (a b c : Reg) (p v : Int) : ((setValR a b c p v).1.1.2.length : Int) ≤ 16 ∧ ((setValR a b c p v).1.2.1.2.length : Int) ≤ 16 ∧ ((setValR a b c p v).1.2.2.1.2.length : Int) ≤ 16 := by
  unfold setValR
  cases h : validM (a, b, c, p) with
  | false => simp
  | true =>
    obtain ⟨q0, q1, q2, q3, _⟩ := machine_parts h
    simp only [cond_t]
    split
    · simp only [digL_len]; omega
    · simp

theorem i_setVal (a b c : Reg) (p v : Int) (h1 : (a.2.length : Int) ≤ 9223372036854775806) (h2 : (b.2.length : Int) ≤ 9223372036854775806) (h3 : (c.2.length : Int) ≤ 9223372036854775806) (hv : v ≤ 9223372036854775807) : F_i_SetValue ((a, (b, (c, p))), v) = some (setValR a b c p v) := by
  unfold F_i_SetValue F_i_Machine_withSetting F_i_Register_width setValR
  simp only [i_validM' a b c p h1 h2 h3, bind_s, ilt_e]
  cases h : validM (a, b, c, p) with
  | false => rfl
  | true =>
    obtain ⟨q0, q1, q2, q3, _⟩ := machine_parts h
    simp only [bnot_t, cond_f, cond_t]
    by_cases h0 : v < 0
    · rw [cond_pos h0, if_neg (by omega)]
    · rw [cond_neg h0]
      have hr := i_registerOf a.1 a.2.length v q0 q1.2 (by omega) hv
      have hz := rest_zero q0.1 (show 0 ≤ v by omega) a.2.length
      simp (disch := omega) only [n2i_e, xlen_e, hr, bind_s, cpM a b c p, bnot_d]
      by_cases hc : v ≤ a.1 ^ a.2.length - 1
      · rw [cond_neg (by simpa using hz.2 hc), if_pos ⟨by omega, hc⟩]
      · rw [cond_pos (by simpa using fun h => hc (hz.1 h)), if_neg (fun h => hc h.2)]

theorem s_setVal (a b c : Reg) (p v : Int) (h1 : (a.2.length : Int) ≤ 9223372036854775806) (h2 : (b.2.length : Int) ≤ 9223372036854775806) (h3 : (c.2.length : Int) ≤ 9223372036854775806) (hv : v ≤ 9223372036854775807) : F_s_SetValue ((a, (b, (c, p))), v) = some (setValR a b c p v) := by
  unfold F_s_SetValue setValR
  simp only [s_validM' a b c p h1 h2 h3, bind_s]
  cases h : validM (a, b, c, p) with
  | false => rfl
  | true =>
    obtain ⟨q0, q1, q2, q3, _, _, _, _, _, hf, _, hle, _⟩ := machine_parts h
    have hf2 := full_mono q0.1 hle hf
    have hN := fullB_le hf2
    have hN1 := pow_nonneg' q0.1 a.2.length
    have hp := s_power a.1 a.2.length q0.1 q0.2 (by omega)
    rw [cap2_le hN] at hp
    simp (disch := omega) only [bnot_t, cond_f, cond_t, n2i_e, xlen_e, hp, bind_s, isub_e, w64, l00In_e, bnot_d]
    by_cases hc : 0 ≤ v ∧ v ≤ a.1 ^ a.2.length - 1
    · have hr := s_new a.1 a.2.length v q0 q1.2 hc.1 hv
      rw [cond_neg (by simpa using hc), if_pos hc, ownM a b c p (by omega) (by omega) (by omega)]
      simp only [bind_s, hr]
    · rw [cond_pos (by simpa using hc), if_neg hc]

theorem law_SetValue' (a b c : Reg) (p v : Int) (h0 : (a.2.length : Int) ≤ 9223372036854775807) (h1 : (b.2.length : Int) ≤ 9223372036854775807) (h2 : (c.2.length : Int) ≤ 9223372036854775807) (hv : v ≤ 9223372036854775807) : F_l_FnExactSetValue ((a, (b, (c, p))), v) = some true := by
  have hb := setValR_len a b c p v
  obtain ⟨hb1, hb2, hb3⟩ := hb
  unfold F_l_FnExactSetValue
  obtain ⟨v0, e0, q0⟩ := sz_M' a b c p 1048576 h0 h1 h2 (by omega) (by omega)
  simp only [e0, bind_s, ilt_e]
  rcases q0 with rfl | ⟨q0, q0'⟩
  · rfl
  rw [cond_neg (by omega)]
  simp (disch := omega) only [bind_s, ilt_e, cond_neg, to_Machine, eq_Machine, mark_M, held_M, decide_true, bnot_t, cond_f, ine_e, not_true_eq_false, decide_false, s_setVal a b c p v, i_setVal a b c p v]

theorem FnExactSetValue_true (x : Mach × Int) (h : wfArgs [.val true (.pair (.pair (.int .i64) (.row false 2 (.int .i64))) (.pair (.pair (.int .i64) (.row false 2 (.int .i64))) (.pair (.pair (.int .i64) (.row false 2 (.int .i64))) (.int .i64)))), .val false (.int .i64)] x) : ∃ y, F_l_FnExactSetValue x = some y ∧ hhead .bool [] y = true :=
  ⟨true, law_SetValue' x.1.1 x.1.2.1 x.1.2.2.1 x.1.2.2.2 x.2 (maxLen_le (n := x.1.1.2.length) h.1.1.2.1) (maxLen_le (n := x.1.2.1.2.length) h.1.2.1.2.1) (maxLen_le (n := x.1.2.2.1.2.length) h.1.2.2.1.2.1) (wf_i64 h.2.1).2, rfl⟩

theorem newM_len (b s r c : Int) : ((newM b s r c).1.1.2.length : Int) ≤ 16 ∧ ((newM b s r c).1.2.1.2.length : Int) ≤ 16 ∧ ((newM b s r c).1.2.2.1.2.length : Int) ≤ 16 := by
  unfold newM
  split
  · cases validM (blankM b s r c)
    · simp
    · simp only [cond_t, blankM, digL_len]; omega
  · simp

theorem law_NewMachine (b s r c : Int) : F_l_FnExactNewMachine (b, (s, (r, c))) = some true := by
  obtain ⟨hb1, hb2, hb3⟩ := newM_len b s r c
  unfold F_l_FnExactNewMachine
  simp (disch := omega) only [bind_s, ilt_e, cond_neg, s_newM, i_newM, eq_Machine, mark_M, held_M, decide_true, bnot_t, cond_f, ine_e, not_true_eq_false, decide_false]

theorem FnExactNewMachine_true (x : Int × Int × Int × Int) (h : wfArgs [.val false (.int .i64), .val false (.int .i64), .val false (.int .i64), .val false (.int .i64)] x) : ∃ y, F_l_FnExactNewMachine x = some y ∧ hhead .bool [] y = true :=
  ⟨true, law_NewMachine x.1 x.2.1 x.2.2.1 x.2.2.2, rfl⟩

/-- an accumulator and the bells, some numbers added -/
def accS (b : Int) (l xs : List Int) : Nat → List Int × List Int
  | 0 => (l, [])
  | i + 1 => (accR b (accS b l xs i).1 (xs.getD i 0), if inN (b ^ l.length) (numV b (accS b l xs i).1 + xs.getD i 0) = true then (accS b l xs i).2 else (accS b l xs i).2 ++ [(i : Int)])

theorem accS_ok {b : Int} {l : List Int} (xs : List Int) (h : accOk (b, l) = true) : ∀ i, accOk (b, (accS b l xs i).1) = true ∧ (accS b l xs i).1.length = l.length ∧ (accS b l xs i).2.length ≤ i
  | 0 => by simp [accS, h]
  | i + 1 => by
    obtain ⟨h1, h2, h3⟩ := accS_ok xs h i
    refine ⟨accR_ok _ h1, by simp only [accS, accR_len, h2], ?_⟩
    simp only [accS]
    split
    · omega
    · simp; omega

def allR (r : Reg) (xs : List Int) : Reg × List Int × Int :=
  cond (accOk r) (cond (xs.all fun x => decide (-1000000000000 ≤ x ∧ x ≤ 1000000000000)) ((r.1, (accS r.1 r.2 xs xs.length).1), (accS r.1 r.2 xs xs.length).2, 0) (zeroR, [], 2)) (zeroR, [], 1)

theorem i_accAll (r : Reg) (xs : List Int) (hl : (r.2.length : Int) ≤ 1048576) (hx : (xs.length : Int) ≤ 1048576) : F_i_AccumulateAll (r, xs) = some (allR r xs) := by
  unfold F_i_AccumulateAll allR
  simp only [acc_size r (by omega), bind_s, acc_size_zero]
  cases h : accOk r with
  | false => rfl
  | true =>
    obtain ⟨b, l, rfl, hb, hl2, hd, hv, hf, _⟩ := acc_parts h
    simp only [Bool.not_true, cond_f, cond_t]
    refine Eq.trans (iter_all2 (good := ((b, (accS b l xs xs.length).1), (accS b l xs xs.length).2, 0)) (bad := (zeroR, [], 2)) xs (fun x => decide (-1000000000000 ≤ x ∧ x ≤ 1000000000000)) (fun i => ((xs.length : Int), (i : Int), xs, b, l, (0 : Int), ([] : List Int))) rfl
      (fun i hi hp' => ?_) (fun i hi hp' => ?_) (fun hall => ?_)) ?_
    · have hg : xs.getD i 0 = xs[i] := getD_lt hi
      have hq : -1000000000000 ≤ xs[i] ∧ xs[i] ≤ 1000000000000 := by simpa using hp'
      simp (disch := omega) only [ilt_e, ile_e, igt_e, ige_e, ieq_e, ine_e, n2i_e, xlen_e, okIx_e, okTo_e, okRoom_e, okDiv_e, okMake_e, xget_e, xset_e, xapp_e, xrep_e, xsub_e, i2n_e, iadd_e, isub_e, imul_e, iquo_e, irem_e, w64, cond_pos, cond_neg, chk_pos, bind_s, cond_t, cond_f, bnot_t, bnot_f, bnot_d, List.length_cons, List.length_nil, List.length_append, List.length_replicate, List.length_set, List.length_map, List.length_range, decide_true, decide_false, not_true_eq_false, not_false_eq_true, map_s, between_e, hg]
      rfl
    · have hg : xs.getD i 0 = xs[i] := getD_lt hi
      have hq : ¬ (-1000000000000 ≤ xs[i] ∧ xs[i] ≤ 1000000000000) := by simpa using hp'
      simp (disch := omega) only [ilt_e, ile_e, igt_e, ige_e, ieq_e, ine_e, n2i_e, xlen_e, okIx_e, okTo_e, okRoom_e, okDiv_e, okMake_e, xget_e, xset_e, xapp_e, xrep_e, xsub_e, i2n_e, iadd_e, isub_e, imul_e, iquo_e, irem_e, w64, cond_pos, cond_neg, chk_pos, bind_s, cond_t, cond_f, bnot_t, bnot_f, bnot_d, List.length_cons, List.length_nil, List.length_append, List.length_replicate, List.length_set, List.length_map, List.length_range, decide_true, decide_false, not_true_eq_false, not_false_eq_true, map_s, between_e, hg]
    · rw [List.all_eq_true] at hall
      simp (disch := omega) only [ilt_e, cond_neg, cpN, bind_s, n2i_e, xlen_e]
      refine Eq.trans (congrArg (Option.map Sum.inr) (iter_run (r := ((b, (accS b l xs xs.length).1), (accS b l xs xs.length).2, 0)) (fun i => ((xs.length : Int), (i : Int), (0 : Int), ([] : List Int), b, (accS b l xs i).1, (accS b l xs i).2, xs)) xs.length (by simp [accS]) (fun i hi => ?_) ?_)) rfl
      · obtain ⟨h1, h2, h3⟩ := accS_ok xs h i
        have hg : xs.getD i 0 = xs[i] := getD_lt hi
        have hq : -1000000000000 ≤ xs.getD i 0 ∧ xs.getD i 0 ≤ 1000000000000 := by rw [hg]; simpa using hall _ (List.getElem_mem hi)
        simp (disch := omega) only [ilt_e, cond_pos, okIx_e, chk_pos, i2n_e, xget_e, xlen_e, i_accumulated b (accS b l xs i).1 (xs.getD i 0) h1, bind_s]
        rw [h2]
        cases hin : inN (b ^ l.length) (numV b (accS b l xs i).1 + xs.getD i 0) with
        | true =>
          simp (disch := omega) only [Bool.not_true, cond_f, iadd_e, w64, accS, hin, if_true]
          rfl
        | false =>
          simp (disch := omega) only [Bool.not_false, cond_t, okRoom_e, chk_pos, iadd_e, w64, accS, hin, xapp_e, List.length_cons, List.length_nil]
          rfl
      · simp (disch := omega) only [ilt_e, cond_neg]
    · cases xs.all fun x => decide (-1000000000000 ≤ x ∧ x ≤ 1000000000000) <;> rfl

theorem s_accAll (r : Reg) (xs : List Int) (hl : (r.2.length : Int) ≤ 1048576) (hx : (xs.length : Int) ≤ 1048576) : F_s_AccumulateAll (r, xs) = some (allR r xs) := by
  unfold F_s_AccumulateAll F_s_l09Most allR
  simp only [acc_ok r (by omega), bind_s]
  cases h : accOk r with
  | false => rfl
  | true =>
    obtain ⟨b, l, rfl, hb, hl2, hd, hv, hf, _⟩ := acc_parts h
    simp only [bnot_t, cond_f, cond_t]
    refine Eq.trans (iter_all2 (good := ((b, (accS b l xs xs.length).1), (accS b l xs xs.length).2, 0)) (bad := (zeroR, [], 2)) xs (fun x => decide (-1000000000000 ≤ x ∧ x ≤ 1000000000000)) (fun i => ((i : Int), xs, b, l, (0 : Int), ([] : List Int))) rfl
      (fun i hi hp' => ?_) (fun i hi hp' => ?_) (fun hall => ?_)) ?_
    · have hg : xs.getD i 0 = xs[i] := getD_lt hi
      have hq : -1000000000000 ≤ xs[i] ∧ xs[i] ≤ 1000000000000 := by simpa using hp'
      simp (disch := omega) only [ilt_e, ile_e, igt_e, ige_e, ieq_e, ine_e, n2i_e, xlen_e, okIx_e, okTo_e, okRoom_e, okDiv_e, okMake_e, xget_e, xset_e, xapp_e, xrep_e, xsub_e, i2n_e, iadd_e, isub_e, imul_e, iquo_e, irem_e, w64, cond_pos, cond_neg, chk_pos, bind_s, cond_t, cond_f, bnot_t, bnot_f, bnot_d, List.length_cons, List.length_nil, List.length_append, List.length_replicate, List.length_set, List.length_map, List.length_range, decide_true, decide_false, not_true_eq_false, not_false_eq_true, map_s, l00In_e, hg]
      rfl
    · have hg : xs.getD i 0 = xs[i] := getD_lt hi
      have hq : ¬ (-1000000000000 ≤ xs[i] ∧ xs[i] ≤ 1000000000000) := by simpa using hp'
      simp (disch := omega) only [ilt_e, ile_e, igt_e, ige_e, ieq_e, ine_e, n2i_e, xlen_e, okIx_e, okTo_e, okRoom_e, okDiv_e, okMake_e, xget_e, xset_e, xapp_e, xrep_e, xsub_e, i2n_e, iadd_e, isub_e, imul_e, iquo_e, irem_e, w64, cond_pos, cond_neg, chk_pos, bind_s, cond_t, cond_f, bnot_t, bnot_f, bnot_d, List.length_cons, List.length_nil, List.length_append, List.length_replicate, List.length_set, List.length_map, List.length_range, decide_true, decide_false, not_true_eq_false, not_false_eq_true, map_s, l00In_e, hg]
    · rw [List.all_eq_true] at hall
      have ho := ownR (b, l) (by simp only; omega)
      simp (disch := omega) only [ilt_e, cond_neg, ho, bind_s, n2i_e, xlen_e]
      refine Eq.trans (congrArg (Option.map Sum.inr) (iter_run (r := ((b, (accS b l xs xs.length).1), (accS b l xs xs.length).2, 0)) (fun i => ((i : Int), xs, (0 : Int), ([] : List Int), b, (accS b l xs i).1, (accS b l xs i).2)) xs.length (by simp [accS]) (fun i hi => ?_) ?_)) rfl
      · obtain ⟨h1, h2, h3⟩ := accS_ok xs h i
        have hg : xs.getD i 0 = xs[i] := getD_lt hi
        have hq : -1000000000000 ≤ xs.getD i 0 ∧ xs.getD i 0 ≤ 1000000000000 := by rw [hg]; simpa using hall _ (List.getElem_mem hi)
        simp (disch := omega) only [ilt_e, cond_pos, okIx_e, chk_pos, i2n_e, xget_e, xlen_e, s_add09 b (accS b l xs i).1 (xs.getD i 0) h1, bind_s]
        rw [h2]
        cases hin : inN (b ^ l.length) (numV b (accS b l xs i).1 + xs.getD i 0) with
        | true =>
          simp (disch := omega) only [Bool.not_true, cond_f, iadd_e, w64, accS, hin, if_true]
          rfl
        | false =>
          simp (disch := omega) only [Bool.not_false, cond_t, okRoom_e, chk_pos, iadd_e, w64, accS, hin, xapp_e, List.length_cons, List.length_nil]
          rfl
      · simp (disch := omega) only [ilt_e, cond_neg]
    · cases xs.all fun x => decide (-1000000000000 ≤ x ∧ x ≤ 1000000000000) <;> rfl

theorem allR_len (r : Reg) (xs : List Int) : ((allR r xs).1.2.length : Int) ≤ 16 ∧ ((allR r xs).2.1.length : Int) ≤ xs.length := by
  unfold allR
  cases h : accOk r with
  | false => simp
  | true =>
    obtain ⟨b, l, rfl, hb, hl2, hd, hv, hf, _⟩ := acc_parts h
    obtain ⟨h1, h2, h3⟩ := accS_ok xs h xs.length
    simp only [cond_t]
    cases xs.all fun x => decide (-1000000000000 ≤ x ∧ x ≤ 1000000000000)
    · simp
    · simp only [cond_t]; omega

theorem law_AccumulateAll (a : Reg) (b : List Int) (h0 : (a.2.length : Int) ≤ 9223372036854775807) (h1 : (b.length : Int) ≤ 9223372036854775807) : F_l_FnExactAccumulateAll (a, b) = some true := by
  have hb := (allR_len a b).1
  have hb2 := (allR_len a b).2
  unfold F_l_FnExactAccumulateAll
  simp only [igt_e, n2i_e, xlen_e]
  by_cases pb : (1048576 : Int) < b.length
  · rw [cond_pos pb]
  rw [cond_neg pb]
  obtain ⟨v0, e0, q0⟩ := sz_R a 1048576 h0 (by omega) (by omega)
  simp only [e0, bind_s, ilt_e]
  rcases q0 with rfl | ⟨q0, q0'⟩
  · rfl
  rw [cond_neg (by omega)]
  simp (disch := omega) only [bind_s, ilt_e, cond_neg, to_Register, to_Machine, to_Int64S, eq_Register, eq_Machine, eq_Int64S, mark_Register, mark_M, mark_Int64S, held_Register, held_M, held_Int64S, decide_true, bnot_t, cond_f, ine_e, not_true_eq_false, decide_false, bnev_s, s_accAll, i_accAll]

theorem FnExactAccumulateAll_true {t1 : TypeId} (x : (Reg) × (List Int)) (h : wfArgs [.val true (.pair (.int .i64) (.row false t1 (.int .i64))), .val false (.row false t1 (.int .i64))] x) : ∃ y, F_l_FnExactAccumulateAll x = some y ∧ hhead .bool [] y = true :=
  ⟨true, law_AccumulateAll (x.1) (x.2) (maxLen_le (n := (x.1).2.length) h.1.2.1) (maxLen_le (n := List.length (x.2)) h.2.1.1), rfl⟩


end Go.Prg
