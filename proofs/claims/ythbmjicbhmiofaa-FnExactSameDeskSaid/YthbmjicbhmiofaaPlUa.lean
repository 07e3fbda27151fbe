/- Plain laws, part Ua: the desk at the beginning, desks compared, the inputs one by one. Conditions: none. -/
import Derived.Test.YthbmjicbhmiofaaPlU
import Derived.Test.YthbmjicbhmiofaaPlS
set_option linter.all false
namespace Go.Prg
open Go.Eng

theorem eq_F0 : F_l_eqLeverFaultS (([] : List (Int × Int)), ([] : List (Int × Int))) = some true := by
  unfold F_l_eqLeverFaultS
  exact iter_end rfl
theorem mark_F0 (k : Int) : F_l_markLeverFaultS (([] : List (Int × Int)), k) = some (k, ([] : List (Int × Int))) := by
  unfold F_l_markLeverFaultS
  exact iter_end rfl
theorem held_F0 (k : Int) : F_l_heldLeverFaultS (([] : List (Int × Int)), k) = some k := by
  unfold F_l_heldLeverFaultS
  exact iter_end rfl
theorem sne_s (a : ByteArray) : sne a a = false := by simp [sne]

theorem newM_desk : newM 10 3 6 4 = (blankM 10 3 6 4, 0) := by
  unfold newM
  rw [if_pos (by omega), show validM (blankM 10 3 6 4) = true from by decide +kernel]
  rfl

theorem law_NewDesk : F_l_FnExactNewDesk () = some true := by
  have e1 : F_s_NewDesk () = some (blankM 10 3 6 4, ([], ByteArray.mk #[])) := by
    unfold F_s_NewDesk F_s_l28New
    rw [s_blank 10 3 6 4 (by omega) (by omega) (by omega) (by omega)]
    rfl
  have e2 : F_i_NewDesk () = some (blankM 10 3 6 4, ([], ByteArray.mk #[])) := by
    unfold F_i_NewDesk
    rw [i_newM, newM_desk]
    rfl
  unfold F_l_FnExactNewDesk F_l_eqDesk F_l_markDesk F_l_heldDesk blankM at *
  simp only [e1, e2, bind_s]
  simp (disch := (first | omega | (simp only [digL_len]; omega))) only [eq_Machine, eq_F0, bind_s, decide_true, bnot_t, cond_f, sne_s, mark_M, mark_F0, digL_len, held_M, held_F0, ilt_e, ine_e, not_true_eq_false, decide_false]
  rfl

theorem FnExactNewDesk_true (x : Unit) (h : wfArgs [] x) : ∃ y, F_l_FnExactNewDesk x = some y ∧ hhead .bool [] y = true :=
  ⟨true, law_NewDesk, rfl⟩

/- inputs -/
def inputR (b s r c n : Int) : Mach × Int :=
  if (inputsC b s r c).2 = 0 then if 0 ≤ n ∧ n ≤ b ^ s.toNat * b ^ r.toNat - 1 then (((b, digL b (n.tdiv (b ^ r.toNat)) s.toNat), (b, digL b (n.tmod (b ^ r.toNat)) r.toNat), (b, digL b 0 c.toNat), 0), 0) else (zeroM, 3) else (zeroM, (inputsC b s r c).2)

theorem inputR_len (b s r c n : Int) : ((inputR b s r c n).1.1.2.length : Int) ≤ 16 ∧ ((inputR b s r c n).1.2.1.2.length : Int) ≤ 16 ∧ ((inputR b s r c n).1.2.2.1.2.length : Int) ≤ 16 := by
  unfold inputR
  split
  · rename_i h
    obtain ⟨h1, h2, _⟩ := inputsC_ok h
    obtain ⟨hr, _⟩ := newM_ok h1
    split
    · simp only [digL_len]; omega
    · simp
  · simp

theorem i_inputAt (b s r c n : Int) : F_i_InputAt (b, (s, (r, (c, n)))) = some (inputR b s r c n) := by
  unfold F_i_InputAt inputR
  rw [i_inputs]
  simp only [bind_s]
  by_cases h : (inputsC b s r c).2 = 0
  · obtain ⟨h1, h2, h3⟩ := inputsC_ok h
    obtain ⟨hr, hv, hn⟩ := newM_ok h1
    obtain ⟨hsr, hf1, hf2⟩ := blank_facts hr hv
    have p1 := pow_nonneg' hr.1.1 s.toNat
    have p2 := pow_nonneg' hr.1.1 r.toNat
    have lp := le_prod p1 p2
    rw [if_pos h, if_pos h, h3]
    simp (disch := omega) only [ine_e, not_true_eq_false, decide_false, cond_f, isub_e, w64, between_e, bind_s, bnot_d]
    by_cases hc : 0 ≤ n ∧ n ≤ b ^ s.toNat * b ^ r.toNat - 1
    · rw [cond_neg (by simpa using hc), if_pos hc]
      have hd : 0 ≤ n.tdiv (b ^ r.toNat) ∧ n.tdiv (b ^ r.toNat) ≤ n := by
        rw [Int.tdiv_eq_ediv_of_nonneg hc.1]
        have a1 := Int.ediv_nonneg (a := n) (b := b ^ r.toNat) hc.1 (by omega)
        have a2 := Int.ediv_le_self (b ^ r.toNat) hc.1
        omega
      have hm : 0 ≤ n.tmod (b ^ r.toNat) ∧ n.tmod (b ^ r.toNat) < b ^ r.toNat := by
        rw [Int.tmod_eq_emod_of_nonneg hc.1]
        exact ⟨Int.emod_nonneg n (by omega), Int.emod_lt_of_pos n (by omega)⟩
      have ls := digL_len b 0 s.toNat
      have lr := digL_len b 0 r.toNat
      have lc := digL_len b 0 c.toNat
      have ev : F_i_Register_values (b, digL b 0 r.toNat) = some (b ^ r.toNat) := by
        unfold F_i_Register_values F_i_Register_width
        simp only [bind_s, n2i_e, xlen_e, digL_len]
        rw [i_power b r.toNat hr.1.1 hr.1.2 (by omega), powC_full hf1]
        rfl
      have ec := cpM (b, digL b 0 s.toNat) (b, digL b 0 r.toNat) (b, digL b 0 c.toNat) 0 (by simp only; omega) (by simp only; omega) (by simp only; omega)
      have w1 := i_withValue b (digL b 0 s.toNat) (n.tdiv (b ^ r.toNat)) hr.1 (by omega) (by omega) (by omega)
      have w2 := i_withValue b (digL b 0 r.toNat) (n.tmod (b ^ r.toNat)) hr.1 (by omega) (by omega) (by omega)
      rw [ls] at w1
      rw [lr] at w2
      unfold F_i_inputs_at blankM
      simp (disch := omega) only [ev, bind_s, ec, okDiv_e, chk_pos, iquo_e, irem_e, w64, w1, w2]
    · rw [cond_pos hc, if_neg hc]
  · rw [if_neg h, if_neg h]
    simp only [ine_e]
    rw [cond_pos h]

theorem s_inputAt (b s r c n : Int) : F_s_InputAt (b, (s, (r, (c, n)))) = some (inputR b s r c n) := by
  unfold F_s_InputAt inputR
  simp only [s_size14, bind_s, ine_e]
  by_cases h : (inputsC b s r c).2 = 0
  · obtain ⟨h1, h2, h3⟩ := inputsC_ok h
    obtain ⟨hr, hv, hn⟩ := newM_ok h1
    obtain ⟨e1, e2, _, _⟩ := s_pow_of h1
    have p1 := pow_nonneg' hr.1.1 s.toNat
    have p2 := pow_nonneg' hr.1.1 r.toNat
    have lp := le_prod p1 p2
    rw [if_pos h, cond_neg (by simpa using h)]
    simp (disch := omega) only [e1, e2, bind_s, imul_e, isub_e, w64, l00In_e, bnot_d]
    by_cases hc : 0 ≤ n ∧ n ≤ b ^ s.toNat * b ^ r.toNat - 1
    · rw [cond_neg (by simpa using hc), if_pos hc]
      have hd : 0 ≤ n.tdiv (b ^ r.toNat) ∧ n.tdiv (b ^ r.toNat) ≤ n := by
        rw [Int.tdiv_eq_ediv_of_nonneg hc.1]
        have a1 := Int.ediv_nonneg (a := n) (b := b ^ r.toNat) hc.1 (by omega)
        have a2 := Int.ediv_le_self (b ^ r.toNat) hc.1
        omega
      have hm : 0 ≤ n.tmod (b ^ r.toNat) ∧ n.tmod (b ^ r.toNat) < b ^ r.toNat := by
        rw [Int.tmod_eq_emod_of_nonneg hc.1]
        exact ⟨Int.emod_nonneg n (by omega), Int.emod_lt_of_pos n (by omega)⟩
      have eb := s_blank b s r c hr.1 hr.2.1 hr.2.2.1 hr.2.2.2
      have n1 := s_new b s.toNat (n.tdiv (b ^ r.toNat)) hr.1 (by omega) (by omega) (by omega)
      have n2 := s_new b r.toNat (n.tmod (b ^ r.toNat)) hr.1 (by omega) (by omega) (by omega)
      rw [show ((s.toNat : Nat) : Int) = s by omega] at n1
      rw [show ((r.toNat : Nat) : Int) = r by omega] at n2
      unfold F_s_l14At
      simp (disch := omega) only [eb, bind_s, e2, okDiv_e, chk_pos, iquo_e, irem_e, w64, n1, n2]
      rfl
    · rw [cond_pos hc, if_neg hc]
  · rw [if_neg h, cond_pos h]

theorem law_InputAt (b s r c n : Int) : F_l_FnExactInputAt (b, (s, (r, (c, n)))) = some true := by
  obtain ⟨hb1, hb2, hb3⟩ := inputR_len b s r c n
  unfold F_l_FnExactInputAt
  simp (disch := omega) only [bind_s, ilt_e, cond_neg, s_inputAt, i_inputAt, eq_Machine, mark_M, held_M, decide_true, bnot_t, cond_f, ine_e, not_true_eq_false, decide_false]

theorem FnExactInputAt_true (x : Int × Int × Int × Int × Int) (h : wfArgs [.val false (.int .i64), .val false (.int .i64), .val false (.int .i64), .val false (.int .i64), .val false (.int .i64)] x) : ∃ y, F_l_FnExactInputAt x = some y ∧ hhead .bool [] y = true :=
  ⟨true, law_InputAt x.1 x.2.1 x.2.2.1 x.2.2.2.1 x.2.2.2.2, rfl⟩

end Go.Prg
