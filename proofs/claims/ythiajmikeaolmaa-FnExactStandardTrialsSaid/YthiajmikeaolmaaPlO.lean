/- Plain laws, part O: registers added and subtracted. Conditions: none. -/
import Derived.Test.YthiajmikeaolmaaPlN
set_option linter.all false
namespace Go.Prg
open Go.Eng

theorem sz_L (l : List Int) (n : Int) (h : (l.length : Int) ≤ 9223372036854775807) (hn : 0 ≤ n) (hn' : n ≤ 1048576) : ∃ v, F_l_szInt64S (l, n) = some v ∧ (v = -1 ∨ 0 ≤ v ∧ v + l.length = n) := by
  rw [sz_Int64S l n h hn hn']
  by_cases hs : n - l.length < 0
  · exact ⟨-1, by simp [hs], .inl rfl⟩
  · exact ⟨n - l.length, by simp [hs], .inr ⟨by omega, by omega⟩⟩

abbrev zeroR : Reg := (0, [])

/-- a register and a number, if the register is valid -/
def wholeR (r : Reg) (n : Int) : Reg × Int × Int := cond (validR r) (r, n, 0) (zeroR, 0, 5)

theorem i_whole (r : Reg) (n : Int) (h : (r.2.length : Int) ≤ 9223372036854775807) : F_i_whole (r, n) = some (wholeR r n) := by
  unfold F_i_whole wholeR
  simp only [i_validR r h, bind_s]
  cases validR r <;> rfl

theorem i_whole' (b : Int) (l : List Int) (n : Int) (h : (l.length : Int) ≤ 9223372036854775806) : F_i_whole ((b, l), n) = some (wholeR (b, l) n) := i_whole (b, l) n (by simp only; omega)
theorem i_validR' (b : Int) (l : List Int) (h : (l.length : Int) ≤ 9223372036854775806) : F_i_ValidRegister (b, l) = some (validR (b, l)) := i_validR (b, l) (by simp only; omega)
theorem s_validR' (b : Int) (l : List Int) (h : (l.length : Int) ≤ 9223372036854775806) : F_s_l02Ok (b, l) = some (validR (b, l)) := s_validR (b, l) h

theorem wholeR_len (r : Reg) (n : Int) : ((wholeR r n).1.2.length : Int) ≤ 16 := by
  unfold wholeR
  cases h : validR r with
  | true => have := (validR_all h).2.1; simp only [cond_t]; omega
  | false => simp

theorem s_add02 (b : Int) (l m : List Int) (hb : 2 ≤ b ∧ b ≤ 16) (hl : digitsOk b l) (hm : digitsOk b m) (he : l.length = m.length) (hn : l.length ≤ 16) : F_s_l02Add ((b, l), (b, m)) = some ((b, sumL b l m l.length), carr b l m l.length) := by
  unfold F_s_l02Add
  rw [s_carries b l m hb hl hm he hn]
  simp only [bind_s]
  refine iter_run (fun i => ((i : Int), [(b, l)], [(b, m)], (0 : Int), ([] : List Int), carrL b l m l.length, b, sumL b l m i)) l.length (by simp [sumL]) (fun i hi => ?_) ?_
  · have hc := carr_in hb.1 hl hm he i (by omega)
    have h1 := getD_all (p := fun d => 0 ≤ d ∧ d ≤ b - 1) hl (i := i) (by omega)
    have h2 := getD_all (p := fun d => 0 ≤ d ∧ d ≤ b - 1) hm (i := i) (by omega)
    have l1 := carrL_len b l m l.length
    have l2 := sumL_len b l m i
    have g1 : (carrL b l m l.length).getD i 0 = carr b l m i := by simp [carrL, List.getD_eq_getElem?_getD, show i < l.length + 1 by omega]
    simp (disch := omega) only [xget0, ilt_e, ile_e, igt_e, ige_e, ieq_e, ine_e, n2i_e, xlen_e, okIx_e, okTo_e, okRoom_e, okDiv_e, okMake_e, xget_e, xset_e, xapp_e, xrep_e, xsub_e, i2n_e, iadd_e, isub_e, imul_e, iquo_e, irem_e, w64, cond_pos, cond_neg, chk_pos, bind_s, cond_t, cond_f, bnot_t, bnot_f, bnot_d, List.length_cons, List.length_nil, List.length_append, List.length_replicate, List.length_set, List.length_map, List.length_range, decide_true, decide_false, not_true_eq_false, not_false_eq_true, map_s, l1, l2, g1, sumL_succ]
    rfl
  · have l1 := carrL_len b l m l.length
    have g1 := carrL_get b l m l.length
    simp (disch := omega) only [xget0, ilt_e, ile_e, igt_e, ige_e, ieq_e, ine_e, n2i_e, xlen_e, okIx_e, okTo_e, okRoom_e, okDiv_e, okMake_e, xget_e, xset_e, xapp_e, xrep_e, xsub_e, i2n_e, iadd_e, isub_e, imul_e, iquo_e, irem_e, w64, cond_pos, cond_neg, chk_pos, bind_s, cond_t, cond_f, bnot_t, bnot_f, bnot_d, List.length_cons, List.length_nil, List.length_append, List.length_replicate, List.length_set, List.length_map, List.length_range, decide_true, decide_false, not_true_eq_false, not_false_eq_true, map_s, l1, g1]

/-- the sum of two registers -/
def addR (a b : Reg) : Reg × Int × Int := if pairC a b = 0 then wholeR (a.1, sumL a.1 a.2 b.2 a.2.length) (carr a.1 a.2 b.2 a.2.length) else (zeroR, 0, pairC a b)

theorem addR_len (a b : Reg) : ((addR a b).1.2.length : Int) ≤ 16 := by
  unfold addR
  split
  · exact wholeR_len _ _
  · simp

/-- two registers of one form, taken apart -/
theorem pair_parts {a b : Reg} (h : pairC a b = 0) : ∃ (w : Int) (l m : List Int), a = (w, l) ∧ b = (w, m) ∧ (2 ≤ w ∧ w ≤ 16) ∧ (1 ≤ l.length ∧ l.length ≤ 16) ∧ l.length = m.length ∧ digitsOk w l ∧ digitsOk w m := by
  obtain ⟨h1, h2, h3, h4⟩ := pair_all h
  obtain ⟨w, l⟩ := a
  obtain ⟨w', m⟩ := b
  simp only at h3 h4
  subst h3
  obtain ⟨q1, q2, q3, _⟩ := validR_all h1
  obtain ⟨_, _, q4, _⟩ := validR_all h2
  exact ⟨w, l, m, rfl, rfl, q1, q2, h4, q3, q4⟩

theorem i_addRegisters (a b : Reg) (ha : (a.2.length : Int) ≤ 9223372036854775806) (hb : (b.2.length : Int) ≤ 9223372036854775806) : F_i_AddRegisters (a, b) = some (addR a b) := by
  unfold F_i_AddRegisters F_i_Register_width
  simp only [i_pair a b ha hb, bind_s, ine_e, addR]
  by_cases h : pairC a b = 0
  · obtain ⟨w, l, m, rfl, rfl, hw, hl, he, hdl, hdm⟩ := pair_parts h
    have l1 := carrL_len w l m l.length
    have l2 := sumL_len w l m l.length
    have g1 := carrL_get w l m l.length
    simp (disch := omega) only [h, if_true, ilt_e, ile_e, igt_e, ige_e, ieq_e, ine_e, n2i_e, xlen_e, okIx_e, okTo_e, okRoom_e, okDiv_e, okMake_e, xget_e, xset_e, xapp_e, xrep_e, xsub_e, i2n_e, iadd_e, isub_e, imul_e, iquo_e, irem_e, w64, cond_pos, cond_neg, chk_pos, bind_s, cond_t, cond_f, bnot_t, bnot_f, bnot_d, List.length_cons, List.length_nil, List.length_append, List.length_replicate, List.length_set, List.length_map, List.length_range, decide_true, decide_false, not_true_eq_false, not_false_eq_true, map_s, i_added w l m hw hdl hdm he hl.2, l1, g1, i_whole', l2]
  · rw [if_neg h, cond_pos h]

theorem s_addRegisters (a b : Reg) (ha : (a.2.length : Int) ≤ 9223372036854775806) (hb : (b.2.length : Int) ≤ 9223372036854775806) : F_s_AddRegisters (a, b) = some (addR a b) := by
  unfold F_s_AddRegisters
  simp only [s_pair a b ha hb, bind_s, ine_e, addR]
  by_cases h : pairC a b = 0
  · obtain ⟨w, l, m, rfl, rfl, hw, hl, he, hdl, hdm⟩ := pair_parts h
    have l2 := sumL_len w l m l.length
    simp (disch := omega) only [h, if_true, ilt_e, ile_e, igt_e, ige_e, ieq_e, ine_e, n2i_e, xlen_e, okIx_e, okTo_e, okRoom_e, okDiv_e, okMake_e, xget_e, xset_e, xapp_e, xrep_e, xsub_e, i2n_e, iadd_e, isub_e, imul_e, iquo_e, irem_e, w64, cond_pos, cond_neg, chk_pos, bind_s, cond_t, cond_f, bnot_t, bnot_f, bnot_d, List.length_cons, List.length_nil, List.length_append, List.length_replicate, List.length_set, List.length_map, List.length_range, decide_true, decide_false, not_true_eq_false, not_false_eq_true, map_s, s_add02 w l m hw hdl hdm he hl.2, s_validR', l2, wholeR]
    cases validR (w, sumL w l m l.length) <;> rfl
  · rw [if_neg h, cond_pos h]

/-- the borrow into place i -/
def brw (l m : List Int) : Nat → Int
  | 0 => 0
  | i + 1 => if l.getD i 0 - m.getD i 0 - brw l m i < 0 then 1 else 0

def subL (b : Int) (l m : List Int) (n : Nat) : List Int := (List.range n).map fun i => if l.getD i 0 - m.getD i 0 - brw l m i < 0 then l.getD i 0 - m.getD i 0 - brw l m i + b else l.getD i 0 - m.getD i 0 - brw l m i

theorem brw_in (l m : List Int) : ∀ i, 0 ≤ brw l m i ∧ brw l m i ≤ 1
  | 0 => by simp [brw]
  | i + 1 => by simp only [brw]; split <;> omega
theorem subL_len (b : Int) (l m : List Int) (n : Nat) : (subL b l m n).length = n := by simp [subL]
theorem subL_succ (b : Int) (l m : List Int) (n : Nat) : subL b l m (n + 1) = subL b l m n ++ [if l.getD n 0 - m.getD n 0 - brw l m n < 0 then l.getD n 0 - m.getD n 0 - brw l m n + b else l.getD n 0 - m.getD n 0 - brw l m n] := by
  simp only [subL]
  rw [List.range_succ, List.map_append]
  rfl

def subR (a b : Reg) : Reg × Int × Int := if pairC a b = 0 then wholeR (a.1, subL a.1 a.2 b.2 a.2.length) (brw a.2 b.2 a.2.length) else (zeroR, 0, pairC a b)

theorem subR_len (a b : Reg) : ((subR a b).1.2.length : Int) ≤ 16 := by
  unfold subR
  split
  · exact wholeR_len _ _
  · simp

end Go.Prg
