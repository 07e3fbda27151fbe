/- Plain laws, part M: registers and machines measured, moved to and fro; the law of valid machines. Conditions: none. -/
import Derived.Test.YtbhkcidnnmpfmaaPlL
set_option linter.all false
namespace Go.Prg
open Go.Eng

theorem sz_R (r : Reg) (n : Int) (h : (r.2.length : Int) ≤ 9223372036854775807) (hn : 0 ≤ n) (hn' : n ≤ 1048576) : ∃ v, F_l_szRegister (r, n) = some v ∧ (v = -1 ∨ 0 ≤ v ∧ v + r.2.length = n) := by
  unfold F_l_szRegister
  rw [sz_Int64S r.2 n h hn hn']
  simp only [bind_s, ilt_e]
  by_cases hs : n - r.2.length < 0
  · exact ⟨-1, by simp [hs], .inl rfl⟩
  · exact ⟨n - r.2.length, by simp [hs], .inr ⟨by omega, by omega⟩⟩

theorem sz_M (m : Mach) (n : Int) (h1 : (m.1.2.length : Int) ≤ 9223372036854775807) (h2 : (m.2.1.2.length : Int) ≤ 9223372036854775807) (h3 : (m.2.2.1.2.length : Int) ≤ 9223372036854775807) (hn : 0 ≤ n) (hn' : n ≤ 1048576) :
    ∃ v, F_l_szMachine (m, n) = some v ∧ (v = -1 ∨ 0 ≤ v ∧ v + m.1.2.length + m.2.1.2.length + m.2.2.1.2.length = n) := by
  unfold F_l_szMachine
  obtain ⟨v1, e1, q1⟩ := sz_R m.1 n h1 hn hn'
  simp only [e1, bind_s, ilt_e]
  rcases q1 with rfl | ⟨q1, q1'⟩
  · exact ⟨-1, rfl, .inl rfl⟩
  obtain ⟨v2, e2, q2⟩ := sz_R m.2.1 v1 h2 (by omega) (by omega)
  rw [cond_neg (by omega)]
  simp only [e2, bind_s, ilt_e]
  rcases q2 with rfl | ⟨q2, q2'⟩
  · exact ⟨-1, rfl, .inl rfl⟩
  obtain ⟨v3, e3, q3⟩ := sz_R m.2.2.1 v2 h3 (by omega) (by omega)
  rw [cond_neg (by omega)]
  simp only [e3, bind_s, ilt_e]
  rcases q3 with rfl | ⟨q3, q3'⟩
  · exact ⟨-1, rfl, .inl rfl⟩
  rw [cond_neg (by omega)]
  exact ⟨v3, rfl, .inr ⟨q3, by omega⟩⟩

theorem to_Machine (a b c : Reg) (p : Int) (h1 : (a.2.length : Int) ≤ 1048576) (h2 : (b.2.length : Int) ≤ 1048576) (h3 : (c.2.length : Int) ≤ 1048576) : F_l_toMachine (a, (b, (c, p))) = some (a, (b, (c, p))) := by
  unfold F_l_toMachine
  simp (disch := omega) only [to_Register, bind_s]

theorem eq_Machine (a b c : Reg) (p : Int) (a' b' c' : Reg) (p' : Int) (h1 : (a.2.length : Int) ≤ 1048576) (h2 : (b.2.length : Int) ≤ 1048576) (h3 : (c.2.length : Int) ≤ 1048576) (h1' : (a'.2.length : Int) ≤ 1048576) (h2' : (b'.2.length : Int) ≤ 1048576) (h3' : (c'.2.length : Int) ≤ 1048576) :
    F_l_eqMachine ((a, (b, (c, p))), (a', (b', (c', p')))) = some (decide ((a, (b, (c, p))) = (a', (b', (c', p'))))) := by
  unfold F_l_eqMachine
  simp (disch := omega) only [eq_Register, bind_s, bnot_d, ine_e]
  by_cases e1 : a = a'
  · by_cases e2 : b = b'
    · by_cases e3 : c = c'
      · by_cases e4 : p = p'
        · simp [e1, e2, e3, e4]
        · simp [e1, e2, e3, e4]
      · simp [e1, e2, e3]
    · simp [e1, e2]
  · simp [e1]

theorem i_validM' (a b c : Reg) (p : Int) (h1 : (a.2.length : Int) ≤ 9223372036854775806) (h2 : (b.2.length : Int) ≤ 9223372036854775806) (h3 : (c.2.length : Int) ≤ 9223372036854775806) : F_i_ValidMachine (a, (b, (c, p))) = some (validM (a, b, c, p)) := i_validM (a, b, c, p) h1 h2 h3
theorem s_validM' (a b c : Reg) (p : Int) (h1 : (a.2.length : Int) ≤ 9223372036854775806) (h2 : (b.2.length : Int) ≤ 9223372036854775806) (h3 : (c.2.length : Int) ≤ 9223372036854775806) : F_s_l10Ok (a, (b, (c, p))) = some (validM (a, b, c, p)) := s_validM (a, b, c, p) h1 h2 h3

theorem law_ValidMachine (m : Mach) (h1 : (m.1.2.length : Int) ≤ 9223372036854775807) (h2 : (m.2.1.2.length : Int) ≤ 9223372036854775807) (h3 : (m.2.2.1.2.length : Int) ≤ 9223372036854775807) : F_l_FnExactValidMachine m = some true := by
  obtain ⟨a, b, c, p⟩ := m
  simp only at h1 h2 h3
  unfold F_l_FnExactValidMachine
  obtain ⟨v, e, h⟩ := sz_M (a, b, c, p) 1048576 h1 h2 h3 (by omega) (by omega)
  simp only [e, bind_s, ilt_e]
  rcases h with rfl | ⟨q, q'⟩
  · rfl
  simp only at q'
  rw [cond_neg (by omega)]
  unfold F_s_ValidMachine
  simp (disch := omega) only [to_Machine, bind_s, s_validM', i_validM', bnev_s, cond_f, eq_Machine, decide_true, bnot_t]

theorem FnExactValidMachine_true (x : Mach) (h : wfArgs [.val true (.pair (.pair (.int .i64) (.row false 2 (.int .i64))) (.pair (.pair (.int .i64) (.row false 2 (.int .i64))) (.pair (.pair (.int .i64) (.row false 2 (.int .i64))) (.int .i64))))] x) : ∃ y, F_l_FnExactValidMachine x = some y ∧ hhead .bool [] y = true :=
  ⟨true, law_ValidMachine x (maxLen_le (n := x.1.2.length) h.1.1.2.1) (maxLen_le (n := x.2.1.2.length) h.1.2.1.2.1) (maxLen_le (n := x.2.2.1.2.length) h.1.2.2.1.2.1), rfl⟩

end Go.Prg
