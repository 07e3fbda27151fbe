/- Plain laws, part M: registers and machines measured, moved to and fro; the law of valid machines. Conditions: none. -/
import Derived.Test.YtjkaapoklbhokaaPlL
set_option linter.all false
namespace Go.Prg
open Go.Eng

theorem sz_R (r : Reg) (n : Int) (h : (r.2.length : Int) ≤ 9223372036854775807) (hn : 0 ≤ n) (hn' : n ≤ 1048576) : ∃ v, F_l_szRegister (r, n) = some v ∧ (v = -1 ∨ 0 ≤ v ∧ v + r.2.length = n) := by
  unfold F_l_szRegister
  rw [sz_Int64S r.2 n h hn hn']
  simp only [bind_s, ilt_e]
  by_cases hs : n - r.2.length < 0
  · exact ⟨-1, by simp [hs], .inl rfl⟩
  · exact ⟨n - r.2.length, by simp [hs], .inr ⟨by omega, by omega⟩⟩

theorem sz_M (m : Mach) (n : Int) (h1 : (m.1.2.length : Int) ≤ 9223372036854775807) (h2 : (m.2.1.2.length : Int) ≤ 9223372036854775807) (h3 : (m.2.2.1.2.length : Int) ≤ 9223372036854775807) (hn : 0 ≤ n) (hn' : n ≤ 1048576) :
    ∃ v, F_l_szMachine (m, n) = some v ∧ (v = -1 ∨ 0 ≤ v ∧ v + m.1.2.length + m.2.1.2.length + m.2.2.1.2.length = n) := by
  unfold F_l_szMachine
  obtain ⟨v1, e1, q1⟩ := sz_R m.1 n h1 hn hn'
  simp only [e1, bind_s, ilt_e]
  rcases q1 with rfl | ⟨q1, q1'⟩
  · exact ⟨-1, rfl, .inl rfl⟩
  obtain ⟨v2, e2, q2⟩ := sz_R m.2.1 v1 h2 (by omega) (by omega)
  rw [cond_neg (by omega)]
  simp only [e2, bind_s, ilt_e]
  rcases q2 with rfl | ⟨q2, q2'⟩
  · exact ⟨-1, rfl, .inl rfl⟩
  obtain ⟨v3, e3, q3⟩ := sz_R m.2.2.1 v2 h3 (by omega) (by omega)
  rw [cond_neg (by omega)]
  simp only [e3, bind_s, ilt_e]
  rcases q3 with rfl | ⟨q3, q3'⟩
  · exact ⟨-1, rfl, .inl rfl⟩
  rw [cond_neg (by omega)]
  exact ⟨v3, rfl, .inr ⟨q3, by omega⟩⟩

theorem to_Machine (a b c : Reg) (p : Int) (h1 : (a.2.length : Int) ≤ 1048576) (h2 : (b.2.length : Int) ≤ 1048576) (h3 : (c.2.length : Int) ≤ 1048576) : F_l_toMachine (a, (b, (c, p))) = some (a, (b, (c, p))) := by
  unfold F_l_toMachine
  simp (disch := omega) only [to_Register, bind_s]

theorem eq_Machine (a b c : Reg) (p : Int) (a' b' c' : Reg) (p' : Int) (h1 : (a.2.length : Int) ≤ 1048576) (h2 : (b.2.length : Int) ≤ 1048576) (h3 : (c.2.length : Int) ≤ 1048576) (h1' : (a'.2.length : Int) ≤ 1048576) (h2' : (b'.2.length : Int) ≤ 1048576) (h3' : (c'.2.length : Int) ≤ 1048576) :
    F_l_eqMachine ((a, (b, (c, p))), (a', (b', (c', p')))) = some (decide ((a, (b, (c, p))) = (a', (b', (c', p'))))) := by
  unfold F_l_eqMachine
  simp (disch := omega) only [eq_Register, bind_s, bnot_d, ine_e]
  by_cases e1 : a = a'
  · by_cases e2 : b = b'
    · by_cases e3 : c = c'
      · by_cases e4 : p = p'
        · simp [e1, e2, e3, e4]
        · simp [e1, e2, e3, e4]
      · simp [e1, e2, e3]
    · simp [e1, e2]
  · simp [e1]

theorem mark_M (a b c : Reg) (p : Int) (k : Int) (h1 : (a.2.length : Int) ≤ 1048576) (h2 : (b.2.length : Int) ≤ 1048576) (h3 : (c.2.length : Int) ≤ 1048576) (hk : 0 ≤ k) (hk' : k ≤ 3000000000000000000) :
    F_l_markMachine ((a, (b, (c, p))), k) = some (k + a.2.length + b.2.length + c.2.length, ((a.1, count k a.2.length), ((b.1, count (k + a.2.length) b.2.length), ((c.1, count (k + a.2.length + b.2.length) c.2.length), p)))) := by
  unfold F_l_markMachine
  simp (disch := omega) only [mark_Register, bind_s]

theorem held_M (a b c p : Int) (n1 n2 n3 : Nat) (k : Int) (h1 : (n1 : Int) ≤ 1048576) (h2 : (n2 : Int) ≤ 1048576) (h3 : (n3 : Int) ≤ 1048576) (hk : 0 ≤ k) (hk' : k ≤ 3000000000000000000) :
    F_l_heldMachine (((a, count k n1), ((b, count (k + n1) n2), ((c, count (k + n1 + n2) n3), p))), k) = some (k + n1 + n2 + n3) := by
  unfold F_l_heldMachine
  simp (disch := omega) only [held_Register, bind_s, ilt_e, cond_neg]

theorem i_validM' (a b c : Reg) (p : Int) (h1 : (a.2.length : Int) ≤ 9223372036854775806) (h2 : (b.2.length : Int) ≤ 9223372036854775806) (h3 : (c.2.length : Int) ≤ 9223372036854775806) : F_i_ValidMachine (a, (b, (c, p))) = some (validM (a, b, c, p)) := i_validM (a, b, c, p) h1 h2 h3
theorem s_validM' (a b c : Reg) (p : Int) (h1 : (a.2.length : Int) ≤ 9223372036854775806) (h2 : (b.2.length : Int) ≤ 9223372036854775806) (h3 : (c.2.length : Int) ≤ 9223372036854775806) : F_s_l10Ok (a, (b, (c, p))) = some (validM (a, b, c, p)) := s_validM (a, b, c, p) h1 h2 h3

end Go.Prg
