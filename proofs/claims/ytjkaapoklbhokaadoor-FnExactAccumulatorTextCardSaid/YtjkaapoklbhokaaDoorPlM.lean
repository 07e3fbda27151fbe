/- Plain laws, part M: registers and machines measured, moved to and fro; the law of valid machines. Conditions: none. -/
import Derived.Test.YtjkaapoklbhokaaDoorPlL
set_option linter.all false
namespace Go.Prg
open Go.Eng

theorem sz_R (r : Reg) (n : Int) (h : (r.2.length : Int) ≤ 9223372036854775807) (hn : 0 ≤ n) (hn' : n ≤ 1048576) : ∃ v, F_l_szRegister (r, n) = some v ∧ (v = -1 ∨ 0 ≤ v ∧ v + r.2.length = n) := by
  unfold F_l_szRegister
  rw [sz_Int64S r.2 n h hn hn']
  simp only [bind_s, ilt_e]
  by_cases hs : n - r.2.length < 0
  · exact ⟨-1, by simp [hs], .inl rfl⟩
  · exact ⟨n - r.2.length, by simp [hs], .inr ⟨by omega, by omega⟩⟩

end Go.Prg
