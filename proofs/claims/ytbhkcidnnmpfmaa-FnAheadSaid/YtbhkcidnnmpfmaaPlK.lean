/- Plain laws, part K: the law of carries. Conditions: none. -/
import Derived.Test.YtbhkcidnnmpfmaaPlJ
set_option linter.all false
namespace Go.Prg
open Go.Eng

theorem law_CarriesOf (a b : Int × List Int) (h : (a.2.length : Int) ≤ 9223372036854775807) (h' : (b.2.length : Int) ≤ 9223372036854775807) : F_l_FnExactCarriesOf (a, b) = some true := by
  have hb := carriesR_len a b
  unfold F_l_FnExactCarriesOf F_l_szRegister
  simp (disch := omega) only [sz_Int64S, bind_s, ilt_e]
  by_cases hs : (1048576 : Int) - a.2.length < 0
  · simp [hs]
  · simp (disch := omega) only [if_neg, cond_neg, bind_s, sz_Int64S]
    by_cases hs2 : (1048576 : Int) - a.2.length - b.2.length < 0
    · simp [hs2]
    · simp (disch := omega) only [if_neg, cond_neg, bind_s, ilt_e, to_Register, s_carriesOf, i_carriesOf, eq_Register, eq_Int64S, mark_Register, mark_Int64S, held_Int64S, decide_true, bnot_t, cond_f, ine_e, not_true_eq_false, decide_false]

theorem FnExactCarriesOf_true (x : (Int × List Int) × (Int × List Int)) (h : wfArgs [.val true (.pair (.int .i64) (.row false 2 (.int .i64))), .val true (.pair (.int .i64) (.row false 2 (.int .i64)))] x) : ∃ y, F_l_FnExactCarriesOf x = some y ∧ hhead .bool [] y = true :=
  ⟨true, law_CarriesOf x.1 x.2 (maxLen_le (n := x.1.2.length) h.1.2.1) (maxLen_le (n := x.2.2.length) h.2.1.2.1), rfl⟩

end Go.Prg
