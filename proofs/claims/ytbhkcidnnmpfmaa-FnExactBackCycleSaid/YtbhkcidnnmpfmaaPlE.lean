/- Plain laws, part E: the laws' own contracts say true. Conditions: none. -/
import Derived.Test.YtbhkcidnnmpfmaaPlD
set_option linter.all false
namespace Go.Prg
open Go.Eng

theorem FnExactBackCycle_true (x : Int × List Int) (h : wfArgs [.val true (.pair (.int .i64) (.row false 2 (.int .i64)))] x) : ∃ y, F_l_FnExactBackCycle x = some y ∧ hhead .bool [] y = true :=
  ⟨true, law_BackCycle x (by have h1 := h.1.2.1; have : maxLen = 9223372036854775807 := rfl; have h2 : x.2.length ≤ maxLen := h1; omega), rfl⟩

end Go.Prg
