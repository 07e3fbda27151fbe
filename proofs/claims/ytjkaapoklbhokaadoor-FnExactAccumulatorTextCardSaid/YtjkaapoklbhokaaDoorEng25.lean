/- The engine, part 25: tables. Conditions: none. -/
import Derived.Test.YtjkaapoklbhokaaDoorEng24
set_option linter.all false
namespace Go.Eng

def lk {α : Type} : List (Nat × α) → Nat → Option α
  | [], _ => none
  | (i, x) :: r, j => if j = i then some x else lk r j

def AllQ {α : Type} (Q : Nat → α → Prop) : List (Nat × α) → Prop
  | [] => True
  | (i, x) :: r => Q i x ∧ AllQ Q r

theorem lk_all {α : Type} {Q : Nat → α → Prop} : ∀ {l : List (Nat × α)}, AllQ Q l → ∀ j x, lk l j = some x → Q j x
  | [], _, _, _, h => by simp [lk] at h
  | (i, y) :: r, hq, j, x, h => by
    simp only [lk] at h
    split at h
    · rename_i hj
      simp only [Option.some.injEq] at h
      subst h; subst hj
      exact hq.1
    · exact lk_all hq.2 j x h

/-- all that is kept under one key -/
def lkL {α : Type} : List (Nat × α) → Nat → List α
  | [], _ => []
  | (i, x) :: r, j => if j = i then x :: lkL r j else lkL r j

theorem lkL_all {α : Type} {Q : Nat → α → Prop} : ∀ {l : List (Nat × α)}, AllQ Q l → ∀ j x, x ∈ lkL l j → Q j x
  | [], _, _, _, h => by simp [lkL] at h
  | (i, y) :: r, hq, j, x, h => by
    simp only [lkL] at h
    split at h
    · rename_i hj
      rcases List.mem_cons.1 h with h | h
      · subst h; subst hj; exact hq.1
      · exact lkL_all hq.2 j x h
    · exact lkL_all hq.2 j x h

end Go.Eng
