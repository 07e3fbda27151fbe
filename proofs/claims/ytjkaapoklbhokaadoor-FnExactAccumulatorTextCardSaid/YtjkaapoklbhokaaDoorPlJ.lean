/- Plain laws, part J: carries of a sum. Conditions: none. -/
import Derived.Test.YtjkaapoklbhokaaDoorPlI
set_option linter.all false
namespace Go.Prg
open Go.Eng

/-- the code of two registers -/
def pairC (a b : Int × List Int) : Int := cond (validR a && validR b) (if a.1 = b.1 ∧ a.2.length = b.2.length then 0 else 6) 1

/-- the carry into place i -/
def carr (b : Int) (l m : List Int) : Nat → Int
  | 0 => 0
  | i + 1 => (l.getD i 0 + m.getD i 0 + carr b l m i).tdiv b

def carrL (b : Int) (l m : List Int) (i : Nat) : List Int := (List.range (i + 1)).map (carr b l m)
def sumL (b : Int) (l m : List Int) (i : Nat) : List Int := (List.range i).map fun j => (l.getD j 0 + m.getD j 0 + carr b l m j).tmod b

theorem carr_in {b : Int} (hb : 2 ≤ b) {l m : List Int} (hl : digitsOk b l) (hm : digitsOk b m) (he : l.length = m.length) : ∀ i, i ≤ l.length → 0 ≤ carr b l m i ∧ carr b l m i ≤ 1
  | 0, _ => by simp [carr]
  | i + 1, hi => by
    have ih := carr_in hb hl hm he i (by omega)
    have h1 := getD_all (p := fun d => 0 ≤ d ∧ d ≤ b - 1) hl (i := i) (by omega)
    have h2 := getD_all (p := fun d => 0 ≤ d ∧ d ≤ b - 1) hm (i := i) (by omega)
    simp only [carr]
    rw [Int.tdiv_eq_ediv_of_nonneg (by omega)]
    have h3 := Int.ediv_nonneg (a := l.getD i 0 + m.getD i 0 + carr b l m i) (b := b) (by omega) (by omega)
    have h4 : (l.getD i 0 + m.getD i 0 + carr b l m i) / b < 2 := Int.ediv_lt_of_lt_mul (by omega) (by omega)
    omega

theorem carrL_len (b : Int) (l m : List Int) (i : Nat) : (carrL b l m i).length = i + 1 := by simp [carrL]
theorem sumL_len (b : Int) (l m : List Int) (i : Nat) : (sumL b l m i).length = i := by simp [sumL]
theorem carrL_get (b : Int) (l m : List Int) (i : Nat) : (carrL b l m i).getD i 0 = carr b l m i := by simp [carrL, List.getD_eq_getElem?_getD]
theorem carrL_succ (b : Int) (l m : List Int) (i : Nat) : carrL b l m (i + 1) = carrL b l m i ++ [(l.getD i 0 + m.getD i 0 + carr b l m i).tdiv b] := by
  simp only [carrL]
  rw [List.range_succ, List.map_append]
  rfl
theorem sumL_succ (b : Int) (l m : List Int) (i : Nat) : sumL b l m (i + 1) = sumL b l m i ++ [(l.getD i 0 + m.getD i 0 + carr b l m i).tmod b] := by
  simp only [sumL]
  rw [List.range_succ, List.map_append]
  rfl

def carriesR (a b : Int × List Int) : List Int × Int := if pairC a b = 0 then (carrL a.1 a.2 b.2 a.2.length, 0) else ([], pairC a b)

theorem pair_all {a b : Int × List Int} (h : pairC a b = 0) : validR a = true ∧ validR b = true ∧ a.1 = b.1 ∧ a.2.length = b.2.length := by
  unfold pairC at h
  cases hv : validR a && validR b with
  | false => rw [hv] at h; simp at h
  | true =>
    rw [hv] at h
    simp only [Bool.and_eq_true] at hv
    simp only [cond_t] at h
    split at h
    · rename_i hc; exact ⟨hv.1, hv.2, hc.1, hc.2⟩
    · simp at h

theorem carriesR_len (a b : Int × List Int) : ((carriesR a b).1.length : Int) ≤ 17 := by
  unfold carriesR
  split
  · rename_i h
    have := (validR_all (pair_all h).1).2.1
    simp only [carrL_len]
    omega
  · simp

end Go.Prg
