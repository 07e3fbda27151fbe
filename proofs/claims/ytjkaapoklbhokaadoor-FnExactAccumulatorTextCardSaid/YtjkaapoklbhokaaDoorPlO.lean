/- Plain laws, part O: registers added and subtracted. Conditions: none. -/
import Derived.Test.YtjkaapoklbhokaaDoorPlN
set_option linter.all false
namespace Go.Prg
open Go.Eng

theorem sz_L (l : List Int) (n : Int) (h : (l.length : Int) ≤ 9223372036854775807) (hn : 0 ≤ n) (hn' : n ≤ 1048576) : ∃ v, F_l_szInt64S (l, n) = some v ∧ (v = -1 ∨ 0 ≤ v ∧ v + l.length = n) := by
  rw [sz_Int64S l n h hn hn']
  by_cases hs : n - l.length < 0
  · exact ⟨-1, by simp [hs], .inl rfl⟩
  · exact ⟨n - l.length, by simp [hs], .inr ⟨by omega, by omega⟩⟩

abbrev zeroR : Reg := (0, [])

/-- a register and a number, if the register is valid -/
def wholeR (r : Reg) (n : Int) : Reg × Int × Int := cond (validR r) (r, n, 0) (zeroR, 0, 5)

theorem i_validR' (b : Int) (l : List Int) (h : (l.length : Int) ≤ 9223372036854775806) : F_i_ValidRegister (b, l) = some (validR (b, l)) := i_validR (b, l) (by simp only; omega)
theorem s_validR' (b : Int) (l : List Int) (h : (l.length : Int) ≤ 9223372036854775806) : F_s_l02Ok (b, l) = some (validR (b, l)) := s_validR (b, l) h

theorem wholeR_len (r : Reg) (n : Int) : ((wholeR r n).1.2.length : Int) ≤ 16 := by
  unfold wholeR
  cases h : validR r with
  | true => have := (validR_all h).2.1; simp only [cond_t]; omega
  | false => simp

/-- the sum of two registers -/
def addR (a b : Reg) : Reg × Int × Int := if pairC a b = 0 then wholeR (a.1, sumL a.1 a.2 b.2 a.2.length) (carr a.1 a.2 b.2 a.2.length) else (zeroR, 0, pairC a b)

theorem addR_len (a b : Reg) : ((addR a b).1.2.length : Int) ≤ 16 := by
  unfold addR
  split
  · exact wholeR_len _ _
  · simp

/-- two registers of one form, taken apart -/
theorem pair_parts {a b : Reg} (h : pairC a b = 0) : ∃ (w : Int) (l m : List Int), a = (w, l) ∧ b = (w, m) ∧ (2 ≤ w ∧ w ≤ 16) ∧ (1 ≤ l.length ∧ l.length ≤ 16) ∧ l.length = m.length ∧ digitsOk w l ∧ digitsOk w m := by
  obtain ⟨h1, h2, h3, h4⟩ := pair_all h
  obtain ⟨w, l⟩ := a
  obtain ⟨w', m⟩ := b
  simp only at h3 h4
  subst h3
  obtain ⟨q1, q2, q3, _⟩ := validR_all h1
  obtain ⟨_, _, q4, _⟩ := validR_all h2
  exact ⟨w, l, m, rfl, rfl, q1, q2, h4, q3, q4⟩

/-- the borrow into place i -/
def brw (l m : List Int) : Nat → Int
  | 0 => 0
  | i + 1 => if l.getD i 0 - m.getD i 0 - brw l m i < 0 then 1 else 0

def subL (b : Int) (l m : List Int) (n : Nat) : List Int := (List.range n).map fun i => if l.getD i 0 - m.getD i 0 - brw l m i < 0 then l.getD i 0 - m.getD i 0 - brw l m i + b else l.getD i 0 - m.getD i 0 - brw l m i

theorem brw_in (l m : List Int) : ∀ i, 0 ≤ brw l m i ∧ brw l m i ≤ 1
  | 0 => by simp [brw]
  | i + 1 => by simp only [brw]; split <;> omega
theorem subL_len (b : Int) (l m : List Int) (n : Nat) : (subL b l m n).length = n := by simp [subL]
theorem subL_succ (b : Int) (l m : List Int) (n : Nat) : subL b l m (n + 1) = subL b l m n ++ [if l.getD n 0 - m.getD n 0 - brw l m n < 0 then l.getD n 0 - m.getD n 0 - brw l m n + b else l.getD n 0 - m.getD n 0 - brw l m n] := by
  simp only [subL]
  rw [List.range_succ, List.map_append]
  rfl

def subR (a b : Reg) : Reg × Int × Int := if pairC a b = 0 then wholeR (a.1, subL a.1 a.2 b.2 a.2.length) (brw a.2 b.2 a.2.length) else (zeroR, 0, pairC a b)

theorem subR_len (a b : Reg) : ((subR a b).1.2.length : Int) ≤ 16 := by
  unfold subR
  split
  · exact wholeR_len _ _
  · simp

end Go.Prg
