/- Plain laws, part Uc: desks compared. Conditions: none. -/
import Derived.Test.YtjkaapoklbhokaaPlUa
set_option linter.all false
namespace Go.Prg
open Go.Eng

/-- two rows compared element by element -/
theorem iter_same {σ α : Type} [DecidableEq α] {d : α} (a b : List α) (hl : a.length = b.length) (inv : Nat → σ) {f : σ → Option (σ ⊕ Bool)} {s : σ} (h0 : s = inv 0) (hs : ∀ i, i < a.length → f (inv i) = some (if a.getD i d = b.getD i d then .inl (inv (i + 1)) else .inr false)) (he : f (inv a.length) = some (.inr true)) : iter f s = some (decide (a = b)) := by
  by_cases hab : a = b
  · subst hab
    rw [decide_eq_true rfl]
    exact iter_run inv a.length h0 (fun i hi => by rw [hs i hi, if_pos rfl]) he
  · obtain ⟨k, hk, hne, hmin⟩ := first_diff hl hab
    rw [decide_eq_false hab]
    refine iter_run inv k h0 (fun i hi => ?_) ?_
    · have h1 : a.getD i d = b.getD i d := by rw [List.getD_eq_getElem?_getD, List.getD_eq_getElem?_getD, hmin i hi]
      rw [hs i (by omega), if_pos h1]
    · have h1 : ¬ a.getD k d = b.getD k d := by
        rw [getD_lt hk, getD_lt (by omega)]
        rw [List.getElem?_eq_getElem hk, List.getElem?_eq_getElem (by omega)] at hne
        simpa using hne
      rw [hs k hk, if_neg h1]

theorem pair_test (x y : Int × Int) : bnot (band (ieq x.1 y.1) (band (ieq x.2 y.2) true)) = decide (¬ x = y) := by
  obtain ⟨x1, x2⟩ := x
  obtain ⟨y1, y2⟩ := y
  simp only [ieq_e]
  by_cases h1 : x1 = y1 <;> by_cases h2 : x2 = y2 <;> simp [h1, h2, bnot, band]

theorem s_sameN (a b : List Int) (h : (a.length : Int) ≤ 1048576) (h' : (b.length : Int) ≤ 1048576) : F_s_l00Same (a, b) = some (decide (a = b)) := by
  unfold F_s_l00Same
  simp only [ine_e, n2i_e, xlen_e]
  by_cases hl : a.length = b.length
  · rw [cond_neg (by omega)]
    refine iter_same (d := 0) a b hl (fun i => ((i : Int), a, b)) rfl (fun i hi => ?_) ?_
    · simp (disch := omega) only [ilt_e, cond_pos, okIx_e, xlen_e, chk_pos, xget_e, i2n_e, iadd_e, w64]
      by_cases e : a.getD i 0 = b.getD i 0
      · rw [cond_neg (by simpa using e), if_pos e]; rfl
      · rw [cond_pos e, if_neg e]
    · simp (disch := omega) only [ilt_e, cond_neg]
  · rw [cond_pos (by omega), decide_eq_false (fun e => hl (by rw [e]))]

theorem s_sameR (a b : Reg) (h : (a.2.length : Int) ≤ 1048576) (h' : (b.2.length : Int) ≤ 1048576) : F_s_l02Same (a, b) = some (decide (a = b)) := by
  obtain ⟨w, l⟩ := a
  obtain ⟨w', l'⟩ := b
  unfold F_s_l02Same
  simp only [ieq_e, s_sameN l l' h h', bind_s]
  by_cases e1 : w = w'
  · rw [cond_pos e1]; subst e1; simp
  · rw [cond_neg e1]; simp [e1]

theorem s_sameM (a b c a' b' c' : Reg) (p p' : Int) (h1 : (a.2.length : Int) ≤ 1048576) (h2 : (b.2.length : Int) ≤ 1048576) (h3 : (c.2.length : Int) ≤ 1048576) (h1' : (a'.2.length : Int) ≤ 1048576) (h2' : (b'.2.length : Int) ≤ 1048576) (h3' : (c'.2.length : Int) ≤ 1048576) :
    F_s_l10Same ((a, (b, (c, p))), (a', (b', (c', p')))) = some (decide ((a, (b, (c, p))) = (a', (b', (c', p'))))) := by
  unfold F_s_l10Same
  simp only [s_sameR a a' h1 h1', s_sameR b b' h2 h2', s_sameR c c' h3 h3', bind_s, ieq_e]
  by_cases e1 : a = a' <;> by_cases e2 : b = b' <;> by_cases e3 : c = c' <;> by_cases e4 : p = p' <;> simp [e1, e2, e3, e4]

def f_LeverFaultS (k : Int) : (Int × Int) := (k, k + 1)

abbrev Desk := Mach × List (Int × Int) × ByteArray

def sameD (x y : Desk) : Bool := decide (x.1 = y.1) && (decide (x.2.1 = y.2.1) && seq x.2.2 y.2.2)

theorem maxLen_sz {n : Nat} (h : n ≤ maxLen) : (n : Int) ≤ 9223372036854775807 := maxLen_le h

end Go.Prg
