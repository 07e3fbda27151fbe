/- Plain laws, part D: back cycles. Conditions: none. -/
import Derived.Test.YthbmjicbhmiofaaPlC
set_option linter.all false
namespace Go.Prg
open Go.Eng
set_option linter.unusedSimpArgs false

theorem i_own (l : List Int) (h : (l.length : Int) ≤ 1048576) : F_i_copyNumbers l = some l := by
  unfold F_i_copyNumbers
  simp (disch := omega) only [okRoom_e, xlen_e, xapp_e, List.length_nil, chk_pos, List.nil_append]

theorem s_own (l : List Int) (h : (l.length : Int) ≤ 1048576) : F_s_l00Own l = some l := by
  unfold F_s_l00Own
  simp (disch := omega) only [okRoom_e, xlen_e, xapp_e, List.length_nil, chk_pos, List.nil_append]

/-- the columns after some steps of a back cycle -/
def backL (m : Int) (l : List Int) : Nat → List Int
  | 0 => l
  | i + 1 => (backL m l i).set (l.length - 2 - i) (((backL m l i).getD (l.length - 2 - i) 0 - (backL m l i).getD (l.length - 1 - i) 0 + m).tmod m)

theorem backL_len (m : Int) (l : List Int) : ∀ i, (backL m l i).length = l.length
  | 0 => rfl
  | i + 1 => by simp [backL, backL_len m l i]

theorem backL_in (m : Int) (hm : 1 ≤ m) (l : List Int) (h : ∀ x ∈ l, 0 ≤ x ∧ x ≤ m - 1) : ∀ i, i + 1 ≤ l.length → ∀ x ∈ backL m l i, 0 ≤ x ∧ x ≤ m - 1
  | 0, _ => h
  | i + 1, hi => by
    have ih := backL_in m hm l h i (by omega)
    refine mem_set_all ih ?_
    have h1 := getD_all ih (i := l.length - 2 - i) (by rw [backL_len]; omega)
    have h2 := getD_all ih (i := l.length - 1 - i) (by rw [backL_len]; omega)
    rw [Int.tmod_eq_emod_of_nonneg (by omega)]
    have h3 := Int.emod_nonneg ((backL m l i).getD (l.length - 2 - i) 0 - (backL m l i).getD (l.length - 1 - i) 0 + m) (show m ≠ 0 by omega)
    have h4 := Int.emod_lt_of_pos ((backL m l i).getD (l.length - 2 - i) 0 - (backL m l i).getD (l.length - 1 - i) 0 + m) (show 0 < m by omega)
    omega

theorem valid_all {n : Nat} {l : List Int} (h : validE ((n : Int), l) = true) : (1 ≤ n ∧ n ≤ 12) ∧ (1 ≤ l.length ∧ l.length ≤ 9) ∧ ∀ x ∈ l, 0 ≤ x ∧ x ≤ (10 : Int) ^ n - 1 := by
  simp only [validE, Bool.and_eq_true, decide_eq_true_eq, List.all_eq_true, Int.toNat_natCast] at h
  exact ⟨by omega, by omega, h.2.2⟩

theorem i_back (n : Nat) (l : List Int) (h : validE ((n : Int), l) = true) : F_i_Engine_back ((n : Int), l) = some ((n : Int), backL (10 ^ n) l (l.length - 1)) := by
  obtain ⟨h1, h2, h3⟩ := valid_all h
  have hp := pow10 (n := n) (by omega)
  unfold F_i_Engine_back F_i_Engine_copied
  simp (disch := omega) only [i_own, bind_s, modulus_e, n2i_e, xlen_e, isub_e, w64]
  refine iter_run (fun i => ((10 : Int) ^ n, (l.length : Int) - 2 - i, (0 : Int), ([] : List Int), (n : Int), backL (10 ^ n) l i)) (l.length - 1) (by simp [backL]) (fun i hi => ?_) ?_
  · have hb := backL_in _ hp.1 l h3 i (by omega)
    have hl := backL_len (10 ^ n) l i
    have g1 := getD_all hb (i := l.length - 2 - i) (by omega)
    have g2 := getD_all hb (i := l.length - 1 - i) (by omega)
    have e1 : i2n ((l.length : Int) - 2 - i) = l.length - 2 - i := by unfold i2n; omega
    have e2 : i2n ((l.length : Int) - 2 - i + 1) = l.length - 1 - i := by unfold i2n; omega
    simp (disch := omega) only [ige_e, cond_pos, okIx_e, xlen_e, hl, chk_pos, iadd_e, isub_e, w64, okDiv_e, e1, e2, xget_e, xset_e, irem_e]
    congr 4
    omega
  · have hi : ¬ (0 : Int) ≤ (l.length : Int) - 2 - ((l.length - 1 : Nat) : Int) := by omega
    simp only [ige_e, cond_neg hi]

theorem s_back (n : Nat) (l : List Int) (h : validE ((n : Int), l) = true) : F_s_l16Back ((n : Int), l) = some ((n : Int), backL (10 ^ n) l (l.length - 1)) := by
  obtain ⟨h1, h2, h3⟩ := valid_all h
  have hp := pow10 (n := n) (by omega)
  unfold F_s_l16Back F_s_l16Own
  simp (disch := omega) only [s_own, bind_s, n2i_e, xlen_e, isub_e, w64]
  refine iter_run (fun i => ((l.length : Int) - 1 - i, [((n : Int), l)], (0 : Int), ([] : List Int), (n : Int), backL (10 ^ n) l i)) (l.length - 1) (by simp [backL]) (fun i hi => ?_) ?_
  · have hb := backL_in _ hp.1 l h3 i (by omega)
    have hl := backL_len (10 ^ n) l i
    have g1 := getD_all hb (i := l.length - 2 - i) (by omega)
    have g2 := getD_all hb (i := l.length - 1 - i) (by omega)
    have e1 : i2n ((l.length : Int) - 1 - i) = l.length - 1 - i := by unfold i2n; omega
    have e2 : i2n ((l.length : Int) - 1 - i - 1) = l.length - 2 - i := by unfold i2n; omega
    have hmod : ∀ d : Int, -(10 ^ n) < d → d < 10 ^ n → F_s_l16Mod ((n : Int), d) = some ((d + 10 ^ n).tmod (10 ^ n)) := by
      intro d hd1 hd2
      have hd : d.tmod (10 ^ n) = d := by
        rcases Int.le_total 0 d with h0 | h0
        · exact Int.tmod_eq_of_lt h0 hd2
        · have := Int.tmod_eq_of_lt (a := -d) (b := 10 ^ n) (by omega) (by omega)
          rw [Int.neg_tmod] at this
          omega
      unfold F_s_l16Mod
      simp (disch := omega) only [power10_e, bind_s, okDiv_e, chk_pos, irem_e, hd, iadd_e, w64]
    simp (disch := omega) only [igt_e, cond_pos, okIx_e, xlen_e, hl, chk_pos, isub_e, w64, e1, e2, xget0, xget_e, hmod, bind_s, xset_e]
    congr 3
    omega
  · have hi : ¬ (0 : Int) < (l.length : Int) - 1 - ((l.length - 1 : Nat) : Int) := by omega
    simp only [igt_e, cond_neg hi]

/-- both answers of a back cycle -/
def backE (e : Int × List Int) : (Int × List Int) × Int := cond (validE e) ((e.1, backL (10 ^ e.1.toNat) e.2 (e.2.length - 1)), 0) ((0, []), 1)

theorem validE_nat {e : Int × List Int} (h : validE e = true) : ∃ n : Nat, e.1 = n := by
  simp only [validE, Bool.and_eq_true, decide_eq_true_eq] at h
  exact ⟨e.1.toNat, by omega⟩

theorem to_Engine (e : Int × List Int) (h : (e.2.length : Int) ≤ 1048576) : F_l_toEngine e = some e := by
  unfold F_l_toEngine
  simp only [to_Int64S e.2 h, bind_s]

theorem eq_Engine (a b : Int × List Int) (h : (a.2.length : Int) ≤ 1048576) (h' : (b.2.length : Int) ≤ 1048576) : F_l_eqEngine (a, b) = some (decide (a = b)) := by
  obtain ⟨w, l⟩ := a
  obtain ⟨w', l'⟩ := b
  simp only at h h'
  unfold F_l_eqEngine
  simp only [ine_e]
  by_cases h1 : w = w'
  · rw [cond_neg (by simpa using h1)]
    simp (disch := omega) only [eq_Int64S, bind_s, bnot_d]
    by_cases h2 : l = l' <;> simp [h1, h2]
  · rw [cond_pos (by simpa using h1)]
    simp [h1]

theorem mark_Engine (e : Int × List Int) (k : Int) (h : (e.2.length : Int) ≤ 1048576) (hk : 0 ≤ k) (hk' : k ≤ 4000000000000000000) : F_l_markEngine (e, k) = some (k + e.2.length, (e.1, count k e.2.length)) := by
  unfold F_l_markEngine
  simp (disch := omega) only [mark_Int64S, bind_s]

theorem backE_len (e : Int × List Int) : ((backE e).1.2.length : Int) ≤ 9 := by
  unfold backE
  cases h : validE e with
  | false => simp
  | true =>
    simp only [cond_t, backL_len]
    simp only [validE, Bool.and_eq_true, decide_eq_true_eq] at h
    omega

end Go.Prg
