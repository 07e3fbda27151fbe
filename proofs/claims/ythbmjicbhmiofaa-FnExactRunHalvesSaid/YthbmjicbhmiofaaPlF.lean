/- Plain laws, part F: cycles, halves of cycles. Conditions: none. -/
import Derived.Test.YthbmjicbhmiofaaPlD
set_option linter.all false
namespace Go.Prg
open Go.Eng

/-- a column is added to the one before it -/
def addL (m : Int) (l : List Int) (k : Nat) : List Int := l.set (k - 1) ((l.getD (k - 1) 0 + l.getD k 0).tmod m)

/-- columns s, s + d, .. are added to those before them -/
def stepsL (m : Int) (d s : Nat) (l : List Int) : Nat → List Int
  | 0 => l
  | i + 1 => addL m (stepsL m d s l i) (s + d * i)

theorem stepsL_len (m : Int) (d s : Nat) (l : List Int) : ∀ i, (stepsL m d s l i).length = l.length
  | 0 => rfl
  | i + 1 => by simp [stepsL, addL, stepsL_len m d s l i]

theorem stepsL_in (m : Int) (hm : 1 ≤ m) (d s : Nat) (l : List Int) (h : ∀ x ∈ l, 0 ≤ x ∧ x ≤ m - 1) (K : Nat) (hK : ∀ i, i < K → s + d * i < l.length) : ∀ i, i ≤ K → ∀ x ∈ stepsL m d s l i, 0 ≤ x ∧ x ≤ m - 1
  | 0, _ => h
  | i + 1, hi => by
    have ih := stepsL_in m hm d s l h K hK i (by omega)
    have hk := hK i (by omega)
    have hl := stepsL_len m d s l i
    refine mem_set_all ih ?_
    have h1 := getD_all ih (i := s + d * i - 1) (by omega)
    have h2 := getD_all ih (i := s + d * i) (by omega)
    rw [Int.tmod_eq_emod_of_nonneg (by omega)]
    have h3 := Int.emod_nonneg ((stepsL m d s l i).getD (s + d * i - 1) 0 + (stepsL m d s l i).getD (s + d * i) 0) (show m ≠ 0 by omega)
    have h4 := Int.emod_lt_of_pos ((stepsL m d s l i).getD (s + d * i - 1) 0 + (stepsL m d s l i).getD (s + d * i) 0) (show 0 < m by omega)
    omega

theorem s_mod (n : Nat) (hn : n ≤ 12) (d : Int) (h0 : 0 ≤ d) (h1 : d ≤ 2 * 10 ^ n) : F_s_l16Mod ((n : Int), d) = some (d.tmod (10 ^ n)) := by
  have hp := pow10 (n := n) hn
  have e : (d.tmod (10 ^ n) + 10 ^ n).tmod (10 ^ n) = d.tmod (10 ^ n) := by
    rw [Int.tmod_eq_emod_of_nonneg h0, Int.tmod_eq_emod_of_nonneg (by have := Int.emod_nonneg d (show (10 : Int) ^ n ≠ 0 by omega); omega)]
    simp
  have hb : 0 ≤ d.tmod (10 ^ n) ∧ d.tmod (10 ^ n) < 10 ^ n := by
    rw [Int.tmod_eq_emod_of_nonneg h0]
    exact ⟨Int.emod_nonneg d (by omega), Int.emod_lt_of_pos d (by omega)⟩
  unfold F_s_l16Mod
  simp (disch := omega) only [power10_e, bind_s, okDiv_e, chk_pos, irem_e, iadd_e, w64, e]

theorem s_add (n : Nat) (hn : n ≤ 12) (l : List Int) (h : ∀ x ∈ l, 0 ≤ x ∧ x ≤ (10 : Int) ^ n - 1) (k : Nat) (h1 : 1 ≤ k) (h2 : k < l.length) (h3 : l.length ≤ 9) : F_s_l16Add (((n : Int), l), (k : Int)) = some ((n : Int), addL (10 ^ n) l k) := by
  have hp := pow10 (n := n) hn
  have g1 := getD_all h (i := k - 1) (by omega)
  have g2 := getD_all h (i := k) (by omega)
  have e1 : i2n ((k : Int) - 1) = k - 1 := by unfold i2n; omega
  unfold F_s_l16Add
  simp (disch := omega) only [okIx_e, isub_e, w64, xlen_e, chk_pos, xget_e, i2n_e, e1, iadd_e, s_mod, bind_s, xset_e]
  rfl

theorem s_cycle (n : Nat) (l : List Int) (h : validE ((n : Int), l) = true) : F_s_l16Cycle ((n : Int), l) = some ((n : Int), stepsL (10 ^ n) 1 1 l (l.length - 1)) := by
  obtain ⟨h1, h2, h3⟩ := valid_all h
  have hp := pow10 (n := n) (by omega)
  unfold F_s_l16Cycle F_s_l16Own
  simp (disch := omega) only [s_own, bind_s]
  refine iter_run (fun i => (((1 + 1 * i : Nat) : Int), (0 : Int), ([] : List Int), (n : Int), stepsL (10 ^ n) 1 1 l i)) (l.length - 1) (by simp [stepsL]) (fun i hi => ?_) ?_
  · have hb := stepsL_in _ hp.1 1 1 l h3 (l.length - 1) (fun i hi => by omega) i (by omega)
    have hl := stepsL_len (10 ^ n) 1 1 l i
    simp (disch := omega) only [ilt_e, n2i_e, xlen_e, hl, cond_pos, s_add, bind_s, iadd_e, w64]
    congr 3
  · have hl := stepsL_len (10 ^ n) 1 1 l (l.length - 1)
    simp (disch := omega) only [ilt_e, n2i_e, xlen_e, hl, cond_neg]

theorem i_cycle (n : Nat) (l : List Int) (h : validE ((n : Int), l) = true) : F_i_Engine_cycled ((n : Int), l) = some ((n : Int), stepsL (10 ^ n) 1 1 l (l.length - 1)) := by
  obtain ⟨h1, h2, h3⟩ := valid_all h
  have hp := pow10 (n := n) (by omega)
  unfold F_i_Engine_cycled F_i_Engine_copied
  simp (disch := omega) only [i_own, bind_s]
  refine iter_run (fun i => ((i : Int), (n : Int), l, (0 : Int), ([] : List Int), (n : Int), stepsL (10 ^ n) 1 1 l i)) (l.length - 1) (by simp [stepsL]) (fun i hi => ?_) ?_
  · have hb := stepsL_in _ hp.1 1 1 l h3 (l.length - 1) (fun i hi => by omega) i (by omega)
    have hl := stepsL_len (10 ^ n) 1 1 l i
    have g1 := getD_all hb (i := i) (by omega)
    have g2 := getD_all hb (i := i + 1) (by omega)
    have e1 : i2n ((i : Int) + 1) = i + 1 := by unfold i2n; omega
    have e2 : 1 + 1 * i - 1 = i := by omega
    have e3 : 1 + 1 * i = i + 1 := by omega
    simp (disch := omega) only [ilt_e, n2i_e, xlen_e, hl, iadd_e, w64, cond_pos, okIx_e, chk_pos, modulus_e, bind_s, okDiv_e, xget_e, i2n_e, e1, xset_e, irem_e]
    simp only [stepsL, addL, e2, e3]
    rfl
  · have hl := stepsL_len (10 ^ n) 1 1 l (l.length - 1)
    simp (disch := omega) only [ilt_e, n2i_e, xlen_e, hl, iadd_e, w64, cond_neg]

/-- a half of a cycle, from the column s on -/
def halfL (m : Int) (s : Nat) (l : List Int) : List Int := stepsL m 2 s l ((l.length - s + 1) / 2)

theorem i_half (n : Nat) (l : List Int) (h : validE ((n : Int), l) = true) (s : Nat) (hs : 1 ≤ s) (hs' : s ≤ 2) : F_i_Engine_half (((n : Int), l), (s : Int)) = some ((n : Int), halfL (10 ^ n) s l) := by
  obtain ⟨h1, h2, h3⟩ := valid_all h
  have hp := pow10 (n := n) (by omega)
  unfold F_i_Engine_half F_i_Engine_copied
  simp (disch := omega) only [i_own, bind_s]
  refine iter_run (fun i => (((s + 2 * i : Nat) : Int), (n : Int), l, (0 : Int), ([] : List Int), (n : Int), stepsL (10 ^ n) 2 s l i)) ((l.length - s + 1) / 2) (by simp [stepsL]) (fun i hi => ?_) ?_
  · have hb := stepsL_in _ hp.1 2 s l h3 ((l.length - s + 1) / 2) (fun i hi => by omega) i (by omega)
    have hl := stepsL_len (10 ^ n) 2 s l i
    have g1 := getD_all hb (i := s + 2 * i - 1) (by omega)
    have g2 := getD_all hb (i := s + 2 * i) (by omega)
    have e1 : i2n (((s + 2 * i : Nat) : Int) - 1) = s + 2 * i - 1 := by unfold i2n; omega
    have e4 : i2n ((s + 2 * i : Nat) : Int) = s + 2 * i := rfl
    simp (disch := omega) only [ilt_e, n2i_e, xlen_e, hl, iadd_e, isub_e, w64, cond_pos, okIx_e, chk_pos, modulus_e, bind_s, okDiv_e, xget_e, e4, e1, xset_e, irem_e]
    congr 3
  · have hl := stepsL_len (10 ^ n) 2 s l ((l.length - s + 1) / 2)
    simp (disch := omega) only [ilt_e, n2i_e, xlen_e, hl, cond_neg]
    rfl

theorem s_half (n : Nat) (l : List Int) (h : validE ((n : Int), l) = true) (b : Bool) : F_s_l16Half (((n : Int), l), b) = some ((n : Int), halfL (10 ^ n) (cond b 1 2) l) := by
  obtain ⟨h1, h2, h3⟩ := valid_all h
  have hp := pow10 (n := n) (by omega)
  unfold F_s_l16Half F_s_l16Own
  simp (disch := omega) only [s_own, bind_s]
  cases b
  · simp only [cond_f]
    refine iter_run (fun i => (((2 + 2 * i : Nat) : Int), (0 : Int), ([] : List Int), (n : Int), stepsL (10 ^ n) 2 2 l i)) ((l.length - 2 + 1) / 2) (by simp [stepsL]) (fun i hi => ?_) ?_
    · have hb := stepsL_in _ hp.1 2 2 l h3 ((l.length - 2 + 1) / 2) (fun i hi => by omega) i (by omega)
      have hl := stepsL_len (10 ^ n) 2 2 l i
      simp (disch := omega) only [ilt_e, n2i_e, xlen_e, hl, cond_pos, s_add, bind_s, iadd_e, w64]
      congr 3
    · have hl := stepsL_len (10 ^ n) 2 2 l ((l.length - 2 + 1) / 2)
      simp (disch := omega) only [ilt_e, n2i_e, xlen_e, hl, cond_neg]
      rfl
  · simp only [cond_t]
    refine iter_run (fun i => (((1 + 2 * i : Nat) : Int), (0 : Int), ([] : List Int), (n : Int), stepsL (10 ^ n) 2 1 l i)) ((l.length - 1 + 1) / 2) (by simp [stepsL]) (fun i hi => ?_) ?_
    · have hb := stepsL_in _ hp.1 2 1 l h3 ((l.length - 1 + 1) / 2) (fun i hi => by omega) i (by omega)
      have hl := stepsL_len (10 ^ n) 2 1 l i
      simp (disch := omega) only [ilt_e, n2i_e, xlen_e, hl, cond_pos, s_add, bind_s, iadd_e, w64]
      congr 3
    · have hl := stepsL_len (10 ^ n) 2 1 l ((l.length - 1 + 1) / 2)
      simp (disch := omega) only [ilt_e, n2i_e, xlen_e, hl, cond_neg]
      rfl

def cycleE (e : Int × List Int) : (Int × List Int) × Int := cond (validE e) ((e.1, stepsL (10 ^ e.1.toNat) 1 1 e.2 (e.2.length - 1)), 0) ((0, []), 1)
def halfE (e : Int × List Int) (b : Bool) : (Int × List Int) × Int := cond (validE e) ((e.1, halfL (10 ^ e.1.toNat) (cond b 1 2) e.2), 0) ((0, []), 1)

theorem cycleE_len (e : Int × List Int) : ((cycleE e).1.2.length : Int) ≤ 9 := by
  unfold cycleE
  cases h : validE e with
  | false => simp
  | true =>
    simp only [cond_t, stepsL_len]
    simp only [validE, Bool.and_eq_true, decide_eq_true_eq] at h
    omega

theorem halfE_len (e : Int × List Int) (b : Bool) : ((halfE e b).1.2.length : Int) ≤ 9 := by
  unfold halfE halfL
  cases h : validE e with
  | false => simp
  | true =>
    simp only [cond_t, stepsL_len]
    simp only [validE, Bool.and_eq_true, decide_eq_true_eq] at h
    omega

end Go.Prg
