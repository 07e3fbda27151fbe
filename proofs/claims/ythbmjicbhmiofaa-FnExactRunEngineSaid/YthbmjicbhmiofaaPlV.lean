/- Plain laws, part V: engines prepared for halves of cycles. Conditions: none. -/
import Derived.Test.YthbmjicbhmiofaaPlF
import Derived.Test.YthbmjicbhmiofaaPlS
set_option linter.all false
namespace Go.Prg
open Go.Eng

theorem sz_E (e : Int × List Int) (n : Int) (h : (e.2.length : Int) ≤ 9223372036854775807) (hn : 0 ≤ n) (hn' : n ≤ 1048576) : ∃ v, F_l_szEngine (e, n) = some v ∧ (v = -1 ∨ 0 ≤ v ∧ v + e.2.length = n) := by
  unfold F_l_szEngine
  rw [sz_Int64S e.2 n h hn hn']
  simp only [bind_s, ilt_e]
  by_cases hs : n - e.2.length < 0
  · exact ⟨-1, by simp [hs], .inl rfl⟩
  · exact ⟨n - e.2.length, by simp [hs], .inr ⟨by omega, by omega⟩⟩

/-- the columns, some cycles back -/
def backsL (m : Int) (l : List Int) : Nat → List Int
  | 0 => l
  | j + 1 => backL m (backsL m l j) (l.length - 1)

theorem backsL_len (m : Int) (l : List Int) : ∀ j, (backsL m l j).length = l.length
  | 0 => rfl
  | j + 1 => by simp only [backsL, backL_len, backsL_len m l j]

theorem validE_of {n : Nat} {l : List Int} (h1 : 1 ≤ n ∧ n ≤ 12) (h2 : 1 ≤ l.length ∧ l.length ≤ 9) (h3 : ∀ x ∈ l, 0 ≤ x ∧ x ≤ (10 : Int) ^ n - 1) : validE ((n : Int), l) = true := by
  simp only [validE, Bool.and_eq_true, decide_eq_true_eq, List.all_eq_true, Int.toNat_natCast]
  exact ⟨by omega, by omega, h3⟩

theorem backsL_valid {n : Nat} {l : List Int} (h : validE ((n : Int), l) = true) : ∀ j, validE ((n : Int), backsL (10 ^ n) l j) = true
  | 0 => h
  | j + 1 => by
    have ih := backsL_valid h j
    obtain ⟨h1, h2, h3⟩ := valid_all ih
    have hl := backsL_len (10 ^ n) l j
    have hp := pow10 (n := n) (by omega)
    refine validE_of h1 (by simp only [backsL, backL_len]; exact h2) ?_
    simp only [backsL]
    exact backL_in _ hp.1 _ h3 _ (by omega)

/-- the columns that are prepared -/
def preL (m : Int) (l : List Int) (k : Nat) : List Int := (List.range k).map fun i => (backsL m l (i / 2)).getD i 0
theorem preL_len (m : Int) (l : List Int) (k : Nat) : (preL m l k).length = k := by simp [preL]
theorem preL_succ (m : Int) (l : List Int) (k : Nat) : preL m l (k + 1) = preL m l k ++ [(backsL m l (k / 2)).getD k 0] := by
  simp only [preL]; rw [List.range_succ, List.map_append]; rfl

theorem i_prep (n : Nat) (l : List Int) (h : validE ((n : Int), l) = true) : F_i_Engine_prepared ((n : Int), l) = some ((n : Int), preL (10 ^ n) l l.length) := by
  obtain ⟨h1, h2, h3⟩ := valid_all h
  unfold F_i_Engine_prepared F_i_Engine_copied
  simp (disch := omega) only [i_own, bind_s, n2i_e, xlen_e]
  refine iter_run (fun k => ((l.length : Int), (k : Int), (0 : Int), ([] : List Int), (n : Int), preL (10 ^ n) l k ++ l.drop k, (n : Int), backsL (10 ^ n) l ((k - 1) / 2))) l.length (by simp [preL, backsL]) (fun k hk => ?_) ?_
  · have l1 := preL_len (10 ^ n) l k
    have l2 := backsL_len (10 ^ n) l ((k - 1) / 2)
    have l3 : (preL (10 ^ n) l k ++ l.drop k).length = l.length := by simp [l1]; omega
    have hb := i_back n (backsL (10 ^ n) l ((k - 1) / 2)) (backsL_valid h _)
    rw [l2] at hb
    have l4 : (backL (10 ^ n) (backsL (10 ^ n) l ((k - 1) / 2)) (l.length - 1)).length = l.length := by rw [backL_len, l2]
    simp only [ilt_e]
    rw [cond_pos (show (k : Int) < l.length by omega)]
    try simp only [igt_e]
    have fin : ∀ q, backsL (10 ^ n) l (k / 2) = q → some (Sum.inl ((l.length : Int), iadd .i64 (k : Int) 1, (0 : Int), ([] : List Int), (n : Int), xset (preL (10 ^ n) l k ++ l.drop k) (i2n (k : Int)) (xget q (i2n (k : Int)) 0), (n : Int), q)) = (some (Sum.inl ((l.length : Int), ((k + 1 : Nat) : Int), (0 : Int), ([] : List Int), (n : Int), preL (10 ^ n) l (k + 1) ++ l.drop (k + 1), (n : Int), backsL (10 ^ n) l ((k + 1 - 1) / 2))) : Option ((Int × Int × Int × List Int × Int × List Int × Int × List Int) ⊕ (Int × List Int))) := by
      intro q hq
      simp (disch := omega) only [iadd_e, w64, xset_e, xget_e, i2n_e, Nat.add_sub_cancel, hq, preL_succ]
      rw [mid_set l1 hk]
      rfl
    by_cases h0 : (0 : Int) < k
    · rw [cond_pos h0]
      simp (disch := omega) only [okDiv_e, chk_pos, ieq_e, irem_e]
      have hmod : (k : Int).tmod 2 = ((k % 2 : Nat) : Int) := by rw [Int.tmod_eq_emod_of_nonneg (by omega)]; omega
      by_cases h2' : (k : Int).tmod 2 = 0
      · have hd : k / 2 = (k - 1) / 2 + 1 := by omega
        rw [cond_pos h2', hb]
        simp (disch := omega) only [bind_s, okIx_e, xlen_e, l4, l3, chk_pos]
        exact fin _ (by rw [hd]; rfl)
      · have hd : k / 2 = (k - 1) / 2 := by omega
        rw [cond_neg h2']
        exact fin _ (by rw [hd])
    · rw [cond_neg h0]
      have hd : k / 2 = (k - 1) / 2 := by omega
      simp (disch := omega) only [okIx_e, xlen_e, l2, l3, chk_pos]
      exact fin _ (by rw [hd])
  · simp (disch := omega) only [ilt_e, cond_neg]
    simp

theorem s_prep (n : Nat) (l : List Int) (h : validE ((n : Int), l) = true) : F_s_l16Prepare ((n : Int), l) = some ((n : Int), preL (10 ^ n) l l.length) := by
  obtain ⟨h1, h2, h3⟩ := valid_all h
  unfold F_s_l16Prepare F_s_l16Own
  simp (disch := omega) only [s_own, bind_s, n2i_e, xlen_e]
  refine iter_run (fun k => ((k : Int), (0 : Int), ([] : List Int), (n : Int), preL (10 ^ n) l k ++ l.drop k, (n : Int), backsL (10 ^ n) l ((k - 1) / 2))) l.length (by simp [preL, backsL]) (fun k hk => ?_) ?_
  · have l1 := preL_len (10 ^ n) l k
    have l2 := backsL_len (10 ^ n) l ((k - 1) / 2)
    have l3 : (preL (10 ^ n) l k ++ l.drop k).length = l.length := by simp [l1]; omega
    have hb := s_back n (backsL (10 ^ n) l ((k - 1) / 2)) (backsL_valid h _)
    rw [l2] at hb
    have l4 : (backL (10 ^ n) (backsL (10 ^ n) l ((k - 1) / 2)) (l.length - 1)).length = l.length := by rw [backL_len, l2]
    simp only [ilt_e, n2i_e, xlen_e, l3]
    rw [cond_pos (show (k : Int) < l.length by omega)]
    try simp only [igt_e]
    have fin : ∀ q, backsL (10 ^ n) l (k / 2) = q → some (Sum.inl (iadd .i64 (k : Int) 1, (0 : Int), ([] : List Int), (n : Int), xset (preL (10 ^ n) l k ++ l.drop k) (i2n (k : Int)) (xget q (i2n (k : Int)) 0), (n : Int), q)) = (some (Sum.inl (((k + 1 : Nat) : Int), (0 : Int), ([] : List Int), (n : Int), preL (10 ^ n) l (k + 1) ++ l.drop (k + 1), (n : Int), backsL (10 ^ n) l ((k + 1 - 1) / 2))) : Option ((Int × Int × List Int × Int × List Int × Int × List Int) ⊕ (Int × List Int))) := by
      intro q hq
      simp (disch := omega) only [iadd_e, w64, xset_e, xget_e, i2n_e, Nat.add_sub_cancel, hq, preL_succ]
      rw [mid_set l1 hk]
      rfl
    by_cases h0 : (0 : Int) < k
    · rw [cond_pos h0]
      simp (disch := omega) only [okDiv_e, chk_pos, ieq_e, irem_e]
      have hmod : (k : Int).tmod 2 = ((k % 2 : Nat) : Int) := by rw [Int.tmod_eq_emod_of_nonneg (by omega)]; omega
      by_cases h2' : (k : Int).tmod 2 = 0
      · have hd : k / 2 = (k - 1) / 2 + 1 := by omega
        rw [cond_pos h2', hb]
        simp (disch := omega) only [bind_s, okIx_e, xlen_e, l4, l3, chk_pos]
        exact fin _ (by rw [hd]; rfl)
      · have hd : k / 2 = (k - 1) / 2 := by omega
        rw [cond_neg h2']
        exact fin _ (by rw [hd])
    · rw [cond_neg h0]
      have hd : k / 2 = (k - 1) / 2 := by omega
      simp (disch := omega) only [okIx_e, xlen_e, l2, l3, chk_pos]
      exact fin _ (by rw [hd])
  · have l1 := preL_len (10 ^ n) l l.length
    have l3 : (preL (10 ^ n) l l.length ++ l.drop l.length).length = l.length := by simp [l1]
    simp (disch := omega) only [ilt_e, n2i_e, xlen_e, l3, cond_neg]
    simp

def prepE (e : Int × List Int) : (Int × List Int) × Int := cond (validE e) ((e.1, preL (10 ^ e.1.toNat) e.2 e.2.length), 0) ((0, []), 1)

theorem prepE_len (e : Int × List Int) : ((prepE e).1.2.length : Int) ≤ 9 := by
  unfold prepE
  cases h : validE e with
  | false => simp
  | true =>
    simp only [cond_t, preL_len]
    simp only [validE, Bool.and_eq_true, decide_eq_true_eq] at h
    omega

end Go.Prg
