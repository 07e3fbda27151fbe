/- Plain laws, part Va: engines that run. Conditions: none. -/
import Derived.Test.YthbmjicbhmiofaaPlV
set_option linter.all false
namespace Go.Prg
open Go.Eng

def itL (f : List Int → List Int) (l : List Int) : Nat → List Int
  | 0 => l
  | i + 1 => f (itL f l i)

/-- the results -/
def firstL (f : List Int → List Int) (l : List Int) (k : Nat) : List Int := (List.range k).map fun i => (itL f l i).getD 0 0
theorem firstL_len (f : List Int → List Int) (l : List Int) (k : Nat) : (firstL f l k).length = k := by simp [firstL]
theorem firstL_succ (f : List Int → List Int) (l : List Int) (k : Nat) : firstL f l (k + 1) = firstL f l k ++ [(itL f l k).getD 0 0] := by
  simp only [firstL]; rw [List.range_succ, List.map_append]; rfl

theorem itL_valid {f : List Int → List Int} {n : Nat} (hf : ∀ l, validE ((n : Int), l) = true → validE ((n : Int), f l) = true) {l : List Int} (h : validE ((n : Int), l) = true) : ∀ i, validE ((n : Int), itL f l i) = true
  | 0 => h
  | i + 1 => hf _ (itL_valid hf h i)

def cycL (n : Nat) (l : List Int) : List Int := stepsL (10 ^ n) 1 1 l (l.length - 1)
def halvesL (n : Nat) (l : List Int) : List Int := halfL (10 ^ n) 2 (halfL (10 ^ n) 1 l)

theorem cycL_valid {n : Nat} (l : List Int) (h : validE ((n : Int), l) = true) : validE ((n : Int), cycL n l) = true := by
  obtain ⟨h1, h2, h3⟩ := valid_all h
  unfold cycL
  exact validE_of h1 (by rw [stepsL_len]; exact h2) (stepsL_in _ (pow10 h1.2).1 1 1 l h3 (l.length - 1) (fun i hi => by omega) (l.length - 1) (Nat.le_refl _))

theorem halfL_valid {n : Nat} (l : List Int) (h : validE ((n : Int), l) = true) (s : Nat) (hs : 1 ≤ s ∧ s ≤ 2) : validE ((n : Int), halfL (10 ^ n) s l) = true := by
  obtain ⟨h1, h2, h3⟩ := valid_all h
  unfold halfL
  exact validE_of h1 (by rw [stepsL_len]; exact h2) (stepsL_in _ (pow10 h1.2).1 2 s l h3 ((l.length - s + 1) / 2) (fun i hi => by omega) _ (Nat.le_refl _))

theorem halvesL_valid {n : Nat} (l : List Int) (h : validE ((n : Int), l) = true) : validE ((n : Int), halvesL n l) = true :=
  halfL_valid _ (halfL_valid l h 1 (by omega)) 2 (by omega)

theorem preL_valid {n : Nat} {l : List Int} (h : validE ((n : Int), l) = true) : validE ((n : Int), preL (10 ^ n) l l.length) = true := by
  obtain ⟨h1, h2, h3⟩ := valid_all h
  refine validE_of h1 (by rw [preL_len]; exact h2) (fun x hx => ?_)
  simp only [preL, List.mem_map, List.mem_range] at hx
  obtain ⟨i, hi, rfl⟩ := hx
  obtain ⟨_, _, q3⟩ := valid_all (backsL_valid h (i / 2))
  exact getD_all (p := fun x => 0 ≤ x ∧ x ≤ (10 : Int) ^ n - 1) q3 (by rw [backsL_len]; exact hi)

theorem i_results (n : Nat) (l : List Int) (h : validE ((n : Int), l) = true) (c : Nat) (hc : c ≤ 1000) : F_i_Engine_results (((n : Int), l), (c : Int)) = some (firstL (cycL n) l c) := by
  unfold F_i_Engine_results
  refine iter_run (fun i => ((c : Int), (i : Int), (n : Int), itL (cycL n) l i, firstL (cycL n) l i)) c (by simp [itL, firstL]) (fun i hi => ?_) ?_
  · have hv := itL_valid cycL_valid h i
    obtain ⟨_, q2, _⟩ := valid_all hv
    have hl := firstL_len (cycL n) l i
    have hs := i_cycle n (itL (cycL n) l i) hv
    simp (disch := omega) only [ilt_e, cond_pos, okIx_e, xlen_e, chk_pos, okRoom_e, hl, List.length_cons, List.length_nil, hs, bind_s, iadd_e, w64, xapp_e, xget_e]
    rw [firstL_succ]
    rfl
  · simp (disch := omega) only [ilt_e, cond_neg]

theorem i_halves1 (n : Nat) (l : List Int) (h : validE ((n : Int), l) = true) : F_i_RunHalves_1 ((n : Int), l) = some ((n : Int), halvesL n l) := by
  unfold F_i_RunHalves_1
  have h1 := i_half n l h 1 (by omega) (by omega)
  have h2 := i_half n (halfL (10 ^ n) 1 l) (halfL_valid l h 1 (by omega)) 2 (by omega) (by omega)
  have h1' : F_i_Engine_half (((n : Int), l), 1) = some ((n : Int), halfL (10 ^ n) 1 l) := h1
  have h2' : F_i_Engine_half (((n : Int), halfL (10 ^ n) 1 l), 2) = some ((n : Int), halvesL n l) := h2
  simp only [h1', bind_s, h2']

theorem i_results_b (n : Nat) (l : List Int) (h : validE ((n : Int), l) = true) (c : Nat) (hc : c ≤ 1000) : F_i_Engine_results_b (((n : Int), l), (c : Int)) = some (firstL (halvesL n) l c) := by
  unfold F_i_Engine_results_b
  refine iter_run (fun i => ((c : Int), (i : Int), (n : Int), itL (halvesL n) l i, firstL (halvesL n) l i)) c (by simp [itL, firstL]) (fun i hi => ?_) ?_
  · have hv := itL_valid halvesL_valid h i
    obtain ⟨_, q2, _⟩ := valid_all hv
    have hl := firstL_len (halvesL n) l i
    have hs := i_halves1 n (itL (halvesL n) l i) hv
    simp (disch := omega) only [ilt_e, cond_pos, okIx_e, xlen_e, chk_pos, okRoom_e, hl, List.length_cons, List.length_nil, hs, bind_s, iadd_e, w64, xapp_e, xget_e]
    rw [firstL_succ]
    rfl
  · simp (disch := omega) only [ilt_e, cond_neg]

def runC (e : Int × List Int) (c : Int) : Int := cond (validE e) (if 0 ≤ c ∧ c ≤ 40 then 0 else 2) 1

theorem i_cyclesCode (e : Int × List Int) (c : Int) : F_i_cyclesCode (e, c) = some (runC e c) := by
  unfold F_i_cyclesCode runC
  simp only [i_valid, bind_s, between_e]
  cases validE e with
  | false => rfl
  | true =>
    simp only [bnot_t, cond_f, cond_t, bnot_d]
    by_cases h : 0 ≤ c ∧ c ≤ 40
    · rw [if_pos h, cond_neg (by simpa using h)]
    · rw [if_neg h, cond_pos h]

theorem s_cyclesCode (e : Int × List Int) (c : Int) : F_s_l16Code (e, c) = some (runC e c) := by
  unfold F_s_l16Code runC
  simp only [s_valid, bind_s, l00In_e]
  cases validE e with
  | false => rfl
  | true =>
    simp only [bnot_t, cond_f, cond_t, bnot_d]
    by_cases h : 0 ≤ c ∧ c ≤ 40
    · rw [if_pos h, cond_neg (by simpa using h)]
    · rw [if_neg h, cond_pos h]

theorem runC_ok {e : Int × List Int} {c : Int} (h : runC e c = 0) : ∃ (n k : Nat) (l : List Int), e = ((n : Int), l) ∧ c = k ∧ k ≤ 40 ∧ validE ((n : Int), l) = true := by
  unfold runC at h
  cases hv : validE e with
  | false => rw [hv] at h; simp at h
  | true =>
    rw [hv] at h
    simp only [cond_t] at h
    by_cases hc : 0 ≤ c ∧ c ≤ 40
    · obtain ⟨n, hn⟩ := validE_nat hv
      obtain ⟨w, l⟩ := e
      simp only at hn
      subst hn
      exact ⟨n, c.toNat, l, rfl, by omega, by omega, hv⟩
    · rw [if_neg hc] at h; simp at h

def runE (e : Int × List Int) (c : Int) : List Int × Int := if runC e c = 0 then (firstL (cycL e.1.toNat) e.2 c.toNat, 0) else ([], runC e c)
def runH (e : Int × List Int) (c : Int) : List Int × Int := if runC e c = 0 then (firstL (halvesL e.1.toNat) (preL (10 ^ e.1.toNat) e.2 e.2.length) c.toNat, 0) else ([], runC e c)

theorem runE_len (e : Int × List Int) (c : Int) : ((runE e c).1.length : Int) ≤ 40 := by
  unfold runE
  split
  · rename_i h
    obtain ⟨n, k, l, rfl, rfl, hk, _⟩ := runC_ok h
    simp only [firstL_len]; omega
  · simp
theorem runH_len (e : Int × List Int) (c : Int) : ((runH e c).1.length : Int) ≤ 40 := by
  unfold runH
  split
  · rename_i h
    obtain ⟨n, k, l, rfl, rfl, hk, _⟩ := runC_ok h
    simp only [firstL_len]; omega
  · simp

theorem i_runEngine (e : Int × List Int) (c : Int) : F_i_RunEngine (e, c) = some (runE e c) := by
  unfold F_i_RunEngine runE
  simp only [i_cyclesCode, bind_s, ine_e]
  by_cases h : runC e c = 0
  · rw [if_pos h, cond_neg (by simpa using h)]
    obtain ⟨n, k, l, rfl, rfl, hk, hv⟩ := runC_ok h
    simp only [i_results n l hv k (by omega), bind_s]
    rfl
  · rw [if_neg h, cond_pos h]

theorem s_runEngine (e : Int × List Int) (c : Int) : F_s_RunEngine (e, c) = some (runE e c) := by
  unfold F_s_RunEngine runE
  simp only [s_cyclesCode, bind_s, ine_e]
  by_cases h : runC e c = 0
  · rw [if_pos h, cond_neg (by simpa using h)]
    obtain ⟨n, k, l, rfl, rfl, hk, hv⟩ := runC_ok h
    refine iter_run (fun i => ((k : Int), (i : Int), (n : Int), itL (cycL n) l i, firstL (cycL n) l i)) k (by simp [itL, firstL]) (fun i hi => ?_) ?_
    · have hv := itL_valid cycL_valid hv i
      obtain ⟨_, q2, _⟩ := valid_all hv
      have hl := firstL_len (cycL n) l i
      have hs := s_cycle n (itL (cycL n) l i) hv
      simp (disch := omega) only [ilt_e, cond_pos, okIx_e, xlen_e, chk_pos, okRoom_e, hl, List.length_cons, List.length_nil, hs, bind_s, iadd_e, w64, xapp_e, xget_e]
      rw [firstL_succ]
      rfl
    · simp (disch := omega) only [ilt_e, cond_neg]
      rfl
  · rw [if_neg h, cond_pos h]

theorem i_runHalves (e : Int × List Int) (c : Int) : F_i_RunHalves (e, c) = some (runH e c) := by
  unfold F_i_RunHalves runH
  simp only [i_cyclesCode, bind_s, ine_e]
  by_cases h : runC e c = 0
  · rw [if_pos h, cond_neg (by simpa using h)]
    obtain ⟨n, k, l, rfl, rfl, hk, hv⟩ := runC_ok h
    simp only [i_prep n l hv, bind_s, i_results_b n _ (preL_valid hv) k (by omega)]
    rfl
  · rw [if_neg h, cond_pos h]

theorem s_runHalves (e : Int × List Int) (c : Int) : F_s_RunHalves (e, c) = some (runH e c) := by
  unfold F_s_RunHalves runH
  simp only [s_cyclesCode, bind_s, ine_e]
  by_cases h : runC e c = 0
  · rw [if_pos h, cond_neg (by simpa using h)]
    obtain ⟨n, k, l, rfl, rfl, hk, hv⟩ := runC_ok h
    simp only [s_prep n l hv, bind_s]
    have hp := preL_valid hv
    generalize hm : preL (10 ^ n) l l.length = p at hp
    refine iter_run (fun i => ((k : Int), (i : Int), firstL (halvesL n) p i, (n : Int), itL (halvesL n) p i)) k (by simp [itL, firstL]) (fun i hi => ?_) ?_
    · have hv := itL_valid halvesL_valid hp i
      obtain ⟨_, q2, _⟩ := valid_all hv
      have hl := firstL_len (halvesL n) p i
      have h1 := s_half n (itL (halvesL n) p i) hv true
      have h2 := s_half n (halfL (10 ^ n) 1 (itL (halvesL n) p i)) (halfL_valid _ hv 1 (by omega)) false
      have h1' : F_s_l16Half (((n : Int), itL (halvesL n) p i), true) = some ((n : Int), halfL (10 ^ n) 1 (itL (halvesL n) p i)) := h1
      simp (disch := omega) only [ilt_e, cond_pos, okIx_e, xlen_e, chk_pos, okRoom_e, hl, List.length_cons, List.length_nil, h1', h2, bind_s, iadd_e, w64, xapp_e, xget_e]
      rw [firstL_succ]
      rfl
    · simp (disch := omega) only [ilt_e, cond_neg]
      rw [← hm]
      rfl
  · rw [if_neg h, cond_pos h]

theorem law_RunEngine (a : Int × List Int) (b : Int) (h0 : (a.2.length : Int) ≤ 9223372036854775807) : F_l_FnExactRunEngine (a, b) = some true := by
  have hb := runE_len a b
  unfold F_l_FnExactRunEngine
  obtain ⟨v0, e0, q0⟩ := sz_E a 1048576 h0 (by omega) (by omega)
  simp only [e0, bind_s, ilt_e]
  rcases q0 with rfl | ⟨q0, q0'⟩
  · rfl
  rw [cond_neg (by omega)]
  simp (disch := omega) only [bind_s, ilt_e, cond_neg, to_Register, to_Machine, to_Int64S, eq_Register, eq_Machine, eq_Int64S, mark_Register, mark_M, mark_Int64S, held_Register, held_M, held_Int64S, decide_true, bnot_t, cond_f, ine_e, not_true_eq_false, decide_false, bnev_s, cnt_len, s_runEngine, i_runEngine, to_Engine, eq_Engine, mark_Engine]

theorem FnExactRunEngine_true {t1 : TypeId} (x : (Int × List Int) × (Int)) (h : wfArgs [.val true (.pair (.int .i64) (.row false t1 (.int .i64))), .val false (.int .i64)] x) : ∃ y, F_l_FnExactRunEngine x = some y ∧ hhead .bool [] y = true :=
  ⟨true, law_RunEngine (x.1) (x.2) (maxLen_le (n := (x.1).2.length) h.1.2.1), rfl⟩

theorem law_RunHalves (a : Int × List Int) (b : Int) (h0 : (a.2.length : Int) ≤ 9223372036854775807) : F_l_FnExactRunHalves (a, b) = some true := by
  have hb := runH_len a b
  unfold F_l_FnExactRunHalves
  obtain ⟨v0, e0, q0⟩ := sz_E a 1048576 h0 (by omega) (by omega)
  simp only [e0, bind_s, ilt_e]
  rcases q0 with rfl | ⟨q0, q0'⟩
  · rfl
  rw [cond_neg (by omega)]
  simp (disch := omega) only [bind_s, ilt_e, cond_neg, to_Register, to_Machine, to_Int64S, eq_Register, eq_Machine, eq_Int64S, mark_Register, mark_M, mark_Int64S, held_Register, held_M, held_Int64S, decide_true, bnot_t, cond_f, ine_e, not_true_eq_false, decide_false, bnev_s, cnt_len, s_runHalves, i_runHalves, to_Engine, eq_Engine, mark_Engine]

theorem FnExactRunHalves_true {t1 : TypeId} (x : (Int × List Int) × (Int)) (h : wfArgs [.val true (.pair (.int .i64) (.row false t1 (.int .i64))), .val false (.int .i64)] x) : ∃ y, F_l_FnExactRunHalves x = some y ∧ hhead .bool [] y = true :=
  ⟨true, law_RunHalves (x.1) (x.2) (maxLen_le (n := (x.1).2.length) h.1.2.1), rfl⟩


end Go.Prg
