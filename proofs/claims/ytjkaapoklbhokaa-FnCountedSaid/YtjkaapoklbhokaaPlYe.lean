/- Plain laws, part Ye: the law of counted turns, its end. Conditions: none. -/
import Derived.Test.YtjkaapoklbhokaaPlYd
set_option linter.all false
namespace Go.Prg
open Go.Eng

def a2v (y : List Int) (i : Nat) (m : Int) : Int := if (y.length : Int) ≤ i then 0 else (y.getD i 0).tmod m

theorem a2At_v (y : List Int) (hy : ∀ x ∈ y, 0 ≤ x ∧ x ≤ 255) (hn : y.length ≤ 3000) (i : Nat) (m : Int) (hm : 2 ≤ m ∧ m ≤ 1000) : F_l_a2At (y, ((i : Int), m)) = some (a2v y i m) ∧ 0 ≤ a2v y i m ∧ a2v y i m ≤ m - 1 := by
  unfold F_l_a2At a2v
  simp only [n2i_e, xlen_e, ige_e]
  by_cases h : (y.length : Int) ≤ i
  · rw [cond_pos h, if_pos h]
    exact ⟨rfl, by omega, by omega⟩
  · rw [cond_neg h, if_neg h]
    have g := getD_all (p := fun d => 0 ≤ d ∧ d ≤ 255) hy (i := i) (by omega)
    simp (disch := omega) only [ilt_e, cond_neg, okIx_e, xlen_e, chk_pos, okDiv_e, xget_e, i2n_e, w64, irem_e]
    exact ⟨trivial, tmod_pick g.1 hm.1⟩

def listL (y : List Int) (k : Nat) : List Int := (List.range k).map fun i => 1 + a2v y i 4
theorem listL_len (y : List Int) (k : Nat) : (listL y k).length = k := by simp [listL]
theorem listL_succ (y : List Int) (k : Nat) : listL y (k + 1) = listL y k ++ [1 + a2v y k 4] := by
  simp only [listL]; rw [List.range_succ, List.map_append]; rfl
theorem listL_in (y : List Int) (hy : ∀ x ∈ y, 0 ≤ x ∧ x ≤ 255) (hn : y.length ≤ 3000) (k : Nat) : ∀ x ∈ listL y k, 1 ≤ x ∧ x ≤ 4 := by
  intro x hx
  simp only [listL, List.mem_map, List.mem_range] at hx
  obtain ⟨i, _, rfl⟩ := hx
  have := (a2At_v y hy hn i 4 (by omega)).2
  omega

theorem val_zero {w : Int} (hw : 2 ≤ w ∧ w ≤ 16) (n : Nat) : valL w (digL w 0 n) = 0 := by
  have h1 := valL_dig_le (b := w) (v := 0) hw.1 (by omega) n
  have h2 := valL_nonneg (b := w) (by omega) (digL_ok (b := w) (v := 0) hw.1 (by omega) n)
  omega

theorem s_doStrokeM (m : Mach) (k : Int) (h : validM m = true) (hk : 1 ≤ k ∧ k ≤ 6) : F_s_DoStroke ((m.1, (m.2.1, (m.2.2.1, m.2.2.2))), k) = some ((strokeMM m k).1, ((strokeMM m k).2, 0)) := by
  obtain ⟨l1, l2, l3⟩ := machine_len m h
  rw [s_doStroke m.1 m.2.1 m.2.2.1 m.2.2.2 k (by omega) (by omega) (by omega)]
  have h' : validM (m.1, m.2.1, m.2.2.1, m.2.2.2) = true := h
  unfold strokeR
  rw [h', cond_t, if_pos hk]

theorem i_strokesM (m : Mach) (ks : List Int) (h : validM m = true) (hk : ∀ k ∈ ks, 1 ≤ k ∧ k ≤ 4) (hn : ks.length ≤ 300) : F_i_DoStrokes (((m.1.1, m.1.2), ((m.2.1.1, m.2.1.2), ((m.2.2.1.1, m.2.2.1.2), m.2.2.2))), ks) = some ((runK m 0 ks).1, ((runK m 0 ks).2, 0)) := by
  obtain ⟨l1, l2, l3⟩ := machine_len m h
  have e := i_doStrokes m.1 m.2.1 m.2.2.1 m.2.2.2 ks (by omega) (by omega) (by omega) (by omega)
  refine Eq.trans e ?_
  have h' : validM (m.1, m.2.1, m.2.2.1, m.2.2.2) = true := h
  have ha : (ks.all fun k => decide (1 ≤ k ∧ k ≤ 6)) = true := by
    rw [List.all_eq_true]
    intro k hk'
    have := hk k hk'
    simp only [decide_eq_true_eq]; omega
  unfold strokesR
  rw [h', ha, cond_t, cond_t, if_neg (by omega)]

theorem s_sameMM (m : Mach) (h : validM m = true) : F_s_SameMachine (((m.1.1, m.1.2), ((m.2.1.1, m.2.1.2), ((m.2.2.1.1, m.2.2.1.2), m.2.2.2))), ((m.1.1, m.1.2), ((m.2.1.1, m.2.1.2), ((m.2.2.1.1, m.2.2.1.2), m.2.2.2)))) = some true := by
  obtain ⟨l1, l2, l3⟩ := machine_len m h
  unfold F_s_SameMachine
  have e := s_sameM m.1 m.2.1 m.2.2.1 m.1 m.2.1 m.2.2.1 m.2.2.2 m.2.2.2 (by omega) (by omega) (by omega) (by omega) (by omega) (by omega)
  rw [decide_eq_true rfl] at e
  refine Eq.trans (congrArg (fun o => Option.bind o _) e) ?_
  rfl

theorem tmod_self_mul {N x r q : Int} (h : r = x + N * q) : (x - r).tmod N = 0 := by
  rw [h, show x - (x + N * q) = N * (-q) by rw [Int.mul_neg]; omega]
  exact Int.mul_tmod_right N (-q)

theorem prod_in {t s : Int} (h1 : -207360 ≤ t ∧ t ≤ 207360) (h2 : 0 ≤ s ∧ s ≤ 20736) : -4299816960 ≤ t * s ∧ t * s ≤ 4299816960 := by
  have a1 := Int.mul_le_mul_of_nonneg_right (c := s) h1.2 h2.1
  have a2 := Int.mul_le_mul_of_nonneg_right (c := s) h1.1 h2.1
  omega

theorem law_FnCounted (x : List Int × List Int) (h1 : ∀ d ∈ x.1, 0 ≤ d ∧ d ≤ 255) (h2 : ∀ d ∈ x.2, 0 ≤ d ∧ d ≤ 255) : F_l_FnCounted x = some true := by
  obtain ⟨x, y⟩ := x
  simp only at h1 h2
  unfold F_l_FnCounted F_l_a2Long
  simp only [igt_e, n2i_e, xlen_e]
  by_cases hx : 3000 < (x.length : Int)
  · rw [cond_pos hx]; rfl
  rw [cond_neg hx]
  simp only [bind_s]
  by_cases hy : 3000 < (y.length : Int)
  · rw [cond_pos hy]
  rw [cond_neg hy]
  obtain ⟨m0, w, a, b, c, e1, hm0, hw, ha, hb, hc⟩ := machine_ok x h1
  have e2 := s_doStrokeM m0 5 hm0.1 (by omega)
  have hm := stroke_sh hm0 (k := 5) (by omega)
  obtain ⟨m, hmd⟩ : ∃ m, m = (strokeMM m0 5).1 := ⟨_, rfl⟩
  have hz : valL w m.2.1.2 = 0 ∧ valL w m.2.2.1.2 = 0 := by
    obtain ⟨la, lb, lc, p, rfl, rfl, rfl, rfl, _⟩ := shM_parts hm0
    rw [hmd]
    simp only [strokeMM, strokeM]
    simp only [if_neg (show ¬ (5 : Int) = 1 by omega), if_neg (show ¬ (5 : Int) = 2 by omega), if_neg (show ¬ (5 : Int) = 3 by omega), if_neg (show ¬ (5 : Int) = 4 by omega), if_pos]
    exact ⟨val_zero (by omega) _, val_zero (by omega) _⟩
  rw [← hmd] at e2 hm
  simp only [e1, bind_s, cond_f, e2]
  have hks := listL_in y h2 (by omega) 10
  have hkl := listL_len y 10
  refine iter_run (fun i => ((i : Int), y, m.1.1, m.2.1.1, m.2.2.1.1, m.2.2.2, m.1.2, m.2.1.2, m.2.2.1.2, listL y i)) 10 (by simp [listL]) (fun i hi => ?_) ?_
  · obtain ⟨p1, p2⟩ := a2At_v y h2 (by omega) i 4 (by omega)
    have hl := listL_len y i
    simp (disch := omega) only [ilt_e, cond_pos, p1, bind_s, okRoom_e, xlen_e, hl, List.length_cons, List.length_nil, chk_pos, iadd_e, w64, listL_succ]
    rfl
  · have e3 := i_strokesM m (listL y 10) hm.1 hks (by omega)
    obtain ⟨n, hn, hrun, hbell⟩ := runK_spec (listL y 10) m 0
    rw [hrun] at e3
    rw [hkl] at hn
    simp only [Int.zero_add] at e3
    have hX := mS_sh hm hks n (by omega)
    obtain ⟨X, hXd⟩ : ∃ X, X = mS m (listL y 10) n := ⟨_, rfl⟩
    obtain ⟨x1, x2, x3⟩ := machine_len X (by rw [hXd]; exact hX.1)
    have hvX := s_validM' X.1 X.2.1 X.2.2.1 X.2.2.2 (by omega) (by omega) (by omega)
    rw [show validM (X.1, X.2.1, X.2.2.1, X.2.2.2) = true from by rw [hXd]; exact hX.1] at hvX
    have hvV : F_s_ValidMachine (X.1, (X.2.1, (X.2.2.1, X.2.2.2))) = some true := by
      unfold F_s_ValidMachine
      refine Eq.trans (congrArg (fun o => Option.bind o _) hvX) ?_
      rfl
    rw [← hXd] at e3 hX
    simp (disch := omega) only [ilt_e, cond_neg, e3, bind_s, ine_e, not_true_eq_false, decide_false, cond_f, igt_e, hvV, bnot_t]
    refine Eq.trans (congrArg (Option.map Sum.inr) (iter_run (r := true) (fun i => ((n : Int), tS w m (listL y 10) i, (i : Int), m.1.1, m.2.1.1, m.2.2.1.1, m.2.2.2, m.1.2, m.2.1.2, m.2.2.1.2, listL y 10, X.1.1, X.2.1.1, X.2.2.1.1, X.2.2.2, X.1.2, X.2.1.2, X.2.2.1.2,
      (mS m (listL y 10) i).1.1, (mS m (listL y 10) i).2.1.1, (mS m (listL y 10) i).2.2.1.1, (mS m (listL y 10) i).2.2.2, (mS m (listL y 10) i).1.2, (mS m (listL y 10) i).2.1.2, (mS m (listL y 10) i).2.2.1.2)) n (by simp [mS, tS]) (fun i hi => ?_) ?_)) rfl
    · have hi' : i < (listL y 10).length := by omega
      have hmi := mS_sh hm hks i (by omega)
      have hti := tS_in hm hw hc.2 hks i (by omega)
      have hb' := hbell i hi
      have g := getD_all (p := fun k => 1 ≤ k ∧ k ≤ 4) hks hi'
      have est := s_strokeB (mS m (listL y 10) i) ((listL y 10).getD i 0) hmi.1 (by omega)
      obtain ⟨la, lb, lc, p, ep, _, _, _, _, _, _, _, _, _, _, _, _, hp⟩ := shM_parts hmi
      have hp2 := imin_le ((b : Int) - a + 1) c
      have epw := a2Power_e w hw p.toNat (by omega)
      rw [show ((p.toNat : Nat) : Int) = p by omega] at epw
      have hpow := pow12s hw (n := p.toNat) (by omega)
      have hw1 : m.1.1 = w := hm.2.1
      have hpl : (mS m (listL y 10) i).2.2.2 = p := by rw [ep]
      have hS : mS m (listL y 10) (i + 1) = (strokeMM (mS m (listL y 10) i) ((listL y 10).getD i 0)).1 := rfl
      have hT : tS w m (listL y 10) (i + 1) = tS w m (listL y 10) i + (if (listL y 10).getD i 0 = 1 then w ^ p.toNat else if (listL y 10).getD i 0 = 2 then -(w ^ p.toNat) else 0) := by
        rw [tS, hpl]
      rw [hS, hT]
      generalize (strokeMM (mS m (listL y 10) i) ((listL y 10).getD i 0)) = z at est hb' ⊢
      obtain ⟨z, bl⟩ := z
      generalize mS m (listL y 10) i = M at est hpl ⊢
      generalize tS w m (listL y 10) i = t at hti ⊢
      generalize w ^ p.toNat = u at epw hpow ⊢
      simp (disch := omega) only [ilt_e, cond_pos, hw1, hpl, epw, bind_s, okIx_e, xlen_e, hkl, chk_pos, xget_e, i2n_e]
      generalize (listL y 10).getD i 0 = k at est g ⊢
      rw [hpl] at est
      simp only [est, bind_s, not_true_eq_false, decide_false, cond_f, ieq_e]
      have fin : ∀ Z : Option ((Int × Int × Int × Int × Int × Int × Int × List Int × List Int × List Int × List Int × Int × Int × Int × Int × List Int × List Int × List Int × Int × Int × Int × Int × List Int × List Int × List Int) ⊕ Bool), True := fun _ => trivial
      have key : ∀ (tt : Int), tt = t + (if k = 1 then u else if k = 2 then -u else 0) → (some (Sum.inl ((n : Int), tt, (i : Int) + 1, w, m.2.1.1, m.2.2.1.1, m.2.2.2, m.1.2, m.2.1.2, m.2.2.1.2, listL y 10, X.1.1, X.2.1.1, X.2.2.1.1, X.2.2.2, X.1.2, X.2.1.2, X.2.2.1.2, z.1.1, z.2.1.1, z.2.2.1.1, z.2.2.2, z.1.2, z.2.1.2, z.2.2.1.2)) : Option (_ ⊕ Bool)) =
          some (Sum.inl ((n : Int), t + (if k = 1 then u else if k = 2 then -u else 0), ((i + 1 : Nat) : Int), w, m.2.1.1, m.2.2.1.1, m.2.2.2, m.1.2, m.2.1.2, m.2.2.1.2, listL y 10, X.1.1, X.2.1.1, X.2.2.1.1, X.2.2.2, X.1.2, X.2.1.2, X.2.2.1.2, z.1.1, z.2.1.1, z.2.2.1.1, z.2.2.2, z.1.2, z.2.1.2, z.2.2.1.2)) := fun tt h => by rw [h]; rfl
      cases bl with
      | true =>
        have := hb' rfl
        simp (disch := omega) only [cond_t, iadd_e, w64, cond_neg]
        by_cases k1 : k = 1
        · simp (disch := omega) only [k1, decide_true, cond_t, cond_neg, w64]
          subst k1
          exact key _ (by rw [if_pos rfl])
        · rw [cond_neg k1]
          by_cases k2 : k = 2
          · simp (disch := omega) only [k2, decide_true, cond_t, isub_e, w64]
            subst k2
            exact key _ (by rw [if_neg (by omega), if_pos rfl]; omega)
          · rw [cond_neg k2]
            exact key _ (by rw [if_neg k1, if_neg k2]; omega)
      | false =>
        simp (disch := omega) only [cond_f, iadd_e, w64]
        by_cases k1 : k = 1
        · simp (disch := omega) only [k1, decide_true, cond_t, cond_neg, w64]
          subst k1
          exact key _ (by rw [if_pos rfl])
        · rw [cond_neg k1]
          by_cases k2 : k = 2
          · simp (disch := omega) only [k2, decide_true, cond_t, isub_e, w64]
            subst k2
            exact key _ (by rw [if_neg (by omega), if_pos rfl]; omega)
          · rw [cond_neg k2]
            exact key _ (by rw [if_neg k1, if_neg k2]; omega)
    · have hsm := s_sameMM X hX.1
      have hw1 : m.1.1 = w := hm.2.1
      obtain ⟨c1, ⟨q1, c2⟩, ⟨q2, c3⟩⟩ := mS_counts hm hks hz.1 hz.2 n (by omega)
      have hti := tS_in hm hw hc.2 hks n (by omega)
      rw [← hXd] at c1 c2 c3 ⊢
      obtain ⟨la, lb, lc, p, rfl, l1, l2, l3, _, d1, d2, d3, _, _, _, _, _, _⟩ := shM_parts hm
      obtain ⟨la', lb', lc', p', rfl, l1', l2', l3', _, d1', d2', d3', _, _, _, _, _, _⟩ := shM_parts hX
      simp only at c1 c2 c3 hsm ⊢
      subst c1
      have v1 := s_valueOf_ok w la' (valid12 hw (by omega) d1) (by omega)
      have v2 := s_valueOf_ok w lb' (valid12 hw (by omega) d2') (by omega)
      have v3 := s_valueOf_ok w lc' (valid12 hw (by omega) d3') (by omega)
      have p1 := a2Power_e w hw lb.length (by omega)
      have p2 := a2Power_e w hw lc.length (by omega)
      have p3 := pow12 hw (n := lb.length) (by omega)
      have p4 := pow12 hw (n := lc.length) (by omega)
      have p5 := pow12s hw (n := la'.length) (by omega)
      have s1 := valL_nonneg (b := w) (by omega) d1
      have s2 := valL_lt (b := w) (by omega) d1
      have s3 := valL_nonneg (b := w) (by omega) d2'
      have s4 := valL_lt (b := w) (by omega) d2'
      have s5 := valL_nonneg (b := w) (by omega) d3'
      have s6 := valL_lt (b := w) (by omega) d3'
      rw [show lb'.length = lb.length by omega] at s4
      rw [show lc'.length = lc.length by omega] at s6
      rw [← l2] at c2
      rw [← l3] at c3
      have hq := prod_in (t := tS w ((w, la'), (w, lb), (w, lc), p) (listL y 10) n) (s := valL w la') (by omega) (by omega)
      have r1 := tmod_self_mul c2
      have r2 := tmod_self_mul c3
      generalize tS w ((w, la'), (w, lb), (w, lc), p) (listL y 10) n = t at hti c2 c3 hq r1 r2 ⊢
      generalize valL w la' = vs at *
      generalize valL w lb' = vb at *
      generalize valL w lc' = vc at *
      generalize w ^ lb.length = wb at *
      generalize w ^ lc.length = wc at *
      have hts : imul .i64 t vs = t * vs := by rw [imul_e, w64 (by omega) (by omega)]
      generalize t * vs = ts at hq r1 hts
      simp (disch := omega) only [ilt_e, cond_neg, hsm, bind_s, bnot_t, cond_f, v1, v2, v3, n2i_e, xlen_e, p1, p2, ieq_e, decide_true, cond_t, okDiv_e, chk_pos, hts, isub_e, w64, irem_e, r1, r2]
      rfl

theorem FnCounted_true (x : List Int × List Int) (h : wfArgs [.val false (.row false 5 (.int .u8)), .val false (.row false 5 (.int .u8))] x) : ∃ y, F_l_FnCounted x = some y ∧ hhead .bool [] y = true :=
  ⟨true, law_FnCounted x (wf_u8s (show wf (.row false 5 (.int .u8)) x.1 from h.1)) (wf_u8s (show wf (.row false 5 (.int .u8)) x.2 from h.2.1)), rfl⟩

end Go.Prg
