/- Plain laws, part Uc: desks compared. Conditions: none. -/
import Derived.Test.YthbmjicbhmiofaaPlUa
set_option linter.all false
namespace Go.Prg
open Go.Eng

/-- two rows compared element by element -/
theorem iter_same {σ α : Type} [DecidableEq α] {d : α} (a b : List α) (hl : a.length = b.length) (inv : Nat → σ) {f : σ → Option (σ ⊕ Bool)} {s : σ} (h0 : s = inv 0) (hs : ∀ i, i < a.length → f (inv i) = some (if a.getD i d = b.getD i d then .inl (inv (i + 1)) else .inr false)) (he : f (inv a.length) = some (.inr true)) : iter f s = some (decide (a = b)) := by
  by_cases hab : a = b
  · subst hab
    rw [decide_eq_true rfl]
    exact iter_run inv a.length h0 (fun i hi => by rw [hs i hi, if_pos rfl]) he
  · obtain ⟨k, hk, hne, hmin⟩ := first_diff hl hab
    rw [decide_eq_false hab]
    refine iter_run inv k h0 (fun i hi => ?_) ?_
    · have h1 : a.getD i d = b.getD i d := by rw [List.getD_eq_getElem?_getD, List.getD_eq_getElem?_getD, hmin i hi]
      rw [hs i (by omega), if_pos h1]
    · have h1 : ¬ a.getD k d = b.getD k d := by
        rw [getD_lt hk, getD_lt (by omega)]
        rw [List.getElem?_eq_getElem hk, List.getElem?_eq_getElem (by omega)] at hne
        simpa using hne
      rw [hs k hk, if_neg h1]

theorem pair_test (x y : Int × Int) : bnot (band (ieq x.1 y.1) (band (ieq x.2 y.2) true)) = decide (¬ x = y) := by
  obtain ⟨x1, x2⟩ := x
  obtain ⟨y1, y2⟩ := y
  simp only [ieq_e]
  by_cases h1 : x1 = y1 <;> by_cases h2 : x2 = y2 <;> simp [h1, h2, bnot, band]

theorem i_sameN (a b : List Int) (h : (a.length : Int) ≤ 1048576) (h' : (b.length : Int) ≤ 1048576) : F_i_sameNumbers (a, b) = some (decide (a = b)) := by
  unfold F_i_sameNumbers
  simp only [ine_e, n2i_e, xlen_e]
  by_cases hl : a.length = b.length
  · rw [cond_neg (by omega)]
    refine iter_same (d := 0) a b hl (fun i => ((a.length : Int), (i : Int), a, b)) rfl (fun i hi => ?_) ?_
    · simp (disch := omega) only [ilt_e, cond_pos, okIx_e, xlen_e, chk_pos, xget_e, i2n_e, iadd_e, w64]
      by_cases e : a.getD i 0 = b.getD i 0
      · rw [cond_neg (by simpa using e), if_pos e]; rfl
      · rw [cond_pos e, if_neg e]
    · simp (disch := omega) only [ilt_e, cond_neg]
  · rw [cond_pos (by omega), decide_eq_false (fun e => hl (by rw [e]))]

theorem s_sameN (a b : List Int) (h : (a.length : Int) ≤ 1048576) (h' : (b.length : Int) ≤ 1048576) : F_s_l00Same (a, b) = some (decide (a = b)) := by
  unfold F_s_l00Same
  simp only [ine_e, n2i_e, xlen_e]
  by_cases hl : a.length = b.length
  · rw [cond_neg (by omega)]
    refine iter_same (d := 0) a b hl (fun i => ((i : Int), a, b)) rfl (fun i hi => ?_) ?_
    · simp (disch := omega) only [ilt_e, cond_pos, okIx_e, xlen_e, chk_pos, xget_e, i2n_e, iadd_e, w64]
      by_cases e : a.getD i 0 = b.getD i 0
      · rw [cond_neg (by simpa using e), if_pos e]; rfl
      · rw [cond_pos e, if_neg e]
    · simp (disch := omega) only [ilt_e, cond_neg]
  · rw [cond_pos (by omega), decide_eq_false (fun e => hl (by rw [e]))]

theorem i_sameR (a b : Reg) (h : (a.2.length : Int) ≤ 1048576) (h' : (b.2.length : Int) ≤ 1048576) : F_i_SameRegister (a, b) = some (decide (a = b)) := by
  obtain ⟨w, l⟩ := a
  obtain ⟨w', l'⟩ := b
  unfold F_i_SameRegister
  simp only [ieq_e, i_sameN l l' h h', bind_s]
  by_cases e1 : w = w'
  · rw [cond_pos e1]; subst e1; simp
  · rw [cond_neg e1]; simp [e1]
theorem s_sameR (a b : Reg) (h : (a.2.length : Int) ≤ 1048576) (h' : (b.2.length : Int) ≤ 1048576) : F_s_l02Same (a, b) = some (decide (a = b)) := by
  obtain ⟨w, l⟩ := a
  obtain ⟨w', l'⟩ := b
  unfold F_s_l02Same
  simp only [ieq_e, s_sameN l l' h h', bind_s]
  by_cases e1 : w = w'
  · rw [cond_pos e1]; subst e1; simp
  · rw [cond_neg e1]; simp [e1]

theorem i_sameM (a b c a' b' c' : Reg) (p p' : Int) (h1 : (a.2.length : Int) ≤ 1048576) (h2 : (b.2.length : Int) ≤ 1048576) (h3 : (c.2.length : Int) ≤ 1048576) (h1' : (a'.2.length : Int) ≤ 1048576) (h2' : (b'.2.length : Int) ≤ 1048576) (h3' : (c'.2.length : Int) ≤ 1048576) :
    F_i_SameMachine ((a, (b, (c, p))), (a', (b', (c', p')))) = some (decide ((a, (b, (c, p))) = (a', (b', (c', p'))))) := by
  unfold F_i_SameMachine
  simp only [i_sameR a a' h1 h1', i_sameR b b' h2 h2', i_sameR c c' h3 h3', bind_s, ieq_e]
  by_cases e1 : a = a' <;> by_cases e2 : b = b' <;> by_cases e3 : c = c' <;> by_cases e4 : p = p' <;> simp [e1, e2, e3, e4]
theorem s_sameM (a b c a' b' c' : Reg) (p p' : Int) (h1 : (a.2.length : Int) ≤ 1048576) (h2 : (b.2.length : Int) ≤ 1048576) (h3 : (c.2.length : Int) ≤ 1048576) (h1' : (a'.2.length : Int) ≤ 1048576) (h2' : (b'.2.length : Int) ≤ 1048576) (h3' : (c'.2.length : Int) ≤ 1048576) :
    F_s_l10Same ((a, (b, (c, p))), (a', (b', (c', p')))) = some (decide ((a, (b, (c, p))) = (a', (b', (c', p'))))) := by
  unfold F_s_l10Same
  simp only [s_sameR a a' h1 h1', s_sameR b b' h2 h2', s_sameR c c' h3 h3', bind_s, ieq_e]
  by_cases e1 : a = a' <;> by_cases e2 : b = b' <;> by_cases e3 : c = c' <;> by_cases e4 : p = p' <;> simp [e1, e2, e3, e4]

theorem s_faults (a b : List (Int × Int)) (h : (a.length : Int) ≤ 1048576) (h' : (b.length : Int) ≤ 1048576) : F_s_l28Faults (a, b) = some (decide (a = b)) := by
  unfold F_s_l28Faults
  simp only [ine_e, n2i_e, xlen_e, pair_test]
  by_cases hl : a.length = b.length
  · rw [cond_neg (by omega)]
    refine iter_same (d := (0, 0)) a b hl (fun i => ((i : Int), a, b)) rfl (fun i hi => ?_) ?_
    · simp (disch := omega) only [ilt_e, cond_pos, okIx_e, xlen_e, chk_pos, xget_e, i2n_e, iadd_e, w64]
      by_cases e : a.getD i (0, 0) = b.getD i (0, 0)
      · rw [cond_neg (by simpa using e), if_pos e]; rfl
      · rw [cond_pos e, if_neg e]
    · simp (disch := omega) only [ilt_e, cond_neg]
  · rw [cond_pos (by omega), decide_eq_false (fun e => hl (by rw [e]))]

theorem to_LeverFault (e : Int × Int) : F_l_toLeverFault e = some e := rfl
theorem eq_LeverFault (a b : Int × Int) : F_l_eqLeverFault (a, b) = some (decide (a = b)) := by
  obtain ⟨a1, a2⟩ := a
  obtain ⟨b1, b2⟩ := b
  unfold F_l_eqLeverFault
  simp only [ine_e]
  by_cases h1 : a1 = b1
  · by_cases h2 : a2 = b2 <;> simp [h1, h2]
  · simp [h1]

theorem sz_LeverFaultS (l : List (Int × Int)) (n : Int) (h : (l.length : Int) ≤ 9223372036854775807) (hn : 0 ≤ n) (hn' : n ≤ 1048576) : ∃ v, F_l_szLeverFaultS (l, n) = some v ∧ (v = -1 ∨ 0 ≤ v ∧ v + l.length = n) := by
  unfold F_l_szLeverFaultS
  simp (disch := omega) only [xlen_e, n2i_e, isub_e, w64, ilt_e]
  by_cases hs : n - l.length < 0
  · exact ⟨-1, by simp [hs], .inl rfl⟩
  · exact ⟨n - l.length, by simp [hs], .inr ⟨by omega, by omega⟩⟩

theorem to_LeverFaultS (l : List (Int × Int)) (h : (l.length : Int) ≤ 1048576) : F_l_toLeverFaultS l = some l := by
  unfold F_l_toLeverFaultS
  simp (disch := omega) only [xlen_e, n2i_e, ieq_e, okMake_e, chk_pos, i2n_e, xrep_e, decide_true, chk_t]
  refine iter_run (fun i => ((i : Int), l, l.take i ++ List.replicate (l.length - i) (0, 0))) l.length (by simp) (fun i hi => ?_) ?_
  · have hlen : (l.take i ++ List.replicate (l.length - i) (0, 0)).length = l.length := by simp; omega
    have ht : (l.take i).length = i := by simp; omega
    simp (disch := omega) only [xlen_e, n2i_e, ilt_e, cond_pos, okIx_e, hlen, chk_pos, i2n_e, xset_e, xget_e, iadd_e, w64, pair_eta, to_LeverFault, eq_LeverFault, bind_s]
    rw [mid_rep ht hi, List.take_succ_eq_append_getElem hi, getD_lt hi]
    rfl
  · simp (disch := omega) only [xlen_e, n2i_e, ilt_e, cond_neg, Nat.sub_self]
    simp

theorem eq_LeverFaultS (a b : List (Int × Int)) (h : (a.length : Int) ≤ 9223372036854775806) (h' : (b.length : Int) ≤ 9223372036854775806) : F_l_eqLeverFaultS (a, b) = some (decide (a = b)) := by
  unfold F_l_eqLeverFaultS
  simp only [xlen_e, n2i_e, ine_e]
  by_cases hl : a.length = b.length
  · rw [cond_neg (by omega)]
    by_cases hab : a = b
    · subst hab
      refine iter_run (fun i => ((i : Int), a, a)) a.length rfl (fun i hi => ?_) ?_
      · simp (disch := omega) only [ilt_e, cond_pos, okIx_e, chk_pos, i2n_e, xget_e, iadd_e, w64, pair_eta, bnev_s, to_LeverFault, eq_LeverFault, bind_s, decide_true, bnot_t, cond_f]
        rfl
      · simp (disch := omega) only [ilt_e, cond_neg]
        simp
    · obtain ⟨k, hk, hne, hmin⟩ := first_diff hl hab
      refine iter_run (fun i => ((i : Int), a, b)) k rfl (fun i hi => ?_) ?_
      · have h1 : a.getD i (0, 0) = b.getD i (0, 0) := by rw [List.getD_eq_getElem?_getD, List.getD_eq_getElem?_getD, hmin i hi]
        simp (disch := omega) only [ilt_e, cond_pos, okIx_e, chk_pos, i2n_e, xget_e, h1, iadd_e, w64, pair_eta, bnev_s, to_LeverFault, eq_LeverFault, bind_s, decide_true, bnot_t, cond_f]
        rfl
      · have h1 : ¬ a.getD k (0, 0) = b.getD k (0, 0) := by
          rw [getD_lt hk, getD_lt (by omega)]
          rw [List.getElem?_eq_getElem hk, List.getElem?_eq_getElem (by omega)] at hne
          simpa using hne
        simp (disch := omega) only [ilt_e, cond_pos, okIx_e, chk_pos, i2n_e, xget_e, pair_eta, bnev_e, to_LeverFault, eq_LeverFault, bind_s, h1, not_false_eq_true, decide_false, decide_true, bnot_f, cond_t]
        simp [hab]
  · rw [cond_pos (by omega)]
    have : a ≠ b := fun e => hl (by rw [e])
    simp [this]

def f_LeverFaultS (k : Int) : (Int × Int) := (k, k + 1)

theorem mark_LeverFaultS (l : List (Int × Int)) (k : Int) (h : (l.length : Int) ≤ 4000000) (hk : 0 ≤ k) (hk' : k ≤ 3000000000000000000) : F_l_markLeverFaultS (l, k) = some (k + 2 * l.length, cnt f_LeverFaultS 2 k l.length) := by
  unfold F_l_markLeverFaultS
  refine iter_run (fun i => (k + 2 * (i : Int), (i : Int), cnt f_LeverFaultS 2 k i ++ l.drop i)) l.length (by simp [cnt]) (fun i hi => ?_) ?_
  · have hlen : (cnt f_LeverFaultS 2 k i ++ l.drop i).length = l.length := by simp [cnt_len]; omega
    have hg : (cnt f_LeverFaultS 2 k i ++ l.drop i).getD i (0, 0) = l.getD i (0, 0) := mid_drop (cnt_len _ _ _ _) hi
    simp (disch := omega) only [xlen_e, n2i_e, ilt_e, cond_pos, okIx_e, okDiv_e, List.length_set, hlen, chk_pos, i2n_e, xset_e, xget_e, iadd_e, w64, set_self, List.set_set, ieq_e, irem_e, hg]
    rw [mid_set (cnt_len _ _ _ _) hi, cnt_succ]
    refine congrArg (fun z => some (Sum.inl z)) (Prod.ext ?_ (Prod.ext ?_ ?_))
    · simp only; omega
    · simp only; omega
    · rfl
  · have hlen : (cnt f_LeverFaultS 2 k l.length ++ l.drop l.length).length = l.length := by simp [cnt_len]
    simp (disch := omega) only [xlen_e, n2i_e, ilt_e, hlen, cond_neg]
    simp

theorem held_LeverFaultS (n : Nat) (k : Int) (h : (n : Int) ≤ 4000000) (hk : 0 ≤ k) (hk' : k ≤ 3000000000000000000) : F_l_heldLeverFaultS (cnt f_LeverFaultS 2 k n, k) = some (k + 2 * n) := by
  unfold F_l_heldLeverFaultS
  refine iter_run (fun i => (k + 2 * (i : Int), (i : Int), cnt f_LeverFaultS 2 k n)) n (by simp) (fun i hi => ?_) ?_
  · have hg := cnt_get f_LeverFaultS 2 (0, 0) n k i hi
    simp (disch := omega) only [xlen_e, n2i_e, ilt_e, cond_pos, okIx_e, okDiv_e, cnt_len, chk_pos, i2n_e, xget_e, hg, f_LeverFaultS, ine_e, ieq_e, irem_e, bnev_s, cond_neg, iadd_e, w64, not_true_eq_false, decide_false, cond_f]
    refine congrArg (fun z => some (Sum.inl z)) (Prod.ext ?_ (Prod.ext ?_ ?_))
    · simp only; omega
    · simp only; omega
    · rfl
  · simp (disch := omega) only [xlen_e, n2i_e, ilt_e, cnt_len, cond_neg]


abbrev Desk := Mach × List (Int × Int) × ByteArray

def sameD (x y : Desk) : Bool := decide (x.1 = y.1) && (decide (x.2.1 = y.2.1) && seq x.2.2 y.2.2)

theorem s_sameDesk (a b c a' b' c' : Reg) (p p' : Int) (f f' : List (Int × Int)) (j j' : ByteArray) (h1 : (a.2.length : Int) ≤ 1048576) (h2 : (b.2.length : Int) ≤ 1048576) (h3 : (c.2.length : Int) ≤ 1048576) (h1' : (a'.2.length : Int) ≤ 1048576) (h2' : (b'.2.length : Int) ≤ 1048576) (h3' : (c'.2.length : Int) ≤ 1048576) (h4 : (f.length : Int) ≤ 1048576) (h4' : (f'.length : Int) ≤ 1048576) :
    F_s_SameDesk (((a, (b, (c, p))), (f, j)), ((a', (b', (c', p'))), (f', j'))) = some (sameD ((a, (b, (c, p))), (f, j)) ((a', (b', (c', p'))), (f', j'))) := by
  unfold F_s_SameDesk sameD
  simp only [s_sameM a b c a' b' c' p p' h1 h2 h3 h1' h2' h3', s_faults f f' h4 h4', bind_s]
  cases decide ((a, (b, (c, p))) = (a', (b', (c', p')))) with
  | false => rfl
  | true => cases decide (f = f') <;> rfl

theorem i_sameDesk (a b c a' b' c' : Reg) (p p' : Int) (f f' : List (Int × Int)) (j j' : ByteArray) (h1 : (a.2.length : Int) ≤ 1048576) (h2 : (b.2.length : Int) ≤ 1048576) (h3 : (c.2.length : Int) ≤ 1048576) (h1' : (a'.2.length : Int) ≤ 1048576) (h2' : (b'.2.length : Int) ≤ 1048576) (h3' : (c'.2.length : Int) ≤ 1048576) (h4 : (f.length : Int) ≤ 1048576) (h4' : (f'.length : Int) ≤ 1048576) :
    F_i_SameDesk (((a, (b, (c, p))), (f, j)), ((a', (b', (c', p'))), (f', j'))) = some (sameD ((a, (b, (c, p))), (f, j)) ((a', (b', (c', p'))), (f', j'))) := by
  unfold F_i_SameDesk sameD
  simp only [i_sameM a b c a' b' c' p p' h1 h2 h3 h1' h2' h3', bind_s, ine_e, n2i_e, xlen_e, pair_test]
  cases decide ((a, (b, (c, p))) = (a', (b', (c', p')))) with
  | false => rfl
  | true =>
    simp only [bnot_t, cond_f, Bool.true_and]
    by_cases hl : f.length = f'.length
    · rw [cond_neg (by omega)]
      have hs : sne j j' = !seq j j' := rfl
      rw [hs]
      cases seq j j' with
      | false => simp
      | true =>
        simp only [Bool.not_true, cond_f, Bool.and_true]
        refine iter_same (d := (0, 0)) f f' hl (fun i => ((f.length : Int), (i : Int), a.1, b.1, c.1, p, j, a.2, b.2, c.2, f, a'.1, b'.1, c'.1, p', j', a'.2, b'.2, c'.2, f')) rfl (fun i hi => ?_) ?_
        · simp (disch := omega) only [ilt_e, cond_pos, okIx_e, xlen_e, chk_pos, xget_e, i2n_e, iadd_e, w64]
          by_cases e : f.getD i (0, 0) = f'.getD i (0, 0)
          · rw [cond_neg (by simpa using e), if_pos e]; rfl
          · rw [cond_pos e, if_neg e]
        · simp (disch := omega) only [ilt_e, cond_neg]
    · rw [cond_pos (by omega), decide_eq_false (fun e => hl (by rw [e]))]; rfl

theorem to_Desk (a b c : Reg) (p : Int) (f : List (Int × Int)) (j : ByteArray) (h1 : (a.2.length : Int) ≤ 1048576) (h2 : (b.2.length : Int) ≤ 1048576) (h3 : (c.2.length : Int) ≤ 1048576) (h4 : (f.length : Int) ≤ 1048576) :
    F_l_toDesk ((a, (b, (c, p))), (f, j)) = some ((a, (b, (c, p))), (f, j)) := by
  unfold F_l_toDesk
  simp only [to_Machine a b c p h1 h2 h3, to_LeverFaultS f h4, bind_s]

theorem eq_Desk (a b c : Reg) (p : Int) (f : List (Int × Int)) (j : ByteArray) (h1 : (a.2.length : Int) ≤ 1048576) (h2 : (b.2.length : Int) ≤ 1048576) (h3 : (c.2.length : Int) ≤ 1048576) (h4 : (f.length : Int) ≤ 1048576) :
    F_l_eqDesk (((a, (b, (c, p))), (f, j)), ((a, (b, (c, p))), (f, j))) = some true := by
  unfold F_l_eqDesk
  simp only [eq_Machine a b c p a b c p h1 h2 h3 h1 h2 h3, eq_LeverFaultS f f (by omega) (by omega), bind_s, decide_true, bnot_t, cond_f, sne_s]

theorem sz_D (a b c : Reg) (p : Int) (f : List (Int × Int)) (j : ByteArray) (n : Int) (h1 : (a.2.length : Int) ≤ 9223372036854775807) (h2 : (b.2.length : Int) ≤ 9223372036854775807) (h3 : (c.2.length : Int) ≤ 9223372036854775807) (h4 : (f.length : Int) ≤ 9223372036854775807) (h5 : (j.size : Int) ≤ 9223372036854775807) (hn : 0 ≤ n) (hn' : n ≤ 1048576) :
    ∃ v, F_l_szDesk (((a, (b, (c, p))), (f, j)), n) = some v ∧ (v = -1 ∨ 0 ≤ v ∧ v ≤ n ∧ (a.2.length : Int) ≤ 1048576 ∧ (b.2.length : Int) ≤ 1048576 ∧ (c.2.length : Int) ≤ 1048576 ∧ (f.length : Int) ≤ 1048576) := by
  unfold F_l_szDesk
  obtain ⟨v0, e0, q0⟩ := sz_M' a b c p n h1 h2 h3 hn hn'
  simp only [e0, bind_s, ilt_e]
  rcases q0 with rfl | ⟨q0, q0'⟩
  · exact ⟨-1, rfl, .inl rfl⟩
  rw [cond_neg (by omega)]
  obtain ⟨v1, e1, q1⟩ := sz_LeverFaultS f v0 h4 (by omega) (by omega)
  simp only [e1, bind_s]
  rcases q1 with rfl | ⟨q1, q1'⟩
  · exact ⟨-1, rfl, .inl rfl⟩
  rw [cond_neg (by omega)]
  have hs : slen j = j.size := rfl
  simp (disch := omega) only [n2i_e, hs, isub_e, w64]
  by_cases h : v1 - (j.size : Int) < 0
  · rw [cond_pos h]; exact ⟨-1, rfl, .inl rfl⟩
  · rw [cond_neg h]; exact ⟨_, rfl, .inr ⟨by omega, by omega, by omega, by omega, by omega, by omega⟩⟩

theorem law_SameDesk (a b c a' b' c' : Reg) (p p' : Int) (f f' : List (Int × Int)) (j j' : ByteArray) (h1 : (a.2.length : Int) ≤ 9223372036854775807) (h2 : (b.2.length : Int) ≤ 9223372036854775807) (h3 : (c.2.length : Int) ≤ 9223372036854775807) (h4 : (f.length : Int) ≤ 9223372036854775807) (h5 : (j.size : Int) ≤ 9223372036854775807)
    (h1' : (a'.2.length : Int) ≤ 9223372036854775807) (h2' : (b'.2.length : Int) ≤ 9223372036854775807) (h3' : (c'.2.length : Int) ≤ 9223372036854775807) (h4' : (f'.length : Int) ≤ 9223372036854775807) (h5' : (j'.size : Int) ≤ 9223372036854775807) :
    F_l_FnExactSameDesk (((a, (b, (c, p))), (f, j)), ((a', (b', (c', p'))), (f', j'))) = some true := by
  unfold F_l_FnExactSameDesk
  obtain ⟨v0, e0, q0⟩ := sz_D a b c p f j 1048576 h1 h2 h3 h4 h5 (by omega) (by omega)
  simp only [e0, bind_s, ilt_e]
  rcases q0 with rfl | ⟨q0, q0', g1, g2, g3, g4⟩
  · rfl
  rw [cond_neg (by omega)]
  obtain ⟨v1, e1, q1⟩ := sz_D a' b' c' p' f' j' v0 h1' h2' h3' h4' h5' (by omega) (by omega)
  simp only [e1, bind_s]
  rcases q1 with rfl | ⟨q1, q1', g1', g2', g3', g4'⟩
  · rfl
  rw [cond_neg (by omega)]
  simp only [to_Desk a b c p f j g1 g2 g3 g4, to_Desk a' b' c' p' f' j' g1' g2' g3' g4', bind_s, s_sameDesk a b c a' b' c' p p' f f' j j' g1 g2 g3 g1' g2' g3' g4 g4', i_sameDesk a b c a' b' c' p p' f f' j j' g1 g2 g3 g1' g2' g3' g4 g4', bnev_s, cond_f, eq_Desk a b c p f j g1 g2 g3 g4, eq_Desk a' b' c' p' f' j' g1' g2' g3' g4', bnot_t]

theorem maxLen_sz {n : Nat} (h : n ≤ maxLen) : (n : Int) ≤ 9223372036854775807 := maxLen_le h

theorem FnExactSameDesk_true {t1 t2 : TypeId} (x : Desk × Desk) (h : wfArgs [.val true (.pair (.pair (.pair (.int .i64) (.row false t1 (.int .i64))) (.pair (.pair (.int .i64) (.row false t1 (.int .i64))) (.pair (.pair (.int .i64) (.row false t1 (.int .i64))) (.int .i64)))) (.pair (.row false t2 (.pair (.int .i64) (.int .i64))) .str)), .val true (.pair (.pair (.pair (.int .i64) (.row false t1 (.int .i64))) (.pair (.pair (.int .i64) (.row false t1 (.int .i64))) (.pair (.pair (.int .i64) (.row false t1 (.int .i64))) (.int .i64)))) (.pair (.row false t2 (.pair (.int .i64) (.int .i64))) .str))] x) : ∃ y, F_l_FnExactSameDesk x = some y ∧ hhead .bool [] y = true :=
  ⟨true, law_SameDesk x.1.1.1 x.1.1.2.1 x.1.1.2.2.1 x.2.1.1 x.2.1.2.1 x.2.1.2.2.1 x.1.1.2.2.2 x.2.1.2.2.2 x.1.2.1 x.2.2.1 x.1.2.2 x.2.2.2
    (maxLen_le (n := x.1.1.1.2.length) h.1.1.1.2.1) (maxLen_le (n := x.1.1.2.1.2.length) h.1.1.2.1.2.1) (maxLen_le (n := x.1.1.2.2.1.2.length) h.1.1.2.2.1.2.1) (maxLen_le (n := x.1.2.1.length) h.1.2.1.1) (maxLen_le (n := x.1.2.2.size) h.1.2.2)
    (maxLen_le (n := x.2.1.1.2.length) h.2.1.1.1.2.1) (maxLen_le (n := x.2.1.2.1.2.length) h.2.1.1.2.1.2.1) (maxLen_le (n := x.2.1.2.2.1.2.length) h.2.1.1.2.2.1.2.1) (maxLen_le (n := x.2.2.1.length) h.2.1.2.1.1) (maxLen_le (n := x.2.2.2.size) h.2.1.2.2), rfl⟩

end Go.Prg
