/- Plain laws, part Y: the reference's strokes, strokes one after the other, their laws. Conditions: none. -/
import Derived.Test.YtjkaapoklbhokaaPlU
import Derived.Test.YtjkaapoklbhokaaPlS
set_option linter.all false
namespace Go.Prg
open Go.Eng

theorem zero_set {l : List Int} {i : Nat} (h : i < l.length) : (List.replicate i (0 : Int) ++ l.drop i).set i 0 = List.replicate (i + 1) 0 ++ l.drop (i + 1) := by
  rw [mid_set (by simp) h, List.replicate_succ']

theorem s_zero (wa wb wc p : Int) (la lb lc : List Int) (h : la.length ≤ 16) : F_s_l10Zero ((wa, la), ((wb, lb), ((wc, lc), p))) = some ((wa, List.replicate la.length 0), ((wb, lb), ((wc, lc), p))) := by
  unfold F_s_l10Zero
  refine iter_run (fun i => ((i : Int), wa, wb, wc, p, List.replicate i (0 : Int) ++ la.drop i, lb, lc)) la.length (by simp) (fun i hi => ?_) ?_
  · have hl : (List.replicate i (0 : Int) ++ la.drop i).length = la.length := by simp; omega
    simp (disch := omega) only [ilt_e, n2i_e, xlen_e, hl, cond_pos, okIx_e, chk_pos, xset_e, i2n_e, iadd_e, w64]
    rw [zero_set hi]
    rfl
  · have hl : (List.replicate la.length (0 : Int) ++ la.drop la.length).length = la.length := by simp
    simp (disch := omega) only [ilt_e, n2i_e, xlen_e, hl, cond_neg]
    simp
theorem s_zero_b (wa wb wc p : Int) (la lb lc : List Int) (h : lb.length ≤ 16) : F_s_l10Zero_b ((wa, la), ((wb, lb), ((wc, lc), p))) = some ((wa, la), ((wb, List.replicate lb.length 0), ((wc, lc), p))) := by
  unfold F_s_l10Zero_b
  refine iter_run (fun i => ((i : Int), wa, wb, wc, p, la, List.replicate i (0 : Int) ++ lb.drop i, lc)) lb.length (by simp) (fun i hi => ?_) ?_
  · have hl : (List.replicate i (0 : Int) ++ lb.drop i).length = lb.length := by simp; omega
    simp (disch := omega) only [ilt_e, n2i_e, xlen_e, hl, cond_pos, okIx_e, chk_pos, xset_e, i2n_e, iadd_e, w64]
    rw [zero_set hi]
    rfl
  · have hl : (List.replicate lb.length (0 : Int) ++ lb.drop lb.length).length = lb.length := by simp
    simp (disch := omega) only [ilt_e, n2i_e, xlen_e, hl, cond_neg]
    simp
theorem s_zero_c (wa wb wc p : Int) (la lb lc : List Int) (h : lc.length ≤ 16) : F_s_l10Zero_c ((wa, la), ((wb, lb), ((wc, lc), p))) = some ((wa, la), ((wb, lb), ((wc, List.replicate lc.length 0), p))) := by
  unfold F_s_l10Zero_c
  refine iter_run (fun i => ((i : Int), wa, wb, wc, p, la, lb, List.replicate i (0 : Int) ++ lc.drop i)) lc.length (by simp) (fun i hi => ?_) ?_
  · have hl : (List.replicate i (0 : Int) ++ lc.drop i).length = lc.length := by simp; omega
    simp (disch := omega) only [ilt_e, n2i_e, xlen_e, hl, cond_pos, okIx_e, chk_pos, xset_e, i2n_e, iadd_e, w64]
    rw [zero_set hi]
    rfl
  · have hl : (List.replicate lc.length (0 : Int) ++ lc.drop lc.length).length = lc.length := by simp
    simp (disch := omega) only [ilt_e, n2i_e, xlen_e, hl, cond_neg]
    simp

theorem s_do (w : Int) (la lb lc : List Int) (p k : Int) (h : validM ((w, la), (w, lb), (w, lc), p) = true) (hk : 1 ≤ k ∧ k ≤ 6) : F_s_l10Do (((w, la), ((w, lb), ((w, lc), p))), k) = some ((strokeM w la lb lc p k).2, (strokeM w la lb lc p k).1) := by
  obtain ⟨w', la', lb', lc', p', e, hw, hla, hlb, hlc, hda, hdb, hdc, hfb, hfc, hl, hp, hva, hvb, hvc⟩ := machine_parts2 h
  simp only [Prod.mk.injEq] at e
  obtain ⟨⟨rfl, rfl⟩, ⟨_, rfl⟩, ⟨_, rfl⟩, rfl⟩ := e
  obtain ⟨b1, b2, b3, b4⟩ := stroke_bounds hw hda hfb hfc hl hp
  have hcap : cap (valL w la) = valL w la := by unfold cap; rw [if_pos hva]
  have hm := imin_le ((lb.length : Int) - la.length + 1) lc.length
  have hpw := s_power w p.toNat hw.1 hw.2 (by omega)
  rw [Int.toNat_of_nonneg hp.1, cap2_le b2.2] at hpw
  have hpl := s_places (w, la) (w, lb) (w, lc) p hla.2 hlb.2 hlc.2
  have hplv : placesM ((w, la), (w, lb), (w, lc), p) = imin ((lb.length : Int) - la.length + 1) lc.length := rfl
  have hval := s_value w la hw.1 hw.2 hda (by omega)
  rw [hcap] at hval
  have hva0 := valL_nonneg (b := w) (by omega) hda
  unfold F_s_l10Do strokeM
  simp only [ieq_e]
  by_cases k1 : k = 1
  · have q1 := s_move w lb (valL w la * w ^ p.toNat) hw hlb hdb hvb hfb (by omega) (by omega)
    have q2 := s_move w lc (w ^ p.toNat) hw hlc hdc hvc hfc (by omega) (by omega)
    have e1 : w ^ p.toNat * valL w la = valL w la * w ^ p.toNat := Int.mul_comm _ _
    rw [cond_pos k1, if_pos k1]
    unfold F_s_l10Turn
    simp (disch := omega) only [hpw, hval, bind_s, imul_e, Int.one_mul, w64, e1, q1, q2]
  rw [cond_neg k1, if_neg k1]
  by_cases k2 : k = 2
  · have q1 := s_move w lb (-(valL w la * w ^ p.toNat)) hw hlb hdb hvb hfb (by omega) (by omega)
    have q2 := s_move w lc (-(w ^ p.toNat)) hw hlc hdc hvc hfc (by omega) (by omega)
    have e1 : -(w ^ p.toNat) * valL w la = -(valL w la * w ^ p.toNat) := by rw [Int.neg_mul, Int.mul_comm]
    have e2 : (-1 : Int) * w ^ p.toNat = -(w ^ p.toNat) := by rw [Int.neg_mul, Int.one_mul]
    rw [cond_pos k2, if_pos k2]
    unfold F_s_l10Turn
    simp (disch := omega) only [hpw, hval, bind_s, imul_e, e2, w64, e1, q1, q2]
  rw [cond_neg k2, if_neg k2]
  by_cases k3 : k = 3
  · rw [cond_pos k3, if_pos k3]
    unfold F_s_l10Shift
    simp (disch := omega) only [hpl, hplv, bind_s, iadd_e, isub_e, w64, l00In_e, bnot_d]
    by_cases hc : p + 1 = imin ((lb.length : Int) - la.length + 1) lc.length
    · rw [cond_pos (by omega), if_pos hc]; rfl
    · rw [cond_neg (by omega), if_neg hc]; rfl
  rw [cond_neg k3, if_neg k3]
  by_cases k4 : k = 4
  · rw [cond_pos k4, if_pos k4]
    unfold F_s_l10Shift
    simp (disch := omega) only [hpl, hplv, bind_s, iadd_e, isub_e, w64, l00In_e, bnot_d]
    by_cases hc : p = 0
    · rw [cond_pos (by omega), if_pos hc]; rfl
    · rw [cond_neg (by omega), if_neg hc]; rfl
  rw [cond_neg k4, if_neg k4]
  by_cases k5 : k = 5
  · rw [cond_pos k5, if_pos k5, dig_zero, dig_zero]
    simp only [s_zero_b w w w p la lb lc hlb.2, bind_s, s_zero_c w w w p la (List.replicate lb.length 0) lc hlc.2]
  rw [cond_neg k5, if_neg k5, dig_zero]
  simp only [s_zero w w w p la lb lc hla.2, bind_s]

/-- a stroke of a machine -/
def strokeMM (m : Mach) (k : Int) : Mach × Bool := strokeM m.1.1 m.1.2 m.2.1.2 m.2.2.1.2 m.2.2.2 k

theorem i_strokeMM (m : Mach) (k : Int) (h : validM m = true) (hk : 1 ≤ k ∧ k ≤ 6) : F_i_Machine_stroke (((m.1.1, m.1.2), ((m.2.1.1, m.2.1.2), ((m.2.2.1.1, m.2.2.1.2), m.2.2.2))), k) = some (strokeMM m k) := by
  obtain ⟨w, la, lb, lc, p, rfl, _⟩ := machine_parts2 h
  exact i_stroke w la lb lc p k h hk
theorem s_doMM (m : Mach) (k : Int) (h : validM m = true) (hk : 1 ≤ k ∧ k ≤ 6) : F_s_l10Do (((m.1.1, m.1.2), ((m.2.1.1, m.2.1.2), ((m.2.2.1.1, m.2.2.1.2), m.2.2.2))), k) = some ((strokeMM m k).2, (strokeMM m k).1) := by
  obtain ⟨w, la, lb, lc, p, rfl, _⟩ := machine_parts2 h
  exact s_do w la lb lc p k h hk
theorem strokeMM_valid (m : Mach) (k : Int) (h : validM m = true) (hk : 1 ≤ k ∧ k ≤ 6) : validM (strokeMM m k).1 = true := by
  obtain ⟨w, la, lb, lc, p, rfl, _⟩ := machine_parts2 h
  exact stroke_valid w la lb lc p k h hk
theorem machine_len (m : Mach) (h : validM m = true) : ((m.1.2.length : Int) ≤ 16) ∧ ((m.2.1.2.length : Int) ≤ 16) ∧ ((m.2.2.1.2.length : Int) ≤ 16) := by
  obtain ⟨a, b, c, p⟩ := m
  obtain ⟨_, h1, h2, h3, _⟩ := machine_parts h
  exact ⟨by simp only; omega, by simp only; omega, by simp only; omega⟩

def strokeR (m : Mach) (k : Int) : Mach × Bool × Int := cond (validM m) (if 1 ≤ k ∧ k ≤ 6 then ((strokeMM m k).1, (strokeMM m k).2, 0) else (zeroM, false, 2)) (zeroM, false, 1)

theorem s_doStroke (a b c : Reg) (p k : Int) (h1 : (a.2.length : Int) ≤ 1048576) (h2 : (b.2.length : Int) ≤ 1048576) (h3 : (c.2.length : Int) ≤ 1048576) : F_s_DoStroke ((a, (b, (c, p))), k) = some (strokeR (a, b, c, p) k) := by
  unfold F_s_DoStroke F_s_l10Kind strokeR
  simp only [s_validM' a b c p (by omega) (by omega) (by omega), bind_s, l00In_e]
  cases h : validM (a, b, c, p) with
  | false => rfl
  | true =>
    simp only [bnot_t, cond_f, cond_t, bnot_d]
    by_cases hk : 1 ≤ k ∧ k ≤ 6
    · have := s_doMM (a, b, c, p) k h hk
      rw [cond_neg (by simpa using hk), if_pos hk, ownM a b c p h1 h2 h3]
      simp only [bind_s]
      refine Eq.trans (congrArg (fun o => Option.bind o _) this) ?_
      rfl
    · rw [cond_pos (by simpa using hk), if_neg hk]

theorem strokeR_len (m : Mach) (k : Int) : ((strokeR m k).1.1.2.length : Int) ≤ 16 ∧ ((strokeR m k).1.2.1.2.length : Int) ≤ 16 ∧ ((strokeR m k).1.2.2.1.2.length : Int) ≤ 16 := by
  unfold strokeR
  cases h : validM m with
  | false => simp
  | true =>
    simp only [cond_t]
    split
    · rename_i hk
      exact machine_len _ (strokeMM_valid m k h hk)
    · simp

/-- strokes up to the first one at which the bell rings -/
def runK (m : Mach) (j : Int) : List Int → Mach × Int
  | [] => (m, j)
  | k :: ks => cond (strokeMM m k).2 ((strokeMM m k).1, j + 1) (runK (strokeMM m k).1 (j + 1) ks)

theorem runK_valid : ∀ (ks : List Int) (m : Mach) (j : Int), validM m = true → (∀ k ∈ ks, 1 ≤ k ∧ k ≤ 6) → validM (runK m j ks).1 = true
  | [], m, j, h, _ => h
  | k :: ks, m, j, h, hk => by
    have h1 := strokeMM_valid m k h (hk k (by simp))
    simp only [runK]
    cases (strokeMM m k).2
    · exact runK_valid ks _ _ h1 (fun x hx => hk x (by simp [hx]))
    · exact h1

def strokesR (m : Mach) (ks : List Int) : Mach × Int × Int :=
  cond (validM m) (cond (ks.all fun k => decide (1 ≤ k ∧ k ≤ 6)) (if (300 : Int) < ks.length then (zeroM, 0, 5) else ((runK m 0 ks).1, (runK m 0 ks).2, 0)) (zeroM, 0, 2)) (zeroM, 0, 1)

theorem strokesR_len (m : Mach) (ks : List Int) : ((strokesR m ks).1.1.2.length : Int) ≤ 16 ∧ ((strokesR m ks).1.2.1.2.length : Int) ≤ 16 ∧ ((strokesR m ks).1.2.2.1.2.length : Int) ≤ 16 := by
  unfold strokesR
  cases h : validM m with
  | false => simp
  | true =>
    simp only [cond_t]
    cases hk : ks.all fun k => decide (1 ≤ k ∧ k ≤ 6) with
    | false => simp
    | true =>
      simp only [cond_t]
      split
      · simp
      · rw [List.all_eq_true] at hk
        exact machine_len _ (runK_valid ks m 0 h (fun k hk' => by simpa using hk k hk'))

theorem drop_cons {l : List Int} {i : Nat} {k : Int} {r : List Int} (h : l.drop i = k :: r) : i < l.length ∧ l.getD i 0 = k ∧ l.drop (i + 1) = r := by
  have hi : i < l.length := by
    rcases Nat.lt_or_ge i l.length with h' | h'
    · exact h'
    · rw [List.drop_eq_nil_of_le h'] at h; cases h
  rw [List.drop_eq_getElem_cons hi] at h
  simp only [List.cons.injEq] at h
  exact ⟨hi, by rw [getD_lt hi]; exact h.1, h.2⟩

theorem drop_nil {l : List Int} {i : Nat} (h : l.drop i = []) : l.length ≤ i := by
  rcases Nat.lt_or_ge i l.length with h' | h'
  · rw [List.drop_eq_getElem_cons h'] at h; cases h
  · exact h'

theorem i_doStrokes (a b c : Reg) (p : Int) (ks : List Int) (h1 : (a.2.length : Int) ≤ 1048576) (h2 : (b.2.length : Int) ≤ 1048576) (h3 : (c.2.length : Int) ≤ 1048576) (hn : (ks.length : Int) ≤ 1048576) : F_i_DoStrokes ((a, (b, (c, p))), ks) = some (strokesR (a, b, c, p) ks) := by
  unfold F_i_DoStrokes F_i_isStroke strokesR
  simp only [i_validM' a b c p (by omega) (by omega) (by omega), bind_s]
  cases h : validM (a, b, c, p) with
  | false => rfl
  | true =>
    simp only [bnot_t, cond_f, cond_t]
    refine Eq.trans (iter_all2 (good := if (300 : Int) < ks.length then (zeroM, 0, 5) else ((runK (a, b, c, p) 0 ks).1, (runK (a, b, c, p) 0 ks).2, 0)) (bad := (zeroM, 0, 2)) ks (fun k => decide (1 ≤ k ∧ k ≤ 6))
      (fun i => ((ks.length : Int), (i : Int), ks, a.1, b.1, c.1, p, a.2, b.2, c.2, (0 : Int), (0 : Int), (0 : Int), (0 : Int), ([] : List Int), ([] : List Int), ([] : List Int))) rfl (fun i hi hp' => ?_) (fun i hi hp' => ?_) (fun hall => ?_)) ?_
    · have hg : ks.getD i 0 = ks[i] := getD_lt hi
      have hq : 1 ≤ ks[i] ∧ ks[i] ≤ 6 := by simpa using hp'
      simp (disch := omega) only [ilt_e, ile_e, igt_e, ige_e, ieq_e, ine_e, n2i_e, xlen_e, okIx_e, okTo_e, okRoom_e, okDiv_e, okMake_e, xget_e, xset_e, xapp_e, xrep_e, xsub_e, i2n_e, iadd_e, isub_e, imul_e, iquo_e, irem_e, w64, cond_pos, cond_neg, chk_pos, bind_s, cond_t, cond_f, bnot_t, bnot_f, bnot_d, List.length_cons, List.length_nil, List.length_append, List.length_replicate, List.length_set, List.length_map, List.length_range, decide_true, decide_false, not_true_eq_false, not_false_eq_true, map_s, between_e, hg]
      rfl
    · have hg : ks.getD i 0 = ks[i] := getD_lt hi
      have hq : ¬ (1 ≤ ks[i] ∧ ks[i] ≤ 6) := by simpa using hp'
      simp (disch := omega) only [ilt_e, ile_e, igt_e, ige_e, ieq_e, ine_e, n2i_e, xlen_e, okIx_e, okTo_e, okRoom_e, okDiv_e, okMake_e, xget_e, xset_e, xapp_e, xrep_e, xsub_e, i2n_e, iadd_e, isub_e, imul_e, iquo_e, irem_e, w64, cond_pos, cond_neg, chk_pos, bind_s, cond_t, cond_f, bnot_t, bnot_f, bnot_d, List.length_cons, List.length_nil, List.length_append, List.length_replicate, List.length_set, List.length_map, List.length_range, decide_true, decide_false, not_true_eq_false, not_false_eq_true, map_s, between_e, hg]
    · rw [List.all_eq_true] at hall
      simp only [ilt_e]
      rw [cond_neg (by omega)]
      simp only [igt_e, n2i_e, xlen_e]
      by_cases h300 : (300 : Int) < ks.length
      · rw [cond_pos h300, if_pos h300]; rfl
      rw [cond_neg h300, if_neg h300]
      have hcp := cpM a b c p (by omega) (by omega) (by omega)
      refine Eq.trans (congrArg (fun o => Option.map Sum.inr (Option.bind o _)) hcp) ?_
      simp only [bind_s]
      have key : ∀ (r : List Int) (i : Nat) (m : Mach) (f : (Int × Int × List Int × Int × Int × Int × Int × List Int × List Int × List Int × Int × Int × Int × Int × List Int × List Int × List Int) → Option ((Int × Int × List Int × Int × Int × Int × Int × List Int × List Int × List Int × Int × Int × Int × Int × List Int × List Int × List Int) ⊕ (Mach × Int × Int))),
          (∀ (j : Nat) (m : Mach), j < ks.length → validM m = true → f ((ks.length : Int), (j : Int), ks, (0 : Int), (0 : Int), (0 : Int), (0 : Int), ([] : List Int), ([] : List Int), ([] : List Int), m.1.1, m.2.1.1, m.2.2.1.1, m.2.2.2, m.1.2, m.2.1.2, m.2.2.1.2) =
            cond (strokeMM m (ks.getD j 0)).2 (some (.inr ((strokeMM m (ks.getD j 0)).1, ((j : Int) + 1, 0)))) (some (.inl ((ks.length : Int), ((j + 1 : Nat) : Int), ks, (0 : Int), (0 : Int), (0 : Int), (0 : Int), ([] : List Int), ([] : List Int), ([] : List Int), (strokeMM m (ks.getD j 0)).1.1.1, (strokeMM m (ks.getD j 0)).1.2.1.1, (strokeMM m (ks.getD j 0)).1.2.2.1.1, (strokeMM m (ks.getD j 0)).1.2.2.2, (strokeMM m (ks.getD j 0)).1.1.2, (strokeMM m (ks.getD j 0)).1.2.1.2, (strokeMM m (ks.getD j 0)).1.2.2.1.2)))) →
          (∀ m : Mach, f ((ks.length : Int), (ks.length : Int), ks, (0 : Int), (0 : Int), (0 : Int), (0 : Int), ([] : List Int), ([] : List Int), ([] : List Int), m.1.1, m.2.1.1, m.2.2.1.1, m.2.2.2, m.1.2, m.2.1.2, m.2.2.1.2) = some (.inr (m, ((ks.length : Int), 0)))) →
          ks.drop i = r → i ≤ ks.length → validM m = true → iter f ((ks.length : Int), (i : Int), ks, (0 : Int), (0 : Int), (0 : Int), (0 : Int), ([] : List Int), ([] : List Int), ([] : List Int), m.1.1, m.2.1.1, m.2.2.1.1, m.2.2.2, m.1.2, m.2.1.2, m.2.2.1.2) = some ((runK m (i : Int) r).1, ((runK m (i : Int) r).2, 0)) := by
        intro r
        induction r with
        | nil =>
          intro i m f hs he hd hi hv
          have : i = ks.length := by have := drop_nil hd; omega
          subst this
          exact iter_end (he m)
        | cons k r ih =>
          intro i m f hs he hd hi hv
          obtain ⟨hlt, hk, hd'⟩ := drop_cons hd
          have hkk : 1 ≤ k ∧ k ≤ 6 := by
            rw [← hk, getD_lt hlt]
            simpa using hall _ (List.getElem_mem hlt)
          have h1 := hs i m hlt hv
          rw [hk] at h1
          simp only [runK]
          cases hb : (strokeMM m k).2 with
          | true => rw [hb] at h1; exact iter_end h1
          | false =>
            rw [hb] at h1
            have := ih (i + 1) (strokeMM m k).1 f hs he hd' (by omega) (strokeMM_valid m k hv hkk)
            refine iter_eq h1 ?_
            rw [this]
            rfl
      refine Eq.trans (congrArg (Option.map Sum.inr) (key ks 0 (a, b, c, p) _ (fun j m hj hv => ?_) (fun m => ?_) rfl (by omega) h)) rfl
      · have hkk : 1 ≤ ks.getD j 0 ∧ ks.getD j 0 ≤ 6 := by
          rw [getD_lt hj]
          simpa using hall _ (List.getElem_mem hj)
        have hst := i_strokeMM m (ks.getD j 0) hv hkk
        simp (disch := omega) only [ilt_e, cond_pos, okIx_e, xlen_e, chk_pos, xget_e, i2n_e]
        refine Eq.trans (congrArg (fun o => Option.bind o _) hst) ?_
        simp (disch := omega) only [bind_s, iadd_e, w64]
        rfl
      · simp (disch := omega) only [ilt_e, cond_neg, n2i_e, xlen_e]
    · cases ks.all fun k => decide (1 ≤ k ∧ k ≤ 6) <;> rfl

end Go.Prg
