/- Plain laws, part Tc: trials. Conditions: none. -/
import Derived.Test.YthiajmikeaolmaaPlTb
set_option linter.all false
namespace Go.Prg
open Go.Eng

abbrev Trl := Reg × Reg × Reg × Int
def lenT (t : Trl) (B : Int) : Prop := (t.1.2.length : Int) ≤ B ∧ (t.2.1.2.length : Int) ≤ B ∧ (t.2.2.1.2.length : Int) ≤ B
def lenS (l : List Trl) (B : Int) : Prop := (l.length : Int) ≤ B ∧ ∀ i, i < l.length → lenT (l.getD i ((0, ([] : List Int)), ((0, ([] : List Int)), ((0, ([] : List Int)), 0)))) B

theorem sz_Trial (t : Trl) (n : Int) (h : lenT t 9223372036854775807) (hn : 0 ≤ n) (hn' : n ≤ 1048576) : ∃ v, F_l_szTrial (t, n) = some v ∧ (v = -1 ∨ 0 ≤ v ∧ v ≤ n ∧ lenT t n) := by
  unfold F_l_szTrial
  obtain ⟨h1, h2, h3⟩ := h
  obtain ⟨v1, e1, q1⟩ := sz_R t.1 n h1 (by omega) (by omega)
  simp only [e1, bind_s, ilt_e]
  rcases q1 with rfl | ⟨q1, q1'⟩
  · exact ⟨-1, rfl, .inl rfl⟩
  rw [cond_neg (by omega)]
  obtain ⟨v2, e2, q2⟩ := sz_R t.2.1 v1 h2 (by omega) (by omega)
  simp only [e2, bind_s]
  rcases q2 with rfl | ⟨q2, q2'⟩
  · exact ⟨-1, rfl, .inl rfl⟩
  rw [cond_neg (by omega)]
  obtain ⟨v3, e3, q3⟩ := sz_R t.2.2.1 v2 h3 (by omega) (by omega)
  simp only [e3, bind_s]
  rcases q3 with rfl | ⟨q3, q3'⟩
  · exact ⟨-1, rfl, .inl rfl⟩
  rw [cond_neg (by omega)]
  exact ⟨v3, rfl, .inr ⟨by omega, by omega, by unfold lenT; omega⟩⟩

theorem lenT_mono {t : Trl} {a b : Int} (h : lenT t a) (hab : a ≤ b) : lenT t b := by unfold lenT at *; omega
theorem lenS_mono {l : List Trl} {a b : Int} (h : lenS l a) (hab : a ≤ b) : lenS l b := ⟨by have := h.1; omega, fun i hi => lenT_mono (h.2 i hi) hab⟩

theorem sz_TrialS (l : List Trl) (n : Int) (h : lenS l 9223372036854775807) (hn : 0 ≤ n) (hn' : n ≤ 1048576) : ∃ v, F_l_szTrialS (l, n) = some v ∧ (v = -1 ∨ 0 ≤ v ∧ v ≤ n ∧ lenS l n) := by
  unfold F_l_szTrialS
  obtain ⟨h1, h2⟩ := h
  simp (disch := omega) only [xlen_e, n2i_e, isub_e, w64, ilt_e]
  by_cases hs : n - l.length < 0
  · exact ⟨-1, by rw [cond_pos hs], .inl rfl⟩
  rw [cond_neg hs]
  have key : ∀ m i (v : Int), i + m = l.length → 0 ≤ v → v ≤ n - l.length → (∀ j, j < i → lenT (l.getD j ((0, ([] : List Int)), ((0, ([] : List Int)), ((0, ([] : List Int)), 0)))) n) → ∃ r, iter (σ := Int × Int × List Trl) (fun s2 =>
      (cond (decide (s2.2.1 < (s2.2.2.length : Int)))
        (chk (okIx s2.2.1 s2.2.2.length)
        (Option.bind (F_l_szTrial (((xget s2.2.2 (i2n s2.2.1) ((0, ([] : List Int)), ((0, ([] : List Int)), ((0, ([] : List Int)), 0)))).1, ((xget s2.2.2 (i2n s2.2.1) ((0, ([] : List Int)), ((0, ([] : List Int)), ((0, ([] : List Int)), 0)))).2.1, ((xget s2.2.2 (i2n s2.2.1) ((0, ([] : List Int)), ((0, ([] : List Int)), ((0, ([] : List Int)), 0)))).2.2.1, (xget s2.2.2 (i2n s2.2.1) ((0, ([] : List Int)), ((0, ([] : List Int)), ((0, ([] : List Int)), 0)))).2.2.2))), s2.1)) fun r4 =>
          (cond (decide (r4 < 0))
            (some (.inr (-1)))
            (some (.inl (r4, ((iadd .i64 s2.2.1 1), s2.2.2)))))))
        (some (.inr s2.1)))) (v, ((i : Int), l)) = some r ∧ (r = -1 ∨ 0 ≤ r ∧ r ≤ n ∧ ∀ j, j < l.length → lenT (l.getD j ((0, ([] : List Int)), ((0, ([] : List Int)), ((0, ([] : List Int)), 0)))) n) := by
    intro m
    induction m with
    | zero =>
      intro i v hi h0 hv hj
      refine ⟨v, iter_end ?_, .inr ⟨h0, by omega, fun j hj' => hj j (by omega)⟩⟩
      simp (disch := omega) only [cond_neg]
    | succ m ih =>
      intro i v hi h0 hv hj
      obtain ⟨r, e, q⟩ := sz_Trial (l.getD i ((0, ([] : List Int)), ((0, ([] : List Int)), ((0, ([] : List Int)), 0)))) v (h2 i (by omega)) h0 (by omega)
      rcases q with rfl | ⟨q1, q2, q3⟩
      · refine ⟨-1, iter_end ?_, .inl rfl⟩
        simp (disch := omega) only [cond_pos, okIx_e, chk_pos, xget_e, i2n_e, pair_eta, e, bind_s]
      · obtain ⟨r', e', q'⟩ := ih (i + 1) r (by omega) q1 (by omega) (fun j hj' => by
          by_cases hji : j = i
          · rw [hji]; exact lenT_mono q3 (by omega)
          · exact hj j (by omega))
        refine ⟨r', iter_eq ?_ e', q'⟩
        simp (disch := omega) only [cond_pos, okIx_e, chk_pos, xget_e, i2n_e, pair_eta, e, bind_s, cond_neg, iadd_e, w64]
        rfl
  obtain ⟨r, e, q⟩ := key l.length 0 (n - l.length) (by omega) (by omega) (by omega) (fun j hj => absurd hj (by omega))
  refine ⟨r, e, ?_⟩
  rcases q with q | ⟨q1, q2, q3⟩
  · exact .inl q
  · exact .inr ⟨q1, q2, by omega, q3⟩

theorem to_Trial (t : Trl) (h : lenT t 1048576) : F_l_toTrial t = some t := by
  unfold F_l_toTrial
  obtain ⟨h1, h2, h3⟩ := h
  simp only [to_Register t.1 h1, to_Register t.2.1 h2, to_Register t.2.2.1 h3, bind_s]

theorem eq_Trial (a b : Trl) (ha : lenT a 1048576) (hb : lenT b 1048576) : F_l_eqTrial (a, b) = some (decide (a = b)) := by
  unfold F_l_eqTrial
  simp only
  rw [eq_Register a.1 b.1 ha.1 hb.1, eq_Register a.2.1 b.2.1 ha.2.1 hb.2.1, eq_Register a.2.2.1 b.2.2.1 ha.2.2 hb.2.2]
  obtain ⟨a1, a2, a3, a4⟩ := a
  obtain ⟨b1, b2, b3, b4⟩ := b
  simp only [bind_s, ine_e]
  by_cases h1 : a1 = b1
  · by_cases h2 : a2 = b2
    · by_cases h3 : a3 = b3
      · by_cases h4 : a4 = b4 <;> simp [h1, h2, h3, h4]
      · simp [h1, h2, h3]
    · simp [h1, h2]
  · simp [h1]

theorem to_TrialS (l : List Trl) (h : lenS l 1048576) : F_l_toTrialS l = some l := by
  unfold F_l_toTrialS
  have h0 := h.1
  simp (disch := omega) only [xlen_e, n2i_e, ieq_e, okMake_e, chk_pos, i2n_e, xrep_e, decide_true, chk_t]
  refine iter_run (fun i => ((i : Int), l, l.take i ++ List.replicate (l.length - i) ((0, ([] : List Int)), ((0, ([] : List Int)), ((0, ([] : List Int)), 0))))) l.length (by simp) (fun i hi => ?_) ?_
  · have hlen : (l.take i ++ List.replicate (l.length - i) ((0, ([] : List Int)), ((0, ([] : List Int)), ((0, ([] : List Int)), 0)))).length = l.length := by simp; omega
    have ht : (l.take i).length = i := by simp; omega
    have e := to_Trial _ (h.2 i hi)
    simp (disch := omega) only [xlen_e, n2i_e, ilt_e, cond_pos, okIx_e, hlen, chk_pos, i2n_e, xset_e, xget_e, iadd_e, w64, pair_eta, e, bind_s]
    rw [mid_rep ht hi, List.take_succ_eq_append_getElem hi, getD_lt hi]
    rfl
  · simp (disch := omega) only [xlen_e, n2i_e, ilt_e, cond_neg, Nat.sub_self]
    simp

theorem eq_TrialS (a b : List Trl) (ha : lenS a 1048576) (hb : lenS b 1048576) : F_l_eqTrialS (a, b) = some (decide (a = b)) := by
  unfold F_l_eqTrialS
  have h0 := ha.1
  have h0' := hb.1
  simp only [ine_e, n2i_e, xlen_e]
  by_cases hl : a.length = b.length
  · rw [cond_neg (by omega)]
    refine iter_same (d := ((0, ([] : List Int)), ((0, ([] : List Int)), ((0, ([] : List Int)), 0)))) a b hl (fun i => ((i : Int), a, b)) rfl (fun i hi => ?_) ?_
    · have e := eq_Trial _ _ (ha.2 i hi) (hb.2 i (by omega))
      simp (disch := omega) only [ilt_e, cond_pos, okIx_e, xlen_e, chk_pos, xget_e, i2n_e, pair_eta, e, bind_s, bnot_d]
      by_cases e : a.getD i ((0, ([] : List Int)), ((0, ([] : List Int)), ((0, ([] : List Int)), 0))) = b.getD i ((0, ([] : List Int)), ((0, ([] : List Int)), ((0, ([] : List Int)), 0)))
      · rw [cond_neg (fun q => q e), if_pos e, iadd_e, w64 (by omega) (by omega)]; rfl
      · rw [cond_pos e, if_neg e]
    · simp (disch := omega) only [ilt_e, cond_neg]
  · rw [cond_pos (by omega), decide_eq_false (fun e => hl (by rw [e]))]

/- marked -/
def markT (k : Int) (t : Trl) : Trl :=
  ((k, count (k + 1) t.1.2.length), (k + 1 + t.1.2.length, count (k + 1 + t.1.2.length + 1) t.2.1.2.length), (k + 1 + t.1.2.length + 1 + t.2.1.2.length, count (k + 1 + t.1.2.length + 1 + t.2.1.2.length + 1) t.2.2.1.2.length), k + 1 + t.1.2.length + 1 + t.2.1.2.length + 1 + t.2.2.1.2.length)
def nextT (k : Int) (t : Trl) : Int := k + 1 + t.1.2.length + 1 + t.2.1.2.length + 1 + t.2.2.1.2.length + 1
def markK (l : List Trl) (k : Int) : Nat → Int
  | 0 => k
  | i + 1 => nextT (markK l k i) (l.getD i ((0, ([] : List Int)), ((0, ([] : List Int)), ((0, ([] : List Int)), 0))))
def markL (l : List Trl) (k : Int) : Nat → List Trl
  | 0 => l
  | i + 1 => (markL l k i).set i (markT (markK l k i) (l.getD i ((0, ([] : List Int)), ((0, ([] : List Int)), ((0, ([] : List Int)), 0)))))
theorem markL_len (l : List Trl) (k : Int) : ∀ i, (markL l k i).length = l.length
  | 0 => rfl
  | i + 1 => by unfold markL; rw [List.length_set]; exact markL_len l k i
theorem markL_get (l : List Trl) (k : Int) : ∀ i j, i ≤ j → (markL l k i).getD j ((0, ([] : List Int)), ((0, ([] : List Int)), ((0, ([] : List Int)), 0))) = l.getD j ((0, ([] : List Int)), ((0, ([] : List Int)), ((0, ([] : List Int)), 0)))
  | 0, _, _ => rfl
  | i + 1, j, h => by
    unfold markL
    rw [List.getD_eq_getElem?_getD, List.getElem?_set_ne (by omega), ← List.getD_eq_getElem?_getD]
    exact markL_get l k i j (by omega)
theorem markK_in {l : List Trl} (h : lenS l 1048576) {k : Int} (hk : 0 ≤ k) (hk' : k ≤ 1000) : ∀ i, i ≤ l.length → 0 ≤ markK l k i ∧ markK l k i ≤ 1000 + 3145732 * i
  | 0, _ => by unfold markK; omega
  | i + 1, hi => by
    have ih := markK_in h hk hk' i (by omega)
    have h2 := h.2 i (by omega)
    unfold lenT at h2
    unfold markK nextT
    omega

theorem mark_TrialS (l : List Trl) (k : Int) (h : lenS l 1048576) (hk : 0 ≤ k) (hk' : k ≤ 1000) : F_l_markTrialS (l, k) = some (markK l k l.length, markL l k l.length) := by
  unfold F_l_markTrialS
  have h0 := h.1
  refine iter_run (fun i => (markK l k i, (i : Int), markL l k i)) l.length rfl (fun i hi => ?_) ?_
  · have hb := markK_in h hk hk' i (by omega)
    have hL := markL_len l k i
    have h2 := h.2 i hi
    unfold lenT at h2
    have hg := markL_get l k i i (Nat.le_refl _)
    have e1 := mark_Int64S (l.getD i ((0, ([] : List Int)), ((0, ([] : List Int)), ((0, ([] : List Int)), 0)))).1.2 (markK l k i + 1) (by omega) (by omega) (by omega)
    have e2 := mark_Int64S (l.getD i ((0, ([] : List Int)), ((0, ([] : List Int)), ((0, ([] : List Int)), 0)))).2.1.2 (markK l k i + 1 + (l.getD i ((0, ([] : List Int)), ((0, ([] : List Int)), ((0, ([] : List Int)), 0)))).1.2.length + 1) (by omega) (by omega) (by omega)
    have e3 := mark_Int64S (l.getD i ((0, ([] : List Int)), ((0, ([] : List Int)), ((0, ([] : List Int)), 0)))).2.2.1.2 (markK l k i + 1 + (l.getD i ((0, ([] : List Int)), ((0, ([] : List Int)), ((0, ([] : List Int)), 0)))).1.2.length + 1 + (l.getD i ((0, ([] : List Int)), ((0, ([] : List Int)), ((0, ([] : List Int)), 0)))).2.1.2.length + 1) (by omega) (by omega) (by omega)
    simp (disch := omega) only [share_e, xlen_e, n2i_e, ilt_e, cond_pos, okIx_e, hL, List.length_set, chk_pos, i2n_e, xset_e, xget_e, set_self, List.set_set, hg, iadd_e, w64, e1, e2, e3, bind_s]
    rfl
  · simp (disch := omega) only [xlen_e, n2i_e, markL_len, ilt_e, cond_neg]

/-- a loop over indexes that stops at the first one that fails -/
theorem iter_rng {σ X : Type} {f : σ → Option (σ ⊕ X)} {s : σ} {good bad : X} (n : Nat) (p : Nat → Bool) (inv : Nat → σ) (h0 : s = inv 0)
    (hs : ∀ i, i < n → f (inv i) = some (cond (p i) (.inl (inv (i + 1))) (.inr bad))) (he : f (inv n) = some (.inr good)) : iter f s = some (cond ((List.range n).all p) good bad) := by
  refine iter_all2 (List.range n) p inv h0 (fun i hi hp => ?_) (fun i hi hp => ?_) (fun _ => by rw [List.length_range]; exact he)
  · rw [range_get] at hp
    rw [hs i (by simpa using hi), hp]; rfl
  · rw [range_get] at hp
    rw [hs i (by simpa using hi), hp]; rfl

theorem iter_lst {σ X α : Type} {f : σ → Option (σ ⊕ X)} {s : σ} {good bad : X} (d : α) (l : List α) (p : α → Bool) (inv : Nat → σ) (h0 : s = inv 0)
    (hs : ∀ i, i < l.length → f (inv i) = some (cond (p (l.getD i d)) (.inl (inv (i + 1))) (.inr bad))) (he : f (inv l.length) = some (.inr good)) : iter f s = some (cond (l.all p) good bad) := by
  refine iter_all2 l p inv h0 (fun i hi hp => ?_) (fun i hi hp => ?_) (fun _ => he)
  · rw [hs i hi, getD_lt hi, hp]; rfl
  · rw [hs i hi, getD_lt hi, hp]; rfl

/- valid trials -/
def rgOk (h r : Reg) : Bool := validR r && (decide (r.1 = h.1) && decide (r.2.length = h.2.length))
def trlOk (h : Reg) (t : Trl) : Bool := ([t.1, t.2.1, t.2.2.1].all (rgOk h)) && decide (0 ≤ t.2.2.2 ∧ t.2.2.2 ≤ 1)
def trialsB (l : List Trl) : Bool := (List.range l.length).all (fun i => trlOk (l.getD 0 ((0, ([] : List Int)), ((0, ([] : List Int)), ((0, ([] : List Int)), 0)))).1 (l.getD i ((0, ([] : List Int)), ((0, ([] : List Int)), ((0, ([] : List Int)), 0))))) && decide (1 ≤ (l.length : Int) ∧ (l.length : Int) ≤ 60)

theorem s_like (r h : Reg) (hr : (r.2.length : Int) ≤ 9223372036854775806) : F_s_l20Like (r, h) = some (rgOk h r) := by
  unfold F_s_l20Like
  simp only [s_validR r hr, bind_s, ieq_e, n2i_e, xlen_e, rgOk]
  cases validR r with
  | false => rfl
  | true =>
    simp only [cond_t, Bool.true_and]
    by_cases h1 : r.1 = h.1
    · rw [cond_pos h1, decide_eq_true h1, Bool.true_and]
      by_cases h2 : r.2.length = h.2.length
      · rw [decide_eq_true h2, decide_eq_true (by omega)]
      · rw [decide_eq_false h2, decide_eq_false (by omega)]
    · rw [cond_neg h1, decide_eq_false h1, Bool.false_and]

theorem s_trials (l : List Trl) (h : lenS l 1048576) : F_s_l20Ok l = some (trialsB l) := by
  unfold F_s_l20Ok
  have h0 := h.1
  refine Eq.trans (iter_rng (good := decide (1 ≤ (l.length : Int) ∧ (l.length : Int) ≤ 60)) (bad := false) l.length (fun i => trlOk (l.getD 0 ((0, ([] : List Int)), ((0, ([] : List Int)), ((0, ([] : List Int)), 0)))).1 (l.getD i ((0, ([] : List Int)), ((0, ([] : List Int)), ((0, ([] : List Int)), 0))))) (fun i => ((i : Int), l)) rfl (fun i hi => ?_) ?_) ?_
  · have ez : i2n 0 = 0 := rfl
    have h2 := h.2 i hi
    unfold lenT at h2
    have e1 := s_like (l.getD i ((0, ([] : List Int)), ((0, ([] : List Int)), ((0, ([] : List Int)), 0)))).1 (l.getD 0 ((0, ([] : List Int)), ((0, ([] : List Int)), ((0, ([] : List Int)), 0)))).1 (by omega)
    have e2 := s_like (l.getD i ((0, ([] : List Int)), ((0, ([] : List Int)), ((0, ([] : List Int)), 0)))).2.1 (l.getD 0 ((0, ([] : List Int)), ((0, ([] : List Int)), ((0, ([] : List Int)), 0)))).1 (by omega)
    have e3 := s_like (l.getD i ((0, ([] : List Int)), ((0, ([] : List Int)), ((0, ([] : List Int)), 0)))).2.2.1 (l.getD 0 ((0, ([] : List Int)), ((0, ([] : List Int)), ((0, ([] : List Int)), 0)))).1 (by omega)
    simp (disch := omega) only [ilt_e, n2i_e, xlen_e, cond_pos, okIx_e, chk_pos, xget_e, i2n_e, ez, e1, e2, e3, bind_s, l00In_e, iadd_e, w64]
    unfold trlOk
    simp only [List.all_cons, List.all_nil, Bool.and_true]
    cases rgOk (l.getD 0 ((0, ([] : List Int)), ((0, ([] : List Int)), ((0, ([] : List Int)), 0)))).1 (l.getD i ((0, ([] : List Int)), ((0, ([] : List Int)), ((0, ([] : List Int)), 0)))).1 with
    | false => rfl
    | true =>
      cases rgOk (l.getD 0 ((0, ([] : List Int)), ((0, ([] : List Int)), ((0, ([] : List Int)), 0)))).1 (l.getD i ((0, ([] : List Int)), ((0, ([] : List Int)), ((0, ([] : List Int)), 0)))).2.1 with
      | false => rfl
      | true =>
        cases rgOk (l.getD 0 ((0, ([] : List Int)), ((0, ([] : List Int)), ((0, ([] : List Int)), 0)))).1 (l.getD i ((0, ([] : List Int)), ((0, ([] : List Int)), ((0, ([] : List Int)), 0)))).2.2.1 with
        | false => rfl
        | true =>
          cases decide (0 ≤ (l.getD i ((0, ([] : List Int)), ((0, ([] : List Int)), ((0, ([] : List Int)), 0)))).2.2.2 ∧ (l.getD i ((0, ([] : List Int)), ((0, ([] : List Int)), ((0, ([] : List Int)), 0)))).2.2.2 ≤ 1) <;> rfl
  · simp (disch := omega) only [ilt_e, n2i_e, xlen_e, cond_neg, l00In_e, bind_s, map_s]
  · unfold trialsB
    cases (List.range l.length).all (fun i => trlOk (l.getD 0 ((0, ([] : List Int)), ((0, ([] : List Int)), ((0, ([] : List Int)), 0)))).1 (l.getD i ((0, ([] : List Int)), ((0, ([] : List Int)), ((0, ([] : List Int)), 0))))) <;> rfl

theorem rg_cond {X : Type} (h r : Reg) (x y : Option X) (hr : (r.2.length : Int) ≤ 1048576) : (Option.bind (F_i_ValidRegister r) fun r5 => cond (bnot r5) y (cond (ine r.1 h.1) y (Option.bind (F_i_Register_width r) fun r8 => Option.bind (F_i_Register_width h) fun r9 => cond (ine r8 r9) y x))) = cond (rgOk h r) x y := by
  rw [i_validR r (by omega)]
  unfold F_i_Register_width
  simp only [bind_s, ine_e, n2i_e, xlen_e, rgOk]
  cases validR r with
  | false => rfl
  | true =>
    simp only [bnot_t, cond_f, Bool.true_and]
    by_cases h1 : r.1 = h.1
    · rw [cond_neg (fun q => q h1), decide_eq_true h1, Bool.true_and]
      by_cases h2 : r.2.length = h.2.length
      · rw [decide_eq_true h2, cond_neg (by omega)]; rfl
      · rw [decide_eq_false h2, cond_pos (by omega)]; rfl
    · rw [cond_pos h1, decide_eq_false h1, Bool.false_and]; rfl

theorem i_trials (l : List Trl) (h : lenS l 1048576) : F_i_ValidTrials l = some (trialsB l) := by
  unfold F_i_ValidTrials
  have h0 := h.1
  refine Eq.trans (iter_rng (good := decide (1 ≤ (l.length : Int) ∧ (l.length : Int) ≤ 60)) (bad := false) l.length (fun i => trlOk (l.getD 0 ((0, ([] : List Int)), ((0, ([] : List Int)), ((0, ([] : List Int)), 0)))).1 (l.getD i ((0, ([] : List Int)), ((0, ([] : List Int)), ((0, ([] : List Int)), 0))))) (fun i => ((l.length : Int), (i : Int), l)) rfl (fun i hi => ?_) ?_) ?_
  · have ez : i2n 0 = 0 := rfl
    have h2 := h.2 i hi
    unfold lenT at h2
    simp (disch := omega) only [ilt_e, cond_pos, okIx_e, xlen_e, chk_pos, xget_e, i2n_e]
    generalize l.getD i ((0, ([] : List Int)), ((0, ([] : List Int)), ((0, ([] : List Int)), 0))) = t at h2 ⊢
    refine Eq.trans (iter_lst (good := cond (decide (0 ≤ t.2.2.2 ∧ t.2.2.2 ≤ 1)) (.inl ((l.length : Int), ((i + 1 : Nat) : Int), l)) (.inr false)) (bad := .inr false) ((0 : Int), ([] : List Int)) [t.1, t.2.1, t.2.2.1] (rgOk (l.getD 0 ((0, ([] : List Int)), ((0, ([] : List Int)), ((0, ([] : List Int)), 0)))).1)
      (fun j => ((l.length : Int), (i : Int), (3 : Int), (j : Int), l, t.1.1, t.2.1.1, t.2.2.1.1, t.2.2.2, t.1.2, t.2.1.2, t.2.2.1.2, [t.1, t.2.1, t.2.2.1])) rfl (fun j hj => ?_) ?_) ?_
    · have hj3 : j = 0 ∨ j = 1 ∨ j = 2 := by simp only [List.length_cons, List.length_nil] at hj; omega
      rcases hj3 with rfl | rfl | rfl
      · simp (disch := omega) only [ilt_e, cond_pos, okIx_e, xlen_e, List.length_cons, List.length_nil, chk_pos, xget_e, i2n_e, ez, List.getD_cons_zero, List.getD_cons_succ, rg_cond, iadd_e, w64]
        cases rgOk (l.getD 0 ((0, ([] : List Int)), ((0, ([] : List Int)), ((0, ([] : List Int)), 0)))).1 t.1 <;> rfl
      · simp (disch := omega) only [ilt_e, cond_pos, okIx_e, xlen_e, List.length_cons, List.length_nil, chk_pos, xget_e, i2n_e, ez, List.getD_cons_zero, List.getD_cons_succ, rg_cond, iadd_e, w64]
        cases rgOk (l.getD 0 ((0, ([] : List Int)), ((0, ([] : List Int)), ((0, ([] : List Int)), 0)))).1 t.2.1 <;> rfl
      · simp (disch := omega) only [ilt_e, cond_pos, okIx_e, xlen_e, List.length_cons, List.length_nil, chk_pos, xget_e, i2n_e, ez, List.getD_cons_zero, List.getD_cons_succ, rg_cond, iadd_e, w64]
        cases rgOk (l.getD 0 ((0, ([] : List Int)), ((0, ([] : List Int)), ((0, ([] : List Int)), 0)))).1 t.2.2.1 <;> rfl
    · simp (disch := omega) only [ilt_e, List.length_cons, List.length_nil, cond_neg, between_e, bind_s, iadd_e, w64]
      cases decide (0 ≤ t.2.2.2 ∧ t.2.2.2 ≤ 1) <;> rfl
    · unfold trlOk
      cases ([t.1, t.2.1, t.2.2.1].all (rgOk (l.getD 0 ((0, ([] : List Int)), ((0, ([] : List Int)), ((0, ([] : List Int)), 0)))).1)) with
      | false => rfl
      | true => cases decide (0 ≤ t.2.2.2 ∧ t.2.2.2 ≤ 1) <;> rfl
  · simp (disch := omega) only [ilt_e, n2i_e, xlen_e, cond_neg, between_e, bind_s, map_s]
  · unfold trialsB
    cases (List.range l.length).all (fun i => trlOk (l.getD 0 ((0, ([] : List Int)), ((0, ([] : List Int)), ((0, ([] : List Int)), 0)))).1 (l.getD i ((0, ([] : List Int)), ((0, ([] : List Int)), ((0, ([] : List Int)), 0))))) <;> rfl

theorem trials_at {l : List Trl} (h : trialsB l = true) : (1 ≤ l.length ∧ l.length ≤ 60) ∧ (2 ≤ (l.getD 0 ((0, ([] : List Int)), ((0, ([] : List Int)), ((0, ([] : List Int)), 0)))).1.1 ∧ (l.getD 0 ((0, ([] : List Int)), ((0, ([] : List Int)), ((0, ([] : List Int)), 0)))).1.1 ≤ 16) ∧ (1 ≤ (l.getD 0 ((0, ([] : List Int)), ((0, ([] : List Int)), ((0, ([] : List Int)), 0)))).1.2.length ∧ (l.getD 0 ((0, ([] : List Int)), ((0, ([] : List Int)), ((0, ([] : List Int)), 0)))).1.2.length ≤ 16) ∧
    ∀ i, i < l.length → (l.getD i ((0, ([] : List Int)), ((0, ([] : List Int)), ((0, ([] : List Int)), 0)))).1.1 = (l.getD 0 ((0, ([] : List Int)), ((0, ([] : List Int)), ((0, ([] : List Int)), 0)))).1.1 ∧ (l.getD i ((0, ([] : List Int)), ((0, ([] : List Int)), ((0, ([] : List Int)), 0)))).1.2.length = (l.getD 0 ((0, ([] : List Int)), ((0, ([] : List Int)), ((0, ([] : List Int)), 0)))).1.2.length ∧ (l.getD i ((0, ([] : List Int)), ((0, ([] : List Int)), ((0, ([] : List Int)), 0)))).2.1.2.length = (l.getD 0 ((0, ([] : List Int)), ((0, ([] : List Int)), ((0, ([] : List Int)), 0)))).1.2.length ∧ (l.getD i ((0, ([] : List Int)), ((0, ([] : List Int)), ((0, ([] : List Int)), 0)))).2.2.1.2.length = (l.getD 0 ((0, ([] : List Int)), ((0, ([] : List Int)), ((0, ([] : List Int)), 0)))).1.2.length ∧ digitsOk (l.getD 0 ((0, ([] : List Int)), ((0, ([] : List Int)), ((0, ([] : List Int)), 0)))).1.1 (l.getD i ((0, ([] : List Int)), ((0, ([] : List Int)), ((0, ([] : List Int)), 0)))).1.2 ∧ digitsOk (l.getD 0 ((0, ([] : List Int)), ((0, ([] : List Int)), ((0, ([] : List Int)), 0)))).1.1 (l.getD i ((0, ([] : List Int)), ((0, ([] : List Int)), ((0, ([] : List Int)), 0)))).2.1.2 := by
  simp only [trialsB, Bool.and_eq_true, List.all_eq_true, List.mem_range, decide_eq_true_eq, trlOk, rgOk, List.mem_cons, List.not_mem_nil, or_false, forall_eq_or_imp, forall_eq] at h
  obtain ⟨h1, h2⟩ := h
  obtain ⟨⟨⟨a1, a2, a3⟩, _⟩, _⟩ := h1 0 (by omega)
  obtain ⟨b1, b2, b3, _⟩ := validR_all a1
  refine ⟨by omega, b1, b2, fun i hi => ?_⟩
  obtain ⟨⟨⟨c1, c2, c3⟩, ⟨d1, d2, d3⟩, e1, e2, e3⟩, _⟩ := h1 i hi
  obtain ⟨_, _, g1, _⟩ := validR_all c1
  obtain ⟨_, _, g2, _⟩ := validR_all d1
  rw [c2] at g1
  rw [d2] at g2
  exact ⟨c2, c3, d3, e3, g1, g2⟩

/- trials compared -/
theorem i_sameT (a b : Trl) (ha : lenT a 1048576) (hb : lenT b 1048576) : F_i_Trial_same (a, b) = some (decide (a = b)) := by
  unfold F_i_Trial_same
  simp only
  rw [i_sameR a.1 b.1 ha.1 hb.1, i_sameR a.2.1 b.2.1 ha.2.1 hb.2.1, i_sameR a.2.2.1 b.2.2.1 ha.2.2 hb.2.2]
  obtain ⟨a1, a2, a3, a4⟩ := a
  obtain ⟨b1, b2, b3, b4⟩ := b
  simp only [bind_s, ieq_e]
  by_cases h1 : a1 = b1
  · by_cases h2 : a2 = b2
    · by_cases h3 : a3 = b3
      · by_cases h4 : a4 = b4 <;> simp [h1, h2, h3, h4]
      · simp [h1, h2, h3]
    · simp [h1, h2]
  · simp [h1]
theorem s_sameT (a b : Trl) (ha : lenT a 1048576) (hb : lenT b 1048576) : F_s_l20Trial (a, b) = some (decide (a = b)) := by
  unfold F_s_l20Trial
  simp only
  rw [s_sameR a.1 b.1 ha.1 hb.1, s_sameR a.2.1 b.2.1 ha.2.1 hb.2.1, s_sameR a.2.2.1 b.2.2.1 ha.2.2 hb.2.2]
  obtain ⟨a1, a2, a3, a4⟩ := a
  obtain ⟨b1, b2, b3, b4⟩ := b
  simp only [bind_s, ieq_e]
  by_cases h1 : a1 = b1
  · by_cases h2 : a2 = b2
    · by_cases h3 : a3 = b3
      · by_cases h4 : a4 = b4 <;> simp [h1, h2, h3, h4]
      · simp [h1, h2, h3]
    · simp [h1, h2]
  · simp [h1]

def fdN : List Trl → List Trl → Nat
  | x :: a, y :: b => if x = y then fdN a b + 1 else 0
  | _, _ => 0
theorem fdN_spec : ∀ (a b : List Trl), fdN a b ≤ a.length ∧ fdN a b ≤ b.length ∧ (∀ j, j < fdN a b → a.getD j ((0, ([] : List Int)), ((0, ([] : List Int)), ((0, ([] : List Int)), 0))) = b.getD j ((0, ([] : List Int)), ((0, ([] : List Int)), ((0, ([] : List Int)), 0)))) ∧ (fdN a b < a.length → fdN a b < b.length → ¬ a.getD (fdN a b) ((0, ([] : List Int)), ((0, ([] : List Int)), ((0, ([] : List Int)), 0))) = b.getD (fdN a b) ((0, ([] : List Int)), ((0, ([] : List Int)), ((0, ([] : List Int)), 0))))
  | [], b => by simp [fdN]
  | _ :: _, [] => by simp [fdN]
  | x :: a, y :: b => by
    obtain ⟨h1, h2, h3, h4⟩ := fdN_spec a b
    by_cases h : x = y
    · simp only [fdN, if_pos h, List.length_cons]
      refine ⟨by omega, by omega, fun j hj => ?_, fun g1 g2 => ?_⟩
      · cases j with
        | zero => simp [h]
        | succ j => simpa using h3 j (by omega)
      · simpa using h4 (by omega) (by omega)
    · simp only [fdN, if_neg h, List.length_cons]
      refine ⟨by omega, by omega, fun j hj => absurd hj (by omega), fun _ _ => by simpa using h⟩

def fdR (a b : List Trl) : Int × Int := cond (trialsB a) (cond (trialsB b) (if fdN a b = a.length ∧ fdN a b = b.length then (0, 3) else ((fdN a b : Int), 0)) (0, 1)) (0, 1)

theorem i_fd (a b : List Trl) (ha : lenS a 1048576) (hb : lenS b 1048576) : F_i_FirstDifference (a, b) = some (fdR a b) := by
  unfold F_i_FirstDifference
  simp only [i_trials a ha, i_trials b hb, bind_s, fdR]
  have h0 := ha.1
  have h0' := hb.1
  obtain ⟨s1, s2, s3, s4⟩ := fdN_spec a b
  cases trialsB a with
  | false => rfl
  | true =>
    cases trialsB b with
    | false => rfl
    | true =>
      simp only [bnot_t, cond_f, cond_t, n2i_e, xlen_e]
      have hm : imin (a.length : Int) (b.length : Int) = ((min a.length b.length : Nat) : Int) := by unfold imin; split <;> omega
      rw [hm]
      refine iter_run (fun i => (((min a.length b.length : Nat) : Int), (i : Int), a, b)) (fdN a b) rfl (fun i hi => ?_) ?_
      · have e := i_sameT _ _ (ha.2 i (by omega)) (hb.2 i (by omega))
        rw [decide_eq_true (s3 i hi)] at e
        simp (disch := omega) only [ilt_e, cond_pos, okIx_e, chk_pos, xget_e, i2n_e, pair_eta, e, bind_s, bnot_t, cond_f, iadd_e, w64]
        rfl
      · by_cases hk : fdN a b < min a.length b.length
        · have e := i_sameT _ _ (ha.2 (fdN a b) (by omega)) (hb.2 (fdN a b) (by omega))
          rw [decide_eq_false (s4 (by omega) (by omega))] at e
          simp (disch := omega) only [ilt_e, cond_pos, okIx_e, chk_pos, xget_e, i2n_e, pair_eta, e, bind_s, bnot_f, cond_t]
          rw [if_neg (by omega)]
        · simp (disch := omega) only [ilt_e, cond_neg, ieq_e]
          rw [hm]
          by_cases hl : a.length = b.length
          · rw [cond_pos (by omega), if_pos (by omega)]; rfl
          · rw [cond_neg (by omega), if_neg (by omega), show min a.length b.length = fdN a b by omega]; rfl

theorem s_fd (a b : List Trl) (ha : lenS a 1048576) (hb : lenS b 1048576) : F_s_FirstDifference (a, b) = some (fdR a b) := by
  unfold F_s_FirstDifference
  simp only [s_trials a ha, s_trials b hb, bind_s, fdR]
  have h0 := ha.1
  have h0' := hb.1
  obtain ⟨s1, s2, s3, s4⟩ := fdN_spec a b
  cases trialsB a with
  | false => rfl
  | true =>
    cases trialsB b with
    | false => rfl
    | true =>
      simp only [bnot_t, cond_f, cond_t, n2i_e, xlen_e]
      refine iter_run (fun i => ((i : Int), a, b)) (fdN a b) rfl (fun i hi => ?_) ?_
      · have e := s_sameT _ _ (ha.2 i (by omega)) (hb.2 i (by omega))
        rw [decide_eq_true (s3 i hi)] at e
        simp (disch := omega) only [ilt_e, cond_pos, okIx_e, chk_pos, xget_e, i2n_e, pair_eta, e, bind_s, cond_t, iadd_e, w64]
        rfl
      · by_cases hk : fdN a b < a.length
        · by_cases hk2 : fdN a b < b.length
          · have e := s_sameT _ _ (ha.2 (fdN a b) hk) (hb.2 (fdN a b) hk2)
            rw [decide_eq_false (s4 hk hk2)] at e
            simp (disch := omega) only [ilt_e, cond_pos, okIx_e, chk_pos, xget_e, i2n_e, pair_eta, e, bind_s, cond_f, ieq_e, cond_neg]
            rw [if_neg (by omega)]; rfl
          · simp (disch := omega) only [ilt_e, cond_pos, cond_neg, ieq_e]
            rw [if_neg (by omega)]; rfl
        · simp (disch := omega) only [ilt_e, cond_neg, cond_pos, ieq_e]
          by_cases hl : fdN a b = b.length
          · rw [cond_pos (by omega), if_pos (by omega)]; rfl
          · rw [cond_neg (by omega), if_neg (by omega)]; rfl

/- trials explained -/
def explB (t : Trl) (f : List Flt) : Bool := decide ((t.1.1, fsum t.1.1 t.1.2 t.2.1.2 f t.1.2.length) = t.2.2.1) && decide (fcar t.1.1 t.1.2 t.2.1.2 f t.1.2.length = t.2.2.2)

theorem i_addedF' (A B : Reg) (f : List Flt) (hb : 2 ≤ A.1 ∧ A.1 ≤ 16) (hl : digitsOk A.1 A.2) (hm : digitsOk A.1 B.2) (he : A.2.length = B.2.length) (hn : A.2.length ≤ 16) (hf : (f.length : Int) ≤ 9223372036854775806) :
    F_i_addedWith (A, (B, f)) = some ((A.1, fsum A.1 A.2 B.2 f A.2.length), fcar A.1 A.2 B.2 f A.2.length) := i_addedF A.1 B.1 A.2 B.2 f hb hl hm he hn hf
theorem s_addedF' (A B : Reg) (f : List Flt) (hb : 2 ≤ A.1 ∧ A.1 ≤ 16) (hl : digitsOk A.1 A.2) (hm : digitsOk A.1 B.2) (he : A.2.length = B.2.length) (hn : A.2.length ≤ 16) (hf : (f.length : Int) ≤ 9223372036854775806) (hF : faultsB A.2.length f = true) :
    F_s_l08Add (A, (B, f)) = some ((A.1, fsum A.1 A.2 B.2 f A.2.length), fcar A.1 A.2 B.2 f A.2.length) := s_addedF A.1 B.1 A.2 B.2 f hb hl hm he hn hf hF

theorem i_expl {l : List Trl} (hv : trialsB l = true) {i : Nat} (hi : i < l.length) (f : List Flt) (hf : (f.length : Int) ≤ 9223372036854775806) : F_i_Trial_explained (l.getD i ((0, ([] : List Int)), ((0, ([] : List Int)), ((0, ([] : List Int)), 0))), f) = some (explB (l.getD i ((0, ([] : List Int)), ((0, ([] : List Int)), ((0, ([] : List Int)), 0)))) f) := by
  obtain ⟨_, hb, hw, hall⟩ := trials_at hv
  obtain ⟨c1, c2, c3, c4, c5, c6⟩ := hall i hi
  rw [← c1] at hb c5 c6
  unfold F_i_Trial_explained explB
  simp only
  have l1 := fsum_len (l.getD i ((0, ([] : List Int)), ((0, ([] : List Int)), ((0, ([] : List Int)), 0)))).1.1 (l.getD i ((0, ([] : List Int)), ((0, ([] : List Int)), ((0, ([] : List Int)), 0)))).1.2 (l.getD i ((0, ([] : List Int)), ((0, ([] : List Int)), ((0, ([] : List Int)), 0)))).2.1.2 f (l.getD i ((0, ([] : List Int)), ((0, ([] : List Int)), ((0, ([] : List Int)), 0)))).1.2.length
  rw [i_addedF' _ _ f hb c5 c6 (by omega) (by omega) hf]
  simp only [bind_s]
  rw [i_sameR _ _ (by simp only [l1]; omega) (by omega)]
  simp only [bind_s, ieq_e]
  by_cases hq : ((l.getD i ((0, ([] : List Int)), ((0, ([] : List Int)), ((0, ([] : List Int)), 0)))).1.1, fsum (l.getD i ((0, ([] : List Int)), ((0, ([] : List Int)), ((0, ([] : List Int)), 0)))).1.1 (l.getD i ((0, ([] : List Int)), ((0, ([] : List Int)), ((0, ([] : List Int)), 0)))).1.2 (l.getD i ((0, ([] : List Int)), ((0, ([] : List Int)), ((0, ([] : List Int)), 0)))).2.1.2 f (l.getD i ((0, ([] : List Int)), ((0, ([] : List Int)), ((0, ([] : List Int)), 0)))).1.2.length) = (l.getD i ((0, ([] : List Int)), ((0, ([] : List Int)), ((0, ([] : List Int)), 0)))).2.2.1
  · rw [cond_pos hq, decide_eq_true hq, Bool.true_and]
  · rw [cond_neg hq, decide_eq_false hq, Bool.false_and]

theorem s_expl {l : List Trl} (hv : trialsB l = true) {i : Nat} (hi : i < l.length) (f : List Flt) (hf : (f.length : Int) ≤ 9223372036854775806) (hF : faultsB (l.getD 0 ((0, ([] : List Int)), ((0, ([] : List Int)), ((0, ([] : List Int)), 0)))).1.2.length f = true) : F_s_l20One (l.getD i ((0, ([] : List Int)), ((0, ([] : List Int)), ((0, ([] : List Int)), 0))), f) = some (explB (l.getD i ((0, ([] : List Int)), ((0, ([] : List Int)), ((0, ([] : List Int)), 0)))) f) := by
  obtain ⟨_, hb, hw, hall⟩ := trials_at hv
  obtain ⟨c1, c2, c3, c4, c5, c6⟩ := hall i hi
  rw [← c1] at hb c5 c6
  rw [← c2] at hF
  unfold F_s_l20One explB
  simp only
  have l1 := fsum_len (l.getD i ((0, ([] : List Int)), ((0, ([] : List Int)), ((0, ([] : List Int)), 0)))).1.1 (l.getD i ((0, ([] : List Int)), ((0, ([] : List Int)), ((0, ([] : List Int)), 0)))).1.2 (l.getD i ((0, ([] : List Int)), ((0, ([] : List Int)), ((0, ([] : List Int)), 0)))).2.1.2 f (l.getD i ((0, ([] : List Int)), ((0, ([] : List Int)), ((0, ([] : List Int)), 0)))).1.2.length
  rw [s_addedF' _ _ f hb c5 c6 (by omega) (by omega) hf hF]
  simp only [bind_s]
  rw [s_sameR _ _ (by simp only [l1]; omega) (by omega)]
  simp only [bind_s, ieq_e]
  by_cases hq : ((l.getD i ((0, ([] : List Int)), ((0, ([] : List Int)), ((0, ([] : List Int)), 0)))).1.1, fsum (l.getD i ((0, ([] : List Int)), ((0, ([] : List Int)), ((0, ([] : List Int)), 0)))).1.1 (l.getD i ((0, ([] : List Int)), ((0, ([] : List Int)), ((0, ([] : List Int)), 0)))).1.2 (l.getD i ((0, ([] : List Int)), ((0, ([] : List Int)), ((0, ([] : List Int)), 0)))).2.1.2 f (l.getD i ((0, ([] : List Int)), ((0, ([] : List Int)), ((0, ([] : List Int)), 0)))).1.2.length) = (l.getD i ((0, ([] : List Int)), ((0, ([] : List Int)), ((0, ([] : List Int)), 0)))).2.2.1
  · rw [cond_pos hq, decide_eq_true hq, Bool.true_and]
  · rw [cond_neg hq, decide_eq_false hq, Bool.false_and]

def wrongL (l : List Trl) : Nat → List Int
  | 0 => []
  | i + 1 => cond (explB (l.getD i ((0, ([] : List Int)), ((0, ([] : List Int)), ((0, ([] : List Int)), 0)))) []) (wrongL l i) (wrongL l i ++ [(i : Int)])
theorem wrongL_len (l : List Trl) : ∀ i, (wrongL l i).length ≤ i
  | 0 => by simp [wrongL]
  | i + 1 => by
    have := wrongL_len l i
    unfold wrongL
    cases explB (l.getD i ((0, ([] : List Int)), ((0, ([] : List Int)), ((0, ([] : List Int)), 0)))) [] <;> simp <;> omega
theorem wrongL_succ (l : List Trl) (i : Nat) : wrongL l (i + 1) = cond (explB (l.getD i ((0, ([] : List Int)), ((0, ([] : List Int)), ((0, ([] : List Int)), 0)))) []) (wrongL l i) (wrongL l i ++ [(i : Int)]) := rfl
def wrongR (l : List Trl) : List Int × Int := cond (trialsB l) (wrongL l l.length, 0) ([], 1)
theorem wrongR_len (l : List Trl) (h : lenS l 1048576) : ((wrongR l).1.length : Int) ≤ 1048576 := by
  have := wrongL_len l l.length
  have := h.1
  unfold wrongR
  cases trialsB l <;> simp <;> omega

theorem faultsB_nil {w : Int} (h : 1 ≤ w ∧ w ≤ 16) : faultsB w [] = true := by simp [faultsB, h]

theorem i_wrong (l : List Trl) (h : lenS l 1048576) : F_i_WrongTrials l = some (wrongR l) := by
  unfold F_i_WrongTrials
  simp only [i_trials l h, bind_s, wrongR]
  have h0 := h.1
  cases hv : trialsB l with
  | false => rfl
  | true =>
    simp only [bnot_t, cond_f, cond_t]
    refine iter_run (fun i => ((l.length : Int), (i : Int), wrongL l i, l)) l.length rfl (fun i hi => ?_) ?_
    · have e := i_expl hv hi [] (by simp)
      have hl := wrongL_len l i
      simp (disch := omega) only [ilt_e, cond_pos, okIx_e, xlen_e, chk_pos, xget_e, i2n_e, pair_eta, e, bind_s, okRoom_e, List.length_cons, List.length_nil, iadd_e, w64, xapp_e, wrongL_succ]
      cases explB (l.getD i ((0, ([] : List Int)), ((0, ([] : List Int)), ((0, ([] : List Int)), 0)))) [] <;> rfl
    · simp (disch := omega) only [ilt_e, cond_neg]

theorem s_wrong (l : List Trl) (h : lenS l 1048576) : F_s_WrongTrials l = some (wrongR l) := by
  unfold F_s_WrongTrials
  simp only [s_trials l h, bind_s, wrongR]
  have h0 := h.1
  cases hv : trialsB l with
  | false => rfl
  | true =>
    simp only [bnot_t, cond_f, cond_t]
    refine iter_run (fun i => ((i : Int), l, wrongL l i)) l.length rfl (fun i hi => ?_) ?_
    · obtain ⟨_, _, hw, _⟩ := trials_at hv
      have e := s_expl hv hi [] (by simp) (faultsB_nil (by omega))
      have hl := wrongL_len l i
      simp (disch := omega) only [ilt_e, n2i_e, cond_pos, okIx_e, xlen_e, chk_pos, xget_e, i2n_e, e, bind_s, okRoom_e, List.length_cons, List.length_nil, iadd_e, w64, xapp_e, wrongL_succ]
      cases explB (l.getD i ((0, ([] : List Int)), ((0, ([] : List Int)), ((0, ([] : List Int)), 0)))) [] <;> rfl
    · simp (disch := omega) only [ilt_e, n2i_e, xlen_e, cond_neg]

def explainsB (l : List Trl) (f : List Flt) : Bool := trialsB l && ((List.range l.length).all (fun i => explB (l.getD i ((0, ([] : List Int)), ((0, ([] : List Int)), ((0, ([] : List Int)), 0)))) f) && faultsB (l.getD 0 ((0, ([] : List Int)), ((0, ([] : List Int)), ((0, ([] : List Int)), 0)))).1.2.length f)

theorem i_expls (l : List Trl) (f : List Flt) (h : lenS l 1048576) (hf : (f.length : Int) ≤ 9223372036854775806) : F_i_Explains (l, f) = some (explainsB l f) := by
  unfold F_i_Explains F_i_explain F_i_Register_width
  simp only [i_trials l h, bind_s, explainsB]
  have h0 := h.1
  cases hv : trialsB l with
  | false => rfl
  | true =>
    obtain ⟨hl, _, hw, _⟩ := trials_at hv
    simp only [cond_t, Bool.true_and, n2i_e, xlen_e]
    have key : ∀ (o : Option Bool), o = some ((List.range l.length).all (fun i => explB (l.getD i ((0, ([] : List Int)), ((0, ([] : List Int)), ((0, ([] : List Int)), 0)))) f) && faultsB (l.getD 0 ((0, ([] : List Int)), ((0, ([] : List Int)), ((0, ([] : List Int)), 0)))).1.2.length f) → (Option.bind o fun r3 => some r3) = some ((List.range l.length).all (fun i => explB (l.getD i ((0, ([] : List Int)), ((0, ([] : List Int)), ((0, ([] : List Int)), 0)))) f) && faultsB (l.getD 0 ((0, ([] : List Int)), ((0, ([] : List Int)), ((0, ([] : List Int)), 0)))).1.2.length f) := fun o ho => by rw [ho]; rfl
    refine key _ (Eq.trans (iter_rng (good := faultsB (l.getD 0 ((0, ([] : List Int)), ((0, ([] : List Int)), ((0, ([] : List Int)), 0)))).1.2.length f) (bad := false) l.length (fun i => explB (l.getD i ((0, ([] : List Int)), ((0, ([] : List Int)), ((0, ([] : List Int)), 0)))) f) (fun i => ((l.length : Int), (i : Int), l, f)) rfl (fun i hi => ?_) ?_) ?_)
    · have e := i_expl hv hi f hf
      simp (disch := omega) only [ilt_e, cond_pos, okIx_e, chk_pos, xget_e, i2n_e, pair_eta, e, bind_s, iadd_e, w64]
      cases explB (l.getD i ((0, ([] : List Int)), ((0, ([] : List Int)), ((0, ([] : List Int)), 0)))) f <;> rfl
    · have ez : i2n 0 = 0 := rfl
      simp (disch := omega) only [ilt_e, cond_neg, okIx_e, chk_pos, xget_e, ez, bind_s, i_faults, map_s]
    · cases (List.range l.length).all (fun i => explB (l.getD i ((0, ([] : List Int)), ((0, ([] : List Int)), ((0, ([] : List Int)), 0)))) f) <;> rfl

theorem s_expls (l : List Trl) (f : List Flt) (h : lenS l 1048576) (hf : (f.length : Int) ≤ 9223372036854775806) : F_s_Explains (l, f) = some (explainsB l f) := by
  unfold F_s_Explains F_s_l20All
  simp only [s_trials l h, bind_s, explainsB]
  have h0 := h.1
  cases hv : trialsB l with
  | false => rfl
  | true =>
    obtain ⟨hl, _, hw, _⟩ := trials_at hv
    have ez : i2n 0 = 0 := rfl
    simp (disch := omega) only [cond_t, Bool.true_and, n2i_e, xlen_e, okIx_e, chk_pos, xget_e, ez, s_faultsB, bind_s]
    cases hF : faultsB (l.getD 0 ((0, ([] : List Int)), ((0, ([] : List Int)), ((0, ([] : List Int)), 0)))).1.2.length f with
    | false => rw [Bool.and_false]; rfl
    | true =>
      simp only [cond_t, Bool.and_true]
      have key : ∀ (o : Option Bool), o = some ((List.range l.length).all (fun i => explB (l.getD i ((0, ([] : List Int)), ((0, ([] : List Int)), ((0, ([] : List Int)), 0)))) f)) → (Option.bind o fun r3 => some r3) = some ((List.range l.length).all (fun i => explB (l.getD i ((0, ([] : List Int)), ((0, ([] : List Int)), ((0, ([] : List Int)), 0)))) f)) := fun o ho => by rw [ho]; rfl
      refine key _ (Eq.trans (iter_rng (good := true) (bad := false) l.length (fun i => explB (l.getD i ((0, ([] : List Int)), ((0, ([] : List Int)), ((0, ([] : List Int)), 0)))) f) (fun i => ((i : Int), l, f)) rfl (fun i hi => ?_) ?_) ?_)
      · have e := s_expl hv hi f hf hF
        simp (disch := omega) only [ilt_e, cond_pos, okIx_e, chk_pos, xget_e, i2n_e, e, bind_s, iadd_e, w64]
        cases explB (l.getD i ((0, ([] : List Int)), ((0, ([] : List Int)), ((0, ([] : List Int)), 0)))) f <;> rfl
      · simp (disch := omega) only [ilt_e, cond_neg]
      · cases (List.range l.length).all (fun i => explB (l.getD i ((0, ([] : List Int)), ((0, ([] : List Int)), ((0, ([] : List Int)), 0)))) f) <;> rfl

/- the laws -/
theorem s_valTrials (l : List Trl) (h : lenS l 1048576) : F_s_ValidTrials l = some (trialsB l) := by
  unfold F_s_ValidTrials
  rw [s_trials l h]; rfl

theorem law_ValidTrials (l : List Trl) (h : lenS l 9223372036854775807) : F_l_FnExactValidTrials l = some true := by
  unfold F_l_FnExactValidTrials
  obtain ⟨v, e, q⟩ := sz_TrialS l 1048576 h (by omega) (by omega)
  simp only [e, bind_s, ilt_e]
  rcases q with rfl | ⟨q1, q2, hS⟩
  · rfl
  rw [cond_neg (by omega)]
  simp only [to_TrialS l hS, bind_s, s_valTrials l hS, i_trials l hS, bnev_s, cond_f, eq_TrialS l l hS hS, decide_true, bnot_t]

theorem law_FirstDifference (a b : List Trl) (h : lenS a 9223372036854775807) (h' : lenS b 9223372036854775807) : F_l_FnExactFirstDifference (a, b) = some true := by
  unfold F_l_FnExactFirstDifference
  obtain ⟨v, e, q⟩ := sz_TrialS a 1048576 h (by omega) (by omega)
  simp only [e, bind_s, ilt_e]
  rcases q with rfl | ⟨q1, q2, hS⟩
  · rfl
  rw [cond_neg (by omega)]
  obtain ⟨v', e', q'⟩ := sz_TrialS b v h' (by omega) (by omega)
  simp only [e', bind_s, ilt_e]
  rcases q' with rfl | ⟨q1', q2', hS'⟩
  · rfl
  rw [cond_neg (by omega)]
  have hT := lenS_mono hS' q2
  simp only [to_TrialS a hS, to_TrialS b hT, bind_s, s_fd a b hS hT, i_fd a b hS hT, ine_e, not_true_eq_false, decide_false, cond_f, eq_TrialS a a hS hS, eq_TrialS b b hT hT, decide_true, bnot_t]

theorem law_WrongTrials (l : List Trl) (h : lenS l 9223372036854775807) : F_l_FnExactWrongTrials l = some true := by
  unfold F_l_FnExactWrongTrials
  obtain ⟨v, e, q⟩ := sz_TrialS l 1048576 h (by omega) (by omega)
  simp only [e, bind_s, ilt_e]
  rcases q with rfl | ⟨q1, q2, hS⟩
  · rfl
  rw [cond_neg (by omega)]
  have hl := wrongR_len l hS
  have hk := markK_in hS (k := 1) (by omega) (by omega) l.length (Nat.le_refl _)
  simp (disch := omega) only [to_TrialS l hS, bind_s, s_wrong l hS, i_wrong l hS, eq_Int64S, ine_e, not_true_eq_false, decide_false, cond_f, eq_TrialS l l hS hS, decide_true, bnot_t, mark_TrialS l 1 hS, mark_Int64S, held_Int64S, cond_neg]

theorem law_Explains (a : List Trl) (b : List Flt) (h : lenS a 9223372036854775807) (h' : (b.length : Int) ≤ 9223372036854775807) : F_l_FnExactExplains (a, b) = some true := by
  unfold F_l_FnExactExplains
  obtain ⟨v, e, q⟩ := sz_TrialS a 1048576 h (by omega) (by omega)
  simp only [e, bind_s, ilt_e]
  rcases q with rfl | ⟨q1, q2, hS⟩
  · rfl
  rw [cond_neg (by omega)]
  obtain ⟨v', e', q'⟩ := sz_LeverFaultS b v h' (by omega) (by omega)
  simp only [e', bind_s, ilt_e]
  rcases q' with rfl | ⟨q1', q2'⟩
  · rfl
  rw [cond_neg (by omega)]
  simp (disch := omega) only [to_TrialS a hS, to_LeverFaultS, bind_s, s_expls a b hS, i_expls a b hS, bnev_s, cond_f, eq_TrialS a a hS hS, eq_LeverFaultS, decide_true, bnot_t]

abbrev trlTy (t1 : TypeId) : Ty := .pair (.pair (.int .i64) (.row false t1 (.int .i64))) (.pair (.pair (.int .i64) (.row false t1 (.int .i64))) (.pair (.pair (.int .i64) (.row false t1 (.int .i64))) (.int .i64)))
theorem wf_trials {t1 t6 : TypeId} {l : List Trl} (h : wf (.row false t6 (trlTy t1)) l) : lenS l 9223372036854775807 := by
  refine ⟨maxLen_le (n := l.length) h.1, fun i hi => ?_⟩
  have hm : l.getD i ((0, ([] : List Int)), ((0, ([] : List Int)), ((0, ([] : List Int)), 0))) ∈ l := by rw [getD_lt hi]; exact List.getElem_mem hi
  have hw := h.2 _ hm
  exact ⟨maxLen_le (n := List.length _) hw.1.2.1, maxLen_le (n := List.length _) hw.2.1.2.1, maxLen_le (n := List.length _) hw.2.2.1.2.1⟩

theorem FnExactValidTrials_true {t1 t6 : TypeId} (x : List Trl) (h : wfArgs [.val false (.row false t6 (trlTy t1))] x) : ∃ y, F_l_FnExactValidTrials x = some y ∧ hhead .bool [] y = true :=
  ⟨true, law_ValidTrials x (wf_trials h.1), rfl⟩
theorem FnExactFirstDifference_true {t1 t6 : TypeId} (x : List Trl × List Trl) (h : wfArgs [.val false (.row false t6 (trlTy t1)), .val false (.row false t6 (trlTy t1))] x) : ∃ y, F_l_FnExactFirstDifference x = some y ∧ hhead .bool [] y = true :=
  ⟨true, law_FirstDifference x.1 x.2 (wf_trials h.1) (wf_trials h.2.1), rfl⟩
theorem FnExactWrongTrials_true {t1 t6 : TypeId} (x : List Trl) (h : wfArgs [.val false (.row false t6 (trlTy t1))] x) : ∃ y, F_l_FnExactWrongTrials x = some y ∧ hhead .bool [] y = true :=
  ⟨true, law_WrongTrials x (wf_trials h.1), rfl⟩
theorem FnExactExplains_true {t1 t4 t6 : TypeId} (x : List Trl × List Flt) (h : wfArgs [.val false (.row false t6 (trlTy t1)), .val false (.row false t4 (.pair (.int .i64) (.int .i64)))] x) : ∃ y, F_l_FnExactExplains x = some y ∧ hhead .bool [] y = true :=
  ⟨true, law_Explains x.1 x.2 (wf_trials h.1) (maxLen_le (n := x.2.length) h.2.1.1), rfl⟩

end Go.Prg
