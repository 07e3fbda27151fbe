/- Plain laws, part Tb: faults of levers. Conditions: none. -/
import Derived.Test.YthiajmikeaolmaaPlTa
set_option linter.all false
namespace Go.Prg
open Go.Eng

theorem to_LeverFault (e : Int × Int) : F_l_toLeverFault e = some e := rfl
theorem eq_LeverFault (a b : Int × Int) : F_l_eqLeverFault (a, b) = some (decide (a = b)) := by
  obtain ⟨a1, a2⟩ := a
  obtain ⟨b1, b2⟩ := b
  unfold F_l_eqLeverFault
  simp only [ine_e]
  by_cases h1 : a1 = b1
  · by_cases h2 : a2 = b2 <;> simp [h1, h2]
  · simp [h1]

theorem sz_LeverFaultS (l : List (Int × Int)) (n : Int) (h : (l.length : Int) ≤ 9223372036854775807) (hn : 0 ≤ n) (hn' : n ≤ 1048576) : ∃ v, F_l_szLeverFaultS (l, n) = some v ∧ (v = -1 ∨ 0 ≤ v ∧ v + l.length = n) := by
  unfold F_l_szLeverFaultS
  simp (disch := omega) only [xlen_e, n2i_e, isub_e, w64, ilt_e]
  by_cases hs : n - l.length < 0
  · exact ⟨-1, by simp [hs], .inl rfl⟩
  · exact ⟨n - l.length, by simp [hs], .inr ⟨by omega, by omega⟩⟩

theorem to_LeverFaultS (l : List (Int × Int)) (h : (l.length : Int) ≤ 1048576) : F_l_toLeverFaultS l = some l := by
  unfold F_l_toLeverFaultS
  simp (disch := omega) only [xlen_e, n2i_e, ieq_e, okMake_e, chk_pos, i2n_e, xrep_e, decide_true, chk_t]
  refine iter_run (fun i => ((i : Int), l, l.take i ++ List.replicate (l.length - i) (0, 0))) l.length (by simp) (fun i hi => ?_) ?_
  · have hlen : (l.take i ++ List.replicate (l.length - i) (0, 0)).length = l.length := by simp; omega
    have ht : (l.take i).length = i := by simp; omega
    simp (disch := omega) only [xlen_e, n2i_e, ilt_e, cond_pos, okIx_e, hlen, chk_pos, i2n_e, xset_e, xget_e, iadd_e, w64, pair_eta, to_LeverFault, eq_LeverFault, bind_s]
    rw [mid_rep ht hi, List.take_succ_eq_append_getElem hi, getD_lt hi]
    rfl
  · simp (disch := omega) only [xlen_e, n2i_e, ilt_e, cond_neg, Nat.sub_self]
    simp

theorem eq_LeverFaultS (a b : List (Int × Int)) (h : (a.length : Int) ≤ 9223372036854775806) (h' : (b.length : Int) ≤ 9223372036854775806) : F_l_eqLeverFaultS (a, b) = some (decide (a = b)) := by
  unfold F_l_eqLeverFaultS
  simp only [xlen_e, n2i_e, ine_e]
  by_cases hl : a.length = b.length
  · rw [cond_neg (by omega)]
    by_cases hab : a = b
    · subst hab
      refine iter_run (fun i => ((i : Int), a, a)) a.length rfl (fun i hi => ?_) ?_
      · simp (disch := omega) only [ilt_e, cond_pos, okIx_e, chk_pos, i2n_e, xget_e, iadd_e, w64, pair_eta, bnev_s, to_LeverFault, eq_LeverFault, bind_s, decide_true, bnot_t, cond_f]
        rfl
      · simp (disch := omega) only [ilt_e, cond_neg]
        simp
    · obtain ⟨k, hk, hne, hmin⟩ := first_diff hl hab
      refine iter_run (fun i => ((i : Int), a, b)) k rfl (fun i hi => ?_) ?_
      · have h1 : a.getD i (0, 0) = b.getD i (0, 0) := by rw [List.getD_eq_getElem?_getD, List.getD_eq_getElem?_getD, hmin i hi]
        simp (disch := omega) only [ilt_e, cond_pos, okIx_e, chk_pos, i2n_e, xget_e, h1, iadd_e, w64, pair_eta, bnev_s, to_LeverFault, eq_LeverFault, bind_s, decide_true, bnot_t, cond_f]
        rfl
      · have h1 : ¬ a.getD k (0, 0) = b.getD k (0, 0) := by
          rw [getD_lt hk, getD_lt (by omega)]
          rw [List.getElem?_eq_getElem hk, List.getElem?_eq_getElem (by omega)] at hne
          simpa using hne
        simp (disch := omega) only [ilt_e, cond_pos, okIx_e, chk_pos, i2n_e, xget_e, pair_eta, bnev_e, to_LeverFault, eq_LeverFault, bind_s, h1, not_false_eq_true, decide_false, decide_true, bnot_f, cond_t]
        simp [hab]
  · rw [cond_pos (by omega)]
    have : a ≠ b := fun e => hl (by rw [e])
    simp [this]

def f_LeverFaultS (k : Int) : (Int × Int) := (k, k + 1)

theorem mark_LeverFaultS (l : List (Int × Int)) (k : Int) (h : (l.length : Int) ≤ 4000000) (hk : 0 ≤ k) (hk' : k ≤ 3000000000000000000) : F_l_markLeverFaultS (l, k) = some (k + 2 * l.length, cnt f_LeverFaultS 2 k l.length) := by
  unfold F_l_markLeverFaultS
  refine iter_run (fun i => (k + 2 * (i : Int), (i : Int), cnt f_LeverFaultS 2 k i ++ l.drop i)) l.length (by simp [cnt]) (fun i hi => ?_) ?_
  · have hlen : (cnt f_LeverFaultS 2 k i ++ l.drop i).length = l.length := by simp [cnt_len]; omega
    have hg : (cnt f_LeverFaultS 2 k i ++ l.drop i).getD i (0, 0) = l.getD i (0, 0) := mid_drop (cnt_len _ _ _ _) hi
    simp (disch := omega) only [xlen_e, n2i_e, ilt_e, cond_pos, okIx_e, okDiv_e, List.length_set, hlen, chk_pos, i2n_e, xset_e, xget_e, iadd_e, w64, set_self, List.set_set, share_e, ieq_e, irem_e, hg]
    rw [mid_set (cnt_len _ _ _ _) hi, cnt_succ]
    refine congrArg (fun z => some (Sum.inl z)) (Prod.ext ?_ (Prod.ext ?_ ?_))
    · simp only; omega
    · simp only; omega
    · rfl
  · have hlen : (cnt f_LeverFaultS 2 k l.length ++ l.drop l.length).length = l.length := by simp [cnt_len]
    simp (disch := omega) only [xlen_e, n2i_e, ilt_e, hlen, cond_neg]
    simp

/-- two rows compared element by element -/
theorem iter_same {σ α : Type} [DecidableEq α] {d : α} (a b : List α) (hl : a.length = b.length) (inv : Nat → σ) {f : σ → Option (σ ⊕ Bool)} {s : σ} (h0 : s = inv 0) (hs : ∀ i, i < a.length → f (inv i) = some (if a.getD i d = b.getD i d then .inl (inv (i + 1)) else .inr false)) (he : f (inv a.length) = some (.inr true)) : iter f s = some (decide (a = b)) := by
  by_cases hab : a = b
  · subst hab
    rw [decide_eq_true rfl]
    exact iter_run inv a.length h0 (fun i hi => by rw [hs i hi, if_pos rfl]) he
  · obtain ⟨k, hk, hne, hmin⟩ := first_diff hl hab
    rw [decide_eq_false hab]
    refine iter_run inv k h0 (fun i hi => ?_) ?_
    · have h1 : a.getD i d = b.getD i d := by rw [List.getD_eq_getElem?_getD, List.getD_eq_getElem?_getD, hmin i hi]
      rw [hs i (by omega), if_pos h1]
    · have h1 : ¬ a.getD k d = b.getD k d := by
        rw [getD_lt hk, getD_lt (by omega)]
        rw [List.getElem?_eq_getElem hk, List.getElem?_eq_getElem (by omega)] at hne
        simpa using hne
      rw [hs k hk, if_neg h1]

theorem i_sameN (a b : List Int) (h : (a.length : Int) ≤ 1048576) (h' : (b.length : Int) ≤ 1048576) : F_i_sameNumbers (a, b) = some (decide (a = b)) := by
  unfold F_i_sameNumbers
  simp only [ine_e, n2i_e, xlen_e]
  by_cases hl : a.length = b.length
  · rw [cond_neg (by omega)]
    refine iter_same (d := 0) a b hl (fun i => ((a.length : Int), (i : Int), a, b)) rfl (fun i hi => ?_) ?_
    · simp (disch := omega) only [ilt_e, cond_pos, okIx_e, xlen_e, chk_pos, xget_e, i2n_e, iadd_e, w64]
      by_cases e : a.getD i 0 = b.getD i 0
      · rw [cond_neg (by simpa using e), if_pos e]; rfl
      · rw [cond_pos e, if_neg e]
    · simp (disch := omega) only [ilt_e, cond_neg]
  · rw [cond_pos (by omega), decide_eq_false (fun e => hl (by rw [e]))]

theorem s_sameN (a b : List Int) (h : (a.length : Int) ≤ 1048576) (h' : (b.length : Int) ≤ 1048576) : F_s_l00Same (a, b) = some (decide (a = b)) := by
  unfold F_s_l00Same
  simp only [ine_e, n2i_e, xlen_e]
  by_cases hl : a.length = b.length
  · rw [cond_neg (by omega)]
    refine iter_same (d := 0) a b hl (fun i => ((i : Int), a, b)) rfl (fun i hi => ?_) ?_
    · simp (disch := omega) only [ilt_e, cond_pos, okIx_e, xlen_e, chk_pos, xget_e, i2n_e, n2i_e, iadd_e, w64]
      by_cases e : a.getD i 0 = b.getD i 0
      · rw [cond_neg (by simpa using e), if_pos e]; rfl
      · rw [cond_pos e, if_neg e]
    · simp (disch := omega) only [ilt_e, n2i_e, xlen_e, cond_neg]
  · rw [cond_pos (by omega), decide_eq_false (fun e => hl (by rw [e]))]

theorem i_sameR (a b : Reg) (h : (a.2.length : Int) ≤ 1048576) (h' : (b.2.length : Int) ≤ 1048576) : F_i_SameRegister (a, b) = some (decide (a = b)) := by
  obtain ⟨w, l⟩ := a
  obtain ⟨w', l'⟩ := b
  unfold F_i_SameRegister
  simp only [ieq_e, i_sameN l l' h h', bind_s]
  by_cases e1 : w = w'
  · rw [cond_pos e1]; subst e1; simp
  · rw [cond_neg e1]; simp [e1]
theorem s_sameR (a b : Reg) (h : (a.2.length : Int) ≤ 1048576) (h' : (b.2.length : Int) ≤ 1048576) : F_s_l02Same (a, b) = some (decide (a = b)) := by
  obtain ⟨w, l⟩ := a
  obtain ⟨w', l'⟩ := b
  unfold F_s_l02Same
  simp only [ieq_e, s_sameN l l' h h', bind_s]
  by_cases e1 : w = w'
  · rw [cond_pos e1]; subst e1; simp
  · rw [cond_neg e1]; simp [e1]

/- lists of faults -/
abbrev Flt := Int × Int
def fOk (m : Int) (f : List Flt) (i : Nat) : Bool :=
  decide (1 ≤ (f.getD i (0, 0)).1 ∧ (f.getD i (0, 0)).1 ≤ 3) && (decide (0 ≤ (f.getD i (0, 0)).2 ∧ (f.getD i (0, 0)).2 ≤ m) && (decide (i = 0) || decide ((f.getD (i - 1) (0, 0)).2 < (f.getD i (0, 0)).2)))
def faultsB (w : Int) (f : List Flt) : Bool := decide (1 ≤ w ∧ w ≤ 16) && (List.range f.length).all (fOk (w - 1) f)

theorem faultsB_at {w : Int} {f : List Flt} (h : faultsB w f = true) {i : Nat} (hi : i < f.length) : 0 ≤ (f.getD i (0, 0)).2 ∧ (f.getD i (0, 0)).2 < w := by
  simp only [faultsB, Bool.and_eq_true, List.all_eq_true, List.mem_range] at h
  have := h.2 i hi
  simp only [fOk, Bool.and_eq_true, decide_eq_true_eq] at this
  omega

theorem isFault_e (w : Int) (p : Flt) : F_i_isFault (w, p) = some (decide (1 ≤ p.1 ∧ p.1 ≤ 3) && decide (0 ≤ p.2 ∧ p.2 ≤ IntKind.i64.wrap (w - 1))) := by
  unfold F_i_isFault
  simp only [between_e, bind_s, isub_e]
  by_cases h : 1 ≤ p.1 ∧ p.1 ≤ 3
  · rw [cond_pos h, decide_eq_true h, Bool.true_and]
  · rw [cond_neg h, decide_eq_false h, Bool.false_and]

theorem i_faults (w : Int) (f : List Flt) (hl : (f.length : Int) ≤ 9223372036854775806) : F_i_ValidFaults (w, f) = some (faultsB w f) := by
  unfold F_i_ValidFaults
  refine Eq.trans (iter_all2 (good := decide (1 ≤ w ∧ w ≤ 16)) (bad := false) (List.range f.length) (fOk (IntKind.i64.wrap (w - 1)) f) (fun i => (w, (f.length : Int), (i : Int), f)) rfl (fun i hi hp => ?_) (fun i hi hp => ?_) (fun _ => ?_)) ?_
  · rw [range_get] at hp
    rw [List.length_range] at hi
    simp only [fOk, Bool.and_eq_true, Bool.or_eq_true, decide_eq_true_eq] at hp
    obtain ⟨p1, p2, p3⟩ := hp
    simp (disch := omega) only [ilt_e, cond_pos, okIx_e, xlen_e, chk_pos, xget_e, i2n_e, isFault_e, bind_s]
    rw [decide_eq_true p1, decide_eq_true p2]
    simp only [Bool.and_self, bnot_t, cond_f, igt_e]
    by_cases h0 : i = 0
    · rw [cond_neg (by omega), iadd_e, w64 (by omega) (by omega)]; rfl
    · have e1 : i2n ((i : Int) - 1) = i - 1 := by unfold i2n; omega
      rw [cond_pos (by omega)]
      simp (disch := omega) only [isub_e, w64, okIx_e, chk_pos, e1, ile_e, cond_neg, iadd_e]
      rfl
  · rw [range_get] at hp
    rw [List.length_range] at hi
    simp (disch := omega) only [ilt_e, cond_pos, okIx_e, xlen_e, chk_pos, xget_e, i2n_e, isFault_e, bind_s]
    by_cases p1 : 1 ≤ (f.getD i (0, 0)).1 ∧ (f.getD i (0, 0)).1 ≤ 3
    · by_cases p2 : 0 ≤ (f.getD i (0, 0)).2 ∧ (f.getD i (0, 0)).2 ≤ IntKind.i64.wrap (w - 1)
      · rw [decide_eq_true p1, decide_eq_true p2]
        simp only [Bool.and_self, bnot_t, cond_f, igt_e]
        have e1 : 0 < i → i2n ((i : Int) - 1) = i - 1 := fun _ => by unfold i2n; omega
        simp only [fOk, decide_eq_true p1, decide_eq_true p2, Bool.true_and, Bool.or_eq_false_iff, decide_eq_false_iff_not] at hp
        obtain ⟨q1, q2⟩ := hp
        rw [cond_pos (by omega)]
        simp (disch := omega) only [isub_e, w64, okIx_e, chk_pos, e1 (by omega), ile_e, cond_pos]
      · rw [decide_eq_true p1, decide_eq_false p2]; rfl
    · rw [decide_eq_false p1]; rfl
  · rw [List.length_range]
    simp (disch := omega) only [ilt_e, cond_neg, isWidth_e, bind_s, map_s]
  · unfold faultsB
    by_cases hw : 1 ≤ w ∧ w ≤ 16
    · rw [w64 (by omega) (by omega), decide_eq_true hw, Bool.true_and]
      cases (List.range f.length).all (fOk (w - 1) f) <;> rfl
    · rw [decide_eq_false hw, Bool.false_and]
      cases (List.range f.length).all (fOk (IntKind.i64.wrap (w - 1)) f) <;> rfl

theorem s_faultsB (w : Int) (f : List Flt) (hl : (f.length : Int) ≤ 9223372036854775806) : F_s_l08Ok (w, f) = some (faultsB w f) := by
  unfold F_s_l08Ok
  simp only [size_e, bind_s, bnot_d]
  by_cases hw : 1 ≤ w ∧ w ≤ 16
  · rw [cond_neg (fun q => q hw)]
    refine Eq.trans (iter_all2 (good := true) (bad := false) (List.range f.length) (fOk (w - 1) f) (fun i => (w, (i : Int), f)) rfl (fun i hi hp => ?_) (fun i hi hp => ?_) (fun _ => ?_)) ?_
    · rw [range_get] at hp
      rw [List.length_range] at hi
      simp only [fOk, Bool.and_eq_true, Bool.or_eq_true, decide_eq_true_eq] at hp
      obtain ⟨p1, p2, p3⟩ := hp
      simp (disch := omega) only [ilt_e, n2i_e, cond_pos, okIx_e, xlen_e, chk_pos, xget_e, i2n_e, isub_e, w64, l00In_e, bind_s]
      rw [decide_eq_true p1, decide_eq_true p2]
      simp only [bnot_t, cond_f, igt_e]
      by_cases h0 : i = 0
      · rw [cond_neg (by omega)]
        try simp (disch := omega) only [iadd_e, w64]
        rfl
      · have e1 : i2n ((i : Int) - 1) = i - 1 := by unfold i2n; omega
        rw [cond_pos (by omega)]
        simp (disch := omega) only [isub_e, w64, okIx_e, chk_pos, e1, ile_e, cond_neg, iadd_e]
        rfl
    · rw [range_get] at hp
      rw [List.length_range] at hi
      simp (disch := omega) only [ilt_e, n2i_e, cond_pos, okIx_e, xlen_e, chk_pos, xget_e, i2n_e, isub_e, w64, l00In_e, bind_s]
      by_cases p1 : 1 ≤ (f.getD i (0, 0)).1 ∧ (f.getD i (0, 0)).1 ≤ 3
      · by_cases p2 : 0 ≤ (f.getD i (0, 0)).2 ∧ (f.getD i (0, 0)).2 ≤ w - 1
        · rw [decide_eq_true p1, decide_eq_true p2]
          simp only [bnot_t, cond_f, igt_e]
          have e1 : 0 < i → i2n ((i : Int) - 1) = i - 1 := fun _ => by unfold i2n; omega
          simp only [fOk, decide_eq_true p1, decide_eq_true p2, Bool.true_and, Bool.or_eq_false_iff, decide_eq_false_iff_not] at hp
          obtain ⟨q1, q2⟩ := hp
          rw [cond_pos (by omega)]
          simp (disch := omega) only [isub_e, w64, okIx_e, chk_pos, e1 (by omega), ile_e, cond_pos]
        · rw [decide_eq_true p1, decide_eq_false p2]; rfl
      · rw [decide_eq_false p1]; rfl
    · rw [List.length_range]
      simp (disch := omega) only [ilt_e, n2i_e, xlen_e, cond_neg]
    · unfold faultsB
      rw [decide_eq_true hw, Bool.true_and]
      cases (List.range f.length).all (fOk (w - 1) f) <;> rfl
  · rw [cond_pos hw]
    unfold faultsB
    rw [decide_eq_false hw, Bool.false_and]

/- the kind of a lever's fault -/
def kf (f : List Flt) : Nat → Int → Int
  | 0, _ => 0
  | i + 1, k => if (f.getD i (0, 0)).2 = k then (f.getD i (0, 0)).1 else kf f i k
def mputs (f : List Flt) : Nat → List (Int × Int)
  | 0 => []
  | i + 1 => mputR (mputs f i) (f.getD i (0, 0)).2 (f.getD i (0, 0)).1
def arrS (f : List Flt) (w : Nat) : Nat → List Int
  | 0 => List.replicate w 0
  | i + 1 => (arrS f w i).set (i2n (f.getD i (0, 0)).2) (f.getD i (0, 0)).1

theorem mget_e (l : List (Int × Int)) (a : Int) : mget l a = mgetR l a := rfl
theorem mput_e (l : List (Int × Int)) (a b : Int) : mput l a b = mputR l a b := rfl
theorem mget_mput (l : List (Int × Int)) (a b k : Int) : mgetR (mputR l a b) k = if a = k then b else mgetR l k := mget_mputR l a b k
theorem mget_mputs (f : List Flt) (k : Int) : ∀ i, mgetR (mputs f i) k = kf f i k
  | 0 => rfl
  | i + 1 => by
    unfold mputs kf
    rw [mget_mput, mget_mputs f k i]

theorem arrS_len (f : List Flt) (w : Nat) : ∀ i, (arrS f w i).length = w
  | 0 => by simp [arrS]
  | i + 1 => by unfold arrS; rw [List.length_set]; exact arrS_len f w i
theorem arrS_get {f : List Flt} {w : Nat} (h : faultsB w f = true) {k : Nat} (hk : k < w) : ∀ i, i ≤ f.length → (arrS f w i).getD k 0 = kf f i k
  | 0, _ => by
    unfold arrS kf
    simp [List.getD_eq_getElem?_getD, hk]
  | i + 1, hi => by
    have ih := arrS_get h hk i (by omega)
    obtain ⟨h1, h2⟩ := faultsB_at h (show i < f.length by omega)
    have hl := arrS_len f w i
    unfold arrS kf
    have e : ((i2n (f.getD i (0, 0)).2 : Nat) : Int) = (f.getD i (0, 0)).2 := by unfold i2n; omega
    rw [← ih]
    generalize f.getD i (0, 0) = v at h1 h2 e ⊢
    rw [List.getD_eq_getElem?_getD, List.getElem?_set, List.getD_eq_getElem?_getD]
    by_cases hq : v.2 = (k : Int)
    · rw [if_pos hq, if_pos (by omega), if_pos (by omega)]; rfl
    · rw [if_neg hq, if_neg (by omega)]

theorem s_kinds {f : List Flt} {w : Nat} (h : faultsB w f = true) (hl : (f.length : Int) ≤ 9223372036854775806) : F_s_l08Kinds ((w : Int), f) = some (arrS f w f.length) := by
  unfold F_s_l08Kinds
  have hw : w ≤ 16 := by
    simp only [faultsB, Bool.and_eq_true, decide_eq_true_eq] at h
    omega
  simp (disch := omega) only [ieq_e, okMake_e, chk_pos, decide_true, chk_t, i2n_e, xrep_e]
  refine iter_run (fun i => ((i : Int), f, arrS f w i)) f.length rfl (fun i hi => ?_) ?_
  · obtain ⟨h1, h2⟩ := faultsB_at h hi
    have hal := arrS_len f w i
    simp (disch := omega) only [ilt_e, n2i_e, xlen_e, cond_pos, okIx_e, chk_pos, xget_e, i2n_e, hal, iadd_e, w64, xset_e]
    rfl
  · simp (disch := omega) only [ilt_e, n2i_e, xlen_e, cond_neg]

/- sums with faults -/
def fcar (b : Int) (l m : List Int) (f : List Flt) : Nat → Int
  | 0 => 0
  | i + 1 => if kf f f.length i = 1 then 0 else if kf f f.length i = 2 then 1 else if kf f f.length i = 3 then (l.getD i 0 + m.getD i 0).tdiv b else (l.getD i 0 + m.getD i 0 + fcar b l m f i).tdiv b
def fsum (b : Int) (l m : List Int) (f : List Flt) (i : Nat) : List Int := (List.range i).map fun j => (l.getD j 0 + m.getD j 0 + fcar b l m f j).tmod b
theorem fsum_len (b : Int) (l m : List Int) (f : List Flt) (i : Nat) : (fsum b l m f i).length = i := by simp [fsum]
theorem fsum_succ (b : Int) (l m : List Int) (f : List Flt) (i : Nat) : fsum b l m f (i + 1) = fsum b l m f i ++ [(l.getD i 0 + m.getD i 0 + fcar b l m f i).tmod b] := by
  simp only [fsum]
  rw [List.range_succ, List.map_append]
  rfl

theorem td01 {b x : Int} (hb : 2 ≤ b) (h : 0 ≤ x) (h' : x ≤ 2 * b - 1) : x.tdiv b = if b ≤ x then 1 else 0 := by
  rw [Int.tdiv_eq_ediv_of_nonneg h]
  by_cases hx : b ≤ x
  · rw [if_pos hx]
    have h1 : x / b < 2 := Int.ediv_lt_of_lt_mul (by omega) (by omega)
    have h2 : 1 ≤ x / b := (Int.le_ediv_iff_mul_le (by omega)).2 (by omega)
    omega
  · rw [if_neg hx]
    exact Int.ediv_eq_zero_of_lt h (by omega)

theorem td_in {b x : Int} (hb : 2 ≤ b) (h : 0 ≤ x) (h' : x ≤ 2 * b - 1) : 0 ≤ x.tdiv b ∧ x.tdiv b ≤ 1 := by
  rw [td01 hb h h']
  split <;> omega

theorem fcar_in {b : Int} (hb : 2 ≤ b) {l m : List Int} (f : List Flt) (hl : digitsOk b l) (hm : digitsOk b m) (he : l.length = m.length) : ∀ i, i ≤ l.length → 0 ≤ fcar b l m f i ∧ fcar b l m f i ≤ 1
  | 0, _ => by simp [fcar]
  | i + 1, hi => by
    have ih := fcar_in hb f hl hm he i (by omega)
    have h1 := getD_all (p := fun d => 0 ≤ d ∧ d ≤ b - 1) hl (i := i) (by omega)
    have h2 := getD_all (p := fun d => 0 ≤ d ∧ d ≤ b - 1) hm (i := i) (by omega)
    have q1 := td_in (x := l.getD i 0 + m.getD i 0) hb (by omega) (by omega)
    have q2 := td_in (x := l.getD i 0 + m.getD i 0 + fcar b l m f i) hb (by omega) (by omega)
    unfold fcar
    split
    · omega
    · split
      · omega
      · split
        · exact q1
        · exact q2

theorem i_addedF (b b' : Int) (l m : List Int) (f : List Flt) (hb : 2 ≤ b ∧ b ≤ 16) (hl : digitsOk b l) (hm : digitsOk b m) (he : l.length = m.length) (hn : l.length ≤ 16) (hf : (f.length : Int) ≤ 9223372036854775806) :
    F_i_addedWith ((b, l), ((b', m), f)) = some ((b, fsum b l m f l.length), fcar b l m f l.length) := by
  unfold F_i_addedWith
  refine iter_run (fun i => ((f.length : Int), (i : Int), b, l, b', m, (0 : Int), ([] : List Int), mputs f i, f)) f.length rfl (fun i hi => ?_) ?_
  · simp (disch := omega) only [ilt_e, cond_pos, okIx_e, xlen_e, chk_pos, xget_e, i2n_e, iadd_e, w64, mput_e]
    rfl
  · simp (disch := omega) only [ilt_e, cond_neg]
    refine Eq.trans (congrArg (Option.map Sum.inr) (iter_run (r := ((b, fsum b l m f l.length), fcar b l m f l.length)) (fun i => (fcar b l m f i, (l.length : Int), (i : Int), b, l, b', m, (0 : Int), ([] : List Int), mputs f f.length, b, fsum b l m f i)) l.length (by simp [fsum, fcar, n2i, xlen]) (fun i hi => ?_) ?_)) rfl
    · have hc := fcar_in hb.1 f hl hm he i (by omega)
      have h1 := getD_all (p := fun d => 0 ≤ d ∧ d ≤ b - 1) hl (i := i) (by omega)
      have h2 := getD_all (p := fun d => 0 ≤ d ∧ d ≤ b - 1) hm (i := i) (by omega)
      have q1 := td_in (x := l.getD i 0 + m.getD i 0) hb.1 (by omega) (by omega)
      have q2 := td_in (x := l.getD i 0 + m.getD i 0 + fcar b l m f i) hb.1 (by omega) (by omega)
      have l2 := fsum_len b l m f i
      have hq : fcar b l m f (i + 1) = if kf f f.length i = 1 then 0 else if kf f f.length i = 2 then 1 else if kf f f.length i = 3 then (l.getD i 0 + m.getD i 0).tdiv b else (l.getD i 0 + m.getD i 0 + fcar b l m f i).tdiv b := rfl
      simp (disch := omega) only [ilt_e, cond_pos, okIx_e, xlen_e, l2, chk_pos, okDiv_e, okRoom_e, List.length_cons, List.length_nil, xget_e, i2n_e, iadd_e, w64, irem_e, iquo_e, xapp_e, fsum_succ, mget_e, mget_mputs, ieq_e]
      rw [hq]
      by_cases k1 : kf f f.length i = 1
      · rw [cond_pos k1, if_pos k1]; rfl
      · rw [cond_neg k1, if_neg k1]
        by_cases k2 : kf f f.length i = 2
        · rw [cond_pos k2, if_pos k2]; rfl
        · rw [cond_neg k2, if_neg k2]
          by_cases k3 : kf f f.length i = 3
          · rw [cond_pos k3, if_pos k3]; rfl
          · rw [cond_neg k3, if_neg k3]; rfl
    · simp (disch := omega) only [ilt_e, cond_neg]

theorem s_carryF {b t c k : Int} (hb : 2 ≤ b ∧ b ≤ 16) (ht : 0 ≤ t ∧ t ≤ 2 * b - 2) (hc : 0 ≤ c ∧ c ≤ 1) : F_s_l08Carry (b, (t, (c, k))) = some (if k = 1 then 0 else if k = 2 then 1 else if k = 3 then t.tdiv b else (t + c).tdiv b) := by
  unfold F_s_l08Carry
  rw [td01 hb.1 (by omega) (by omega), td01 hb.1 (by omega) (by omega)]
  simp (disch := omega) only [iadd_e, w64, ige_e, ieq_e, ilt_e]
  by_cases k1 : k = 1
  · subst k1; simp
  · by_cases k2 : k = 2
    · subst k2; simp
    · by_cases k3 : k = 3
      · subst k3
        by_cases h1 : t < b
        · have h2 : ¬ b ≤ t := by omega
          simp [h1, h2]
        · have h2 : b ≤ t := by omega
          have h3 : b ≤ t + c := by omega
          simp [h1, h2, h3]
      · simp only [cond_neg k1, cond_neg k2, cond_neg k3, if_neg k1, if_neg k2, if_neg k3]
        by_cases h1 : b ≤ t + c
        · rw [cond_pos h1, if_pos h1]
        · rw [cond_neg h1, if_neg h1]

theorem s_addedF (b b' : Int) (l m : List Int) (f : List Flt) (hb : 2 ≤ b ∧ b ≤ 16) (hl : digitsOk b l) (hm : digitsOk b m) (he : l.length = m.length) (hn : l.length ≤ 16) (hf : (f.length : Int) ≤ 9223372036854775806) (hF : faultsB l.length f = true) :
    F_s_l08Add ((b, l), ((b', m), f)) = some ((b, fsum b l m f l.length), fcar b l m f l.length) := by
  unfold F_s_l08Add
  simp only [n2i_e, xlen_e]
  rw [s_kinds hF hf]
  simp only [bind_s]
  refine iter_run (fun i => (fcar b l m f i, (i : Int), [(b, l)], [(b', m)], (0 : Int), ([] : List Int), arrS f l.length f.length, b, fsum b l m f i)) l.length (by simp [fsum, fcar]) (fun i hi => ?_) ?_
  · have hc := fcar_in hb.1 f hl hm he i (by omega)
    have h1 := getD_all (p := fun d => 0 ≤ d ∧ d ≤ b - 1) hl (i := i) (by omega)
    have h2 := getD_all (p := fun d => 0 ≤ d ∧ d ≤ b - 1) hm (i := i) (by omega)
    have l2 := fsum_len b l m f i
    have l3 := arrS_len f l.length f.length
    have hk := arrS_get hF hi f.length (by omega)
    have hcar := s_carryF (k := kf f f.length i) hb (t := l.getD i 0 + m.getD i 0) ⟨by omega, by omega⟩ hc
    simp (disch := omega) only [xget0, ilt_e, n2i_e, xlen_e, cond_pos, okIx_e, l2, l3, chk_pos, okDiv_e, okRoom_e, List.length_cons, List.length_nil, xget_e, i2n_e, iadd_e, w64, irem_e, xapp_e, fsum_succ, hk, hcar, bind_s]
    rfl
  · simp (disch := omega) only [xget0, ilt_e, n2i_e, xlen_e, cond_neg]

def awfR (a b : Reg) (f : List Flt) : Reg × Int × Int :=
  if pairC a b = 0 then cond (faultsB a.2.length f) (wholeR (a.1, fsum a.1 a.2 b.2 f a.2.length) (fcar a.1 a.2 b.2 f a.2.length)) (zeroR, 0, 8) else (zeroR, 0, pairC a b)

theorem awfR_len (a b : Reg) (f : List Flt) : ((awfR a b f).1.2.length : Int) ≤ 16 := by
  unfold awfR
  split
  · cases faultsB a.2.length f with
    | false => simp
    | true => exact wholeR_len _ _
  · simp

theorem i_awf (a b : Reg) (f : List Flt) (ha : (a.2.length : Int) ≤ 9223372036854775806) (hb : (b.2.length : Int) ≤ 9223372036854775806) (hf : (f.length : Int) ≤ 9223372036854775806) : F_i_AddWithFaults (a, (b, f)) = some (awfR a b f) := by
  unfold F_i_AddWithFaults F_i_Register_width
  simp only [i_pair a b ha hb, bind_s, ine_e, awfR]
  by_cases h : pairC a b = 0
  · obtain ⟨w, l, m, rfl, rfl, hw, hl, he, hdl, hdm⟩ := pair_parts h
    have l2 := fsum_len w l m f l.length
    rw [if_pos h, cond_neg (by omega)]
    simp only [n2i_e, xlen_e, i_faults _ f hf, bind_s]
    cases hF : faultsB (l.length : Int) f with
    | false => rfl
    | true =>
      simp (disch := omega) only [bnot_t, cond_f, cond_t, i_addedF w w l m f hw hdl hdm he hl.2 hf, bind_s, i_whole', l2]
  · rw [if_neg h, cond_pos h]

theorem s_awf (a b : Reg) (f : List Flt) (ha : (a.2.length : Int) ≤ 9223372036854775806) (hb : (b.2.length : Int) ≤ 9223372036854775806) (hf : (f.length : Int) ≤ 9223372036854775806) : F_s_AddWithFaults (a, (b, f)) = some (awfR a b f) := by
  unfold F_s_AddWithFaults
  simp only [s_pair a b ha hb, bind_s, ine_e, ieq_e, awfR]
  by_cases h : pairC a b = 0
  · obtain ⟨w, l, m, rfl, rfl, hw, hl, he, hdl, hdm⟩ := pair_parts h
    have l2 := fsum_len w l m f l.length
    rw [if_pos h, cond_pos h, cond_neg (p := ¬ pairC (w, l) (w, m) = 0) (by omega)]
    simp only [n2i_e, xlen_e, s_faultsB _ f hf, bind_s]
    cases hF : faultsB (l.length : Int) f with
    | false => rfl
    | true =>
      simp (disch := omega) only [bnot_t, cond_f, cond_t, s_addedF w w l m f hw hdl hdm he hl.2 hf hF, bind_s, s_validR', l2, wholeR]
      cases validR (w, fsum w l m f l.length) <;> rfl
  · rw [if_neg h, cond_neg h, cond_pos h]

theorem law_AddWithFaults (a : Reg) (b : Reg) (c : List (Int × Int)) (h0 : (a.2.length : Int) ≤ 9223372036854775807) (h1 : (b.2.length : Int) ≤ 9223372036854775807) (h2 : (c.length : Int) ≤ 9223372036854775807) : F_l_FnExactAddWithFaults (a, (b, c)) = some true := by
  have hb := awfR_len a b c
  unfold F_l_FnExactAddWithFaults
  obtain ⟨v0, e0, q0⟩ := sz_R a 1048576 h0 (by omega) (by omega)
  simp only [e0, bind_s, ilt_e]
  rcases q0 with rfl | ⟨q0, q0'⟩
  · rfl
  rw [cond_neg (by omega)]
  obtain ⟨v1, e1, q1⟩ := sz_R b v0 h1 (by omega) (by omega)
  simp only [e1, bind_s, ilt_e]
  rcases q1 with rfl | ⟨q1, q1'⟩
  · rfl
  rw [cond_neg (by omega)]
  obtain ⟨v2, e2, q2⟩ := sz_LeverFaultS c v1 h2 (by omega) (by omega)
  simp only [e2, bind_s, ilt_e]
  rcases q2 with rfl | ⟨q2, q2'⟩
  · rfl
  rw [cond_neg (by omega)]
  simp (disch := omega) only [bind_s, ilt_e, cond_neg, to_Register, to_Int64S, eq_Register, eq_Int64S, mark_Register, mark_Int64S, held_Register, held_Int64S, to_LeverFaultS, eq_LeverFaultS, mark_LeverFaultS, decide_true, bnot_t, cond_f, ine_e, not_true_eq_false, decide_false, bnev_s, cnt_len, s_awf, i_awf]

theorem FnExactAddWithFaults_true {t1 t4 : TypeId} (x : (Reg) × (Reg) × (List (Int × Int))) (h : wfArgs [.val true (.pair (.int .i64) (.row false t1 (.int .i64))), .val true (.pair (.int .i64) (.row false t1 (.int .i64))), .val false (.row false t4 (.pair (.int .i64) (.int .i64)))] x) : ∃ y, F_l_FnExactAddWithFaults x = some y ∧ hhead .bool [] y = true :=
  ⟨true, law_AddWithFaults (x.1) (x.2.1) (x.2.2) (maxLen_le (n := (x.1).2.length) h.1.2.1) (maxLen_le (n := (x.2.1).2.length) h.2.1.2.1) (maxLen_le (n := List.length (x.2.2)) h.2.2.1.1), rfl⟩


/- faults shown -/
def showsR (a b : Reg) (f : List Flt) : Bool :=
  decide (pairC a b = 0) && (faultsB a.2.length f && (validR (a.1, fsum a.1 a.2 b.2 f a.2.length) && (validR (a.1, sumL a.1 a.2 b.2 a.2.length) && (!decide ((a.1, fsum a.1 a.2 b.2 f a.2.length) = (a.1, sumL a.1 a.2 b.2 a.2.length)) || !decide (fcar a.1 a.2 b.2 f a.2.length = carr a.1 a.2 b.2 a.2.length)))))

theorem i_shows (a b : Reg) (f : List Flt) (ha : (a.2.length : Int) ≤ 9223372036854775806) (hb : (b.2.length : Int) ≤ 9223372036854775806) (hf : (f.length : Int) ≤ 9223372036854775806) : F_i_ShowsFaults (a, (b, f)) = some (showsR a b f) := by
  unfold F_i_ShowsFaults
  simp only [i_awf a b f ha hb hf, i_addRegisters a b ha hb, bind_s, ieq_e, ine_e]
  unfold awfR addR showsR
  by_cases h : pairC a b = 0
  · obtain ⟨w, l, m, rfl, rfl, hw, hl, he, hdl, hdm⟩ := pair_parts h
    have l2 := fsum_len w l m f l.length
    have l3 := sumL_len w l m l.length
    simp only [if_pos h, decide_eq_true h, Bool.true_and]
    cases hF : faultsB (l.length : Int) f with
    | false => rfl
    | true =>
      simp only [cond_t, Bool.true_and, wholeR]
      rcases Bool.eq_false_or_eq_true (validR (w, fsum w l m f l.length)) with hx | hx
      · rcases Bool.eq_false_or_eq_true (validR (w, sumL w l m l.length)) with hy | hy
        · simp only [hx, hy, cond_t, Bool.true_and, decide_true]
          rw [i_sameR _ _ (by simp only [l2]; omega) (by simp only [l3]; omega)]
          simp only [bind_s]
          by_cases hq : (w, fsum w l m f l.length) = (w, sumL w l m l.length)
          · rw [decide_eq_true hq]; simp
          · rw [decide_eq_false hq]; rfl
        · simp [hx, hy]
      · simp [hx]
  · simp only [if_neg h, decide_eq_false h, Bool.false_and, cond_f]

theorem s_shows (a b : Reg) (f : List Flt) (ha : (a.2.length : Int) ≤ 9223372036854775806) (hb : (b.2.length : Int) ≤ 9223372036854775806) (hf : (f.length : Int) ≤ 9223372036854775806) : F_s_ShowsFaults (a, (b, f)) = some (showsR a b f) := by
  unfold F_s_ShowsFaults F_s_l08Shows
  simp only [s_pair a b ha hb, bind_s, ine_e]
  unfold showsR
  by_cases h : pairC a b = 0
  · obtain ⟨w, l, m, rfl, rfl, hw, hl, he, hdl, hdm⟩ := pair_parts h
    have l2 := fsum_len w l m f l.length
    have l3 := sumL_len w l m l.length
    simp only [decide_eq_true h, Bool.true_and]
    rw [cond_neg (by omega)]
    simp only [n2i_e, xlen_e, s_faultsB _ f hf, bind_s]
    cases hF : faultsB (l.length : Int) f with
    | false => rfl
    | true =>
      simp (disch := omega) only [bnot_t, cond_f, Bool.true_and, s_addedF w w l m f hw hdl hdm he hl.2 hf hF, s_add02 w l m hw hdl hdm he hl.2, bind_s, s_validR', l2, l3]
      rw [s_sameR _ _ (by simp only [l2]; omega) (by simp only [l3]; omega)]
      simp only [bind_s]
      by_cases hq : (w, fsum w l m f l.length) = (w, sumL w l m l.length)
      · rw [decide_eq_true hq]
        by_cases hc : fcar w l m f l.length = carr w l m l.length
        · rw [decide_eq_true hc, decide_eq_false (p := ¬ fcar w l m f l.length = carr w l m l.length) (fun q => q hc)]
          cases validR (w, fsum w l m f l.length) <;> cases validR (w, sumL w l m l.length) <;> rfl
        · rw [decide_eq_false hc, decide_eq_true (p := ¬ fcar w l m f l.length = carr w l m l.length) hc]
          cases validR (w, fsum w l m f l.length) <;> cases validR (w, sumL w l m l.length) <;> rfl
      · rw [decide_eq_false hq]
        cases validR (w, fsum w l m f l.length) <;> cases validR (w, sumL w l m l.length) <;> rfl
  · simp only [decide_eq_false h, Bool.false_and]
    rw [cond_pos h]

theorem law_ShowsFaults (a : Reg) (b : Reg) (c : List (Int × Int)) (h0 : (a.2.length : Int) ≤ 9223372036854775807) (h1 : (b.2.length : Int) ≤ 9223372036854775807) (h2 : (c.length : Int) ≤ 9223372036854775807) : F_l_FnExactShowsFaults (a, (b, c)) = some true := by
  unfold F_l_FnExactShowsFaults
  obtain ⟨v0, e0, q0⟩ := sz_R a 1048576 h0 (by omega) (by omega)
  simp only [e0, bind_s, ilt_e]
  rcases q0 with rfl | ⟨q0, q0'⟩
  · rfl
  rw [cond_neg (by omega)]
  obtain ⟨v1, e1, q1⟩ := sz_R b v0 h1 (by omega) (by omega)
  simp only [e1, bind_s, ilt_e]
  rcases q1 with rfl | ⟨q1, q1'⟩
  · rfl
  rw [cond_neg (by omega)]
  obtain ⟨v2, e2, q2⟩ := sz_LeverFaultS c v1 h2 (by omega) (by omega)
  simp only [e2, bind_s, ilt_e]
  rcases q2 with rfl | ⟨q2, q2'⟩
  · rfl
  rw [cond_neg (by omega)]
  simp (disch := omega) only [bind_s, ilt_e, cond_neg, to_Register, to_Int64S, eq_Register, eq_Int64S, mark_Register, mark_Int64S, held_Register, held_Int64S, to_LeverFaultS, eq_LeverFaultS, decide_true, bnot_t, cond_f, ine_e, not_true_eq_false, decide_false, bnev_s, cnt_len, s_shows, i_shows]

theorem FnExactShowsFaults_true {t1 t4 : TypeId} (x : (Reg) × (Reg) × (List (Int × Int))) (h : wfArgs [.val true (.pair (.int .i64) (.row false t1 (.int .i64))), .val true (.pair (.int .i64) (.row false t1 (.int .i64))), .val false (.row false t4 (.pair (.int .i64) (.int .i64)))] x) : ∃ y, F_l_FnExactShowsFaults x = some y ∧ hhead .bool [] y = true :=
  ⟨true, law_ShowsFaults (x.1) (x.2.1) (x.2.2) (maxLen_le (n := (x.1).2.length) h.1.2.1) (maxLen_le (n := (x.2.1).2.length) h.2.1.2.1) (maxLen_le (n := List.length (x.2.2)) h.2.2.1.1), rfl⟩


end Go.Prg
