/- Plain laws, part U: strokes of machines. Conditions: none. -/
import Derived.Test.YtjkaapoklbhokaaPlQ
set_option linter.all false
namespace Go.Prg
open Go.Eng

theorem machine_parts2 {m : Mach} (h : validM m = true) : ∃ (w : Int) (la lb lc : List Int) (p : Int), m = ((w, la), (w, lb), (w, lc), p) ∧ (2 ≤ w ∧ w ≤ 16) ∧ (1 ≤ la.length ∧ la.length ≤ 16) ∧ (1 ≤ lb.length ∧ lb.length ≤ 16) ∧ (1 ≤ lc.length ∧ lc.length ≤ 16) ∧
    digitsOk w la ∧ digitsOk w lb ∧ digitsOk w lc ∧ fullB w lb.length = true ∧ fullB w lc.length = true ∧ la.length ≤ lb.length ∧ (0 ≤ p ∧ p ≤ imin ((lb.length : Int) - la.length + 1) lc.length - 1) ∧ valL w la ≤ 1000000000000 ∧ valL w lb ≤ 1000000000000 ∧ valL w lc ≤ 1000000000000 := by
  obtain ⟨h1, h2, h3, h4, h5, h6, h7, h8, h9⟩ := validM_all h
  obtain ⟨a1, a2, a3, a4⟩ := validR_all h1
  obtain ⟨_, b2, b3, b4⟩ := validR_all h2
  obtain ⟨_, c2, c3, c4⟩ := validR_all h3
  obtain ⟨⟨w, la⟩, ⟨w2, lb⟩, ⟨w3, lc⟩, p⟩ := m
  simp only at h4 h5
  subst h4; subst h5
  exact ⟨w, la, lb, lc, p, rfl, a1, a2, b2, c2, a3, b3, c3, h6, h7, h8, h9, a4, b4, c4⟩

theorem validM_of {w : Int} {la lb lc : List Int} {p : Int} (ha : validR (w, la) = true) (hb : validR (w, lb) = true) (hc : validR (w, lc) = true) (f1 : fullB w lb.length = true) (f2 : fullB w lc.length = true) (hl : la.length ≤ lb.length)
    (hp : 0 ≤ p ∧ p ≤ imin ((lb.length : Int) - la.length + 1) lc.length - 1) : validM ((w, la), (w, lb), (w, lc), p) = true := by
  simp only [validM, Bool.and_eq_true, decide_eq_true_eq]
  exact ⟨ha, hb, hc, trivial, trivial, f1, f2, hl, hp⟩

/-- digits after a number has been added, and whether they go round -/
def mvL (w : Int) (l : List Int) (x : Int) : List Int := digL w (modN (w ^ l.length) (valL w l + x)) l.length
def mvB (w : Int) (l : List Int) (x : Int) : Bool := !decide (0 ≤ valL w l + x ∧ valL w l + x ≤ w ^ l.length - 1)

theorem mvL_len (w : Int) (l : List Int) (x : Int) : (mvL w l x).length = l.length := digL_len _ _ _

theorem mvL_valid {w : Int} {l : List Int} (x : Int) (hw : 2 ≤ w ∧ w ≤ 16) (hl : 1 ≤ l.length ∧ l.length ≤ 16) (hf : fullB w l.length = true) : validR (w, mvL w l x) = true := by
  have hN := fullB_le hf
  have hN1 := pow_nonneg' hw.1 l.length
  have h2 := modN_in (N := w ^ l.length) (valL w l + x) (by omega)
  exact validR_dig hw hl h2.1 (by omega)

theorem i_withValue (w : Int) (l : List Int) (v : Int) (hw : 2 ≤ w ∧ w ≤ 16) (hl : l.length ≤ 16) (hv : 0 ≤ v) (hv' : v ≤ 9223372036854775807) : F_i_Register_withValue ((w, l), v) = some (w, digL w v l.length) := by
  unfold F_i_Register_withValue F_i_Register_width
  simp only [bind_s, n2i_e, xlen_e, i_registerOf w l.length v hw hl hv hv']

theorem i_shifted (w : Int) (l : List Int) (x : Int) (hw : 2 ≤ w ∧ w ≤ 16) (hl : 1 ≤ l.length ∧ l.length ≤ 16) (hd : digitsOk w l) (hv : valL w l ≤ 1000000000000) (hf : fullB w l.length = true) (h1 : -1000000000001 ≤ x) (h2 : x ≤ 1000000000001) :
    F_i_Register_shifted ((w, l), x) = some ((w, mvL w l x), mvB w l x) := by
  have hN := fullB_le hf
  have hN1 := pow_nonneg' hw.1 l.length
  have h0 := valL_nonneg (b := w) (by omega) hd
  have hcap : cap (valL w l) = valL w l := by unfold cap; rw [if_pos hv]
  have q1 := tmod_in (N := w ^ l.length) (x := valL w l + x) (by omega)
  have q2 := modN_in (N := w ^ l.length) (valL w l + x) (by omega)
  have hr := i_withValue w l (modN (w ^ l.length) (valL w l + x)) hw hl.2 q2.1 (by omega)
  unfold modN at hr q2
  unfold F_i_Register_shifted F_i_Register_values F_i_Register_width
  simp (disch := omega) only [bind_s, n2i_e, xlen_e, i_power w l.length hw.1 hw.2, powC_full hf, i_value w l hw.1 hw.2 hd, hcap, okDiv_e, chk_pos, iadd_e, w64, irem_e, hr, ilt_e, ige_e]
  unfold mvB
  by_cases hs : valL w l + x < 0
  · rw [cond_pos hs]
    have e : decide (0 ≤ valL w l + x ∧ valL w l + x ≤ w ^ l.length - 1) = false := decide_eq_false (by omega)
    rw [e]; rfl
  · rw [cond_neg hs]
    by_cases hs2 : w ^ l.length ≤ valL w l + x
    · have e : decide (0 ≤ valL w l + x ∧ valL w l + x ≤ w ^ l.length - 1) = false := decide_eq_false (by omega)
      rw [e, decide_eq_true hs2]; rfl
    · have e : decide (0 ≤ valL w l + x ∧ valL w l + x ≤ w ^ l.length - 1) = true := decide_eq_true (by omega)
      rw [e, decide_eq_false hs2]; rfl

theorem s_move (w : Int) (l : List Int) (x : Int) (hw : 2 ≤ w ∧ w ≤ 16) (hl : 1 ≤ l.length ∧ l.length ≤ 16) (hd : digitsOk w l) (hv : valL w l ≤ 1000000000000) (hf : fullB w l.length = true) (h1 : -1000000000001 ≤ x) (h2 : x ≤ 1000000000001) :
    F_s_l10Move ((w, l), x) = some ((w, mvL w l x), mvB w l x) := by
  have hN := fullB_le hf
  have hN1 := pow_nonneg' hw.1 l.length
  have h0 := valL_nonneg (b := w) (by omega) hd
  have hcap : cap (valL w l) = valL w l := by unfold cap; rw [if_pos hv]
  have q1 := tmod_in (N := w ^ l.length) (x := valL w l + x) (by omega)
  have q2 := modN_in (N := w ^ l.length) (valL w l + x) (by omega)
  have hr := s_new w l.length (modN (w ^ l.length) (valL w l + x)) hw hl.2 q2.1 (by omega)
  have hp := s_power w l.length hw.1 hw.2 (by omega)
  rw [cap2_le hN] at hp
  unfold modN at hr q2
  unfold F_s_l10Move
  simp (disch := omega) only [bind_s, n2i_e, xlen_e, hp, s_value w l hw.1 hw.2 hd, hcap, okDiv_e, chk_pos, iadd_e, w64, irem_e, hr, isub_e, l00In_e]
  rfl

theorem dig_zero (b : Int) (n : Nat) : digL b 0 n = List.replicate n 0 := by
  have hr : ∀ i, restI b 0 i = 0 := by
    intro i
    induction i with
    | zero => rfl
    | succ i ih => simp [restI, ih]
  apply List.ext_getElem?
  intro i
  simp only [digL, hr, List.getElem?_map, List.getElem?_replicate]
  by_cases h : i < n
  · simp [h]
  · simp [h]

/-- a stroke -/
def strokeM (w : Int) (la lb lc : List Int) (p k : Int) : Mach × Bool :=
  if k = 1 then (((w, la), (w, mvL w lb (valL w la * w ^ p.toNat)), (w, mvL w lc (w ^ p.toNat)), p), mvB w lb (valL w la * w ^ p.toNat))
  else if k = 2 then (((w, la), (w, mvL w lb (-(valL w la * w ^ p.toNat))), (w, mvL w lc (-(w ^ p.toNat))), p), mvB w lb (-(valL w la * w ^ p.toNat)))
  else if k = 3 then if p + 1 = imin ((lb.length : Int) - la.length + 1) lc.length then (((w, la), (w, lb), (w, lc), p), true) else (((w, la), (w, lb), (w, lc), p + 1), false)
  else if k = 4 then if p = 0 then (((w, la), (w, lb), (w, lc), p), true) else (((w, la), (w, lb), (w, lc), p - 1), false)
  else if k = 5 then (((w, la), (w, digL w 0 lb.length), (w, digL w 0 lc.length), p), false)
  else (((w, digL w 0 la.length), (w, lb), (w, lc), p), false)

theorem imin_le (a b : Int) : imin a b ≤ a ∧ imin a b ≤ b := by
  unfold imin; split <;> omega

/-- bounds of what a stroke adds -/
theorem stroke_bounds {w : Int} {la lb lc : List Int} {p : Int} (hw : 2 ≤ w ∧ w ≤ 16) (hda : digitsOk w la) (hfb : fullB w lb.length = true) (hfc : fullB w lc.length = true) (hl : la.length ≤ lb.length) (hp : 0 ≤ p ∧ p ≤ imin ((lb.length : Int) - la.length + 1) lc.length - 1) :
    fullB w p.toNat = true ∧ (1 ≤ w ^ p.toNat ∧ w ^ p.toNat ≤ 1000000000001) ∧ (0 ≤ valL w la * w ^ p.toNat ∧ valL w la * w ^ p.toNat ≤ 1000000000001) ∧ p.toNat ≤ 16 + lc.length := by
  have hm := imin_le ((lb.length : Int) - la.length + 1) lc.length
  have hfp : fullB w p.toNat = true := full_mono hw.1 (by omega) hfc
  have h1 := pow_nonneg' hw.1 p.toNat
  have h2 := fullB_le hfp
  have h3 := valL_nonneg (b := w) (by omega) hda
  have h4 := valL_lt hw.1 hda
  have h5 := Int.mul_nonneg h3 (show 0 ≤ w ^ p.toNat by omega)
  have h6 : valL w la * w ^ p.toNat ≤ w ^ la.length * w ^ p.toNat := Int.mul_le_mul_of_nonneg_right (by omega) (by omega)
  rw [← Int.pow_add] at h6
  have h7 := (pow_le hw.1 (i := la.length + p.toNat) (k := lb.length) (by omega)).2
  have h8 := fullB_le hfb
  exact ⟨hfp, ⟨h1, h2⟩, ⟨h5, by omega⟩, by omega⟩

theorem i_stroke (w : Int) (la lb lc : List Int) (p k : Int) (h : validM ((w, la), (w, lb), (w, lc), p) = true) (hk : 1 ≤ k ∧ k ≤ 6) : F_i_Machine_stroke (((w, la), ((w, lb), ((w, lc), p))), k) = some (strokeM w la lb lc p k) := by
  obtain ⟨w', la', lb', lc', p', e, hw, hla, hlb, hlc, hda, hdb, hdc, hfb, hfc, hl, hp, hva, hvb, hvc⟩ := machine_parts2 h
  simp only [Prod.mk.injEq] at e
  obtain ⟨⟨rfl, rfl⟩, ⟨_, rfl⟩, ⟨_, rfl⟩, rfl⟩ := e
  obtain ⟨b1, b2, b3, b4⟩ := stroke_bounds hw hda hfb hfc hl hp
  have hcap : cap (valL w la) = valL w la := by unfold cap; rw [if_pos hva]
  have hm := imin_le ((lb.length : Int) - la.length + 1) lc.length
  have hpw := i_power w p.toNat hw.1 hw.2 (by omega)
  rw [Int.toNat_of_nonneg hp.1, powC_full b1] at hpw
  have hcp := cpM (w, la) (w, lb) (w, lc) p (by simp only; omega) (by simp only; omega) (by simp only; omega)
  have hpl := i_places (w, la) (w, lb) (w, lc) p hla.2 hlb.2 hlc.2
  have hval := i_value w la hw.1 hw.2 hda (by omega)
  rw [hcap] at hval
  have hva0 := valL_nonneg (b := w) (by omega) hda
  unfold F_i_Machine_stroke strokeM
  simp only [hcp, bind_s, hpw, ieq_e]
  by_cases k1 : k = 1
  · have q1 := i_shifted w lb (valL w la * w ^ p.toNat) hw hlb hdb hvb hfb (by omega) (by omega)
    have q2 := i_shifted w lc (w ^ p.toNat) hw hlc hdc hvc hfc (by omega) (by omega)
    rw [cond_pos k1, if_pos k1]
    simp (disch := omega) only [hval, bind_s, imul_e, w64, q1, q2]
  rw [cond_neg k1, if_neg k1]
  by_cases k2 : k = 2
  · have q1 := i_shifted w lb (-(valL w la * w ^ p.toNat)) hw hlb hdb hvb hfb (by omega) (by omega)
    have q2 := i_shifted w lc (-(w ^ p.toNat)) hw hlc hdc hvc hfc (by omega) (by omega)
    have e1 : (0 - valL w la) * w ^ p.toNat = -(valL w la * w ^ p.toNat) := by rw [Int.zero_sub, Int.neg_mul]
    have e2 : (0 : Int) - w ^ p.toNat = -(w ^ p.toNat) := Int.zero_sub _
    rw [cond_pos k2, if_pos k2]
    simp (disch := omega) only [hval, bind_s, isub_e, imul_e, w64, e1, e2, q1, q2]
  rw [cond_neg k2, if_neg k2]
  by_cases k3 : k = 3
  · rw [cond_pos k3, if_pos k3]
    simp (disch := omega) only [hpl, bind_s, iadd_e, w64, bnot_d]
    show cond (decide ¬ p + 1 = imin ((lb.length : Int) - la.length + 1) lc.length) (some (((w, la), (w, lb), (w, lc), p + 1), decide (p + 1 = imin ((lb.length : Int) - la.length + 1) lc.length))) (some (((w, la), (w, lb), (w, lc), p), decide (p + 1 = imin ((lb.length : Int) - la.length + 1) lc.length))) = _
    by_cases hc : p + 1 = imin ((lb.length : Int) - la.length + 1) lc.length
    · rw [cond_neg (by simpa using hc), if_pos hc, decide_eq_true hc]
    · rw [cond_pos hc, if_neg hc, decide_eq_false hc]
  rw [cond_neg k3, if_neg k3]
  by_cases k4 : k = 4
  · rw [cond_pos k4, if_pos k4]
    simp (disch := omega) only [isub_e, w64, bnot_d]
    by_cases hc : p = 0
    · rw [cond_neg (by simpa using hc), if_pos hc, decide_eq_true hc]
    · rw [cond_pos hc, if_neg hc, decide_eq_false hc]
  rw [cond_neg k4, if_neg k4]
  by_cases k5 : k = 5
  · rw [cond_pos k5, if_pos k5]
    simp (disch := omega) only [i_withValue w lb 0 hw hlb.2, i_withValue w lc 0 hw hlc.2, bind_s]
  rw [cond_neg k5, if_neg k5, cond_pos (by omega)]
  simp (disch := omega) only [i_withValue w la 0 hw hla.2, bind_s]

theorem stroke_valid (w : Int) (la lb lc : List Int) (p k : Int) (h : validM ((w, la), (w, lb), (w, lc), p) = true) (hk : 1 ≤ k ∧ k ≤ 6) : validM (strokeM w la lb lc p k).1 = true := by
  obtain ⟨v1, v2, v3, _⟩ := validM_all h
  simp only at v1 v2 v3
  obtain ⟨w', la', lb', lc', p', e, hw, hla, hlb, hlc, hda, hdb, hdc, hfb, hfc, hl, hp, hva, hvb, hvc⟩ := machine_parts2 h
  simp only [Prod.mk.injEq] at e
  obtain ⟨⟨rfl, rfl⟩, ⟨_, rfl⟩, ⟨_, rfl⟩, rfl⟩ := e
  unfold strokeM
  split
  · exact validM_of v1 (mvL_valid _ hw hlb hfb) (mvL_valid _ hw hlc hfc) (by rw [mvL_len]; exact hfb) (by rw [mvL_len]; exact hfc) (by rw [mvL_len]; exact hl) (by rw [mvL_len, mvL_len]; exact hp)
  split
  · exact validM_of v1 (mvL_valid _ hw hlb hfb) (mvL_valid _ hw hlc hfc) (by rw [mvL_len]; exact hfb) (by rw [mvL_len]; exact hfc) (by rw [mvL_len]; exact hl) (by rw [mvL_len, mvL_len]; exact hp)
  split
  · split
    · exact h
    · exact validM_of v1 v2 v3 hfb hfc hl (by omega)
  split
  · split
    · exact h
    · exact validM_of v1 v2 v3 hfb hfc hl (by omega)
  split
  · exact validM_of v1 (validR_dig hw hlb (by omega) (by omega)) (validR_dig hw hlc (by omega) (by omega)) (by rw [digL_len]; exact hfb) (by rw [digL_len]; exact hfc) (by rw [digL_len]; exact hl) (by rw [digL_len, digL_len]; exact hp)
  · exact validM_of (validR_dig hw hla (by omega) (by omega)) v2 v3 hfb hfc (by rw [digL_len]; exact hl) (by rw [digL_len]; exact hp)

end Go.Prg
