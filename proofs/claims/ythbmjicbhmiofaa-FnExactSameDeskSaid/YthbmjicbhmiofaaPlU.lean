/- Plain laws, part U: strokes of machines. Conditions: none. -/
import Derived.Test.YthbmjicbhmiofaaPlQ
set_option linter.all false
namespace Go.Prg
open Go.Eng

theorem machine_parts2 {m : Mach} (h : validM m = true) : ∃ (w : Int) (la lb lc : List Int) (p : Int), m = ((w, la), (w, lb), (w, lc), p) ∧ (2 ≤ w ∧ w ≤ 16) ∧ (1 ≤ la.length ∧ la.length ≤ 16) ∧ (1 ≤ lb.length ∧ lb.length ≤ 16) ∧ (1 ≤ lc.length ∧ lc.length ≤ 16) ∧
    digitsOk w la ∧ digitsOk w lb ∧ digitsOk w lc ∧ fullB w lb.length = true ∧ fullB w lc.length = true ∧ la.length ≤ lb.length ∧ (0 ≤ p ∧ p ≤ imin ((lb.length : Int) - la.length + 1) lc.length - 1) ∧ valL w la ≤ 1000000000000 ∧ valL w lb ≤ 1000000000000 ∧ valL w lc ≤ 1000000000000 := by
  obtain ⟨h1, h2, h3, h4, h5, h6, h7, h8, h9⟩ := validM_all h
  obtain ⟨a1, a2, a3, a4⟩ := validR_all h1
  obtain ⟨_, b2, b3, b4⟩ := validR_all h2
  obtain ⟨_, c2, c3, c4⟩ := validR_all h3
  obtain ⟨⟨w, la⟩, ⟨w2, lb⟩, ⟨w3, lc⟩, p⟩ := m
  simp only at h4 h5
  subst h4; subst h5
  exact ⟨w, la, lb, lc, p, rfl, a1, a2, b2, c2, a3, b3, c3, h6, h7, h8, h9, a4, b4, c4⟩

theorem validM_of {w : Int} {la lb lc : List Int} {p : Int} (ha : validR (w, la) = true) (hb : validR (w, lb) = true) (hc : validR (w, lc) = true) (f1 : fullB w lb.length = true) (f2 : fullB w lc.length = true) (hl : la.length ≤ lb.length)
    (hp : 0 ≤ p ∧ p ≤ imin ((lb.length : Int) - la.length + 1) lc.length - 1) : validM ((w, la), (w, lb), (w, lc), p) = true := by
  simp only [validM, Bool.and_eq_true, decide_eq_true_eq]
  exact ⟨ha, hb, hc, trivial, trivial, f1, f2, hl, hp⟩

/-- digits after a number has been added, and whether they go round -/
def mvL (w : Int) (l : List Int) (x : Int) : List Int := digL w (modN (w ^ l.length) (valL w l + x)) l.length
def mvB (w : Int) (l : List Int) (x : Int) : Bool := !decide (0 ≤ valL w l + x ∧ valL w l + x ≤ w ^ l.length - 1)

theorem mvL_len (w : Int) (l : List Int) (x : Int) : (mvL w l x).length = l.length := digL_len _ _ _

theorem mvL_valid {w : Int} {l : List Int} (x : Int) (hw : 2 ≤ w ∧ w ≤ 16) (hl : 1 ≤ l.length ∧ l.length ≤ 16) (hf : fullB w l.length = true) : validR (w, mvL w l x) = true := by
  have hN := fullB_le hf
  have hN1 := pow_nonneg' hw.1 l.length
  have h2 := modN_in (N := w ^ l.length) (valL w l + x) (by omega)
  exact validR_dig hw hl h2.1 (by omega)

theorem i_withValue (w : Int) (l : List Int) (v : Int) (hw : 2 ≤ w ∧ w ≤ 16) (hl : l.length ≤ 16) (hv : 0 ≤ v) (hv' : v ≤ 9223372036854775807) : F_i_Register_withValue ((w, l), v) = some (w, digL w v l.length) := by
  unfold F_i_Register_withValue F_i_Register_width
  simp only [bind_s, n2i_e, xlen_e, i_registerOf w l.length v hw hl hv hv']

theorem dig_zero (b : Int) (n : Nat) : digL b 0 n = List.replicate n 0 := by
  have hr : ∀ i, restI b 0 i = 0 := by
    intro i
    induction i with
    | zero => rfl
    | succ i ih => simp [restI, ih]
  apply List.ext_getElem?
  intro i
  simp only [digL, hr, List.getElem?_map, List.getElem?_replicate]
  by_cases h : i < n
  · simp [h]
  · simp [h]

/-- a stroke -/
def strokeM (w : Int) (la lb lc : List Int) (p k : Int) : Mach × Bool :=
  if k = 1 then (((w, la), (w, mvL w lb (valL w la * w ^ p.toNat)), (w, mvL w lc (w ^ p.toNat)), p), mvB w lb (valL w la * w ^ p.toNat))
  else if k = 2 then (((w, la), (w, mvL w lb (-(valL w la * w ^ p.toNat))), (w, mvL w lc (-(w ^ p.toNat))), p), mvB w lb (-(valL w la * w ^ p.toNat)))
  else if k = 3 then if p + 1 = imin ((lb.length : Int) - la.length + 1) lc.length then (((w, la), (w, lb), (w, lc), p), true) else (((w, la), (w, lb), (w, lc), p + 1), false)
  else if k = 4 then if p = 0 then (((w, la), (w, lb), (w, lc), p), true) else (((w, la), (w, lb), (w, lc), p - 1), false)
  else if k = 5 then (((w, la), (w, digL w 0 lb.length), (w, digL w 0 lc.length), p), false)
  else (((w, digL w 0 la.length), (w, lb), (w, lc), p), false)

theorem imin_le (a b : Int) : imin a b ≤ a ∧ imin a b ≤ b := by
  unfold imin; split <;> omega

/-- bounds of what a stroke adds -/
theorem stroke_bounds {w : Int} {la lb lc : List Int} {p : Int} (hw : 2 ≤ w ∧ w ≤ 16) (hda : digitsOk w la) (hfb : fullB w lb.length = true) (hfc : fullB w lc.length = true) (hl : la.length ≤ lb.length) (hp : 0 ≤ p ∧ p ≤ imin ((lb.length : Int) - la.length + 1) lc.length - 1) :
    fullB w p.toNat = true ∧ (1 ≤ w ^ p.toNat ∧ w ^ p.toNat ≤ 1000000000001) ∧ (0 ≤ valL w la * w ^ p.toNat ∧ valL w la * w ^ p.toNat ≤ 1000000000001) ∧ p.toNat ≤ 16 + lc.length := by
  have hm := imin_le ((lb.length : Int) - la.length + 1) lc.length
  have hfp : fullB w p.toNat = true := full_mono hw.1 (by omega) hfc
  have h1 := pow_nonneg' hw.1 p.toNat
  have h2 := fullB_le hfp
  have h3 := valL_nonneg (b := w) (by omega) hda
  have h4 := valL_lt hw.1 hda
  have h5 := Int.mul_nonneg h3 (show 0 ≤ w ^ p.toNat by omega)
  have h6 : valL w la * w ^ p.toNat ≤ w ^ la.length * w ^ p.toNat := Int.mul_le_mul_of_nonneg_right (by omega) (by omega)
  rw [← Int.pow_add] at h6
  have h7 := (pow_le hw.1 (i := la.length + p.toNat) (k := lb.length) (by omega)).2
  have h8 := fullB_le hfb
  exact ⟨hfp, ⟨h1, h2⟩, ⟨h5, by omega⟩, by omega⟩

theorem stroke_valid (w : Int) (la lb lc : List Int) (p k : Int) (h : validM ((w, la), (w, lb), (w, lc), p) = true) (hk : 1 ≤ k ∧ k ≤ 6) : validM (strokeM w la lb lc p k).1 = true := by
  obtain ⟨v1, v2, v3, _⟩ := validM_all h
  simp only at v1 v2 v3
  obtain ⟨w', la', lb', lc', p', e, hw, hla, hlb, hlc, hda, hdb, hdc, hfb, hfc, hl, hp, hva, hvb, hvc⟩ := machine_parts2 h
  simp only [Prod.mk.injEq] at e
  obtain ⟨⟨rfl, rfl⟩, ⟨_, rfl⟩, ⟨_, rfl⟩, rfl⟩ := e
  unfold strokeM
  split
  · exact validM_of v1 (mvL_valid _ hw hlb hfb) (mvL_valid _ hw hlc hfc) (by rw [mvL_len]; exact hfb) (by rw [mvL_len]; exact hfc) (by rw [mvL_len]; exact hl) (by rw [mvL_len, mvL_len]; exact hp)
  split
  · exact validM_of v1 (mvL_valid _ hw hlb hfb) (mvL_valid _ hw hlc hfc) (by rw [mvL_len]; exact hfb) (by rw [mvL_len]; exact hfc) (by rw [mvL_len]; exact hl) (by rw [mvL_len, mvL_len]; exact hp)
  split
  · split
    · exact h
    · exact validM_of v1 v2 v3 hfb hfc hl (by omega)
  split
  · split
    · exact h
    · exact validM_of v1 v2 v3 hfb hfc hl (by omega)
  split
  · exact validM_of v1 (validR_dig hw hlb (by omega) (by omega)) (validR_dig hw hlc (by omega) (by omega)) (by rw [digL_len]; exact hfb) (by rw [digL_len]; exact hfc) (by rw [digL_len]; exact hl) (by rw [digL_len, digL_len]; exact hp)
  · exact validM_of (validR_dig hw hla (by omega) (by omega)) v2 v3 hfb hfc (by rw [digL_len]; exact hl) (by rw [digL_len]; exact hp)

end Go.Prg
