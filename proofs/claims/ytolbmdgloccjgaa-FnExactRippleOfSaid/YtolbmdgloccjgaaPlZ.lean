/- Plain laws, part Z: the longest run of levers. Conditions: none. -/
import Derived.Test.YtolbmdgloccjgaaPlT
set_option linter.all false
namespace Go.Prg
open Go.Eng

theorem max_e (a b : Int) : F_s_l00Max (a, b) = some (imax a b) := by
  unfold F_s_l00Max imax
  simp only [igt_e]
  by_cases h : b < a
  · rw [cond_pos h, if_neg (by omega)]
  · rw [cond_neg h]
    split
    · rfl
    · congr 1; omega

/-- the run and the longest run up to a lever: t are the levers cocked by the wheels, c all of them -/
def rip (t c : List Bool) : Nat → Int × Int
  | 0 => (0, 0)
  | k + 1 => (if t.getD k false = true then 1 else if c.getD k false = true then (rip t c k).1 + 1 else 0, imax (rip t c k).2 (if t.getD k false = true then 1 else if c.getD k false = true then (rip t c k).1 + 1 else 0))

theorem rip_in (t c : List Bool) : ∀ k, (0 ≤ (rip t c k).1 ∧ (rip t c k).1 ≤ k) ∧ (0 ≤ (rip t c k).2 ∧ (rip t c k).2 ≤ k)
  | 0 => by simp [rip]
  | k + 1 => by
    have ih := rip_in t c k
    simp only [rip, imax]
    split
    · split <;> omega
    · split
      · split <;> omega
      · split <;> omega

/-- which levers are cocked by a push -/
theorem secS_by (w : Int) (l m : List Int) (hw : 2 ≤ w ∧ w ≤ 16) (hdl : digitsOk w l) (hdm : digitsOk w m) (he : l.length = m.length) (e : List Ev) : ∀ k,
    (∀ j, j < l.length → (secS w (turnD w l m l.length) (turnC w l m l.length) (falses l.length) e k).2.2.1.getD j false = ((secS w (turnD w l m l.length) (turnC w l m l.length) (falses l.length) e k).2.1.getD j false && !(turnC w l m l.length).getD j false)) ∧
    (∀ j, k < j → j < l.length → (secS w (turnD w l m l.length) (turnC w l m l.length) (falses l.length) e k).1.getD j 0 = (turnD w l m l.length).getD j 0 ∧ (secS w (turnD w l m l.length) (turnC w l m l.length) (falses l.length) e k).2.1.getD j false = (turnC w l m l.length).getD j false) ∧
    (∀ j, (turnC w l m l.length).getD j false = true → (secS w (turnD w l m l.length) (turnC w l m l.length) (falses l.length) e k).2.1.getD j false = true)
  | 0 => by
    refine ⟨fun j hj => ?_, fun j _ _ => ⟨rfl, rfl⟩, fun j h => h⟩
    simp only [secS]
    have : (falses l.length).getD j false = false := by simp [List.getD_eq_getElem?_getD, List.getElem?_replicate]; split <;> rfl
    rw [this]
    cases (turnC w l m l.length).getD j false <;> rfl
  | k + 1 => by
    obtain ⟨hA, hB, hC⟩ := secS_by w l m hw hdl hdm he e k
    obtain ⟨l1, l2, l3, _⟩ := secS_len w (turnD w l m l.length) (turnC w l m l.length) (falses l.length) e k
    rw [turnD_len] at l1
    rw [turnC_len] at l2
    rw [List.length_replicate] at l3
    have lc := turnC_len w l m l.length
    simp only [secS]
    split
    · split
      · rename_i hk
        rw [lc] at hk
        obtain ⟨b1, b2⟩ := hB (k + 1) (by omega) hk
        split
        · rename_i hq
          have hnot : (turnC w l m l.length).getD (k + 1) false = false := by
            rw [b1, turnD_get w l m hk] at hq
            rw [turnC_get w l m hk]
            have h1 := getD_all (p := fun d => 0 ≤ d ∧ d ≤ w - 1) hdl (i := k + 1) (by omega)
            have h2 := getD_all (p := fun d => 0 ≤ d ∧ d ≤ w - 1) hdm (i := k + 1) (by omega)
            rw [tmod_two hw.1 (by omega) (by omega)] at hq
            split at hq
            · omega
            · exact decide_eq_false (by assumption)
          refine ⟨fun j hj => ?_, fun j h1 h2 => ?_, fun j h => ?_⟩
          · simp only
            rw [set_get (by omega), set_get (by omega)]
            by_cases hj2 : j = k + 1
            · subst hj2; rw [if_pos rfl, if_pos rfl, hnot]; rfl
            · rw [if_neg hj2, if_neg hj2]; exact hA j hj
          · simp only
            rw [set_get (by omega), set_get (by omega), if_neg (by omega), if_neg (by omega)]
            exact hB j (by omega) h2
          · simp only
            rw [set_get (by omega)]
            split
            · rfl
            · exact hC j h
        · refine ⟨hA, fun j h1 h2 => ?_, hC⟩
          simp only
          rw [set_get (by omega), if_neg (by omega)]
          exact hB j (by omega) h2
      · exact ⟨hA, fun j h1 h2 => hB j (by omega) h2, hC⟩
    · exact ⟨hA, fun j h1 h2 => hB j (by omega) h2, hC⟩

def rippleR (a b : Reg) : Int × Int := if pairC a b = 0 then ((rip (turnC a.1 a.2 b.2 a.2.length) (levL a.1 a.2 b.2) a.2.length).2, 0) else (0, pairC a b)

theorem i_ripple (a b : Reg) (ha : (a.2.length : Int) ≤ 9223372036854775806) (hb : (b.2.length : Int) ≤ 9223372036854775806) : F_i_RippleOf (a, b) = some (rippleR a b) := by
  unfold F_i_RippleOf rippleR
  simp only [i_pair a b ha hb, bind_s, ine_e]
  by_cases h : pairC a b = 0
  · obtain ⟨w, l, m, rfl, rfl, hw, hl, he, hdl, hdm⟩ := pair_parts h
    have l2 := turnC_len w l m l.length
    have l3 := levL_len w l m
    rw [if_pos h, cond_neg (by simpa using h), i_turned w l m hw hdl hdm he hl.2]
    simp only [bind_s, i_levers w l m hw hdl hdm he hl.2, n2i_e, xlen_e, l3]
    refine iter_run (fun k => ((rip (turnC w l m l.length) (levL w l m) k).1, (rip (turnC w l m l.length) (levL w l m) k).2, (l.length : Int), (k : Int), turnC w l m l.length, levL w l m)) l.length (by simp [rip]) (fun k hk => ?_) ?_
    · obtain ⟨r1, r2⟩ := rip_in (turnC w l m l.length) (levL w l m) k
      simp (disch := omega) only [ilt_e, cond_pos, okIx_e, xlen_e, l2, l3, chk_pos, xget_e, i2n_e, iadd_e, w64, rip]
      cases (turnC w l m l.length).getD k false with
      | true => rfl
      | false => cases (levL w l m).getD k false <;> rfl
    · simp (disch := omega) only [ilt_e, cond_neg]
  · rw [if_neg h, cond_pos h]

theorem s_ripple (a b : Reg) (ha : (a.2.length : Int) ≤ 9223372036854775806) (hb : (b.2.length : Int) ≤ 9223372036854775806) : F_s_RippleOf (a, b) = some (rippleR a b) := by
  unfold F_s_RippleOf rippleR
  simp only [s_pair a b ha hb, bind_s, ine_e]
  by_cases h : pairC a b = 0
  · obtain ⟨w, l, m, rfl, rfl, hw, hl, he, hdl, hdm⟩ := pair_parts h
    have l1 := turnD_len w l m l.length
    have l2 := turnC_len w l m l.length
    have l3 := levL_len w l m
    obtain ⟨p1, p2⟩ := secS_push hw.1 (turnD_ok hw.1 hdl hdm (n := l.length) (by omega) (by omega)) (turnC w l m l.length) (falses l.length) (evF w l m l.length) (by omega) l.length
    obtain ⟨k1, k2, k3, _⟩ := secS_len w (turnD w l m l.length) (turnC w l m l.length) (falses l.length) (evF w l m l.length) l.length
    obtain ⟨hA, _, hC⟩ := secS_by w l m hw hdl hdm he (evF w l m l.length) l.length
    have e : runS w l m = secS w (turnD w l m l.length) (turnC w l m l.length) (falses l.length) (evF w l m l.length) l.length := rfl
    rw [← e] at p2 hA hC k3
    have hlev : (runS w l m).2.1 = levL w l m := p2
    rw [hlev] at hA hC
    rw [List.length_replicate] at k3
    rw [if_pos h, cond_neg (by simpa using h), s_run06 w l m hw hdl hdm he hl.2]
    simp only [bind_s, hlev]
    refine iter_run (fun k => ((rip (turnC w l m l.length) (levL w l m) k).2, (rip (turnC w l m l.length) (levL w l m) k).1, (k : Int), w, (runS w l m).1, levL w l m, (runS w l m).2.2.1, (runS w l m).2.2.2)) l.length (by simp [rip]) (fun k hk => ?_) ?_
    · obtain ⟨r1, r2⟩ := rip_in (turnC w l m l.length) (levL w l m) k
      have hk' := hA k hk
      have hc' := hC k
      simp (disch := omega) only [ilt_e, n2i_e, cond_pos, okIx_e, xlen_e, l2, l3, k3, chk_pos, xget_e, i2n_e, iadd_e, w64, max_e, bind_s, rip, hk']
      cases ht : (turnC w l m l.length).getD k false with
      | true =>
        rw [hc' ht]
        rfl
      | false => cases (levL w l m).getD k false <;> rfl
    · simp (disch := omega) only [ilt_e, n2i_e, xlen_e, l3, cond_neg]
  · rw [if_neg h, cond_pos h]

theorem law_RippleOf (a : Reg) (b : Reg) (h0 : (a.2.length : Int) ≤ 9223372036854775807) (h1 : (b.2.length : Int) ≤ 9223372036854775807) : F_l_FnExactRippleOf (a, b) = some true := by
  unfold F_l_FnExactRippleOf
  obtain ⟨v0, e0, q0⟩ := sz_R a 1048576 h0 (by omega) (by omega)
  simp only [e0, bind_s, ilt_e]
  rcases q0 with rfl | ⟨q0, q0'⟩
  · rfl
  rw [cond_neg (by omega)]
  obtain ⟨v1, e1, q1⟩ := sz_R b v0 h1 (by omega) (by omega)
  simp only [e1, bind_s, ilt_e]
  rcases q1 with rfl | ⟨q1, q1'⟩
  · rfl
  rw [cond_neg (by omega)]
  simp (disch := omega) only [bind_s, ilt_e, cond_neg, to_Register, to_Int64S, eq_Register, eq_Int64S, mark_Register, mark_Int64S, held_Register, held_Int64S, to_BoolS, eq_BoolS, mark_BoolS, held_BoolS, to_CarryEventS, eq_CarryEventS, mark_CarryEventS, held_CarryEventS, eq_SignalS, mark_SignalS, held_SignalS, decide_true, bnot_t, cond_f, ine_e, not_true_eq_false, decide_false, bnev_s, cnt_len, s_ripple, i_ripple]

theorem FnExactRippleOf_true {t1 : TypeId} (x : (Reg) × (Reg)) (h : wfArgs [.val true (.pair (.int .i64) (.row false t1 (.int .i64))), .val true (.pair (.int .i64) (.row false t1 (.int .i64)))] x) : ∃ y, F_l_FnExactRippleOf x = some y ∧ hhead .bool [] y = true :=
  ⟨true, law_RippleOf (x.1) (x.2) (maxLen_le (n := (x.1).2.length) h.1.2.1) (maxLen_le (n := (x.2).2.length) h.2.1.2.1), rfl⟩


end Go.Prg
