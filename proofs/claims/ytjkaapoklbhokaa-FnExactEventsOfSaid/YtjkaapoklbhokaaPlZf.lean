/- Plain laws, part Zf: the events of an addition. Conditions: none. -/
import Derived.Test.YtjkaapoklbhokaaPlZ
set_option linter.all false
namespace Go.Prg
open Go.Eng

/-- what lies at a lever does not change behind it -/
theorem secS_stab1 (w : Int) (d : List Int) (c b : List Bool) (e : List Ev) (hb : b.length = c.length) (k j : Nat) (hj : j ≤ k) :
    (secS w d c b e (k + 1)).2.1.getD j false = (secS w d c b e k).2.1.getD j false ∧ (secS w d c b e (k + 1)).2.2.1.getD j false = (secS w d c b e k).2.2.1.getD j false := by
  obtain ⟨l1, l2, l3, _⟩ := secS_len w d c b e k
  simp only [secS]
  split
  · split
    · split
      · simp only
        rw [set_get (by omega), set_get (by omega), if_neg (by omega), if_neg (by omega)]
        exact ⟨rfl, rfl⟩
      · exact ⟨rfl, rfl⟩
    · exact ⟨rfl, rfl⟩
  · exact ⟨rfl, rfl⟩

theorem secS_stab (w : Int) (d : List Int) (c b : List Bool) (e : List Ev) (hb : b.length = c.length) (k j : Nat) (hj : j ≤ k) : ∀ m,
    (secS w d c b e (k + m)).2.1.getD j false = (secS w d c b e k).2.1.getD j false ∧ (secS w d c b e (k + m)).2.2.1.getD j false = (secS w d c b e k).2.2.1.getD j false
  | 0 => ⟨rfl, rfl⟩
  | m + 1 => by
    obtain ⟨h1, h2⟩ := secS_stab w d c b e hb k j hj m
    obtain ⟨h3, h4⟩ := secS_stab1 w d c b e hb (k + m) j (by omega)
    exact ⟨h3.trans h1, h4.trans h2⟩

/-- what happens while the levers 0 .. k - 1 are pushed: L the levers at the end, t those that the wheels have cocked -/
def evL (L t : List Bool) (n : Nat) : Nat → List Ev
  | 0 => []
  | k + 1 => if L.getD k false = true then if k + 1 < n ∧ L.getD (k + 1) false = true ∧ t.getD (k + 1) false = false then evL L t n k ++ [(3, (k : Int), 0)] ++ [(2, (k : Int) + 1, 0)] else evL L t n k ++ [(3, (k : Int), 0)] else evL L t n k

theorem evL_len (L t : List Bool) (n : Nat) : ∀ k, (evL L t n k).length ≤ 2 * k
  | 0 => by simp [evL]
  | k + 1 => by
    have ih := evL_len L t n k
    simp only [evL]
    split
    · split <;> simp <;> omega
    · omega

theorem secS_ev (w : Int) (l m : List Int) (hw : 2 ≤ w ∧ w ≤ 16) (hdl : digitsOk w l) (hdm : digitsOk w m) (he : l.length = m.length) (e : List Ev) (L : List Bool) (hL : L = (secS w (turnD w l m l.length) (turnC w l m l.length) (falses l.length) e l.length).2.1) : ∀ k, k ≤ l.length →
    (secS w (turnD w l m l.length) (turnC w l m l.length) (falses l.length) e k).2.2.2 = e ++ evL L (turnC w l m l.length) l.length k
  | 0, _ => by simp [secS, evL]
  | k + 1, hk => by
    have ih := secS_ev w l m hw hdl hdm he e L hL k (by omega)
    obtain ⟨hA, hB, hC⟩ := secS_by w l m hw hdl hdm he e k
    obtain ⟨hA', _, _⟩ := secS_by w l m hw hdl hdm he e (k + 1)
    have lc := turnC_len w l m l.length
    have hb : (falses l.length).length = (turnC w l m l.length).length := by simp [lc]
    have st1 := (secS_stab w (turnD w l m l.length) (turnC w l m l.length) (falses l.length) e hb k k (Nat.le_refl _) (l.length - k)).1
    rw [show k + (l.length - k) = l.length by omega, ← hL] at st1
    obtain ⟨l1, l2, l3, _⟩ := secS_len w (turnD w l m l.length) (turnC w l m l.length) (falses l.length) e k
    rw [lc] at l2
    rw [List.length_replicate] at l3
    simp only [evL, st1]
    simp only [secS]
    by_cases hc : (secS w (turnD w l m l.length) (turnC w l m l.length) (falses l.length) e k).2.1.getD k false = true
    · rw [if_pos hc, if_pos hc]
      by_cases hk1 : k + 1 < l.length
      · have st2 := (secS_stab w (turnD w l m l.length) (turnC w l m l.length) (falses l.length) e hb (k + 1) (k + 1) (Nat.le_refl _) (l.length - (k + 1))).1
        rw [show k + 1 + (l.length - (k + 1)) = l.length by omega, ← hL] at st2
        obtain ⟨b1, b2⟩ := hB (k + 1) (by omega) hk1
        have hA2 := hA' (k + 1) hk1
        simp only [secS, if_pos hc, if_pos (show k + 1 < (turnC w l m l.length).length by omega)] at st2 hA2
        rw [if_pos (show k + 1 < (turnC w l m l.length).length by omega)]
        by_cases hq : w ≤ (secS w (turnD w l m l.length) (turnC w l m l.length) (falses l.length) e k).1.getD (k + 1) 0 + 1
        · simp only [if_pos hq] at st2 hA2
          rw [set_get (by omega)] at st2 hA2
          rw [if_pos rfl] at st2 hA2
          rw [set_get (by omega), if_pos rfl] at hA2
          have ht : (turnC w l m l.length).getD (k + 1) false = false := by
            cases hx : (turnC w l m l.length).getD (k + 1) false with
            | false => rfl
            | true => rw [hx] at hA2; cases hA2
          rw [if_pos hq, if_pos ⟨hk1, st2, ht⟩]
          simp only [ih, List.append_assoc]
        · simp only [if_neg hq] at st2
          rw [b2] at st2
          rw [if_neg hq, if_neg (fun h => by rw [st2, h.2.2] at h; cases h.2.1)]
          simp only [ih, List.append_assoc]
      · rw [if_neg (show ¬ k + 1 < (turnC w l m l.length).length by omega), if_neg (fun h => hk1 h.1)]
        simp only [ih, List.append_assoc]
    · rw [if_neg hc, if_neg hc]
      exact ih

def eventsR (a b : Reg) : List Ev × Int := if pairC a b = 0 then (evF a.1 a.2 b.2 a.2.length ++ evL (levL a.1 a.2 b.2) (turnC a.1 a.2 b.2 a.2.length) a.2.length a.2.length, 0) else ([], pairC a b)

theorem eventsR_len (a b : Reg) : ((eventsR a b).1.length : Int) ≤ 64 := by
  unfold eventsR
  split
  · rename_i h
    obtain ⟨w, l, m, rfl, rfl, hw, hl, he, hdl, hdm⟩ := pair_parts h
    have h1 := evF_len w l m l.length
    have h2 := evL_len (levL w l m) (turnC w l m l.length) l.length l.length
    simp only [List.length_append]; omega
  · simp

theorem s_events (a b : Reg) (ha : (a.2.length : Int) ≤ 9223372036854775806) (hb : (b.2.length : Int) ≤ 9223372036854775806) : F_s_EventsOf (a, b) = some (eventsR a b) := by
  unfold F_s_EventsOf eventsR
  simp only [s_pair a b ha hb, bind_s, ine_e]
  by_cases h : pairC a b = 0
  · obtain ⟨w, l, m, rfl, rfl, hw, hl, he, hdl, hdm⟩ := pair_parts h
    have l2 := turnC_len w l m l.length
    obtain ⟨p1, p2⟩ := secS_push hw.1 (turnD_ok hw.1 hdl hdm (n := l.length) (by omega) (by omega)) (turnC w l m l.length) (falses l.length) (evF w l m l.length) (by rw [turnD_len, turnC_len]) l.length
    have he' := secS_ev w l m hw hdl hdm he (evF w l m l.length) (levL w l m) p2.symm l.length (Nat.le_refl _)
    rw [if_pos h, cond_neg (by simpa using h), s_run06 w l m hw hdl hdm he hl.2]
    simp only [bind_s, runS, he']
  · rw [if_neg h, cond_pos h]

theorem i_events (a b : Reg) (ha : (a.2.length : Int) ≤ 9223372036854775806) (hb : (b.2.length : Int) ≤ 9223372036854775806) : F_i_EventsOf (a, b) = some (eventsR a b) := by
  unfold F_i_EventsOf eventsR
  simp only [i_pair a b ha hb, bind_s, ine_e]
  by_cases h : pairC a b = 0
  · obtain ⟨w, l, m, rfl, rfl, hw, hl, he, hdl, hdm⟩ := pair_parts h
    have l1 := turnD_len w l m l.length
    have l2 := turnC_len w l m l.length
    have l3 := levL_len w l m
    have hp := i_pushed w (turnD w l m l.length) (turnC w l m l.length) hw (turnD_ok hw.1 hdl hdm (by omega) (by omega)) (by omega) (by omega)
    rw [l2] at hp
    have hL : (pushS w (turnD w l m l.length) (turnC w l m l.length) l.length).2 = levL w l m := rfl
    rw [hL] at hp
    have hT : ∀ k, k < l.length → (turnC w l m l.length).getD k false = decide (w ≤ l.getD k 0 + m.getD k 0) := fun k hk => turnC_get w l m hk
    rw [if_pos h, cond_neg (by simpa using h), i_turned w l m hw hdl hdm he hl.2]
    simp only [bind_s, hp, n2i_e, xlen_e]
    refine iter_run (fun i => ((m.length : Int), (i : Int), turnC w l m l.length, levL w l m, evF w l m i, m)) m.length (by simp [evF]) (fun k hk => ?_) ?_
    · have h1 := getD_all (p := fun d => 0 ≤ d ∧ d ≤ w - 1) hdl (i := k) (by omega)
      have h2 := getD_all (p := fun d => 0 ≤ d ∧ d ≤ w - 1) hdm (i := k) (by omega)
      have l4 := evF_len w l m k
      have ht := hT k (by omega)
      have k4 : (evF w l m k ++ [(1, (k : Int), m.getD k 0)]).length ≤ 33 := by simp; omega
      simp (disch := omega) only [ilt_e, cond_pos, okIx_e, xlen_e, chk_pos, xget_e, i2n_e, igt_e, okRoom_e, List.length_cons, List.length_nil, l2, ht, xapp_e, iadd_e, w64, evF]
      by_cases hm : 0 < m.getD k 0
      · rw [cond_pos hm, if_pos hm]
        by_cases hc : w ≤ l.getD k 0 + m.getD k 0
        · rw [cond_pos hc, if_pos hc]; rfl
        · rw [cond_neg hc, if_neg hc]; rfl
      · rw [cond_neg hm, if_neg hm, cond_neg (by omega)]; rfl
    · simp (disch := omega) only [ilt_e, cond_neg]
      have hf := evF_len w l m l.length
      refine Eq.trans (congrArg (Option.map Sum.inr) (iter_run (r := (evF w l m l.length ++ evL (levL w l m) (turnC w l m l.length) l.length l.length, 0)) (fun i => ((l.length : Int), (i : Int), turnC w l m l.length, levL w l m, evF w l m l.length ++ evL (levL w l m) (turnC w l m l.length) l.length i)) l.length (by simp [evL, l3, ← he, n2i, xlen]) (fun k hk => ?_) ?_)) rfl
      · have l4 := evL_len (levL w l m) (turnC w l m l.length) l.length k
        have k3 : (evF w l m l.length ++ evL (levL w l m) (turnC w l m l.length) l.length k).length ≤ 70 := by simp; omega
        have k4 : (evF w l m l.length ++ evL (levL w l m) (turnC w l m l.length) l.length k ++ [(3, (k : Int), 0)]).length ≤ 71 := by simp; omega
        have k5 : (evF w l m l.length ++ (evL (levL w l m) (turnC w l m l.length) l.length k ++ [(3, (k : Int), 0)])).length ≤ 71 := by rw [← List.append_assoc]; exact k4
        have e1 : i2n ((k : Int) + 1) = k + 1 := by unfold i2n; omega
        simp (disch := omega) only [ilt_e, cond_pos, okIx_e, xlen_e, l3, chk_pos, xget_e, i2n_e, n2i_e, iadd_e, w64, evL]
        cases hc : (levL w l m).getD k false with
        | false => simp only [bnot_f, cond_t, Bool.false_eq_true, if_false]; rfl
        | true =>
          simp (disch := omega) only [bnot_t, cond_f, okRoom_e, List.length_cons, List.length_nil, chk_pos, if_true]
          by_cases hk1 : k + 1 < l.length
          · rw [cond_pos (by omega)]
            simp (disch := omega) only [okIx_e, l2, l3, chk_pos, e1]
            cases hd : (levL w l m).getD (k + 1) false with
            | false => simp only [cond_f, Bool.false_eq_true, false_and, and_false, if_false, xapp_e, List.append_assoc]; rfl
            | true =>
              cases hq : (turnC w l m l.length).getD (k + 1) false with
              | true => simp only [cond_t, bnot_t, cond_f, Bool.true_eq_false, and_false, if_false, xapp_e, List.append_assoc]; rfl
              | false => simp (disch := omega) only [cond_t, bnot_f, okRoom_e, xlen_e, xapp_e, List.length_cons, List.length_nil, chk_pos, hk1, and_self, if_true, List.append_assoc]; rfl
          · rw [cond_neg (by omega), if_neg (fun q => hk1 q.1)]
            simp only [xapp_e, List.append_assoc]; rfl
      · simp (disch := omega) only [ilt_e, cond_neg]
  · rw [if_neg h, cond_pos h]

theorem law_EventsOf (a : Reg) (b : Reg) (h0 : (a.2.length : Int) ≤ 9223372036854775807) (h1 : (b.2.length : Int) ≤ 9223372036854775807) : F_l_FnExactEventsOf (a, b) = some true := by
  have hb := eventsR_len a b
  unfold F_l_FnExactEventsOf
  obtain ⟨v0, e0, q0⟩ := sz_R a 1048576 h0 (by omega) (by omega)
  simp only [e0, bind_s, ilt_e]
  rcases q0 with rfl | ⟨q0, q0'⟩
  · rfl
  rw [cond_neg (by omega)]
  obtain ⟨v1, e1, q1⟩ := sz_R b v0 h1 (by omega) (by omega)
  simp only [e1, bind_s, ilt_e]
  rcases q1 with rfl | ⟨q1, q1'⟩
  · rfl
  rw [cond_neg (by omega)]
  simp (disch := omega) only [bind_s, ilt_e, cond_neg, to_Register, to_Machine, to_Int64S, eq_Register, eq_Machine, eq_Int64S, mark_Register, mark_M, mark_Int64S, held_Register, held_M, held_Int64S, eq_CarryEventS, mark_CarryEventS, held_CarryEventS, decide_true, bnot_t, cond_f, ine_e, not_true_eq_false, decide_false, bnev_s, cnt_len, s_events, i_events]

theorem FnExactEventsOf_true {t1 : TypeId} (x : (Reg) × (Reg)) (h : wfArgs [.val true (.pair (.int .i64) (.row false t1 (.int .i64))), .val true (.pair (.int .i64) (.row false t1 (.int .i64)))] x) : ∃ y, F_l_FnExactEventsOf x = some y ∧ hhead .bool [] y = true :=
  ⟨true, law_EventsOf (x.1) (x.2) (maxLen_le (n := (x.1).2.length) h.1.2.1) (maxLen_le (n := (x.2).2.length) h.2.1.2.1), rfl⟩


end Go.Prg
