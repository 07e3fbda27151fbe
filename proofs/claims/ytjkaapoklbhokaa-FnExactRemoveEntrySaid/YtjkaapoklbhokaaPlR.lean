/- Plain laws, part R: wheels turned, levers pushed. Conditions: none. -/
import Derived.Test.YtjkaapoklbhokaaPlQ
set_option linter.all false
namespace Go.Prg
open Go.Eng

abbrev Ev := Int × Int × Int

section mid
variable {α : Type} {A l : List α} {k n : Nat} {x d : α}
theorem mid_get (hA : A.length = k) : (A ++ l).getD k d = l.getD 0 d := by
  rw [List.getD_eq_getElem?_getD, List.getD_eq_getElem?_getD, List.getElem?_append_right (by omega), hA, Nat.sub_self]
theorem mid_drop (hA : A.length = k) (hk : k < l.length) : (A ++ l.drop k).getD k d = l.getD k d := by
  rw [mid_get hA, List.getD_eq_getElem?_getD, List.getD_eq_getElem?_getD, List.getElem?_drop, Nat.add_zero]
theorem mid_set (hA : A.length = k) (hk : k < l.length) : (A ++ l.drop k).set k x = A ++ [x] ++ l.drop (k + 1) := by
  rw [List.set_append_right _ _ (by omega), hA, Nat.sub_self, List.drop_eq_getElem_cons hk, List.set_cons_zero, List.append_assoc]
  rfl
theorem mid_rep (hA : A.length = k) (hk : k < n) : (A ++ List.replicate (n - k) d).set k x = A ++ [x] ++ List.replicate (n - (k + 1)) d := by
  rw [List.set_append_right _ _ (by omega), hA, Nat.sub_self, show n - k = (n - (k + 1)) + 1 by omega, List.replicate_succ, List.set_cons_zero, List.append_assoc]
  rfl
theorem rep_step (hk : k < n) : A ++ List.replicate (n - k) d = A ++ [d] ++ List.replicate (n - (k + 1)) d := by
  rw [show n - k = (n - (k + 1)) + 1 by omega, List.replicate_succ, List.append_assoc]
  rfl
theorem drop_step (hk : k < l.length) : A ++ l.drop k = A ++ [l.getD k d] ++ l.drop (k + 1) := by
  rw [List.drop_eq_getElem_cons hk, List.append_assoc, getD_lt hk]
  rfl
theorem set_rep : (List.replicate n d).set k d = List.replicate n d := by
  apply List.ext_getElem?
  intro i
  rw [List.getElem?_set]
  split
  · rename_i h; subst h; simp [List.getElem?_replicate]
  · rfl
theorem set_get {i : Nat} (hk : k < l.length) : (l.set k x).getD i d = if i = k then x else l.getD i d := by
  rw [List.getD_eq_getElem?_getD, List.getD_eq_getElem?_getD, List.getElem?_set]
  by_cases h : k = i
  · subst h; simp [hk]
  · simp [h, Ne.symm h]
end mid

/-- the wheels after they have been turned -/
def turnD (w : Int) (l m : List Int) (n : Nat) : List Int := (List.range n).map fun i => (l.getD i 0 + m.getD i 0).tmod w
/-- the levers that are cocked then -/
def turnC (w : Int) (l m : List Int) (n : Nat) : List Bool := (List.range n).map fun i => decide (w ≤ l.getD i 0 + m.getD i 0)

theorem turnD_len (w : Int) (l m : List Int) (n : Nat) : (turnD w l m n).length = n := by simp [turnD]
theorem turnC_len (w : Int) (l m : List Int) (n : Nat) : (turnC w l m n).length = n := by simp [turnC]
theorem turnD_succ (w : Int) (l m : List Int) (n : Nat) : turnD w l m (n + 1) = turnD w l m n ++ [(l.getD n 0 + m.getD n 0).tmod w] := by
  simp only [turnD]; rw [List.range_succ, List.map_append]; rfl
theorem turnC_succ (w : Int) (l m : List Int) (n : Nat) : turnC w l m (n + 1) = turnC w l m n ++ [decide (w ≤ l.getD n 0 + m.getD n 0)] := by
  simp only [turnC]; rw [List.range_succ, List.map_append]; rfl
theorem turnD_get (w : Int) (l m : List Int) {n i : Nat} (h : i < n) : (turnD w l m n).getD i 0 = (l.getD i 0 + m.getD i 0).tmod w := by
  simp [turnD, List.getD_eq_getElem?_getD, h]
theorem turnC_get (w : Int) (l m : List Int) {n i : Nat} (h : i < n) : (turnC w l m n).getD i false = decide (w ≤ l.getD i 0 + m.getD i 0) := by
  simp [turnC, List.getD_eq_getElem?_getD, h]

theorem tmod_two {w x : Int} (hw : 2 ≤ w) (h0 : 0 ≤ x) (h1 : x ≤ 2 * (w - 1)) : x.tmod w = if w ≤ x then x - w else x := by
  rw [Int.tmod_eq_emod_of_nonneg h0]
  split
  · rw [← Int.sub_emod_right, Int.emod_eq_of_lt (by omega) (by omega)]
  · exact Int.emod_eq_of_lt h0 (by omega)

theorem turnD_ok {w : Int} (hw : 2 ≤ w) {l m : List Int} (hl : digitsOk w l) (hm : digitsOk w m) {n : Nat} (h1 : n ≤ l.length) (h2 : n ≤ m.length) : digitsOk w (turnD w l m n) := by
  intro d hd
  simp only [turnD, List.mem_map, List.mem_range] at hd
  obtain ⟨i, hi, rfl⟩ := hd
  have a1 := getD_all (p := fun d => 0 ≤ d ∧ d ≤ w - 1) hl (i := i) (by omega)
  have a2 := getD_all (p := fun d => 0 ≤ d ∧ d ≤ w - 1) hm (i := i) (by omega)
  rw [tmod_two hw (by omega) (by omega)]
  split <;> omega

theorem i_turned (w : Int) (l m : List Int) (hw : 2 ≤ w ∧ w ≤ 16) (hdl : digitsOk w l) (hdm : digitsOk w m) (he : l.length = m.length) (hn : l.length ≤ 16) :
    F_i_turned ((w, l), (w, m)) = some ((w, turnD w l m l.length), turnC w l m l.length) := by
  unfold F_i_turned
  refine iter_run (fun i => ((l.length : Int), (i : Int), w, l, w, m, (0 : Int), ([] : List Int), w, turnD w l m i, turnC w l m i)) l.length (by simp [turnD, turnC, n2i, xlen]) (fun i hi => ?_) ?_
  · have h1 := getD_all (p := fun d => 0 ≤ d ∧ d ≤ w - 1) hdl (i := i) (by omega)
    have h2 := getD_all (p := fun d => 0 ≤ d ∧ d ≤ w - 1) hdm (i := i) (by omega)
    have l1 := turnD_len w l m i
    have l2 := turnC_len w l m i
    simp (disch := omega) only [ilt_e, ile_e, igt_e, ige_e, ieq_e, ine_e, n2i_e, xlen_e, okIx_e, okTo_e, okRoom_e, okDiv_e, okMake_e, xget_e, xset_e, xapp_e, xrep_e, xsub_e, i2n_e, iadd_e, isub_e, imul_e, iquo_e, irem_e, w64, cond_pos, cond_neg, chk_pos, bind_s, cond_t, cond_f, bnot_t, bnot_f, bnot_d, List.length_cons, List.length_nil, List.length_append, List.length_replicate, List.length_set, List.length_map, List.length_range, decide_true, decide_false, not_true_eq_false, not_false_eq_true, map_s, l1, l2, turnD_succ, turnC_succ]
    rfl
  · simp (disch := omega) only [ilt_e, ile_e, igt_e, ige_e, ieq_e, ine_e, n2i_e, xlen_e, okIx_e, okTo_e, okRoom_e, okDiv_e, okMake_e, xget_e, xset_e, xapp_e, xrep_e, xsub_e, i2n_e, iadd_e, isub_e, imul_e, iquo_e, irem_e, w64, cond_pos, cond_neg, chk_pos, bind_s, cond_t, cond_f, bnot_t, bnot_f, bnot_d, List.length_cons, List.length_nil, List.length_append, List.length_replicate, List.length_set, List.length_map, List.length_range, decide_true, decide_false, not_true_eq_false, not_false_eq_true, map_s]

/-- the wheels and the levers after the levers 0 .. k - 1 have been pushed -/
def pushS (w : Int) (d : List Int) (c : List Bool) : Nat → List Int × List Bool
  | 0 => (d, c)
  | k + 1 => if (pushS w d c k).2.getD k false = true ∧ k + 1 < c.length then
      if (pushS w d c k).1.getD (k + 1) 0 + 1 = w then ((pushS w d c k).1.set (k + 1) 0, (pushS w d c k).2.set (k + 1) true) else ((pushS w d c k).1.set (k + 1) ((pushS w d c k).1.getD (k + 1) 0 + 1), (pushS w d c k).2)
    else pushS w d c k

theorem pushS_len (w : Int) (d : List Int) (c : List Bool) : ∀ k, (pushS w d c k).1.length = d.length ∧ (pushS w d c k).2.length = c.length
  | 0 => ⟨rfl, rfl⟩
  | k + 1 => by
    have ih := pushS_len w d c k
    simp only [pushS]
    split
    · split <;> simp [ih.1, ih.2]
    · exact ih

theorem pushS_ok {w : Int} (hw : 2 ≤ w) {d : List Int} (hd : digitsOk w d) (c : List Bool) (he : d.length = c.length) : ∀ k, digitsOk w (pushS w d c k).1
  | 0 => hd
  | k + 1 => by
    have ih := pushS_ok hw hd c he k
    have hl := pushS_len w d c k
    simp only [pushS]
    split
    · rename_i hc
      have g := getD_all (p := fun d => 0 ≤ d ∧ d ≤ w - 1) ih (i := k + 1) (by omega)
      split
      · exact mem_set_all ih (by omega)
      · exact mem_set_all ih (by omega)
    · exact ih

theorem i_pushed (w : Int) (d : List Int) (c : List Bool) (hw : 2 ≤ w ∧ w ≤ 16) (hd : digitsOk w d) (he : d.length = c.length) (hn : d.length ≤ 16) :
    F_i_pushed ((w, d), c) = some ((w, (pushS w d c c.length).1), (pushS w d c c.length).2) := by
  unfold F_i_pushed
  simp (disch := omega) only [cpN, bind_s, okRoom_e, xlen_e, List.length_nil, chk_pos, xapp_e, List.nil_append, n2i_e]
  refine iter_run (fun i => ((c.length : Int), (i : Int), w, d, (0 : Int), ([] : List Int), w, (pushS w d c i).1, (pushS w d c i).2)) c.length (by simp [pushS]) (fun i hi => ?_) ?_
  · have hok := pushS_ok hw.1 hd c he i
    obtain ⟨l1, l2⟩ := pushS_len w d c i
    simp (disch := omega) only [ilt_e, cond_pos, okIx_e, xlen_e, l2, chk_pos, i2n_e, xget_e]
    have e1 : i2n ((i : Int) + 1) = i + 1 := by unfold i2n; omega
    cases hc : (pushS w d c i).2.getD i false with
    | false =>
      simp (disch := omega) only [bnot_f, cond_t, iadd_e, w64, pushS, hc, Bool.false_eq_true, false_and, if_false]
      rfl
    | true =>
      simp (disch := omega) only [bnot_t, cond_f, iadd_e, w64, ieq_e, n2i_e, xlen_e, l2]
      by_cases hk : i + 1 = c.length
      · rw [cond_pos (by omega)]
        simp only [pushS, hc, true_and]
        rw [if_neg (by omega)]
        rfl
      · rw [cond_neg (by omega)]
        have g := getD_all (p := fun d => 0 ≤ d ∧ d ≤ w - 1) hok (i := i + 1) (by omega)
        have l3 : ((pushS w d c i).1.set (i + 1) ((pushS w d c i).1.getD (i + 1) 0 + 1)).length = d.length := by rw [List.length_set]; exact l1
        have g2 : ((pushS w d c i).1.set (i + 1) ((pushS w d c i).1.getD (i + 1) 0 + 1)).getD (i + 1) 0 = (pushS w d c i).1.getD (i + 1) 0 + 1 := by rw [set_get (by omega)]; simp
        simp (disch := omega) only [okIx_e, chk_pos, l1, xset_e, xget_e, e1, w64, l3, g2]
        simp only [pushS, hc, true_and]
        rw [if_pos (show i + 1 < c.length by omega)]
        by_cases hq : (pushS w d c i).1.getD (i + 1) 0 + 1 = w
        · rw [cond_pos hq, if_pos hq, List.set_set]
          rfl
        · rw [cond_neg hq, if_neg hq]
          rfl
  · simp (disch := omega) only [ilt_e, cond_neg]

/- the reference's way -/
theorem s_note (r : Reg) (c b : List Bool) (e : List Ev) (k : Ev) (h : e.length ≤ 1000) : F_s_l06S_note ((r, (c, (b, e))), k) = some (r, (c, (b, e ++ [k]))) := by
  unfold F_s_l06S_note
  simp (disch := omega) only [okRoom_e, xlen_e, List.length_cons, List.length_nil, chk_pos, xapp_e]

theorem s_turn (w : Int) (d : List Int) (c b : List Bool) (e : List Ev) (k : Nat) (s : Int) (p : Bool) (h1 : k < d.length) (h2 : k < c.length) (h3 : k < b.length) (hd : 0 ≤ d.getD k 0 ∧ d.getD k 0 ≤ 100) (hs : 0 ≤ s ∧ s ≤ 100) (hw : 2 ≤ w ∧ w ≤ 16) (he : e.length ≤ 1000) (hl : d.length ≤ 1000) :
    F_s_l06S_turn (((w, d), (c, (b, e))), ((k : Int), (s, p))) = some (if w ≤ d.getD k 0 + s then ((w, d.set k (d.getD k 0 + s - w)), (c.set k true, (b.set k p, e ++ [(2, ((k : Int), 0))]))) else ((w, d.set k (d.getD k 0 + s)), (c, (b, e)))) := by
  unfold F_s_l06S_turn
  simp (disch := omega) only [okIx_e, xlen_e, chk_pos, xget_e, i2n_e, iadd_e, w64, ige_e, s_note, bind_s, xset_e, isub_e]
  by_cases h : w ≤ d.getD k 0 + s
  · simp (disch := omega) only [cond_pos h, if_pos h, chk_pos, List.length_set]
  · rw [cond_neg h, if_neg h]

/-- what happens while the wheels 0 .. k - 1 are turned -/
def evF (w : Int) (l m : List Int) : Nat → List Ev
  | 0 => []
  | k + 1 => if 0 < m.getD k 0 then if w ≤ l.getD k 0 + m.getD k 0 then evF w l m k ++ [(1, (k : Int), m.getD k 0)] ++ [(2, (k : Int), 0)] else evF w l m k ++ [(1, (k : Int), m.getD k 0)] else evF w l m k

theorem evF_len (w : Int) (l m : List Int) : ∀ k, (evF w l m k).length ≤ 2 * k
  | 0 => by simp [evF]
  | k + 1 => by
    have ih := evF_len w l m k
    simp only [evF]
    split
    · split <;> simp <;> omega
    · omega

abbrev falses (n : Nat) : List Bool := List.replicate n false

theorem s_first (w : Int) (l m : List Int) (hw : 2 ≤ w ∧ w ≤ 16) (hdl : digitsOk w l) (hdm : digitsOk w m) (he : l.length = m.length) (hn : l.length ≤ 16) :
    F_s_l06S_first (((w, l), (falses l.length, (falses l.length, ([] : List Ev)))), (w, m)) = some ((w, turnD w l m l.length), (turnC w l m l.length, (falses l.length, evF w l m l.length))) := by
  unfold F_s_l06S_first
  refine iter_run (fun i => ((i : Int), w, turnD w l m i ++ l.drop i, turnC w l m i ++ falses (l.length - i), falses l.length, evF w l m i, [(w, m)])) l.length (by simp [turnD, turnC, evF]) (fun i hi => ?_) ?_
  · have h1 := getD_all (p := fun d => 0 ≤ d ∧ d ≤ w - 1) hdl (i := i) (by omega)
    have h2 := getD_all (p := fun d => 0 ≤ d ∧ d ≤ w - 1) hdm (i := i) (by omega)
    have l1 := turnD_len w l m i
    have l2 := turnC_len w l m i
    have l3 := evF_len w l m i
    have k1 : (turnD w l m i ++ l.drop i).length = l.length := by simp [l1]; omega
    have k2 : (turnC w l m i ++ falses (l.length - i)).length = l.length := by simp [l2]; omega
    have k3 : (falses l.length).length = l.length := by simp
    have g1 : (turnD w l m i ++ l.drop i).getD i 0 = l.getD i 0 := mid_drop l1 hi
    have k4 : (evF w l m i ++ [(1, (i : Int), m.getD i 0)]).length ≤ 33 := by simp; omega
    have e2 := tmod_two hw.1 (x := l.getD i 0 + m.getD i 0) (by omega) (by omega)
    simp (disch := omega) only [xget0, ilt_e, n2i_e, xlen_e, cond_pos, okIx_e, chk_pos, xget_e, i2n_e, igt_e]
    by_cases hm : 0 < m.getD i 0
    · rw [cond_pos hm]
      have ht := s_turn w (turnD w l m i ++ l.drop i) (turnC w l m i ++ falses (l.length - i)) (falses l.length) (evF w l m i ++ [(1, (i : Int), m.getD i 0)]) i (m.getD i 0) false (by omega) (by omega) (by omega) (by rw [g1]; omega) (by omega) hw (by omega) (by omega)
      rw [g1] at ht
      simp (disch := omega) only [s_note, bind_s, chk_pos, ht, iadd_e, w64]
      simp only [turnD_succ, turnC_succ, evF, if_pos hm, e2]
      by_cases hc : w ≤ l.getD i 0 + m.getD i 0
      · simp only [if_pos hc, decide_true, hc, if_true]
        rw [mid_set l1 hi, mid_rep l2 hi, set_rep]
        rfl
      · simp only [if_neg hc, hc, decide_false, if_false]
        rw [mid_set l1 hi, rep_step (d := false) hi]
        rfl
    · have hm0 : m.getD i 0 = 0 := by omega
      rw [cond_neg hm]
      have hc : ¬ w ≤ l.getD i 0 + m.getD i 0 := by omega
      simp (disch := omega) only [iadd_e, w64, turnD_succ, turnC_succ, evF, if_neg hm, e2, if_neg hc, hc, decide_false]
      rw [rep_step (d := false) hi, drop_step (d := 0) hi, hm0, Int.add_zero]
      rfl
  · simp (disch := omega) only [xget0, ilt_e, n2i_e, xlen_e, cond_neg]
    simp

/-- the reference's state while the levers are pushed -/
def secS (w : Int) (d : List Int) (c b : List Bool) (e : List Ev) : Nat → List Int × List Bool × List Bool × List Ev
  | 0 => (d, c, b, e)
  | k + 1 => if (secS w d c b e k).2.1.getD k false = true then
      if k + 1 < c.length then
        if w ≤ (secS w d c b e k).1.getD (k + 1) 0 + 1 then ((secS w d c b e k).1.set (k + 1) ((secS w d c b e k).1.getD (k + 1) 0 + 1 - w), (secS w d c b e k).2.1.set (k + 1) true, (secS w d c b e k).2.2.1.set (k + 1) true, (secS w d c b e k).2.2.2 ++ [(3, (k : Int), 0)] ++ [(2, ((k : Int) + 1), 0)])
        else ((secS w d c b e k).1.set (k + 1) ((secS w d c b e k).1.getD (k + 1) 0 + 1), (secS w d c b e k).2.1, (secS w d c b e k).2.2.1, (secS w d c b e k).2.2.2 ++ [(3, (k : Int), 0)])
      else ((secS w d c b e k).1, (secS w d c b e k).2.1, (secS w d c b e k).2.2.1, (secS w d c b e k).2.2.2 ++ [(3, (k : Int), 0)])
    else secS w d c b e k

theorem secS_push {w : Int} (hw : 2 ≤ w) {d : List Int} (hd : digitsOk w d) (c b : List Bool) (e : List Ev) (he : d.length = c.length) : ∀ k, (secS w d c b e k).1 = (pushS w d c k).1 ∧ (secS w d c b e k).2.1 = (pushS w d c k).2
  | 0 => ⟨rfl, rfl⟩
  | k + 1 => by
    obtain ⟨i1, i2⟩ := secS_push hw hd c b e he k
    have hok := pushS_ok hw hd c he k
    have hl := pushS_len w d c k
    simp only [secS, pushS, i1, i2]
    by_cases hc : (pushS w d c k).2.getD k false = true
    · rw [if_pos hc]
      by_cases hk : k + 1 < c.length
      · have g := getD_all (p := fun d => 0 ≤ d ∧ d ≤ w - 1) hok (i := k + 1) (by omega)
        have hck : (pushS w d c k).2.getD k false = true ∧ k + 1 < c.length := ⟨hc, hk⟩
        rw [if_pos hk, if_pos hck]
        by_cases hq : w ≤ (pushS w d c k).1.getD (k + 1) 0 + 1
        · have hq2 : (pushS w d c k).1.getD (k + 1) 0 + 1 = w := by omega
          rw [if_pos hq, if_pos hq2]
          refine ⟨?_, rfl⟩
          simp only
          congr 1
          omega
        · rw [if_neg hq, if_neg (by omega)]
          exact ⟨rfl, rfl⟩
      · rw [if_neg hk, if_neg (fun h => hk h.2)]
        exact ⟨rfl, rfl⟩
    · rw [if_neg hc, if_neg (fun h => hc h.1)]
      exact ⟨i1, i2⟩

theorem secS_len (w : Int) (d : List Int) (c b : List Bool) (e : List Ev) : ∀ k, (secS w d c b e k).1.length = d.length ∧ (secS w d c b e k).2.1.length = c.length ∧ (secS w d c b e k).2.2.1.length = b.length ∧ (secS w d c b e k).2.2.2.length ≤ e.length + 2 * k
  | 0 => by simp [secS]
  | k + 1 => by
    obtain ⟨h1, h2, h3, h4⟩ := secS_len w d c b e k
    simp only [secS]
    split
    · split
      · split
        · simp [h1, h2, h3]; omega
        · simp [h1, h2, h3]; omega
      · simp [h1, h2, h3]; omega
    · simp [h1, h2, h3]; omega

theorem s_second (w : Int) (d : List Int) (c b : List Bool) (e : List Ev) (hw : 2 ≤ w ∧ w ≤ 16) (hd : digitsOk w d) (he : d.length = c.length) (hb : b.length = c.length) (hn : d.length ≤ 16) (hev : e.length ≤ 100) :
    F_s_l06S_second ((w, d), (c, (b, e))) = some ((w, (secS w d c b e c.length).1), (secS w d c b e c.length).2) := by
  unfold F_s_l06S_second
  refine iter_run (fun i => ((c.length : Int), (i : Int), w, (secS w d c b e i).1, (secS w d c b e i).2.1, (secS w d c b e i).2.2.1, (secS w d c b e i).2.2.2)) c.length (by simp [secS, n2i, xlen]) (fun i hi => ?_) ?_
  · have hok := pushS_ok hw.1 hd c he i
    obtain ⟨p1, p2⟩ := secS_push hw.1 hd c b e he i
    rw [← p1] at hok
    obtain ⟨l1, l2, l3, l4⟩ := secS_len w d c b e i
    simp (disch := omega) only [ilt_e, cond_pos, okIx_e, xlen_e, l2, chk_pos, i2n_e, xget_e]
    cases hc : (secS w d c b e i).2.1.getD i false with
    | false =>
      simp (disch := omega) only [bnot_f, cond_t, iadd_e, w64, secS, hc, Bool.false_eq_true, if_false]
      rfl
    | true =>
      simp (disch := omega) only [bnot_t, cond_f, iadd_e, w64, s_note, bind_s]
      simp only [secS, hc, if_true]
      by_cases hk : i + 1 < c.length
      · have g := getD_all (p := fun d => 0 ≤ d ∧ d ≤ w - 1) hok (i := i + 1) (by omega)
        have k4 : ((secS w d c b e i).2.2.2 ++ [(3, (i : Int), 0)]).length ≤ 900 := by simp; omega
        have ht := s_turn w (secS w d c b e i).1 (secS w d c b e i).2.1 (secS w d c b e i).2.2.1 ((secS w d c b e i).2.2.2 ++ [(3, (i : Int), 0)]) (i + 1) 1 true (by omega) (by omega) (by omega) (by omega) (by omega) hw (by omega) (by omega)
        rw [show ((i + 1 : Nat) : Int) = (i : Int) + 1 by omega] at ht
        rw [cond_pos (by omega), ht, if_pos hk]
        simp only [bind_s]
        split
        · rfl
        · rfl
      · rw [cond_neg (by omega), if_neg hk]
        rfl
  · simp (disch := omega) only [ilt_e, cond_neg]

theorem s_new06 (r : Reg) (h : r.2.length ≤ 1000) : F_s_l06New r = some (r, (falses r.2.length, (falses r.2.length, ([] : List Ev)))) := by
  unfold F_s_l06New
  have h1 := ownR r (by omega)
  simp (disch := omega) only [h1, bind_s, n2i_e, xlen_e, ieq_e, chk_pos, okMake_e, xrep_e, i2n_e, decide_true, chk_t]

/-- the reference's whole addition -/
def runS (w : Int) (l m : List Int) : List Int × List Bool × List Bool × List Ev := secS w (turnD w l m l.length) (turnC w l m l.length) (falses l.length) (evF w l m l.length) l.length

theorem s_run06 (w : Int) (l m : List Int) (hw : 2 ≤ w ∧ w ≤ 16) (hdl : digitsOk w l) (hdm : digitsOk w m) (he : l.length = m.length) (hn : l.length ≤ 16) :
    F_s_l06Run ((w, l), (w, m)) = some ((w, (runS w l m).1), (runS w l m).2) := by
  have l1 := turnD_len w l m l.length
  have l2 := turnC_len w l m l.length
  have l3 := evF_len w l m l.length
  have h1 := s_new06 (w, l) (by simp only; omega)
  have h2 := s_first w l m hw hdl hdm he hn
  have h3 := s_second w (turnD w l m l.length) (turnC w l m l.length) (falses l.length) (evF w l m l.length) hw (turnD_ok hw.1 hdl hdm (by omega) (by omega)) (by omega) (by simp [l2]) (by omega) (by omega)
  rw [l2] at h3
  unfold F_s_l06Run
  simp only [h1, bind_s, h2, h3]
  rfl

/- laws -/
def wheelsR (a b : Reg) : Reg × List Bool × Int :=
  if pairC a b = 0 then cond (validR (a.1, turnD a.1 a.2 b.2 a.2.length)) ((a.1, turnD a.1 a.2 b.2 a.2.length), turnC a.1 a.2 b.2 a.2.length, 0) (zeroR, [], 5) else (zeroR, [], pairC a b)

theorem wheelsR_len (a b : Reg) : ((wheelsR a b).1.2.length : Int) ≤ 16 ∧ ((wheelsR a b).2.1.length : Int) ≤ 16 := by
  unfold wheelsR
  split
  · rename_i h
    obtain ⟨w, l, m, rfl, rfl, hw, hl, he, hdl, hdm⟩ := pair_parts h
    cases validR (w, turnD w l m l.length)
    · simp
    · simp only [cond_t, turnD_len, turnC_len]; omega
  · simp

def pushR (r : Reg) (c : List Bool) : Reg × Int × Int :=
  cond (validR r) (if c.length = r.2.length then wholeR (r.1, (pushS r.1 r.2 c c.length).1) (if (pushS r.1 r.2 c c.length).2.getD (c.length - 1) false = true then 1 else 0) else (zeroR, 0, 8)) (zeroR, 0, 1)

theorem pushR_len (r : Reg) (c : List Bool) : ((pushR r c).1.2.length : Int) ≤ 16 := by
  unfold pushR
  cases validR r
  · simp
  · simp only [cond_t]
    split
    · exact wholeR_len _ _
    · simp

def slowR (a b : Reg) : Reg × Int × Int :=
  if pairC a b = 0 then wholeR (a.1, (pushS a.1 (turnD a.1 a.2 b.2 a.2.length) (turnC a.1 a.2 b.2 a.2.length) a.2.length).1) (if (pushS a.1 (turnD a.1 a.2 b.2 a.2.length) (turnC a.1 a.2 b.2 a.2.length) a.2.length).2.getD (a.2.length - 1) false = true then 1 else 0) else (zeroR, 0, pairC a b)

theorem slowR_len (a b : Reg) : ((slowR a b).1.2.length : Int) ≤ 16 := by
  unfold slowR
  split
  · exact wholeR_len _ _
  · simp

end Go.Prg
