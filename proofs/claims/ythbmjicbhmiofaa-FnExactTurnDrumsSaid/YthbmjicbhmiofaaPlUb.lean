/- Plain laws, part Ub: stepped drums. Conditions: none. -/
import Derived.Test.YthbmjicbhmiofaaPlUa
set_option linter.all false
namespace Go.Prg
open Go.Eng

def drumOk (k b t s : Int) : Bool := decide (1 ≤ k ∧ k ≤ 3) && (decide (2 ≤ b ∧ b ≤ 16) && (decide (b ≤ t ∧ t ≤ 60) && (cond (decide (k = 3)) (decide (s = 0)) (decide (1 ≤ s ∧ s ≤ t - b + 2)))))

theorem i_validDrum (k b t s : Int) : F_i_ValidDrum (k, (b, (t, s))) = some (drumOk k b t s) := by
  unfold F_i_ValidDrum drumOk
  simp only [between_e, isBase_e, bind_s, bnot_d, ieq_e]
  by_cases h1 : 1 ≤ k ∧ k ≤ 3
  · rw [cond_neg (fun h => h h1), decide_eq_true h1]
    by_cases h2 : 2 ≤ b ∧ b ≤ 16
    · rw [cond_neg (fun h => h h2), decide_eq_true h2]
      by_cases h3 : b ≤ t ∧ t ≤ 60
      · rw [cond_neg (fun h => h h3), decide_eq_true h3]
        by_cases h4 : k = 3
        · rw [cond_pos h4, cond_pos h4]; rfl
        · rw [cond_neg h4, cond_neg h4]
          simp (disch := omega) only [isub_e, iadd_e, w64]
          rfl
      · rw [cond_pos h3, decide_eq_false h3]; rfl
    · rw [cond_pos h2, decide_eq_false h2]; rfl
  · rw [cond_pos h1, decide_eq_false h1]; rfl

theorem s_validDrum (k b t s : Int) : F_s_l05Ok (k, (b, (t, s))) = some (drumOk k b t s) := by
  unfold F_s_l05Ok drumOk
  simp only [l00In_e, base_e, bind_s, bnot_d, ieq_e]
  by_cases h1 : 1 ≤ k ∧ k ≤ 3
  · rw [cond_neg (fun h => h h1), decide_eq_true h1]
    by_cases h2 : 2 ≤ b ∧ b ≤ 16
    · rw [cond_neg (fun h => h h2), decide_eq_true h2]
      by_cases h3 : b ≤ t ∧ t ≤ 60
      · rw [cond_neg (fun h => h h3), decide_eq_true h3]
        by_cases h4 : k = 3
        · rw [cond_pos h4, cond_pos h4]; rfl
        · rw [cond_neg h4, cond_neg h4]
          simp (disch := omega) only [isub_e, iadd_e, w64]
          rfl
      · rw [cond_pos h3, decide_eq_false h3]; rfl
    · rw [cond_pos h2, decide_eq_false h2]; rfl
  · rw [cond_pos h1, decide_eq_false h1]; rfl

theorem drum_parts {k b t s : Int} (h : drumOk k b t s = true) : (1 ≤ k ∧ k ≤ 3) ∧ (2 ≤ b ∧ b ≤ 16) ∧ (b ≤ t ∧ t ≤ 60) ∧ (0 ≤ s ∧ s ≤ 60) := by
  simp only [drumOk, Bool.and_eq_true, decide_eq_true_eq] at h
  obtain ⟨h1, h2, h3, h4⟩ := h
  refine ⟨h1, h2, h3, ?_⟩
  by_cases hk : k = 3
  · rw [cond_pos hk, decide_eq_true_eq] at h4; omega
  · rw [cond_neg hk, decide_eq_true_eq] at h4; omega

/-- the time of a step -/
def timeD (k b t s d j : Int) : Int := if k = 1 then s + b - 1 - d + j else if k = 2 then s + j else ((j + 1) * t + d - 1).tdiv d

/-- the steps up to a time -/
def cntD (k b t s d z : Int) : Nat → Int
  | 0 => z.tdiv t * d
  | j + 1 => if timeD k b t s d j ≤ z.tmod t then cntD k b t s d z j + 1 else cntD k b t s d z j

section drum
variable {k b t s d z : Int} (hD : drumOk k b t s = true) (hd : 0 ≤ d ∧ d ≤ 15) (hz : 0 ≤ z ∧ z ≤ 100000)
include hD hd hz

theorem cntD_in : ∀ j : Nat, 0 ≤ cntD k b t s d z j ∧ cntD k b t s d z j ≤ 1500000 + j
  | 0 => by
    obtain ⟨_, h2, h3, _⟩ := drum_parts hD
    simp only [cntD]
    rw [Int.tdiv_eq_ediv_of_nonneg hz.1]
    have a1 := Int.ediv_nonneg (a := z) (b := t) hz.1 (by omega)
    have a2 := Int.ediv_le_self t hz.1
    have a3 := Int.mul_nonneg a1 hd.1
    have a4 : z / t * d ≤ 100000 * 15 := Int.mul_le_mul (by omega) hd.2 hd.1 (by omega)
    omega
  | j + 1 => by
    have ih := cntD_in j
    simp only [cntD]
    split <;> omega

omit hz in
theorem mulT {j : Int} (hj : 0 ≤ j ∧ j ≤ 15) : 0 ≤ (j + 1) * t ∧ (j + 1) * t ≤ 960 := by
  obtain ⟨_, h2, h3, _⟩ := drum_parts hD
  have a1 := Int.mul_nonneg (show 0 ≤ j + 1 by omega) (show 0 ≤ t by omega)
  have a2 : (j + 1) * t ≤ 16 * 60 := Int.mul_le_mul (by omega) h3.2 (by omega) (by omega)
  omega

omit hz in
theorem divT {j : Int} (hj : 0 ≤ j ∧ j < d) : 0 ≤ ((j + 1) * t + d - 1).tdiv d ∧ ((j + 1) * t + d - 1).tdiv d ≤ 1000 := by
  have m := mulT hD hd (j := j) (by omega)
  rw [Int.tdiv_eq_ediv_of_nonneg (by omega)]
  have a1 := Int.ediv_nonneg (a := (j + 1) * t + d - 1) (b := d) (by omega) (by omega)
  have a2 := Int.ediv_le_self d (show 0 ≤ (j + 1) * t + d - 1 by omega)
  omega

omit hz in
theorem s_time {j : Int} (hj : 0 ≤ j ∧ j < d) : F_s_l05Time ((k, (b, (t, s))), (d, j)) = some (timeD k b t s d j) := by
  obtain ⟨h1, h2, h3, h4⟩ := drum_parts hD
  have m := mulT hD hd (j := j) (by omega)
  have q := divT hD hd hj
  unfold F_s_l05Time timeD
  simp only [ieq_e]
  by_cases c1 : k = 1
  · rw [cond_pos c1, if_pos c1]
    simp (disch := omega) only [iadd_e, isub_e, w64]
  · rw [cond_neg c1, if_neg c1]
    by_cases c2 : k = 2
    · rw [cond_pos c2, if_pos c2]
      simp (disch := omega) only [iadd_e, isub_e, w64]
    · rw [cond_neg c2, if_neg c2]
      simp (disch := omega) only [iadd_e, isub_e, imul_e, iquo_e, okDiv_e, chk_pos, w64]

theorem s_by : F_s_l05By ((k, (b, (t, s))), (d, z)) = some (cntD k b t s d z d.toNat) := by
  obtain ⟨h1, h2, h3, h4⟩ := drum_parts hD
  have h0 := cntD_in hD hd hz 0
  simp only [cntD] at h0
  have hq : 0 ≤ z.tdiv t ∧ z.tdiv t ≤ 100000 := by
    rw [Int.tdiv_eq_ediv_of_nonneg hz.1]
    have a1 := Int.ediv_nonneg (a := z) (b := t) hz.1 (by omega)
    have a2 := Int.ediv_le_self t hz.1
    omega
  unfold F_s_l05By
  simp (disch := omega) only [okDiv_e, chk_pos, iquo_e, imul_e, w64]
  refine iter_run (fun j => (d, z, cntD k b t s d z j, (j : Int), [(k, (b, (t, s)))])) d.toNat (by simp [cntD]) (fun j hj => ?_) ?_
  · have hc := cntD_in hD hd hz j
    have ht := s_time hD hd (j := (j : Int)) (by omega)
    simp (disch := omega) only [xget0, ilt_e, cond_pos, ht, bind_s, okDiv_e, chk_pos, ile_e, irem_e, iadd_e, w64, cntD]
    by_cases hc : timeD k b t s d j ≤ z.tmod t
    · refine Eq.trans (chk_pos (show ¬ t = 0 by omega)) ?_
      rw [cond_pos hc, if_pos hc]; rfl
    · refine Eq.trans (chk_pos (show ¬ t = 0 by omega)) ?_
      rw [cond_neg hc, if_neg hc]; rfl
  · simp (disch := omega) only [ilt_e, cond_neg]

def timesL (k b t s d : Int) (n : Nat) : List Int := (List.range n).map fun j : Nat => timeD k b t s d (j : Int)
omit hD hd hz in
theorem timesL_len (n : Nat) : (timesL k b t s d n).length = n := by simp [timesL]
omit hD hd hz in
theorem timesL_succ (n : Nat) : timesL k b t s d (n + 1) = timesL k b t s d n ++ [timeD k b t s d n] := by
  simp only [timesL]; rw [List.range_succ, List.map_append]; rfl
omit hD hd hz in
theorem timesL_get {n j : Nat} (h : j < n) : (timesL k b t s d n).getD j 0 = timeD k b t s d j := by
  simp [timesL, List.getD_eq_getElem?_getD, h]

omit hz in
theorem i_times : F_i_Drum_times ((k, (b, (t, s))), d) = some (timesL k b t s d d.toNat) := by
  obtain ⟨h1, h2, h3, h4⟩ := drum_parts hD
  unfold F_i_Drum_times
  refine iter_run (fun j => (d, d, (j : Int), k, b, t, s, timesL k b t s d j)) d.toNat (by simp [timesL]) (fun j hj => ?_) ?_
  · have hl := timesL_len (k := k) (b := b) (t := t) (s := s) (d := d) j
    have m := mulT hD hd (j := (j : Int)) (by omega)
    have q := divT hD hd (j := (j : Int)) (by omega)
    have e : timesL k b t s d (j + 1) = timesL k b t s d j ++ [timeD k b t s d j] := timesL_succ j
    simp only [ilt_e, ieq_e]
    rw [cond_pos (by omega)]
    by_cases c1 : k = 1
    · rw [cond_pos c1]
      simp (disch := omega) only [okRoom_e, xlen_e, hl, List.length_cons, List.length_nil, chk_pos, iadd_e, isub_e, w64, xapp_e, e, timeD, if_pos c1]
      rfl
    · rw [cond_neg c1]
      by_cases c2 : k = 2
      · rw [cond_pos c2]
        simp (disch := omega) only [okRoom_e, xlen_e, hl, List.length_cons, List.length_nil, chk_pos, iadd_e, isub_e, w64, xapp_e, e, timeD, if_neg c1, if_pos c2]
        rfl
      · rw [cond_neg c2]
        simp (disch := omega) only [okDiv_e, okRoom_e, xlen_e, hl, List.length_cons, List.length_nil, chk_pos, iadd_e, isub_e, imul_e, iquo_e, w64, xapp_e, e, timeD, if_neg c1, if_neg c2]
        rfl
  · simp (disch := omega) only [ilt_e, cond_neg]

theorem i_steps : F_i_Drum_steps ((k, (b, (t, s))), (d, z)) = some (cntD k b t s d z d.toNat) := by
  obtain ⟨h1, h2, h3, h4⟩ := drum_parts hD
  have h0 := cntD_in hD hd hz 0
  simp only [cntD] at h0
  have hq : 0 ≤ z.tdiv t ∧ z.tdiv t ≤ 100000 := by
    rw [Int.tdiv_eq_ediv_of_nonneg hz.1]
    have a1 := Int.ediv_nonneg (a := z) (b := t) hz.1 (by omega)
    have a2 := Int.ediv_le_self t hz.1
    omega
  have hl := timesL_len (k := k) (b := b) (t := t) (s := s) (d := d) d.toNat
  unfold F_i_Drum_steps
  simp (disch := omega) only [okDiv_e, chk_pos, i_times hD hd, bind_s, iquo_e, imul_e, w64, n2i_e, xlen_e, hl]
  refine iter_run (fun j => (z, cntD k b t s d z j, ((d.toNat : Nat) : Int), (j : Int), k, b, t, s, timesL k b t s d d.toNat)) d.toNat (by simp [cntD]) (fun j hj => ?_) ?_
  · have hc := cntD_in hD hd hz j
    have hg := timesL_get (k := k) (b := b) (t := t) (s := s) (d := d) hj
    simp (disch := omega) only [ilt_e, cond_pos, okIx_e, xlen_e, hl, okDiv_e, chk_pos, xget_e, i2n_e, hg, ile_e, irem_e, iadd_e, w64, cntD]
    by_cases hc : timeD k b t s d j ≤ z.tmod t
    · rw [cond_pos hc, if_pos hc]; rfl
    · rw [cond_neg hc, if_neg hc]; rfl
  · simp (disch := omega) only [ilt_e, cond_neg]

end drum

/-- the wheels after the drum has turned -/
def drumL (k b t s z : Int) (l m : List Int) (n : Nat) : List Int := (List.range n).map fun i => (l.getD i 0 + cntD k b t s (m.getD i 0) z (m.getD i 0).toNat).tmod b
theorem drumL_len (k b t s z : Int) (l m : List Int) (n : Nat) : (drumL k b t s z l m n).length = n := by simp [drumL]
theorem drumL_succ (k b t s z : Int) (l m : List Int) (n : Nat) : drumL k b t s z l m (n + 1) = drumL k b t s z l m n ++ [(l.getD n 0 + cntD k b t s (m.getD n 0) z (m.getD n 0).toNat).tmod b] := by
  simp only [drumL]; rw [List.range_succ, List.map_append]; rfl

def soleR (r : Reg) : Reg × Int := cond (validR r) (r, 0) (zeroR, 5)
theorem i_soleR (b : Int) (l : List Int) (h : (l.length : Int) ≤ 9223372036854775806) : F_i_sole (b, l) = some (soleR (b, l)) := by
  unfold F_i_sole soleR
  simp only [i_validR' b l h, bind_s]
  cases validR (b, l) <;> rfl

def drumR (k b t s : Int) (x y : Reg) (z : Int) : Reg × Int :=
  cond (drumOk k b t s) (if pairC x y = 0 then if b = x.1 then if 0 ≤ z ∧ z ≤ 100000 then soleR (x.1, drumL k b t s z x.2 y.2 x.2.length) else (zeroR, 2) else (zeroR, 6) else (zeroR, pairC x y)) (zeroR, 1)

theorem drumR_len (k b t s : Int) (x y : Reg) (z : Int) : ((drumR k b t s x y z).1.2.length : Int) ≤ 16 := by
  unfold drumR
  cases drumOk k b t s with
  | false => simp
  | true =>
    simp only [cond_t]
    split
    · rename_i h
      obtain ⟨w, l, m, rfl, rfl, hw, hl, he, hdl, hdm⟩ := pair_parts h
      split
      · split
        · unfold soleR
          cases validR _
          · simp
          · simp only [cond_t, drumL_len]; omega
        · simp
      · simp
    · simp

theorem s_turnDrums (k b t s : Int) (x y : Reg) (z : Int) (hx : (x.2.length : Int) ≤ 1048576) (hy : (y.2.length : Int) ≤ 1048576) : F_s_TurnDrums ((k, (b, (t, s))), (x, (y, z))) = some (drumR k b t s x y z) := by
  unfold F_s_TurnDrums drumR
  simp only [s_validDrum, bind_s]
  cases hD : drumOk k b t s with
  | false => rfl
  | true =>
    simp only [bnot_t, cond_f, cond_t, s_pair x y (by omega) (by omega), bind_s, ine_e]
    by_cases h : pairC x y = 0
    · obtain ⟨w, l, m, rfl, rfl, hw, hl, he, hdl, hdm⟩ := pair_parts h
      rw [if_pos h, cond_neg (by simpa using h)]
      by_cases hb : b = w
      · subst hb
        rw [if_pos rfl, cond_neg (by simp)]
        simp only [l00In_e, bind_s, bnot_d]
        by_cases hz : 0 ≤ z ∧ z ≤ 100000
        · rw [cond_neg (fun h => h hz), if_pos hz]
          refine iter_run (fun i => (z, (i : Int), k, b, t, s, b, l, b, m, (0 : Int), ([] : List Int), b, drumL k b t s z l m i)) l.length (by simp [drumL]) (fun i hi => ?_) ?_
          · have g1 := getD_all (p := fun d => 0 ≤ d ∧ d ≤ b - 1) hdl (i := i) (by omega)
            have g2 := getD_all (p := fun d => 0 ≤ d ∧ d ≤ b - 1) hdm (i := i) (by omega)
            have hc := cntD_in hD (d := m.getD i 0) (by omega) hz (m.getD i 0).toNat
            have hs := s_by hD (d := m.getD i 0) (by omega) hz
            have hlen := drumL_len k b t s z l m i
            simp (disch := omega) only [ilt_e, n2i_e, xlen_e, cond_pos, okIx_e, chk_pos, xget_e, i2n_e, hs, bind_s, okDiv_e, okRoom_e, hlen, List.length_cons, List.length_nil, irem_e, iadd_e, w64, xapp_e, drumL_succ]
            rfl
          · have hlen := drumL_len k b t s z l m l.length
            have hv := s_validR' b (drumL k b t s z l m l.length) (by omega)
            simp (disch := omega) only [ilt_e, n2i_e, xlen_e, cond_neg, hv, bind_s]
            unfold soleR
            cases validR (b, drumL k b t s z l m l.length) <;> rfl
        · rw [cond_pos hz, if_neg hz]
      · rw [if_neg hb, cond_pos hb]
    · rw [if_neg h, cond_pos h]

theorem i_turnDrums (k b t s : Int) (x y : Reg) (z : Int) (hx : (x.2.length : Int) ≤ 1048576) (hy : (y.2.length : Int) ≤ 1048576) : F_i_TurnDrums ((k, (b, (t, s))), (x, (y, z))) = some (drumR k b t s x y z) := by
  unfold F_i_TurnDrums drumR F_i_Register_width F_i_isTime
  simp only [i_validDrum, bind_s]
  cases hD : drumOk k b t s with
  | false => rfl
  | true =>
    simp only [bnot_t, cond_f, cond_t, i_validR x (by omega), i_validR y (by omega), bind_s, ine_e, n2i_e, xlen_e, between_e, bnot_d]
    cases hvx : validR x with
    | false =>
      have : pairC x y = 1 := by unfold pairC; rw [hvx]; rfl
      rw [this]; rfl
    | true =>
      cases hvy : validR y with
      | false =>
        have : pairC x y = 1 := by unfold pairC; rw [hvx, hvy]; rfl
        rw [this]; rfl
      | true =>
        have hp : pairC x y = if x.1 = y.1 ∧ x.2.length = y.2.length then 0 else 6 := by unfold pairC; rw [hvx, hvy]; rfl
        simp only [bnot_t, cond_f]
        by_cases hb : x.1 = b
        · rw [cond_neg (by simpa using hb)]
          by_cases hb2 : y.1 = b
          · rw [cond_neg (by simpa using hb2)]
            by_cases hl2 : x.2.length = y.2.length
            · have hp0 : pairC x y = 0 := by rw [hp, if_pos ⟨by omega, hl2⟩]
              obtain ⟨w, l, m, rfl, rfl, hw, hl, he, hdl, hdm⟩ := pair_parts hp0
              simp only at hb
              subst hb
              rw [if_pos hp0, if_pos rfl, cond_neg (by simp only; omega)]
              by_cases hz : 0 ≤ z ∧ z ≤ 100000
              · rw [cond_neg (fun h => h hz), if_pos hz]
                refine iter_run (fun i => (z, (l.length : Int), (i : Int), k, w, t, s, w, m, (0 : Int), ([] : List Int), w, drumL k w t s z l m i, l)) l.length (by simp [drumL]) (fun i hi => ?_) ?_
                · have g1 := getD_all (p := fun d => 0 ≤ d ∧ d ≤ w - 1) hdl (i := i) (by omega)
                  have g2 := getD_all (p := fun d => 0 ≤ d ∧ d ≤ w - 1) hdm (i := i) (by omega)
                  have hc := cntD_in hD (d := m.getD i 0) (by omega) hz (m.getD i 0).toNat
                  have hs := i_steps hD (d := m.getD i 0) (by omega) hz
                  have hlen := drumL_len k w t s z l m i
                  simp (disch := omega) only [ilt_e, cond_pos, okIx_e, xlen_e, chk_pos, xget_e, i2n_e, hs, bind_s, okDiv_e, okRoom_e, hlen, List.length_cons, List.length_nil, irem_e, iadd_e, w64, xapp_e, drumL_succ]
                  rfl
                · have hlen := drumL_len k w t s z l m l.length
                  have hv := i_soleR w (drumL k w t s z l m l.length) (by omega)
                  simp (disch := omega) only [ilt_e, cond_neg, hv, bind_s]
                  rfl
              · rw [cond_pos hz, if_neg hz]
            · have hp6 : pairC x y = 6 := by rw [hp, if_neg (fun h => hl2 h.2)]
              rw [if_neg (by omega), hp6, cond_pos (by omega)]
          · have hp6 : pairC x y = 6 := by rw [hp, if_neg (fun h => hb2 (by omega))]
            rw [cond_pos hb2, if_neg (by omega), hp6]
        · rw [cond_pos hb]
          by_cases hp0 : pairC x y = 0
          · rw [if_pos hp0, if_neg (by omega)]
          · rw [if_neg hp0]
            have hp6 : pairC x y = 6 := by
              rw [hp] at hp0 ⊢
              split at hp0
              · omega
              · rename_i h; rw [if_neg h]
            rw [hp6]

theorem to_Drum (k b t s : Int) : F_l_toDrum (k, (b, (t, s))) = some (k, (b, (t, s))) := rfl

theorem law_TurnDrums (k b t s : Int) (x y : Reg) (z : Int) (h0 : (x.2.length : Int) ≤ 9223372036854775807) (h1 : (y.2.length : Int) ≤ 9223372036854775807) : F_l_FnExactTurnDrums ((k, (b, (t, s))), (x, (y, z))) = some true := by
  have hb := drumR_len k b t s x y z
  unfold F_l_FnExactTurnDrums
  obtain ⟨v0, e0, q0⟩ := sz_R x 1048576 h0 (by omega) (by omega)
  simp only [e0, bind_s, ilt_e]
  rcases q0 with rfl | ⟨q0, q0'⟩
  · rfl
  rw [cond_neg (by omega)]
  obtain ⟨v1, e1, q1⟩ := sz_R y v0 h1 (by omega) (by omega)
  simp only [e1, bind_s, ilt_e]
  rcases q1 with rfl | ⟨q1, q1'⟩
  · rfl
  rw [cond_neg (by omega)]
  simp (disch := omega) only [bind_s, ilt_e, cond_neg, to_Drum, to_Register, s_turnDrums, i_turnDrums, eq_Register, mark_Register, held_Register, decide_true, bnot_t, cond_f, ine_e, not_true_eq_false, decide_false]

theorem FnExactTurnDrums_true {t1 : TypeId} (x : (Int × Int × Int × Int) × Reg × Reg × Int) (h : wfArgs [.val true (.pair (.int .i64) (.pair (.int .i64) (.pair (.int .i64) (.int .i64)))), .val true (.pair (.int .i64) (.row false t1 (.int .i64))), .val true (.pair (.int .i64) (.row false t1 (.int .i64))), .val false (.int .i64)] x) : ∃ y, F_l_FnExactTurnDrums x = some y ∧ hhead .bool [] y = true :=
  ⟨true, law_TurnDrums x.1.1 x.1.2.1 x.1.2.2.1 x.1.2.2.2 x.2.1 x.2.2.1 x.2.2.2 (maxLen_le (n := x.2.1.2.length) h.2.1.2.1) (maxLen_le (n := x.2.2.1.2.length) h.2.2.1.2.1), rfl⟩

end Go.Prg
