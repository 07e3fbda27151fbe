/- Plain laws, part J: carries of a sum. Conditions: none. -/
import Derived.Test.YthiajmikeaolmaaPlI
set_option linter.all false
namespace Go.Prg
open Go.Eng

/-- the code of two registers -/
def pairC (a b : Int × List Int) : Int := cond (validR a && validR b) (if a.1 = b.1 ∧ a.2.length = b.2.length then 0 else 6) 1

theorem i_pair (a b : Int × List Int) (ha : (a.2.length : Int) ≤ 9223372036854775806) (hb : (b.2.length : Int) ≤ 9223372036854775806) : F_i_pairCode (a, b) = some (pairC a b) := by
  unfold F_i_pairCode
  simp only [i_validR a (by omega), i_validR b (by omega), bind_s, pairC, ine_e, F_i_Register_width, n2i_e, xlen_e]
  cases validR a with
  | false => simp [bnot]
  | true =>
    cases validR b with
    | false => simp [bnot]
    | true =>
      simp only [bnot_t, cond_f, Bool.and_self, cond_t]
      by_cases h1 : a.1 = b.1
      · by_cases h2 : a.2.length = b.2.length
        · simp [h1, h2]
        · have h3 : ¬ (a.2.length : Int) = b.2.length := by omega
          simp [h1, h2, h3]
      · simp [h1]

theorem s_pair (a b : Int × List Int) (ha : (a.2.length : Int) ≤ 9223372036854775806) (hb : (b.2.length : Int) ≤ 9223372036854775806) : F_s_l02Two (a, b) = some (pairC a b) := by
  unfold F_s_l02Two
  simp only [s_validR a (by omega), s_validR b (by omega), bind_s, pairC, ine_e, n2i_e, xlen_e]
  cases validR a with
  | false => simp [bnot]
  | true =>
    cases validR b with
    | false => simp [bnot]
    | true =>
      simp only [bnot_t, cond_f, Bool.and_self, cond_t]
      by_cases h1 : a.1 = b.1
      · by_cases h2 : a.2.length = b.2.length
        · simp [h1, h2]
        · have h3 : ¬ (a.2.length : Int) = b.2.length := by omega
          simp [h1, h2, h3]
      · simp [h1]

/-- the carry into place i -/
def carr (b : Int) (l m : List Int) : Nat → Int
  | 0 => 0
  | i + 1 => (l.getD i 0 + m.getD i 0 + carr b l m i).tdiv b

def carrL (b : Int) (l m : List Int) (i : Nat) : List Int := (List.range (i + 1)).map (carr b l m)
def sumL (b : Int) (l m : List Int) (i : Nat) : List Int := (List.range i).map fun j => (l.getD j 0 + m.getD j 0 + carr b l m j).tmod b

theorem carr_in {b : Int} (hb : 2 ≤ b) {l m : List Int} (hl : digitsOk b l) (hm : digitsOk b m) (he : l.length = m.length) : ∀ i, i ≤ l.length → 0 ≤ carr b l m i ∧ carr b l m i ≤ 1
  | 0, _ => by simp [carr]
  | i + 1, hi => by
    have ih := carr_in hb hl hm he i (by omega)
    have h1 := getD_all (p := fun d => 0 ≤ d ∧ d ≤ b - 1) hl (i := i) (by omega)
    have h2 := getD_all (p := fun d => 0 ≤ d ∧ d ≤ b - 1) hm (i := i) (by omega)
    simp only [carr]
    rw [Int.tdiv_eq_ediv_of_nonneg (by omega)]
    have h3 := Int.ediv_nonneg (a := l.getD i 0 + m.getD i 0 + carr b l m i) (b := b) (by omega) (by omega)
    have h4 : (l.getD i 0 + m.getD i 0 + carr b l m i) / b < 2 := Int.ediv_lt_of_lt_mul (by omega) (by omega)
    omega

theorem carrL_len (b : Int) (l m : List Int) (i : Nat) : (carrL b l m i).length = i + 1 := by simp [carrL]
theorem sumL_len (b : Int) (l m : List Int) (i : Nat) : (sumL b l m i).length = i := by simp [sumL]
theorem carrL_get (b : Int) (l m : List Int) (i : Nat) : (carrL b l m i).getD i 0 = carr b l m i := by simp [carrL, List.getD_eq_getElem?_getD]
theorem carrL_succ (b : Int) (l m : List Int) (i : Nat) : carrL b l m (i + 1) = carrL b l m i ++ [(l.getD i 0 + m.getD i 0 + carr b l m i).tdiv b] := by
  simp only [carrL]
  rw [List.range_succ, List.map_append]
  rfl
theorem sumL_succ (b : Int) (l m : List Int) (i : Nat) : sumL b l m (i + 1) = sumL b l m i ++ [(l.getD i 0 + m.getD i 0 + carr b l m i).tmod b] := by
  simp only [sumL]
  rw [List.range_succ, List.map_append]
  rfl

theorem i_added (b : Int) (l m : List Int) (hb : 2 ≤ b ∧ b ≤ 16) (hl : digitsOk b l) (hm : digitsOk b m) (he : l.length = m.length) (hn : l.length ≤ 16) : F_i_added ((b, l), (b, m)) = some ((b, sumL b l m l.length), carrL b l m l.length) := by
  unfold F_i_added
  refine iter_run (fun i => ((l.length : Int), (i : Int), b, l, b, m, (0 : Int), ([] : List Int), b, sumL b l m i, carrL b l m i)) l.length (by simp [sumL, carrL, carr, n2i, xlen]) (fun i hi => ?_) ?_
  · have hc := carr_in hb.1 hl hm he i (by omega)
    have h1 := getD_all (p := fun d => 0 ≤ d ∧ d ≤ b - 1) hl (i := i) (by omega)
    have h2 := getD_all (p := fun d => 0 ≤ d ∧ d ≤ b - 1) hm (i := i) (by omega)
    have hq := carr_in hb.1 hl hm he (i + 1) (by omega)
    simp only [carr] at hq
    have l1 := carrL_len b l m i
    have l2 := sumL_len b l m i
    have g1 := carrL_get b l m i
    simp (disch := omega) only [ilt_e, cond_pos, okIx_e, xlen_e, l1, l2, chk_pos, okDiv_e, okRoom_e, List.length_cons, List.length_nil, xget_e, i2n_e, g1, iadd_e, w64, irem_e, iquo_e, xapp_e, sumL_succ, carrL_succ]
    rfl
  · simp (disch := omega) only [ilt_e, cond_neg]

theorem s_carries (b : Int) (l m : List Int) (hb : 2 ≤ b ∧ b ≤ 16) (hl : digitsOk b l) (hm : digitsOk b m) (he : l.length = m.length) (hn : l.length ≤ 16) : F_s_l02Carries ((b, l), (b, m)) = some (carrL b l m l.length) := by
  unfold F_s_l02Carries
  refine iter_run (fun i => (carr b l m i, (i : Int), [(b, l)], [(b, m)], carrL b l m i)) l.length (by simp [carrL, carr]) (fun i hi => ?_) ?_
  · have hc := carr_in hb.1 hl hm he i (by omega)
    have h1 := getD_all (p := fun d => 0 ≤ d ∧ d ≤ b - 1) hl (i := i) (by omega)
    have h2 := getD_all (p := fun d => 0 ≤ d ∧ d ≤ b - 1) hm (i := i) (by omega)
    have hq := carr_in hb.1 hl hm he (i + 1) (by omega)
    simp only [carr] at hq
    have l1 := carrL_len b l m i
    simp (disch := omega) only [xget0, ilt_e, n2i_e, xlen_e, cond_pos, okIx_e, l1, chk_pos, okDiv_e, okRoom_e, List.length_cons, List.length_nil, xget_e, i2n_e, iadd_e, w64, iquo_e, xapp_e, carrL_succ]
    rfl
  · simp (disch := omega) only [xget0, ilt_e, n2i_e, xlen_e, cond_neg]

def carriesR (a b : Int × List Int) : List Int × Int := if pairC a b = 0 then (carrL a.1 a.2 b.2 a.2.length, 0) else ([], pairC a b)

theorem pair_all {a b : Int × List Int} (h : pairC a b = 0) : validR a = true ∧ validR b = true ∧ a.1 = b.1 ∧ a.2.length = b.2.length := by
  unfold pairC at h
  cases hv : validR a && validR b with
  | false => rw [hv] at h; simp at h
  | true =>
    rw [hv] at h
    simp only [Bool.and_eq_true] at hv
    simp only [cond_t] at h
    split at h
    · rename_i hc; exact ⟨hv.1, hv.2, hc.1, hc.2⟩
    · simp at h

theorem carriesR_len (a b : Int × List Int) : ((carriesR a b).1.length : Int) ≤ 17 := by
  unfold carriesR
  split
  · rename_i h
    have := (validR_all (pair_all h).1).2.1
    simp only [carrL_len]
    omega
  · simp

end Go.Prg
