/- Plain laws, part P: accumulators. Conditions: none. -/
import Derived.Test.YtegnnfaehhgbiaaPlO
set_option linter.all false
namespace Go.Prg
open Go.Eng

/-- an accumulator -/
def accOk (r : Reg) : Bool := validR r && fullB r.1 r.2.length

theorem acc_parts {r : Reg} (h : accOk r = true) : ∃ (b : Int) (l : List Int), r = (b, l) ∧ (2 ≤ b ∧ b ≤ 16) ∧ (1 ≤ l.length ∧ l.length ≤ 16) ∧ digitsOk b l ∧ valL b l ≤ 1000000000000 ∧ fullB b l.length = true ∧ validR (b, l) = true := by
  simp only [accOk, Bool.and_eq_true] at h
  obtain ⟨b, l⟩ := r
  obtain ⟨q1, q2, q3, q4⟩ := validR_all h.1
  exact ⟨b, l, rfl, q1, q2, q3, q4, h.2, h.1⟩

theorem valL_lt {b : Int} (hb : 2 ≤ b) : ∀ {l : List Int}, digitsOk b l → valL b l ≤ b ^ l.length - 1
  | [], _ => by simp [valL]
  | d :: ds, h => by
    have h1 := h d (by simp)
    have h2 := valL_lt hb (l := ds) (fun x hx => h x (by simp [hx]))
    have h3 := Int.mul_le_mul_of_nonneg_left h2 (show 0 ≤ b by omega)
    simp only [valL, List.length_cons, Int.pow_succ]
    rw [Int.mul_sub, Int.mul_comm b (b ^ ds.length)] at h3
    omega

theorem acc_size (r : Reg) (hl : (r.2.length : Int) ≤ 9223372036854775806) : F_i_Register_size r = some (cond (accOk r) (r.1 ^ r.2.length) 0) := by
  obtain ⟨b, l⟩ := r
  simp only at hl
  rw [i_size b l (by omega)]
  simp only [accOk]
  cases hv : validR (b, l) with
  | false => rfl
  | true =>
    simp only [Bool.true_and, cond_t]
    cases hf : fullB b l.length with
    | true => simp only [cond_t, powC_full hf]
    | false =>
      simp only [cond_f]
      unfold powC
      rw [if_neg (by simpa [fullB] using hf)]

theorem acc_size_zero (r : Reg) : ieq (cond (accOk r) (r.1 ^ r.2.length) 0) 0 = !accOk r := by
  cases h : accOk r with
  | false => rfl
  | true =>
    obtain ⟨b, l, rfl, hb, _, _, _, _⟩ := acc_parts h
    have := pow_nonneg' hb.1 l.length
    simp only [cond_t, ieq_e]
    have h2 : ¬ b ^ l.length = 0 := by omega
    simp [h2]

/-- the number that digits show -/
def numV (b : Int) (l : List Int) : Int := if valL b l ≤ b ^ l.length - 1 - b ^ l.length / 2 then valL b l else valL b l - b ^ l.length

theorem numV_in {b : Int} {l : List Int} (hb : 2 ≤ b) (hd : digitsOk b l) : 0 - b ^ l.length / 2 ≤ numV b l ∧ numV b l ≤ b ^ l.length - 1 - b ^ l.length / 2 := by
  have h1 := valL_nonneg (b := b) (by omega) hd
  have h2 := valL_lt hb hd
  unfold numV
  split <;> omega

theorem i_number (b : Int) (l : List Int) (h : accOk (b, l) = true) : F_i_Register_number (b, l) = some (numV b l) := by
  obtain ⟨b', l', e, hb, hl, hd, hv, hf, _⟩ := acc_parts h
  simp only [Prod.mk.injEq] at e
  obtain ⟨rfl, rfl⟩ := e
  have hN := fullB_le hf
  have hN1 := pow_nonneg' hb.1 l.length
  have h0 := valL_nonneg (b := b) (by omega) hd
  have hcap : cap (valL b l) = valL b l := by unfold cap; rw [if_pos hv]
  have e : (b ^ l.length).tdiv 2 = b ^ l.length / 2 := Int.tdiv_eq_ediv_of_nonneg (by omega)
  unfold F_i_Register_number
  rw [acc_size (b, l) (by simp only; omega), h, i_value b l hb.1 hb.2 hd (by omega), hcap]
  simp (disch := omega) only [bind_s, cond_t, okDiv_e, chk_pos, isub_e, iquo_e, e, w64, ile_e]
  unfold numV
  by_cases hc : valL b l ≤ b ^ l.length - 1 - b ^ l.length / 2
  · rw [cond_pos hc, if_pos hc]
  · rw [cond_neg hc, if_neg hc]

theorem full_e (b : Int) (n : Nat) (hb : 2 ≤ b ∧ b ≤ 16) (hn : n ≤ 1000) : F_s_l10Full (b, (n : Int)) = some (fullB b n) := by
  unfold F_s_l10Full
  simp only [s_power b n hb.1 hb.2 hn, bind_s, cap2_full hb.1]

theorem acc_ok (r : Reg) (hl : (r.2.length : Int) ≤ 9223372036854775806) : F_s_l09Ok r = some (accOk r) := by
  obtain ⟨b, l⟩ := r
  simp only at hl
  unfold F_s_l09Ok
  rw [s_validR' b l hl]
  simp only [bind_s, accOk]
  cases hv : validR (b, l) with
  | false => rfl
  | true =>
    obtain ⟨q1, q2, _, _⟩ := validR_all hv
    simp only at q1 q2
    simp only [cond_t, n2i_e, xlen_e, full_e b l.length q1 (by omega), bind_s, Bool.true_and]

/-- whether a number is one of N -/
def inN (N x : Int) : Bool := decide (0 - N / 2 ≤ x ∧ x ≤ N - 1 - N / 2)

theorem i_isNumber (N x : Int) (h1 : 1 ≤ N) (h2 : N ≤ 1000000000001) : F_i_isNumber (N, x) = some (inN N x) := by
  have e : N.tdiv 2 = N / 2 := Int.tdiv_eq_ediv_of_nonneg (by omega)
  unfold F_i_isNumber inN
  simp (disch := omega) only [okDiv_e, chk_pos, iquo_e, e, w64, isub_e, between_e, bind_s]

theorem s_in09 (b : Int) (n : Nat) (x : Int) (hb : 2 ≤ b ∧ b ≤ 16) (hn : n ≤ 1000) (hf : fullB b n = true) : F_s_l09In (b, ((n : Int), x)) = some (inN (b ^ n) x) := by
  have hN := fullB_le hf
  have hN1 := pow_nonneg' hb.1 n
  have e : (b ^ n).tdiv 2 = b ^ n / 2 := Int.tdiv_eq_ediv_of_nonneg (by omega)
  have hp := s_power b n hb.1 hb.2 hn
  rw [cap2_le hN] at hp
  unfold F_s_l09In F_s_l09Low inN
  simp (disch := omega) only [hp, bind_s, okDiv_e, chk_pos, iquo_e, e, w64, isub_e, l00In_e]

theorem s_number (b : Int) (l : List Int) (h : accOk (b, l) = true) : F_s_l09Number (b, l) = some (numV b l) := by
  obtain ⟨b', l', e, hb, hl, hd, hv, hf, _⟩ := acc_parts h
  simp only [Prod.mk.injEq] at e
  obtain ⟨rfl, rfl⟩ := e
  have hN := fullB_le hf
  have hN1 := pow_nonneg' hb.1 l.length
  have h0 := valL_nonneg (b := b) (by omega) hd
  have hcap : cap (valL b l) = valL b l := by unfold cap; rw [if_pos hv]
  have hp := s_power b l.length hb.1 hb.2 (by omega)
  rw [cap2_le hN] at hp
  unfold F_s_l09Number
  rw [s_value b l hb.1 hb.2 hd (by omega), hcap]
  simp only [bind_s, n2i_e, xlen_e, s_in09 b l.length (valL b l) hb (by omega) hf, hp]
  unfold numV inN
  by_cases hc : valL b l ≤ b ^ l.length - 1 - b ^ l.length / 2
  · rw [bnot_d, cond_neg (by omega), if_pos hc]
  · rw [bnot_d, cond_pos (by omega), if_neg hc]
    simp (disch := omega) only [isub_e, w64]

/-- modulo N, never negative -/
def modN (N x : Int) : Int := (x.tmod N + N).tmod N

theorem tmod_in {N x : Int} (hN : 0 < N) : -N < x.tmod N ∧ x.tmod N < N := by
  rcases Int.le_total 0 x with h | h
  · rw [Int.tmod_eq_emod_of_nonneg h]
    have h3 := Int.emod_nonneg x (show N ≠ 0 by omega)
    have h4 := Int.emod_lt_of_pos x hN
    omega
  · have e : x.tmod N = -((-x).tmod N) := by rw [Int.neg_tmod]; omega
    rw [e, Int.tmod_eq_emod_of_nonneg (by omega)]
    have h3 := Int.emod_nonneg (-x) (show N ≠ 0 by omega)
    have h4 := Int.emod_lt_of_pos (-x) hN
    omega

theorem modN_in {N : Int} (x : Int) (hN : 0 < N) : 0 ≤ modN N x ∧ modN N x ≤ N - 1 := by
  have h := tmod_in (x := x) hN
  unfold modN
  rw [Int.tmod_eq_emod_of_nonneg (by omega)]
  have h3 := Int.emod_nonneg (x.tmod N + N) (show N ≠ 0 by omega)
  have h4 := Int.emod_lt_of_pos (x.tmod N + N) hN
  omega

theorem i_accumulator (b : Int) (n : Nat) (x : Int) (hb : 2 ≤ b ∧ b ≤ 16) (hn : n ≤ 16) (hf : fullB b n = true) : F_i_accumulator (b, ((n : Int), (b ^ n, x))) = some (b, digL b (modN (b ^ n) x) n) := by
  have hN := fullB_le hf
  have hN1 := pow_nonneg' hb.1 n
  have h1 := tmod_in (N := b ^ n) (x := x) (by omega)
  have h2 := modN_in (N := b ^ n) x (by omega)
  have hr := i_registerOf b n (modN (b ^ n) x) hb hn h2.1 (by omega)
  unfold modN at hr h2
  unfold F_i_accumulator
  simp (disch := omega) only [okDiv_e, chk_pos, irem_e, iadd_e, w64, hr, bind_s]
  rfl

theorem s_set09 (b : Int) (n : Nat) (x : Int) (hb : 2 ≤ b ∧ b ≤ 16) (hn : n ≤ 16) (hf : fullB b n = true) : F_s_l09Set (b, ((n : Int), x)) = some (b, digL b (modN (b ^ n) x) n) := by
  have hN := fullB_le hf
  have hN1 := pow_nonneg' hb.1 n
  have h1 := tmod_in (N := b ^ n) (x := x) (by omega)
  have h2 := modN_in (N := b ^ n) x (by omega)
  have hr := s_new b n (modN (b ^ n) x) hb hn h2.1 (by omega)
  have hp := s_power b n hb.1 hb.2 (by omega)
  rw [cap2_le hN] at hp
  unfold modN at hr h2
  unfold F_s_l09Set
  simp (disch := omega) only [hp, bind_s, okDiv_e, chk_pos, irem_e, iadd_e, w64, hr]
  rfl

/-- an accumulator, a number added -/
def accR (b : Int) (l : List Int) (x : Int) : List Int := digL b (modN (b ^ l.length) (numV b l + x)) l.length

theorem accR_len (b : Int) (l : List Int) (x : Int) : (accR b l x).length = l.length := digL_len _ _ _

theorem accR_ok {b : Int} {l : List Int} (x : Int) (h : accOk (b, l) = true) : accOk (b, accR b l x) = true := by
  obtain ⟨b', l', e, hb, hl, hd, hv, hf, _⟩ := acc_parts h
  simp only [Prod.mk.injEq] at e
  obtain ⟨rfl, rfl⟩ := e
  have hN := fullB_le hf
  have hN1 := pow_nonneg' hb.1 l.length
  have h2 := modN_in (N := b ^ l.length) (numV b l + x) (by omega)
  simp only [accOk, accR, digL_len, hf, Bool.and_true]
  exact validR_dig hb hl h2.1 (by omega)

theorem i_accumulated (b : Int) (l : List Int) (x : Int) (h : accOk (b, l) = true) (h1 : -1000000000001 ≤ x) (h2 : x ≤ 1000000000001) :
    F_i_accumulated ((b, l), x) = some ((b, accR b l x), !inN (b ^ l.length) (numV b l + x)) := by
  obtain ⟨b', l', e, hb, hl, hd, hv, hf, _⟩ := acc_parts h
  simp only [Prod.mk.injEq] at e
  obtain ⟨rfl, rfl⟩ := e
  have hN := fullB_le hf
  have hN1 := pow_nonneg' hb.1 l.length
  have hn := numV_in hb.1 hd
  unfold F_i_accumulated F_i_Register_width
  rw [acc_size (b, l) (by simp only; omega), h, i_number b l h]
  simp (disch := omega) only [bind_s, cond_t, n2i_e, xlen_e, iadd_e, w64, i_accumulator, i_isNumber]
  rfl

theorem s_add09 (b : Int) (l : List Int) (x : Int) (h : accOk (b, l) = true) (h1 : -1000000000001 ≤ x) (h2 : x ≤ 1000000000001) :
    F_s_l09Add ((b, l), x) = some ((b, accR b l x), !inN (b ^ l.length) (numV b l + x)) := by
  obtain ⟨b', l', e, hb, hl, hd, hv, hf, _⟩ := acc_parts h
  simp only [Prod.mk.injEq] at e
  obtain ⟨rfl, rfl⟩ := e
  have hN := fullB_le hf
  have hN1 := pow_nonneg' hb.1 l.length
  have hn := numV_in hb.1 hd
  unfold F_s_l09Add
  rw [s_number b l h]
  simp (disch := omega) only [bind_s, n2i_e, xlen_e, iadd_e, w64, s_set09, s_in09 b l.length (numV b l + x) hb (by omega) hf, hf]
  rfl

def accNumR (r : Reg) (x : Int) : Reg × Bool × Int := cond (accOk r) (if -1000000000000 ≤ x ∧ x ≤ 1000000000000 then ((r.1, accR r.1 r.2 x), !inN (r.1 ^ r.2.length) (numV r.1 r.2 + x), 0) else (zeroR, false, 2)) (zeroR, false, 1)

theorem accNumR_len (r : Reg) (x : Int) : ((accNumR r x).1.2.length : Int) ≤ 16 := by
  unfold accNumR
  cases h : accOk r with
  | false => simp
  | true =>
    obtain ⟨b, l, rfl, _, hl, _⟩ := acc_parts h
    simp only [cond_t]
    split
    · simp only [accR_len]; omega
    · simp

theorem i_accNum (r : Reg) (x : Int) (hl : (r.2.length : Int) ≤ 9223372036854775806) : F_i_AccumulateNumber (r, x) = some (accNumR r x) := by
  unfold F_i_AccumulateNumber accNumR
  simp only [acc_size r hl, bind_s, acc_size_zero, between_e]
  cases h : accOk r with
  | false => rfl
  | true =>
    obtain ⟨b, l, rfl, _⟩ := acc_parts h
    simp only [Bool.not_true, cond_f, cond_t, bnot_d]
    by_cases hx : -1000000000000 ≤ x ∧ x ≤ 1000000000000
    · rw [cond_neg (by simpa using hx), if_pos hx, i_accumulated b l x h (by omega) (by omega)]; rfl
    · rw [cond_pos (by simpa using hx), if_neg hx]

theorem s_accNum (r : Reg) (x : Int) (hl : (r.2.length : Int) ≤ 9223372036854775806) : F_s_AccumulateNumber (r, x) = some (accNumR r x) := by
  unfold F_s_AccumulateNumber F_s_l09Most accNumR
  simp only [acc_ok r hl, bind_s, l00In_e]
  cases h : accOk r with
  | false => rfl
  | true =>
    obtain ⟨b, l, rfl, _⟩ := acc_parts h
    simp only [bnot_t, cond_f, cond_t, bnot_d]
    by_cases hx : -1000000000000 ≤ x ∧ x ≤ 1000000000000
    · rw [cond_neg (by simpa using hx), if_pos hx, s_add09 b l x h (by omega) (by omega)]; rfl
    · rw [cond_pos (by simpa using hx), if_neg hx]

theorem law_AccumulateNumber (a : Reg) (b : Int) (h0 : (a.2.length : Int) ≤ 9223372036854775807) : F_l_FnExactAccumulateNumber (a, b) = some true := by
  have hb := accNumR_len a b
  unfold F_l_FnExactAccumulateNumber
  obtain ⟨v0, e0, q0⟩ := sz_R a 1048576 h0 (by omega) (by omega)
  simp only [e0, bind_s, ilt_e]
  rcases q0 with rfl | ⟨q0, q0'⟩
  · rfl
  rw [cond_neg (by omega)]
  simp (disch := omega) only [bind_s, ilt_e, cond_neg, to_Register, to_Machine, to_Int64S, eq_Register, eq_Machine, eq_Int64S, mark_Register, mark_M, mark_Int64S, held_Register, held_M, held_Int64S, decide_true, bnot_t, cond_f, ine_e, not_true_eq_false, decide_false, bnev_s, s_accNum, i_accNum]

theorem FnExactAccumulateNumber_true {t1 : TypeId} (x : (Reg) × (Int)) (h : wfArgs [.val true (.pair (.int .i64) (.row false t1 (.int .i64))), .val false (.int .i64)] x) : ∃ y, F_l_FnExactAccumulateNumber x = some y ∧ hhead .bool [] y = true :=
  ⟨true, law_AccumulateNumber (x.1) (x.2) (maxLen_le (n := (x.1).2.length) h.1.2.1), rfl⟩


def negR (r : Reg) : Reg × Int := cond (accOk r) (cond (inN (r.1 ^ r.2.length) (0 - numV r.1 r.2)) ((r.1, digL r.1 (modN (r.1 ^ r.2.length) (0 - numV r.1 r.2)) r.2.length), 0) (zeroR, 5)) (zeroR, 1)

theorem negR_len (r : Reg) : ((negR r).1.2.length : Int) ≤ 16 := by
  unfold negR
  cases h : accOk r with
  | false => simp
  | true =>
    obtain ⟨b, l, rfl, _, hl, _⟩ := acc_parts h
    simp only [cond_t]
    cases inN (b ^ l.length) (0 - numV b l)
    · simp
    · simp only [cond_t, digL_len]; omega

theorem i_neg (r : Reg) (hl : (r.2.length : Int) ≤ 9223372036854775806) : F_i_NegateAccumulator r = some (negR r) := by
  unfold F_i_NegateAccumulator F_i_Register_width negR
  simp only [acc_size r hl, bind_s, acc_size_zero]
  cases h : accOk r with
  | false => rfl
  | true =>
    obtain ⟨b, l, rfl, hb, hl2, hd, hv, hf, _⟩ := acc_parts h
    have hN := fullB_le hf
    have hN1 := pow_nonneg' hb.1 l.length
    have hn := numV_in hb.1 hd
    simp (disch := omega) only [Bool.not_true, cond_f, cond_t, i_number b l h, bind_s, isub_e, w64, i_isNumber, n2i_e, xlen_e, i_accumulator b l.length (0 - numV b l) hb hl2.2 hf]
    cases inN (b ^ l.length) (0 - numV b l) <;> rfl

theorem s_neg (r : Reg) (hl : (r.2.length : Int) ≤ 9223372036854775806) : F_s_NegateAccumulator r = some (negR r) := by
  unfold F_s_NegateAccumulator F_s_SetAccumulator F_s_l09Size negR
  simp only [acc_ok r hl, bind_s]
  cases h : accOk r with
  | false => rfl
  | true =>
    obtain ⟨b, l, rfl, hb, hl2, hd, hv, hf, _⟩ := acc_parts h
    have hN := fullB_le hf
    have hN1 := pow_nonneg' hb.1 l.length
    have hn := numV_in hb.1 hd
    have hb' : decide (2 ≤ b ∧ b ≤ 16) = true := by simpa using hb
    have hl' : decide (1 ≤ (l.length : Int) ∧ (l.length : Int) ≤ 16) = true := by simp; omega
    simp (disch := omega) only [bnot_t, cond_f, cond_t, s_number b l h, bind_s, isub_e, w64, n2i_e, xlen_e, base_e, l00In_e, hb', hl', full_e b l.length hb (by omega), hf, s_in09 b l.length (0 - numV b l) hb (by omega) hf, s_set09 b l.length (0 - numV b l) hb hl2.2 hf]
    cases inN (b ^ l.length) (0 - numV b l) <;> rfl

theorem law_NegateAccumulator (a : Reg) (h0 : (a.2.length : Int) ≤ 9223372036854775807) : F_l_FnExactNegateAccumulator a = some true := by
  have hb := negR_len a
  unfold F_l_FnExactNegateAccumulator
  obtain ⟨v0, e0, q0⟩ := sz_R a 1048576 h0 (by omega) (by omega)
  simp only [e0, bind_s, ilt_e]
  rcases q0 with rfl | ⟨q0, q0'⟩
  · rfl
  rw [cond_neg (by omega)]
  simp (disch := omega) only [bind_s, ilt_e, cond_neg, to_Register, to_Machine, to_Int64S, eq_Register, eq_Machine, eq_Int64S, mark_Register, mark_M, mark_Int64S, held_Register, held_M, held_Int64S, decide_true, bnot_t, cond_f, ine_e, not_true_eq_false, decide_false, bnev_s, s_neg, i_neg]

theorem FnExactNegateAccumulator_true {t1 : TypeId} (x : (Reg)) (h : wfArgs [.val true (.pair (.int .i64) (.row false t1 (.int .i64)))] x) : ∃ y, F_l_FnExactNegateAccumulator x = some y ∧ hhead .bool [] y = true :=
  ⟨true, law_NegateAccumulator (x) (maxLen_le (n := (x).2.length) h.1.2.1), rfl⟩


def widenR (r : Reg) (w : Int) : Reg × Int := cond (accOk r) (if (r.2.length : Int) ≤ w ∧ w ≤ 16 then cond (fullB r.1 w.toNat) ((r.1, digL r.1 (modN (r.1 ^ w.toNat) (numV r.1 r.2)) w.toNat), 0) (zeroR, 5) else (zeroR, 2)) (zeroR, 1)

theorem widenR_len (r : Reg) (w : Int) : ((widenR r w).1.2.length : Int) ≤ 16 := by
  unfold widenR
  cases h : accOk r with
  | false => simp
  | true =>
    simp only [cond_t]
    split
    · cases fullB r.1 w.toNat
      · simp
      · simp only [cond_t, digL_len]; omega
    · simp

theorem i_widen (r : Reg) (w : Int) (hl : (r.2.length : Int) ≤ 9223372036854775806) : F_i_WidenAccumulator (r, w) = some (widenR r w) := by
  unfold F_i_WidenAccumulator F_i_Register_width F_i_numbersOf widenR
  simp only [acc_size r hl, bind_s, acc_size_zero]
  cases h : accOk r with
  | false => rfl
  | true =>
    obtain ⟨b, l, rfl, hb, hl2, hd, hv, hf, _⟩ := acc_parts h
    simp only [Bool.not_true, cond_f, cond_t, n2i_e, xlen_e, between_e, bind_s, bnot_d, isBase_e, isWidth_e]
    by_cases hw : (l.length : Int) ≤ w ∧ w ≤ 16
    · obtain ⟨n, rfl⟩ : ∃ n : Nat, w = n := ⟨w.toNat, by omega⟩
      have hp := i_power b n hb.1 hb.2 (by omega)
      rw [cond_neg (by simpa using hw), if_pos hw, cond_neg (by simpa using hb), cond_neg (by simp; omega), hp]
      simp only [bind_s, powC_zero hb.1, Int.toNat_natCast]
      cases hfn : fullB b n with
      | false => rfl
      | true =>
        simp only [Bool.not_true, cond_f, cond_t, i_number b l h, bind_s, powC_full hfn, i_accumulator b n (numV b l) hb (by omega) hfn]
    · rw [cond_pos (by simpa using hw), if_neg hw]

theorem s_widen (r : Reg) (w : Int) (hl : (r.2.length : Int) ≤ 9223372036854775806) : F_s_WidenAccumulator (r, w) = some (widenR r w) := by
  unfold F_s_WidenAccumulator widenR
  simp only [acc_ok r hl, bind_s]
  cases h : accOk r with
  | false => rfl
  | true =>
    obtain ⟨b, l, rfl, hb, hl2, hd, hv, hf, _⟩ := acc_parts h
    simp only [bnot_t, cond_f, cond_t, n2i_e, xlen_e, l00In_e, bind_s, bnot_d]
    by_cases hw : (l.length : Int) ≤ w ∧ w ≤ 16
    · obtain ⟨n, rfl⟩ : ∃ n : Nat, w = n := ⟨w.toNat, by omega⟩
      rw [cond_neg (by simpa using hw), if_pos hw, full_e b n hb (by omega)]
      simp only [bind_s, Int.toNat_natCast]
      cases hfn : fullB b n with
      | false => rfl
      | true =>
        simp only [bnot_t, cond_f, cond_t, s_number b l h, bind_s, s_set09 b n (numV b l) hb (by omega) hfn]
    · rw [cond_pos (by simpa using hw), if_neg hw]

theorem law_WidenAccumulator (a : Reg) (b : Int) (h0 : (a.2.length : Int) ≤ 9223372036854775807) : F_l_FnExactWidenAccumulator (a, b) = some true := by
  have hb := widenR_len a b
  unfold F_l_FnExactWidenAccumulator
  obtain ⟨v0, e0, q0⟩ := sz_R a 1048576 h0 (by omega) (by omega)
  simp only [e0, bind_s, ilt_e]
  rcases q0 with rfl | ⟨q0, q0'⟩
  · rfl
  rw [cond_neg (by omega)]
  simp (disch := omega) only [bind_s, ilt_e, cond_neg, to_Register, to_Machine, to_Int64S, eq_Register, eq_Machine, eq_Int64S, mark_Register, mark_M, mark_Int64S, held_Register, held_M, held_Int64S, decide_true, bnot_t, cond_f, ine_e, not_true_eq_false, decide_false, bnev_s, s_widen, i_widen]

theorem FnExactWidenAccumulator_true {t1 : TypeId} (x : (Reg) × (Int)) (h : wfArgs [.val true (.pair (.int .i64) (.row false t1 (.int .i64))), .val false (.int .i64)] x) : ∃ y, F_l_FnExactWidenAccumulator x = some y ∧ hhead .bool [] y = true :=
  ⟨true, law_WidenAccumulator (x.1) (x.2) (maxLen_le (n := (x.1).2.length) h.1.2.1), rfl⟩


def transR (a b : Reg) : Reg × Reg × Bool × Int :=
  cond (accOk a && accOk b) (if a.1 = b.1 then ((a.1, digL a.1 0 a.2.length), (b.1, accR b.1 b.2 (numV a.1 a.2)), !inN (b.1 ^ b.2.length) (numV b.1 b.2 + numV a.1 a.2), 0) else (zeroR, zeroR, false, 6)) (zeroR, zeroR, false, 1)

theorem transR_len (a b : Reg) : ((transR a b).1.2.length : Int) ≤ 16 ∧ ((transR a b).2.1.2.length : Int) ≤ 16 := by
  unfold transR
  cases h1 : accOk a with
  | false => simp
  | true =>
    cases h2 : accOk b with
    | false => simp
    | true =>
      obtain ⟨w, l, rfl, _, hl, _⟩ := acc_parts h1
      obtain ⟨w', l', rfl, _, hl', _⟩ := acc_parts h2
      simp only [Bool.and_self, cond_t]
      split
      · simp only [accR_len, digL_len]; omega
      · simp

theorem i_trans (a b : Reg) (ha : (a.2.length : Int) ≤ 9223372036854775806) (hb : (b.2.length : Int) ≤ 9223372036854775806) : F_i_TransferTo (a, b) = some (transR a b) := by
  unfold F_i_TransferTo F_i_Register_width transR
  simp only [acc_size a ha, acc_size b hb, bind_s, acc_size_zero]
  cases h1 : accOk a with
  | false => rfl
  | true =>
    cases h2 : accOk b with
    | false => rfl
    | true =>
      obtain ⟨w, l, rfl, hw, hl, hd, hv, hf, _⟩ := acc_parts h1
      obtain ⟨w', l', rfl, hw', hl', hd', hv', hf', _⟩ := acc_parts h2
      have hn := numV_in hw.1 hd
      have hN := fullB_le hf
      have hN1 := pow_nonneg' hw.1 l.length
      simp only [Bool.not_true, cond_f, Bool.and_self, cond_t, ine_e]
      by_cases he : w = w'
      · subst he
        simp only [not_true_eq_false, decide_false, cond_f, if_true, n2i_e, xlen_e, i_registerOf w l.length 0 hw hl.2 (by omega) (by omega), bind_s, i_number w l h1, i_accumulated w l' (numV w l) h2 (by omega) (by omega)]
      · rw [cond_pos he, if_neg he]

theorem s_trans (a b : Reg) (ha : (a.2.length : Int) ≤ 9223372036854775806) (hb : (b.2.length : Int) ≤ 9223372036854775806) : F_s_TransferTo (a, b) = some (transR a b) := by
  unfold F_s_TransferTo transR
  simp only [acc_ok a ha, acc_ok b hb, bind_s]
  cases h1 : accOk a with
  | false => rfl
  | true =>
    cases h2 : accOk b with
    | false => rfl
    | true =>
      obtain ⟨w, l, rfl, hw, hl, hd, hv, hf, _⟩ := acc_parts h1
      obtain ⟨w', l', rfl, hw', hl', hd', hv', hf', _⟩ := acc_parts h2
      have hn := numV_in hw.1 hd
      have hN := fullB_le hf
      have hN1 := pow_nonneg' hw.1 l.length
      simp only [bnot_t, cond_f, Bool.and_self, cond_t, ine_e]
      by_cases he : w = w'
      · subst he
        simp only [not_true_eq_false, decide_false, cond_f, if_true, n2i_e, xlen_e, s_new w l.length 0 hw hl.2 (by omega) (by omega), bind_s, s_number w l h1, s_add09 w l' (numV w l) h2 (by omega) (by omega)]
      · rw [cond_pos he, if_neg he]

theorem law_TransferTo (a : Reg) (b : Reg) (h0 : (a.2.length : Int) ≤ 9223372036854775807) (h1 : (b.2.length : Int) ≤ 9223372036854775807) : F_l_FnExactTransferTo (a, b) = some true := by
  have hb := (transR_len a b).1
  have hb2 := (transR_len a b).2
  unfold F_l_FnExactTransferTo
  obtain ⟨v0, e0, q0⟩ := sz_R a 1048576 h0 (by omega) (by omega)
  simp only [e0, bind_s, ilt_e]
  rcases q0 with rfl | ⟨q0, q0'⟩
  · rfl
  rw [cond_neg (by omega)]
  obtain ⟨v1, e1, q1⟩ := sz_R b v0 h1 (by omega) (by omega)
  simp only [e1, bind_s, ilt_e]
  rcases q1 with rfl | ⟨q1, q1'⟩
  · rfl
  rw [cond_neg (by omega)]
  simp (disch := omega) only [bind_s, ilt_e, cond_neg, to_Register, to_Machine, to_Int64S, eq_Register, eq_Machine, eq_Int64S, mark_Register, mark_M, mark_Int64S, held_Register, held_M, held_Int64S, decide_true, bnot_t, cond_f, ine_e, not_true_eq_false, decide_false, bnev_s, s_trans, i_trans]

theorem FnExactTransferTo_true {t1 : TypeId} (x : (Reg) × (Reg)) (h : wfArgs [.val true (.pair (.int .i64) (.row false t1 (.int .i64))), .val true (.pair (.int .i64) (.row false t1 (.int .i64)))] x) : ∃ y, F_l_FnExactTransferTo x = some y ∧ hhead .bool [] y = true :=
  ⟨true, law_TransferTo (x.1) (x.2) (maxLen_le (n := (x.1).2.length) h.1.2.1) (maxLen_le (n := (x.2).2.length) h.2.1.2.1), rfl⟩


end Go.Prg
