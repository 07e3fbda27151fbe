/- Plain laws, part P: accumulators. Conditions: none. -/
import Derived.Test.YtjkaapoklbhokaaDoorPlO
set_option linter.all false
namespace Go.Prg
open Go.Eng

/-- an accumulator -/
def accOk (r : Reg) : Bool := validR r && fullB r.1 r.2.length

theorem acc_parts {r : Reg} (h : accOk r = true) : ∃ (b : Int) (l : List Int), r = (b, l) ∧ (2 ≤ b ∧ b ≤ 16) ∧ (1 ≤ l.length ∧ l.length ≤ 16) ∧ digitsOk b l ∧ valL b l ≤ 1000000000000 ∧ fullB b l.length = true ∧ validR (b, l) = true := by
  simp only [accOk, Bool.and_eq_true] at h
  obtain ⟨b, l⟩ := r
  obtain ⟨q1, q2, q3, q4⟩ := validR_all h.1
  exact ⟨b, l, rfl, q1, q2, q3, q4, h.2, h.1⟩

theorem valL_lt {b : Int} (hb : 2 ≤ b) : ∀ {l : List Int}, digitsOk b l → valL b l ≤ b ^ l.length - 1
  | [], _ => by simp [valL]
  | d :: ds, h => by
    have h1 := h d (by simp)
    have h2 := valL_lt hb (l := ds) (fun x hx => h x (by simp [hx]))
    have h3 := Int.mul_le_mul_of_nonneg_left h2 (show 0 ≤ b by omega)
    simp only [valL, List.length_cons, Int.pow_succ]
    rw [Int.mul_sub, Int.mul_comm b (b ^ ds.length)] at h3
    omega

theorem acc_size (r : Reg) (hl : (r.2.length : Int) ≤ 9223372036854775806) : F_i_Register_size r = some (cond (accOk r) (r.1 ^ r.2.length) 0) := by
  obtain ⟨b, l⟩ := r
  simp only at hl
  rw [i_size b l (by omega)]
  simp only [accOk]
  cases hv : validR (b, l) with
  | false => rfl
  | true =>
    simp only [Bool.true_and, cond_t]
    cases hf : fullB b l.length with
    | true => simp only [cond_t, powC_full hf]
    | false =>
      simp only [cond_f]
      unfold powC
      rw [if_neg (by simpa [fullB] using hf)]

theorem acc_size_zero (r : Reg) : ieq (cond (accOk r) (r.1 ^ r.2.length) 0) 0 = !accOk r := by
  cases h : accOk r with
  | false => rfl
  | true =>
    obtain ⟨b, l, rfl, hb, _, _, _, _⟩ := acc_parts h
    have := pow_nonneg' hb.1 l.length
    simp only [cond_t, ieq_e]
    have h2 : ¬ b ^ l.length = 0 := by omega
    simp [h2]

/-- the number that digits show -/
def numV (b : Int) (l : List Int) : Int := if valL b l ≤ b ^ l.length - 1 - b ^ l.length / 2 then valL b l else valL b l - b ^ l.length

theorem numV_in {b : Int} {l : List Int} (hb : 2 ≤ b) (hd : digitsOk b l) : 0 - b ^ l.length / 2 ≤ numV b l ∧ numV b l ≤ b ^ l.length - 1 - b ^ l.length / 2 := by
  have h1 := valL_nonneg (b := b) (by omega) hd
  have h2 := valL_lt hb hd
  unfold numV
  split <;> omega

theorem i_number (b : Int) (l : List Int) (h : accOk (b, l) = true) : F_i_Register_number (b, l) = some (numV b l) := by
  obtain ⟨b', l', e, hb, hl, hd, hv, hf, _⟩ := acc_parts h
  simp only [Prod.mk.injEq] at e
  obtain ⟨rfl, rfl⟩ := e
  have hN := fullB_le hf
  have hN1 := pow_nonneg' hb.1 l.length
  have h0 := valL_nonneg (b := b) (by omega) hd
  have hcap : cap (valL b l) = valL b l := by unfold cap; rw [if_pos hv]
  have e : (b ^ l.length).tdiv 2 = b ^ l.length / 2 := Int.tdiv_eq_ediv_of_nonneg (by omega)
  unfold F_i_Register_number
  rw [acc_size (b, l) (by simp only; omega), h, i_value b l hb.1 hb.2 hd (by omega), hcap]
  simp (disch := omega) only [bind_s, cond_t, okDiv_e, chk_pos, isub_e, iquo_e, e, w64, ile_e]
  unfold numV
  by_cases hc : valL b l ≤ b ^ l.length - 1 - b ^ l.length / 2
  · rw [cond_pos hc, if_pos hc]
  · rw [cond_neg hc, if_neg hc]

theorem full_e (b : Int) (n : Nat) (hb : 2 ≤ b ∧ b ≤ 16) (hn : n ≤ 1000) : F_s_l10Full (b, (n : Int)) = some (fullB b n) := by
  unfold F_s_l10Full
  simp only [s_power b n hb.1 hb.2 hn, bind_s, cap2_full hb.1]

theorem acc_ok (r : Reg) (hl : (r.2.length : Int) ≤ 9223372036854775806) : F_s_l09Ok r = some (accOk r) := by
  obtain ⟨b, l⟩ := r
  simp only at hl
  unfold F_s_l09Ok
  rw [s_validR' b l hl]
  simp only [bind_s, accOk]
  cases hv : validR (b, l) with
  | false => rfl
  | true =>
    obtain ⟨q1, q2, _, _⟩ := validR_all hv
    simp only at q1 q2
    simp only [cond_t, n2i_e, xlen_e, full_e b l.length q1 (by omega), bind_s, Bool.true_and]

/-- whether a number is one of N -/
def inN (N x : Int) : Bool := decide (0 - N / 2 ≤ x ∧ x ≤ N - 1 - N / 2)

theorem s_in09 (b : Int) (n : Nat) (x : Int) (hb : 2 ≤ b ∧ b ≤ 16) (hn : n ≤ 1000) (hf : fullB b n = true) : F_s_l09In (b, ((n : Int), x)) = some (inN (b ^ n) x) := by
  have hN := fullB_le hf
  have hN1 := pow_nonneg' hb.1 n
  have e : (b ^ n).tdiv 2 = b ^ n / 2 := Int.tdiv_eq_ediv_of_nonneg (by omega)
  have hp := s_power b n hb.1 hb.2 hn
  rw [cap2_le hN] at hp
  unfold F_s_l09In F_s_l09Low inN
  simp (disch := omega) only [hp, bind_s, okDiv_e, chk_pos, iquo_e, e, w64, isub_e, l00In_e]

theorem s_number (b : Int) (l : List Int) (h : accOk (b, l) = true) : F_s_l09Number (b, l) = some (numV b l) := by
  obtain ⟨b', l', e, hb, hl, hd, hv, hf, _⟩ := acc_parts h
  simp only [Prod.mk.injEq] at e
  obtain ⟨rfl, rfl⟩ := e
  have hN := fullB_le hf
  have hN1 := pow_nonneg' hb.1 l.length
  have h0 := valL_nonneg (b := b) (by omega) hd
  have hcap : cap (valL b l) = valL b l := by unfold cap; rw [if_pos hv]
  have hp := s_power b l.length hb.1 hb.2 (by omega)
  rw [cap2_le hN] at hp
  unfold F_s_l09Number
  rw [s_value b l hb.1 hb.2 hd (by omega), hcap]
  simp only [bind_s, n2i_e, xlen_e, s_in09 b l.length (valL b l) hb (by omega) hf, hp]
  unfold numV inN
  by_cases hc : valL b l ≤ b ^ l.length - 1 - b ^ l.length / 2
  · rw [bnot_d, cond_neg (by omega), if_pos hc]
  · rw [bnot_d, cond_pos (by omega), if_neg hc]
    simp (disch := omega) only [isub_e, w64]

/-- modulo N, never negative -/
def modN (N x : Int) : Int := (x.tmod N + N).tmod N

theorem tmod_in {N x : Int} (hN : 0 < N) : -N < x.tmod N ∧ x.tmod N < N := by
  rcases Int.le_total 0 x with h | h
  · rw [Int.tmod_eq_emod_of_nonneg h]
    have h3 := Int.emod_nonneg x (show N ≠ 0 by omega)
    have h4 := Int.emod_lt_of_pos x hN
    omega
  · have e : x.tmod N = -((-x).tmod N) := by rw [Int.neg_tmod]; omega
    rw [e, Int.tmod_eq_emod_of_nonneg (by omega)]
    have h3 := Int.emod_nonneg (-x) (show N ≠ 0 by omega)
    have h4 := Int.emod_lt_of_pos (-x) hN
    omega

theorem modN_in {N : Int} (x : Int) (hN : 0 < N) : 0 ≤ modN N x ∧ modN N x ≤ N - 1 := by
  have h := tmod_in (x := x) hN
  unfold modN
  rw [Int.tmod_eq_emod_of_nonneg (by omega)]
  have h3 := Int.emod_nonneg (x.tmod N + N) (show N ≠ 0 by omega)
  have h4 := Int.emod_lt_of_pos (x.tmod N + N) hN
  omega

/-- an accumulator, a number added -/
def accR (b : Int) (l : List Int) (x : Int) : List Int := digL b (modN (b ^ l.length) (numV b l + x)) l.length

theorem accR_len (b : Int) (l : List Int) (x : Int) : (accR b l x).length = l.length := digL_len _ _ _

theorem accR_ok {b : Int} {l : List Int} (x : Int) (h : accOk (b, l) = true) : accOk (b, accR b l x) = true := by
  obtain ⟨b', l', e, hb, hl, hd, hv, hf, _⟩ := acc_parts h
  simp only [Prod.mk.injEq] at e
  obtain ⟨rfl, rfl⟩ := e
  have hN := fullB_le hf
  have hN1 := pow_nonneg' hb.1 l.length
  have h2 := modN_in (N := b ^ l.length) (numV b l + x) (by omega)
  simp only [accOk, accR, digL_len, hf, Bool.and_true]
  exact validR_dig hb hl h2.1 (by omega)

def accNumR (r : Reg) (x : Int) : Reg × Bool × Int := cond (accOk r) (if -1000000000000 ≤ x ∧ x ≤ 1000000000000 then ((r.1, accR r.1 r.2 x), !inN (r.1 ^ r.2.length) (numV r.1 r.2 + x), 0) else (zeroR, false, 2)) (zeroR, false, 1)

theorem accNumR_len (r : Reg) (x : Int) : ((accNumR r x).1.2.length : Int) ≤ 16 := by
  unfold accNumR
  cases h : accOk r with
  | false => simp
  | true =>
    obtain ⟨b, l, rfl, _, hl, _⟩ := acc_parts h
    simp only [cond_t]
    split
    · simp only [accR_len]; omega
    · simp

def negR (r : Reg) : Reg × Int := cond (accOk r) (cond (inN (r.1 ^ r.2.length) (0 - numV r.1 r.2)) ((r.1, digL r.1 (modN (r.1 ^ r.2.length) (0 - numV r.1 r.2)) r.2.length), 0) (zeroR, 5)) (zeroR, 1)

theorem negR_len (r : Reg) : ((negR r).1.2.length : Int) ≤ 16 := by
  unfold negR
  cases h : accOk r with
  | false => simp
  | true =>
    obtain ⟨b, l, rfl, _, hl, _⟩ := acc_parts h
    simp only [cond_t]
    cases inN (b ^ l.length) (0 - numV b l)
    · simp
    · simp only [cond_t, digL_len]; omega

def widenR (r : Reg) (w : Int) : Reg × Int := cond (accOk r) (if (r.2.length : Int) ≤ w ∧ w ≤ 16 then cond (fullB r.1 w.toNat) ((r.1, digL r.1 (modN (r.1 ^ w.toNat) (numV r.1 r.2)) w.toNat), 0) (zeroR, 5) else (zeroR, 2)) (zeroR, 1)

theorem widenR_len (r : Reg) (w : Int) : ((widenR r w).1.2.length : Int) ≤ 16 := by
  unfold widenR
  cases h : accOk r with
  | false => simp
  | true =>
    simp only [cond_t]
    split
    · cases fullB r.1 w.toNat
      · simp
      · simp only [cond_t, digL_len]; omega
    · simp

def transR (a b : Reg) : Reg × Reg × Bool × Int :=
  cond (accOk a && accOk b) (if a.1 = b.1 then ((a.1, digL a.1 0 a.2.length), (b.1, accR b.1 b.2 (numV a.1 a.2)), !inN (b.1 ^ b.2.length) (numV b.1 b.2 + numV a.1 a.2), 0) else (zeroR, zeroR, false, 6)) (zeroR, zeroR, false, 1)

theorem transR_len (a b : Reg) : ((transR a b).1.2.length : Int) ≤ 16 ∧ ((transR a b).2.1.2.length : Int) ≤ 16 := by
  unfold transR
  cases h1 : accOk a with
  | false => simp
  | true =>
    cases h2 : accOk b with
    | false => simp
    | true =>
      obtain ⟨w, l, rfl, _, hl, _⟩ := acc_parts h1
      obtain ⟨w', l', rfl, _, hl', _⟩ := acc_parts h2
      simp only [Bool.and_self, cond_t]
      split
      · simp only [accR_len, digL_len]; omega
      · simp

end Go.Prg
