/- Plain laws, part P: accumulators. Conditions: none. -/
import Derived.Test.YthiajmikeaolmaaPlO
set_option linter.all false
namespace Go.Prg
open Go.Eng

/-- an accumulator -/
def accOk (r : Reg) : Bool := validR r && fullB r.1 r.2.length

theorem acc_parts {r : Reg} (h : accOk r = true) : ∃ (b : Int) (l : List Int), r = (b, l) ∧ (2 ≤ b ∧ b ≤ 16) ∧ (1 ≤ l.length ∧ l.length ≤ 16) ∧ digitsOk b l ∧ valL b l ≤ 1000000000000 ∧ fullB b l.length = true ∧ validR (b, l) = true := by
  simp only [accOk, Bool.and_eq_true] at h
  obtain ⟨b, l⟩ := r
  obtain ⟨q1, q2, q3, q4⟩ := validR_all h.1
  exact ⟨b, l, rfl, q1, q2, q3, q4, h.2, h.1⟩

theorem valL_lt {b : Int} (hb : 2 ≤ b) : ∀ {l : List Int}, digitsOk b l → valL b l ≤ b ^ l.length - 1
  | [], _ => by simp [valL]
  | d :: ds, h => by
    have h1 := h d (by simp)
    have h2 := valL_lt hb (l := ds) (fun x hx => h x (by simp [hx]))
    have h3 := Int.mul_le_mul_of_nonneg_left h2 (show 0 ≤ b by omega)
    simp only [valL, List.length_cons, Int.pow_succ]
    rw [Int.mul_sub, Int.mul_comm b (b ^ ds.length)] at h3
    omega

theorem acc_size_zero (r : Reg) : ieq (cond (accOk r) (r.1 ^ r.2.length) 0) 0 = !accOk r := by
  cases h : accOk r with
  | false => rfl
  | true =>
    obtain ⟨b, l, rfl, hb, _, _, _, _⟩ := acc_parts h
    have := pow_nonneg' hb.1 l.length
    simp only [cond_t, ieq_e]
    have h2 : ¬ b ^ l.length = 0 := by omega
    simp [h2]

/-- the number that digits show -/
def numV (b : Int) (l : List Int) : Int := if valL b l ≤ b ^ l.length - 1 - b ^ l.length / 2 then valL b l else valL b l - b ^ l.length

theorem numV_in {b : Int} {l : List Int} (hb : 2 ≤ b) (hd : digitsOk b l) : 0 - b ^ l.length / 2 ≤ numV b l ∧ numV b l ≤ b ^ l.length - 1 - b ^ l.length / 2 := by
  have h1 := valL_nonneg (b := b) (by omega) hd
  have h2 := valL_lt hb hd
  unfold numV
  split <;> omega

/-- whether a number is one of N -/
def inN (N x : Int) : Bool := decide (0 - N / 2 ≤ x ∧ x ≤ N - 1 - N / 2)

/-- modulo N, never negative -/
def modN (N x : Int) : Int := (x.tmod N + N).tmod N

theorem tmod_in {N x : Int} (hN : 0 < N) : -N < x.tmod N ∧ x.tmod N < N := by
  rcases Int.le_total 0 x with h | h
  · rw [Int.tmod_eq_emod_of_nonneg h]
    have h3 := Int.emod_nonneg x (show N ≠ 0 by omega)
    have h4 := Int.emod_lt_of_pos x hN
    omega
  · have e : x.tmod N = -((-x).tmod N) := by rw [Int.neg_tmod]; omega
    rw [e, Int.tmod_eq_emod_of_nonneg (by omega)]
    have h3 := Int.emod_nonneg (-x) (show N ≠ 0 by omega)
    have h4 := Int.emod_lt_of_pos (-x) hN
    omega

theorem modN_in {N : Int} (x : Int) (hN : 0 < N) : 0 ≤ modN N x ∧ modN N x ≤ N - 1 := by
  have h := tmod_in (x := x) hN
  unfold modN
  rw [Int.tmod_eq_emod_of_nonneg (by omega)]
  have h3 := Int.emod_nonneg (x.tmod N + N) (show N ≠ 0 by omega)
  have h4 := Int.emod_lt_of_pos (x.tmod N + N) hN
  omega

/-- an accumulator, a number added -/
def accR (b : Int) (l : List Int) (x : Int) : List Int := digL b (modN (b ^ l.length) (numV b l + x)) l.length

theorem accR_len (b : Int) (l : List Int) (x : Int) : (accR b l x).length = l.length := digL_len _ _ _

theorem accR_ok {b : Int} {l : List Int} (x : Int) (h : accOk (b, l) = true) : accOk (b, accR b l x) = true := by
  obtain ⟨b', l', e, hb, hl, hd, hv, hf, _⟩ := acc_parts h
  simp only [Prod.mk.injEq] at e
  obtain ⟨rfl, rfl⟩ := e
  have hN := fullB_le hf
  have hN1 := pow_nonneg' hb.1 l.length
  have h2 := modN_in (N := b ^ l.length) (numV b l + x) (by omega)
  simp only [accOk, accR, digL_len, hf, Bool.and_true]
  exact validR_dig hb hl h2.1 (by omega)

def accNumR (r : Reg) (x : Int) : Reg × Bool × Int := cond (accOk r) (if -1000000000000 ≤ x ∧ x ≤ 1000000000000 then ((r.1, accR r.1 r.2 x), !inN (r.1 ^ r.2.length) (numV r.1 r.2 + x), 0) else (zeroR, false, 2)) (zeroR, false, 1)

theorem accNumR_len (r : Reg) (x : Int) : ((accNumR r x).1.2.length : Int) ≤ 16 := by
  unfold accNumR
  cases h : accOk r with
  | false => simp
  | true =>
    obtain ⟨b, l, rfl, _, hl, _⟩ := acc_parts h
    simp only [cond_t]
    split
    · simp only [accR_len]; omega
    · simp

def negR (r : Reg) : Reg × Int := cond (accOk r) (cond (inN (r.1 ^ r.2.length) (0 - numV r.1 r.2)) ((r.1, digL r.1 (modN (r.1 ^ r.2.length) (0 - numV r.1 r.2)) r.2.length), 0) (zeroR, 5)) (zeroR, 1)

theorem negR_len (r : Reg) : ((negR r).1.2.length : Int) ≤ 16 := by
  unfold negR
  cases h : accOk r with
  | false => simp
  | true =>
    obtain ⟨b, l, rfl, _, hl, _⟩ := acc_parts h
    simp only [cond_t]
    cases inN (b ^ l.length) (0 - numV b l)
    · simp
    · simp only [cond_t, digL_len]; omega

def widenR (r : Reg) (w : Int) : Reg × Int := cond (accOk r) (if (r.2.length : Int) ≤ w ∧ w ≤ 16 then cond (fullB r.1 w.toNat) ((r.1, digL r.1 (modN (r.1 ^ w.toNat) (numV r.1 r.2)) w.toNat), 0) (zeroR, 5) else (zeroR, 2)) (zeroR, 1)

theorem widenR_len (r : Reg) (w : Int) : ((widenR r w).1.2.length : Int) ≤ 16 := by
  unfold widenR
  cases h : accOk r with
  | false => simp
  | true =>
    simp only [cond_t]
    split
    · cases fullB r.1 w.toNat
      · simp
      · simp only [cond_t, digL_len]; omega
    · simp

def transR (a b : Reg) : Reg × Reg × Bool × Int :=
  cond (accOk a && accOk b) (if a.1 = b.1 then ((a.1, digL a.1 0 a.2.length), (b.1, accR b.1 b.2 (numV a.1 a.2)), !inN (b.1 ^ b.2.length) (numV b.1 b.2 + numV a.1 a.2), 0) else (zeroR, zeroR, false, 6)) (zeroR, zeroR, false, 1)

theorem transR_len (a b : Reg) : ((transR a b).1.2.length : Int) ≤ 16 ∧ ((transR a b).2.1.2.length : Int) ≤ 16 := by
  unfold transR
  cases h1 : accOk a with
  | false => simp
  | true =>
    cases h2 : accOk b with
    | false => simp
    | true =>
      obtain ⟨w, l, rfl, _, hl, _⟩ := acc_parts h1
      obtain ⟨w', l', rfl, _, hl', _⟩ := acc_parts h2
      simp only [Bool.and_self, cond_t]
      split
      · simp only [accR_len, digL_len]; omega
      · simp

end Go.Prg
