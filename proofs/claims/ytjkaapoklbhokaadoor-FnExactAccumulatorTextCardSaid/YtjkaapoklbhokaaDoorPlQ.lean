/- Plain laws, part Q: machines: places, settings; numbers accumulated one after the other. Conditions: none. -/
import Derived.Test.YtjkaapoklbhokaaDoorPlP
set_option linter.all false
namespace Go.Prg
open Go.Eng

theorem wf_i64 {x : Int} (h : wf (.int .i64) x) : -9223372036854775808 ≤ x ∧ x ≤ 9223372036854775807 := by
  have h2 : (Lit.int .i64 x).wf = true := h
  simp only [Lit.wf, Bool.and_eq_true, decide_eq_true_eq] at h2
  have e1 : IntKind.min .i64 = -9223372036854775808 := by decide
  have e2 : IntKind.max .i64 = 9223372036854775807 := by decide
  omega

/-- what is known of a valid machine -/
theorem machine_parts {a b c : Reg} {p : Int} (h : validM (a, b, c, p) = true) : (2 ≤ a.1 ∧ a.1 ≤ 16) ∧ (1 ≤ a.2.length ∧ a.2.length ≤ 16) ∧ (1 ≤ b.2.length ∧ b.2.length ≤ 16) ∧ (1 ≤ c.2.length ∧ c.2.length ≤ 16) ∧ a.1 = b.1 ∧ a.1 = c.1 ∧ digitsOk a.1 a.2 ∧ digitsOk b.1 b.2 ∧ digitsOk c.1 c.2 ∧
    fullB a.1 b.2.length = true ∧ fullB a.1 c.2.length = true ∧ a.2.length ≤ b.2.length ∧ (0 ≤ p ∧ p ≤ placesM (a, b, c, p) - 1) := by
  obtain ⟨h1, h2, h3, h4, h5, h6, h7, h8, h9⟩ := validM_all h
  obtain ⟨a1, a2, a3, a4⟩ := validR_all h1
  obtain ⟨_, b2, b3, _⟩ := validR_all h2
  obtain ⟨_, c2, c3, _⟩ := validR_all h3
  exact ⟨a1, a2, b2, c2, h4, h5, a3, b3, c3, h6, h7, h8, h9⟩

def placesR (a b c : Reg) (p : Int) : Int × Int := cond (validM (a, b, c, p)) (placesM (a, b, c, p), 0) (0, 1)

def setDigR (a b c : Reg) (p k d : Int) : Mach × Int :=
  cond (validM (a, b, c, p)) (if 0 ≤ k ∧ k ≤ (a.2.length : Int) - 1 then if 0 ≤ d ∧ d ≤ a.1 - 1 then (((a.1, a.2.set k.toNat d), b, c, p), 0) else (zeroM, 2) else (zeroM, 2)) (zeroM, 1)

theorem setDigR_len (a b c : Reg) (p k d : Int) : ((setDigR a b c p k d).1.1.2.length : Int) ≤ 16 ∧ ((setDigR a b c p k d).1.2.1.2.length : Int) ≤ 16 ∧ ((setDigR a b c p k d).1.2.2.1.2.length : Int) ≤ 16 := by
  unfold setDigR
  cases h : validM (a, b, c, p) with
  | false => simp
  | true =>
    obtain ⟨q0, q1, q2, q3, _⟩ := machine_parts h
    simp only [cond_t]
    split
    · split
      · simp only [List.length_set]; omega
      · simp
    · simp

theorem rest_zero {b v : Int} (hb : 2 ≤ b) (hv : 0 ≤ v) (n : Nat) : restI b v n = 0 ↔ v ≤ b ^ n - 1 := by
  have h1 := valL_dig hb hv n
  have h2 := valL_lt hb (digL_ok hb hv n)
  have h3 := restI_in hb hv n
  have h4 := valL_nonneg (b := b) (by omega) (digL_ok hb hv n)
  have h5 := pow_nonneg' hb n
  rw [digL_len] at h2
  constructor
  · intro h
    rw [h] at h1
    omega
  · intro h
    rcases Int.lt_or_le 0 (restI b v n) with h' | h'
    · have := Int.mul_le_mul_of_nonneg_left (show 1 ≤ restI b v n by omega) (show 0 ≤ b ^ n by omega)
      omega
    · omega

def setValR (a b c : Reg) (p v : Int) : Mach × Int :=
  cond (validM (a, b, c, p)) (if 0 ≤ v ∧ v ≤ a.1 ^ a.2.length - 1 then (((a.1, digL a.1 v a.2.length), b, c, p), 0) else (zeroM, 2)) (zeroM, 1)

theorem setValR_len (a b c : Reg) (p v : Int) : ((setValR a b c p v).1.1.2.length : Int) ≤ 16 ∧ ((setValR a b c p v).1.2.1.2.length : Int) ≤ 16 ∧ ((setValR a b c p v).1.2.2.1.2.length : Int) ≤ 16 := by
  unfold setValR
  cases h : validM (a, b, c, p) with
  | false => simp
  | true =>
    obtain ⟨q0, q1, q2, q3, _⟩ := machine_parts h
    simp only [cond_t]
    split
    · simp only [digL_len]; omega
    · simp

theorem newM_len (b s r c : Int) : ((newM b s r c).1.1.2.length : Int) ≤ 16 ∧ ((newM b s r c).1.2.1.2.length : Int) ≤ 16 ∧ ((newM b s r c).1.2.2.1.2.length : Int) ≤ 16 := by
  unfold newM
  split
  · cases validM (blankM b s r c)
    · simp
    · simp only [cond_t, blankM, digL_len]; omega
  · simp

/-- an accumulator and the bells, some numbers added -/
def accS (b : Int) (l xs : List Int) : Nat → List Int × List Int
  | 0 => (l, [])
  | i + 1 => (accR b (accS b l xs i).1 (xs.getD i 0), if inN (b ^ l.length) (numV b (accS b l xs i).1 + xs.getD i 0) = true then (accS b l xs i).2 else (accS b l xs i).2 ++ [(i : Int)])

theorem accS_ok {b : Int} {l : List Int} (xs : List Int) (h : accOk (b, l) = true) : ∀ i, accOk (b, (accS b l xs i).1) = true ∧ (accS b l xs i).1.length = l.length ∧ (accS b l xs i).2.length ≤ i
  | 0 => by simp [accS, h]
  | i + 1 => by
    obtain ⟨h1, h2, h3⟩ := accS_ok xs h i
    refine ⟨accR_ok _ h1, by simp only [accS, accR_len, h2], ?_⟩
    simp only [accS]
    split
    · omega
    · simp; omega

def allR (r : Reg) (xs : List Int) : Reg × List Int × Int :=
  cond (accOk r) (cond (xs.all fun x => decide (-1000000000000 ≤ x ∧ x ≤ 1000000000000)) ((r.1, (accS r.1 r.2 xs xs.length).1), (accS r.1 r.2 xs xs.length).2, 0) (zeroR, [], 2)) (zeroR, [], 1)

theorem allR_len (r : Reg) (xs : List Int) : ((allR r xs).1.2.length : Int) ≤ 16 ∧ ((allR r xs).2.1.length : Int) ≤ xs.length := by
  unfold allR
  cases h : accOk r with
  | false => simp
  | true =>
    obtain ⟨b, l, rfl, hb, hl2, hd, hv, hf, _⟩ := acc_parts h
    obtain ⟨h1, h2, h3⟩ := accS_ok xs h xs.length
    simp only [cond_t]
    cases xs.all fun x => decide (-1000000000000 ≤ x ∧ x ≤ 1000000000000)
    · simp
    · simp only [cond_t]; omega

end Go.Prg
