/- Plain laws, part I: powers, numbers of accumulators. Conditions: none. -/
import Derived.Test.YtjkaapoklbhokaaDoorPlH
set_option linter.all false
namespace Go.Prg
open Go.Eng

theorem pow_le {b : Int} (hb : 2 ≤ b) {i k : Nat} (h : i ≤ k) : 1 ≤ b ^ i ∧ b ^ i ≤ b ^ k := by
  obtain ⟨m, rfl⟩ : ∃ m : Nat, b = m := ⟨b.toNat, by omega⟩
  have h1 := Nat.pow_le_pow_right (n := m) (by omega) h
  have h2 := Nat.one_le_pow i m (by omega)
  have e : ∀ j : Nat, ((m ^ j : Nat) : Int) = (m : Int) ^ j := fun j => by simp
  rw [← e, ← e]
  omega

/-- how many numbers registers of n digits have; 0: too many -/
def powC (b : Int) (n : Nat) : Int := if b ^ n - 1 ≤ 1000000000000 then b ^ n else 0

theorem i_power (b : Int) (n : Nat) (hb : 2 ≤ b) (hb' : b ≤ 16) (hn : n ≤ 1000) : F_i_power (b, (n : Int)) = some (powC b n) := by
  unfold F_i_power
  have key : ∀ (f : Int × Int × Int × Int → Option ((Int × Int × Int × Int) ⊕ Int)), (∀ s1, f s1 = (cond (ilt s1.2.2.2 s1.2.2.1)
      (cond (igt (isub .i64 (imul .i64 s1.2.1 s1.1) 1) 1000000000000)
        (some (.inr 0))
        (some (.inl (s1.1, ((imul .i64 s1.2.1 s1.1), (s1.2.2.1, (iadd .i64 s1.2.2.2 1)))))))
      (some (.inr s1.2.1)))) → ∀ j, j ≤ n → b ^ (n - j) - 1 ≤ 1000000000000 → iter f (b, b ^ (n - j), (n : Int), ((n - j : Nat) : Int)) = some (powC b n) := by
    intro f hf j
    induction j with
    | zero =>
      intro _ hv
      refine iter_end ?_
      rw [hf]
      simp (disch := omega) only [ilt_e, cond_neg]
      simp only [Nat.sub_zero] at hv ⊢
      unfold powC
      rw [if_pos hv]
    | succ j ih =>
      intro hj hv
      have h0 := pow_le hb (i := n - (j + 1)) (k := n - j) (by omega)
      have h1 := pow_le hb (i := n - j) (k := n) (by omega)
      have hm := mul16 hb hb' (v := b ^ (n - (j + 1))) (by omega) (by omega)
      have e2 : b ^ (n - (j + 1)) * b = b ^ (n - j) := by rw [← Int.pow_succ]; congr 1; omega
      have e3 : b * b ^ (n - (j + 1)) = b ^ (n - j) := by rw [Int.mul_comm]; exact e2
      rw [e3] at hm
      by_cases hc : 1000000000000 < b ^ (n - j) - 1
      · refine iter_end ?_
        rw [hf]
        simp (disch := omega) only [ilt_e, cond_pos, imul_e, e2, w64, isub_e, igt_e]
        unfold powC
        rw [if_neg (by omega)]
      · refine iter_eq (s' := (b, b ^ (n - j), (n : Int), ((n - j : Nat) : Int))) ?_ (ih (by omega) (by omega))
        rw [hf]
        simp (disch := omega) only [ilt_e, cond_pos, imul_e, e2, w64, isub_e, igt_e, cond_neg, iadd_e]
        rw [show ((n - (j + 1) : Nat) : Int) + 1 = ((n - j : Nat) : Int) from by omega]
  have := key _ (fun _ => rfl) n (Nat.le_refl _) (by simp)
  simpa using this

/-- at most one more than the numbers of registers -/
def cap2 (v : Int) : Int := if v ≤ 1000000000002 then v else 1000000000002

theorem cap2_step {b v : Int} (hb : 2 ≤ b) (hv : 0 ≤ v) : (if (1000000000002 : Int) < cap2 v * b then 1000000000002 else cap2 v * b) = cap2 (v * b) := by
  have h3 : v * 2 ≤ v * b := Int.mul_le_mul_of_nonneg_left hb hv
  unfold cap2
  by_cases h : v ≤ 1000000000002
  · simp only [if_pos h]
    by_cases h2 : v * b ≤ 1000000000002
    · rw [if_neg (by omega), if_pos h2]
    · rw [if_pos (by omega), if_neg h2]
  · simp only [if_neg h]
    rw [if_pos (by omega), if_neg (by omega)]

theorem s_power (b : Int) (n : Nat) (hb : 2 ≤ b) (hb' : b ≤ 16) (hn : n ≤ 1000) : F_s_l10Power (b, (n : Int)) = some (cap2 (b ^ n)) := by
  unfold F_s_l10Power
  refine iter_run (fun i => (b, (n : Int) - i, cap2 (b ^ i))) n (by simp [cap2]) (fun i hi => ?_) ?_
  · have h0 := pow_le hb (i := i) (k := i) (by omega)
    have hc : 0 ≤ cap2 (b ^ i) ∧ cap2 (b ^ i) ≤ 1000000000002 := by unfold cap2; split <;> omega
    have hm := mul16 hb hb' hc.1 hc.2
    rw [Int.mul_comm] at hm
    have hs := cap2_step hb (v := b ^ i) (by omega)
    simp (disch := omega) only [igt_e, cond_pos, imul_e, isub_e, w64, min_e, bind_s, hs]
    rw [Int.pow_succ, show (n : Int) - i - 1 = (n : Int) - ((i + 1 : Nat) : Int) from by omega]
  · simp (disch := omega) only [igt_e, cond_neg]

/-- the number that a register shows -/
def numR (r : Int × List Int) : Int × Int :=
  cond (validR r && decide (r.1 ^ r.2.length - 1 ≤ 1000000000000)) (if valL r.1 r.2 ≤ r.1 ^ r.2.length - 1 - r.1 ^ r.2.length / 2 then valL r.1 r.2 else valL r.1 r.2 - r.1 ^ r.2.length, 0) (0, 1)

theorem i_size (b : Int) (l : List Int) (hl : (l.length : Int) ≤ 9223372036854775807) : F_i_Register_size (b, l) = some (cond (validR (b, l)) (powC b l.length) 0) := by
  unfold F_i_Register_size
  rw [i_validR (b, l) hl]
  simp only [bind_s]
  cases hv : validR (b, l) with
  | false => rfl
  | true =>
    obtain ⟨h1, h2, _, _⟩ := validR_all hv
    simp only at h1 h2
    simp (disch := omega) only [bnot_t, cond_f, F_i_Register_width, bind_s, n2i_e, xlen_e, F_i_numbersOf, F_i_isBase, F_i_isRegisterWidth, between_e, bnot_d, cond_neg, i_power, cond_t]

end Go.Prg
