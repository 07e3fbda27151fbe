/- Plain laws, part Zc: the longest ripple. Conditions: none. -/
import Derived.Test.YtjkaapoklbhokaaPlZ
set_option linter.all false
namespace Go.Prg
open Go.Eng

theorem wf_u8s {f : Bool} {T : TypeId} {xs : List Int} (h : wf (.row f T (.int .u8)) xs) : ∀ x ∈ xs, 0 ≤ x ∧ x ≤ 255 := by
  intro x hx
  have h2 : (Lit.int .u8 x).wf = true := h.2 x hx
  simp only [Lit.wf, Bool.and_eq_true, decide_eq_true_eq] at h2
  have e1 : IntKind.min .u8 = 0 := by decide
  have e2 : IntKind.max .u8 = 255 := by decide
  omega

theorem a2At_in (l : List Int) (hl : ∀ x ∈ l, 0 ≤ x ∧ x ≤ 255) (hn : l.length ≤ 3000) (i : Nat) (m : Int) (hm : 1 ≤ m ∧ m ≤ 1000) : ∃ v, F_l_a2At (l, ((i : Int), m)) = some v ∧ 0 ≤ v ∧ v ≤ m - 1 := by
  unfold F_l_a2At
  simp only [n2i_e, xlen_e, ige_e]
  by_cases h : (l.length : Int) ≤ i
  · rw [cond_pos h]
    exact ⟨0, rfl, by omega, by omega⟩
  · rw [cond_neg h]
    have g := getD_all (p := fun d => 0 ≤ d ∧ d ≤ 255) hl (i := i) (by omega)
    simp (disch := omega) only [ilt_e, cond_neg, okIx_e, xlen_e, chk_pos, okDiv_e, xget_e, i2n_e, w64, irem_e]
    refine ⟨_, rfl, ?_⟩
    generalize l.getD i 0 = d at g
    rw [Int.tmod_eq_emod_of_nonneg g.1]
    have h3 := Int.emod_nonneg d (show m ≠ 0 by omega)
    have h4 := Int.emod_lt_of_pos d (show 0 < m by omega)
    omega

def nines (b : Int) (n : Nat) : List Int := List.replicate n (b - 1)
theorem nines_len (b : Int) (n : Nat) : (nines b n).length = n := by simp [nines]
theorem nines_get (b : Int) (n : Nat) {i : Nat} (h : i < n) : (nines b n).getD i 0 = b - 1 := by
  simp [nines, List.getD_eq_getElem?_getD, List.getElem?_replicate, h]
theorem nines_ok {b : Int} (hb : 2 ≤ b) (n : Nat) : digitsOk b (nines b n) := by
  intro d hd
  have := List.eq_of_mem_replicate hd
  omega
theorem nines_valid {b : Int} {n : Nat} (hb : 2 ≤ b ∧ b ≤ 10) (hn : 1 ≤ n ∧ n ≤ 9) : validR (b, nines b n) = true := by
  have key : ∀ (i : Fin 9) (k : Fin 9), validR ((i.val : Int) + 2, nines ((i.val : Int) + 2) (k.val + 1)) = true := by decide
  have h := key ⟨(b - 2).toNat, by omega⟩ ⟨n - 1, by omega⟩
  simp only at h
  rw [show (((b - 2).toNat : Nat) : Int) + 2 = b by omega, show n - 1 + 1 = n by omega] at h
  exact h

theorem restI_one {b : Int} (hb : 2 ≤ b) : ∀ i, restI b 1 i = if i = 0 then 1 else 0
  | 0 => rfl
  | i + 1 => by
    simp only [restI]
    rw [restI_one hb i]
    by_cases h : i = 0
    · rw [if_pos h, if_neg (by omega), Int.tdiv_eq_ediv_of_nonneg (by omega)]
      exact Int.ediv_eq_zero_of_lt (by omega) (by omega)
    · rw [if_neg h, if_neg (by omega), Int.zero_tdiv]

theorem one_get {b : Int} (hb : 2 ≤ b) (n : Nat) {i : Nat} (h : i < n) : (digL b 1 n).getD i 0 = if i = 0 then 1 else 0 := by
  have e : (digL b 1 n).getD i 0 = (restI b 1 i).tmod b := by simp [digL, List.getD_eq_getElem?_getD, h]
  rw [e, restI_one hb]
  split
  · rw [Int.tmod_eq_emod_of_nonneg (by omega)]; exact Int.emod_eq_of_lt (by omega) (by omega)
  · rw [Int.zero_tmod]

theorem pairC_worst {b : Int} {n : Nat} (hb : 2 ≤ b ∧ b ≤ 10) (hn : 1 ≤ n ∧ n ≤ 9) : pairC (b, nines b n) (b, digL b 1 n) = 0 := by
  unfold pairC
  rw [nines_valid hb hn, validR_dig (by omega) (by omega) (by omega) (by omega)]
  simp [nines_len, digL_len]

section worst
variable {b : Int} {n : Nat} (hb : 2 ≤ b ∧ b ≤ 10) (hn : 1 ≤ n ∧ n ≤ 9)
include hb hn

theorem worst_c {i : Nat} (h : i < n) : (turnC b (nines b n) (digL b 1 n) n).getD i false = decide (i = 0) := by
  rw [turnC_get _ _ _ h, nines_get b n h, one_get hb.1 n h]
  by_cases hi : i = 0
  · simp [hi]
  · simp only [hi, if_false, decide_false, decide_eq_false_iff_not]; omega
theorem worst_d {i : Nat} (h : i < n) : (turnD b (nines b n) (digL b 1 n) n).getD i 0 = if i = 0 then 0 else b - 1 := by
  rw [turnD_get _ _ _ h, nines_get b n h, one_get hb.1 n h, tmod_two hb.1 (by split <;> omega) (by split <;> omega)]
  split <;> omega

theorem worst_push : ∀ k, k < n → (∀ j, j ≤ k → (pushS b (turnD b (nines b n) (digL b 1 n) n) (turnC b (nines b n) (digL b 1 n) n) k).2.getD j false = true) ∧ (∀ j, k < j → j < n → (pushS b (turnD b (nines b n) (digL b 1 n) n) (turnC b (nines b n) (digL b 1 n) n) k).1.getD j 0 = b - 1)
  | 0, h => by
    simp only [pushS]
    refine ⟨fun j hj => ?_, fun j h1 h2 => ?_⟩
    · rw [worst_c hb hn (by omega), decide_eq_true_eq]; omega
    · rw [worst_d hb hn h2, if_neg (by omega)]
  | k + 1, h => by
    obtain ⟨h1, h2⟩ := worst_push k (by omega)
    have hl := pushS_len b (turnD b (nines b n) (digL b 1 n) n) (turnC b (nines b n) (digL b 1 n) n) k
    have lc := turnC_len b (nines b n) (digL b 1 n) n
    have ld := turnD_len b (nines b n) (digL b 1 n) n
    have g := h2 (k + 1) (by omega) h
    simp only [pushS]
    rw [if_pos ⟨h1 k (by omega), by omega⟩, if_pos (by omega)]
    refine ⟨fun j hj => ?_, fun j q1 q2 => ?_⟩
    · simp only
      rw [set_get (by omega)]
      split
      · rfl
      · exact h1 j (by omega)
    · simp only
      rw [set_get (by omega), if_neg (by omega)]
      exact h2 j (by omega) q2

theorem worst_lev {i : Nat} (h : i < n) : (levL b (nines b n) (digL b 1 n)).getD i false = true := by
  unfold levL
  rw [nines_len, pushS_stay _ _ _ n i (by omega)]
  exact (worst_push hb hn i h).1 i (by omega)

theorem worst_rip : ∀ k, k ≤ n → rip (turnC b (nines b n) (digL b 1 n) n) (levL b (nines b n) (digL b 1 n)) k = ((k : Int), (k : Int))
  | 0, _ => rfl
  | k + 1, h => by
    simp only [rip]
    rw [worst_rip k (by omega), worst_c hb hn (by omega), worst_lev hb hn (by omega)]
    simp only [imax]
    by_cases hk : k = 0
    · subst hk; simp
    · simp only [hk, decide_false, Bool.false_eq_true, if_false, if_true]
      rw [show ((k + 1 : Nat) : Int) = (k : Int) + 1 by omega]
      split
      · rfl
      · congr 1; omega

theorem worst_carr : ∀ k, k ≤ n → carr b (nines b n) (digL b 1 n) k = if k = 0 then 0 else 1
  | 0, _ => rfl
  | k + 1, h => by
    simp only [carr]
    rw [worst_carr k (by omega), nines_get b n (show k < n by omega), one_get hb.1 n (show k < n by omega)]
    rw [show (if k + 1 = 0 then (0 : Int) else 1) = 1 from if_neg (by omega)]
    have : b - 1 + (if k = 0 then 1 else 0) + (if k = 0 then 0 else 1) = b := by split <;> omega
    rw [this]
    exact Int.tdiv_self (by omega)

theorem worst_sum : ∀ k, k ≤ n → sumL b (nines b n) (digL b 1 n) k = List.replicate k 0
  | 0, _ => rfl
  | k + 1, h => by
    rw [sumL_succ, worst_sum k (by omega), worst_carr hb hn k (by omega), nines_get b n (by omega), one_get hb.1 n (by omega), List.replicate_succ']
    have : b - 1 + (if k = 0 then 1 else 0) + (if k = 0 then 0 else 1) = b := by split <;> omega
    rw [this, Int.tmod_self]

omit hn in
theorem val_zeros : ∀ k, valL b (List.replicate k 0) = 0
  | 0 => rfl
  | k + 1 => by rw [List.replicate_succ]; simp only [valL]; rw [val_zeros k]; simp

theorem zeros_valid : validR (b, List.replicate n (0 : Int)) = true :=
  validR_of (by omega) (by simp; omega) (fun d hd => by have := List.eq_of_mem_replicate hd; omega) (by rw [val_zeros hb]; omega)

end worst

theorem s_valueOf_ok (b : Int) (l : List Int) (h : validR (b, l) = true) (hl : l.length ≤ 16) : F_s_ValueOf (b, l) = some (valL b l, 0) := by
  obtain ⟨h1, h2, h3, h4⟩ := validR_all h
  unfold F_s_ValueOf
  simp only [s_validR' b l (by omega), h, bind_s, bnot_t, cond_f]
  rw [s_value b l h1.1 h1.2 h3 (by omega)]
  simp only [bind_s]
  rw [show cap (valL b l) = valL b l from if_pos h4]

end Go.Prg
