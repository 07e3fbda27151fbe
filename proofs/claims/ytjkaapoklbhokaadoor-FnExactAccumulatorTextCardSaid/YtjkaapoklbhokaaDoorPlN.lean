/- Plain laws, part N: registers of values, new machines, the number of inputs. Conditions: none. -/
import Derived.Test.YtjkaapoklbhokaaDoorPlM
set_option linter.all false
namespace Go.Prg
open Go.Eng

/-- what is left of a value after i digits -/
def restI (b v : Int) : Nat → Int
  | 0 => v
  | i + 1 => (restI b v i).tdiv b

/-- the lowest n digits of a value -/
def digL (b v : Int) (n : Nat) : List Int := (List.range n).map fun i => (restI b v i).tmod b

theorem restI_in {b v : Int} (hb : 2 ≤ b) (hv : 0 ≤ v) : ∀ i, 0 ≤ restI b v i ∧ restI b v i ≤ v
  | 0 => by simp [restI, hv]
  | i + 1 => by
    have ih := restI_in hb hv i
    simp only [restI]
    rw [Int.tdiv_eq_ediv_of_nonneg ih.1]
    have h1 := Int.ediv_nonneg ih.1 (show 0 ≤ b by omega)
    have h2 := Int.ediv_le_self b ih.1
    omega

theorem digL_len (b v : Int) (n : Nat) : (digL b v n).length = n := by simp [digL]
theorem digL_succ (b v : Int) (n : Nat) : digL b v (n + 1) = digL b v n ++ [(restI b v n).tmod b] := by
  simp only [digL]
  rw [List.range_succ, List.map_append]
  rfl

theorem digL_ok {b v : Int} (hb : 2 ≤ b) (hv : 0 ≤ v) (n : Nat) : digitsOk b (digL b v n) := by
  intro d hd
  simp only [digL, List.mem_map, List.mem_range] at hd
  obtain ⟨i, _, rfl⟩ := hd
  have h := restI_in hb hv i
  rw [Int.tmod_eq_emod_of_nonneg h.1]
  have h3 := Int.emod_nonneg (restI b v i) (show b ≠ 0 by omega)
  have h4 := Int.emod_lt_of_pos (restI b v i) (show 0 < b by omega)
  omega

theorem valL_append (b : Int) : ∀ (l m : List Int), valL b (l ++ m) = valL b l + b ^ l.length * valL b m
  | [], m => by simp [valL]
  | d :: l, m => by
    simp only [List.cons_append, valL, valL_append b l m, List.length_cons, Int.pow_succ]
    rw [Int.mul_add, ← Int.mul_assoc, Int.mul_comm b (b ^ l.length)]
    omega

theorem valL_dig {b v : Int} (hb : 2 ≤ b) (hv : 0 ≤ v) : ∀ n, valL b (digL b v n) + b ^ n * restI b v n = v
  | 0 => by simp [digL, valL, restI]
  | n + 1 => by
    have ih := valL_dig hb hv n
    have h := restI_in hb hv n
    rw [digL_succ, valL_append, digL_len]
    simp only [valL, restI, Int.mul_zero, Int.add_zero]
    rw [Int.tmod_eq_emod_of_nonneg h.1, Int.tdiv_eq_ediv_of_nonneg h.1, Int.pow_succ]
    have e := Int.mul_ediv_add_emod (restI b v n) b
    have e2 : b ^ n * restI b v n = b ^ n * b * (restI b v n / b) + b ^ n * (restI b v n % b) := by
      rw [Int.mul_assoc, ← Int.mul_add, e]
    omega

theorem validR_of {b : Int} {l : List Int} (hb : 2 ≤ b ∧ b ≤ 16) (hl : 1 ≤ l.length ∧ l.length ≤ 16) (hd : digitsOk b l) (hv : valL b l ≤ 1000000000000) : validR (b, l) = true := by
  simp only [validR, Bool.and_eq_true, decide_eq_true_eq]
  exact ⟨hb, by omega, all_digits.2 hd, hv⟩

theorem pow_nonneg' {b : Int} (hb : 2 ≤ b) (n : Nat) : 1 ≤ b ^ n := (pow_le hb (i := n) (k := n) (Nat.le_refl _)).1

theorem valL_dig_le {b v : Int} (hb : 2 ≤ b) (hv : 0 ≤ v) (n : Nat) : valL b (digL b v n) ≤ v := by
  have h1 := valL_dig hb hv n
  have h2 := restI_in hb hv n
  have h3 := Int.mul_nonneg (show (0 : Int) ≤ b ^ n by have := pow_nonneg' hb n; omega) h2.1
  omega

theorem validR_dig {b v : Int} {n : Nat} (hb : 2 ≤ b ∧ b ≤ 16) (hn : 1 ≤ n ∧ n ≤ 16) (hv : 0 ≤ v) (hv' : v ≤ 1000000000000) : validR (b, digL b v n) = true :=
  validR_of hb (by rw [digL_len]; exact hn) (digL_ok hb.1 hv n) (by have := valL_dig_le hb.1 hv n; omega)

abbrev zeroM : Mach := ((0, []), (0, []), (0, []), 0)

/-- a new machine -/
def blankM (b s r c : Int) : Mach := ((b, digL b 0 s.toNat), (b, digL b 0 r.toNat), (b, digL b 0 c.toNat), 0)
def newM (b s r c : Int) : Mach × Int :=
  if (2 ≤ b ∧ b ≤ 16) ∧ (1 ≤ s ∧ s ≤ 16) ∧ (1 ≤ r ∧ r ≤ 16) ∧ (1 ≤ c ∧ c ≤ 16) then cond (validM (blankM b s r c)) (blankM b s r c, 0) (zeroM, 2) else (zeroM, 2)

theorem isBase_e (n : Int) : F_i_isBase n = some (decide (2 ≤ n ∧ n ≤ 16)) := by
  unfold F_i_isBase; simp only [between_e, bind_s]
theorem isWidth_e (n : Int) : F_i_isRegisterWidth n = some (decide (1 ≤ n ∧ n ≤ 16)) := by
  unfold F_i_isRegisterWidth; simp only [between_e, bind_s]
theorem base_e (n : Int) : F_s_l02Base n = some (decide (2 ≤ n ∧ n ≤ 16)) := by
  unfold F_s_l02Base; simp only [l00In_e, bind_s]

theorem validM_all {m : Mach} (h : validM m = true) : validR m.1 = true ∧ validR m.2.1 = true ∧ validR m.2.2.1 = true ∧ m.1.1 = m.2.1.1 ∧ m.1.1 = m.2.2.1.1 ∧ fullB m.1.1 m.2.1.2.length = true ∧ fullB m.1.1 m.2.2.1.2.length = true ∧ m.1.2.length ≤ m.2.1.2.length ∧ (0 ≤ m.2.2.2 ∧ m.2.2.2 ≤ placesM m - 1) := by
  simp only [validM, Bool.and_eq_true, decide_eq_true_eq] at h
  exact h

theorem fullB_le {b : Int} {n : Nat} (h : fullB b n = true) : b ^ n ≤ 1000000000001 := by
  simp only [fullB, decide_eq_true_eq] at h
  omega

theorem powC_full {b : Int} {n : Nat} (h : fullB b n = true) : powC b n = b ^ n := by
  unfold powC
  rw [if_pos (by simpa [fullB] using h)]

theorem cap2_le {v : Int} (h : v ≤ 1000000000001) : cap2 v = v := by
  unfold cap2; rw [if_pos (by omega)]

theorem full_mono {b : Int} (hb : 2 ≤ b) {n k : Nat} (h : n ≤ k) (hk : fullB b k = true) : fullB b n = true := by
  have := (pow_le hb h).2
  simp only [fullB, decide_eq_true_eq] at hk ⊢
  omega

/-- the number of inputs, and its code -/
def inputsC (b s r c : Int) : Int × Int :=
  if (newM b s r c).2 = 0 then if b ^ s.toNat * b ^ r.toNat ≤ 256 then (b ^ s.toNat * b ^ r.toNat, 0) else (0, 5) else (0, (newM b s r c).2)

theorem newM_ok {b s r c : Int} (h : (newM b s r c).2 = 0) : ((2 ≤ b ∧ b ≤ 16) ∧ (1 ≤ s ∧ s ≤ 16) ∧ (1 ≤ r ∧ r ≤ 16) ∧ (1 ≤ c ∧ c ≤ 16)) ∧ validM (blankM b s r c) = true ∧ (newM b s r c) = (blankM b s r c, 0) := by
  unfold newM at h ⊢
  split at h
  · rename_i hc
    rw [if_pos hc]
    cases hv : validM (blankM b s r c) with
    | true => exact ⟨hc, rfl, rfl⟩
    | false => rw [hv] at h; simp at h
  · simp at h

theorem blank_facts {b s r c : Int} (hr : (2 ≤ b ∧ b ≤ 16) ∧ (1 ≤ s ∧ s ≤ 16) ∧ (1 ≤ r ∧ r ≤ 16) ∧ (1 ≤ c ∧ c ≤ 16)) (h : validM (blankM b s r c) = true) : s ≤ r ∧ fullB b r.toNat = true ∧ fullB b s.toNat = true := by
  obtain ⟨_, _, _, _, _, h1, _, h2, _⟩ := validM_all h
  simp only [blankM, digL_len] at h1 h2
  exact ⟨by omega, h1, full_mono hr.1.1 h2 h1⟩

theorem le_prod {a c : Int} (ha : 1 ≤ a) (hc : 1 ≤ c) : a ≤ a * c ∧ c ≤ a * c := by
  have h1 := Int.mul_le_mul_of_nonneg_left hc (show 0 ≤ a by omega)
  have h2 := Int.mul_le_mul_of_nonneg_right ha (show 0 ≤ c by omega)
  omega

theorem s_pow_of {b s r c : Int} (h : (newM b s r c).2 = 0) : F_s_l10Power (b, s) = some (b ^ s.toNat) ∧ F_s_l10Power (b, r) = some (b ^ r.toNat) ∧ (1 ≤ b ^ s.toNat ∧ b ^ s.toNat ≤ 1000000000001) ∧ (1 ≤ b ^ r.toNat ∧ b ^ r.toNat ≤ 1000000000001) := by
  obtain ⟨hr, hv, hn⟩ := newM_ok h
  obtain ⟨hsr, hf1, hf2⟩ := blank_facts hr hv
  have p1 := pow_nonneg' hr.1.1 s.toNat
  have p2 := pow_nonneg' hr.1.1 r.toNat
  have l1 := fullB_le hf1
  have l2 := fullB_le hf2
  have q1 := s_power b s.toNat hr.1.1 hr.1.2 (by omega)
  have q2 := s_power b r.toNat hr.1.1 hr.1.2 (by omega)
  rw [Int.toNat_of_nonneg (by omega), cap2_le (by omega)] at q1 q2
  exact ⟨q1, q2, ⟨p1, l2⟩, ⟨p2, l1⟩⟩

theorem inputsC_ok {b s r c : Int} (h : (inputsC b s r c).2 = 0) : (newM b s r c).2 = 0 ∧ b ^ s.toNat * b ^ r.toNat ≤ 256 ∧ (inputsC b s r c).1 = b ^ s.toNat * b ^ r.toNat := by
  unfold inputsC at h ⊢
  split at h
  · rename_i h1
    rw [if_pos h1]
    split at h
    · rename_i h2
      rw [if_pos h2]
      exact ⟨h1, h2, rfl⟩
    · simp at h
  · rename_i h1
    exact absurd h h1

end Go.Prg
