/- Plain laws, part G: registers: their values, whether they are valid. Conditions: none. -/
import Derived.Test.YtjkaapoklbhokaaDoorPlC
set_option linter.all false
namespace Go.Prg
open Go.Eng

/-- the value of digits, the lowest first -/
def valL (b : Int) : List Int → Int
  | [] => 0
  | d :: ds => d + b * valL b ds

/-- at most one more than the greatest value -/
def cap (v : Int) : Int := if v ≤ 1000000000000 then v else 1000000000001

def digitsOk (b : Int) (l : List Int) : Prop := ∀ d ∈ l, 0 ≤ d ∧ d ≤ b - 1

theorem valL_nonneg {b : Int} (hb : 0 ≤ b) : ∀ {l : List Int}, digitsOk b l → 0 ≤ valL b l
  | [], _ => by simp [valL]
  | d :: ds, h => by
    have h1 := h d (by simp)
    have h2 := valL_nonneg hb (l := ds) (fun x hx => h x (by simp [hx]))
    have := Int.mul_nonneg hb h2
    simp only [valL]
    omega

theorem digitsOk_drop {b : Int} {l : List Int} (h : digitsOk b l) (j : Nat) : digitsOk b (l.drop j) := fun x hx => h x (List.mem_of_mem_drop hx)

theorem valL_drop {b : Int} (hb : 2 ≤ b) {l : List Int} (h : digitsOk b l) : ∀ j, valL b (l.drop j) ≤ valL b l := by
  intro j
  induction l generalizing j with
  | nil => simp
  | cons d ds ih =>
    have hds : digitsOk b ds := fun x hx => h x (by simp [hx])
    cases j with
    | zero => simp
    | succ j =>
      have h1 := ih hds j
      have h2 := valL_nonneg (b := b) (by omega) hds
      have h3 := h d (by simp)
      have h4 : 2 * valL b ds ≤ b * valL b ds := Int.mul_le_mul_of_nonneg_right hb h2
      simp only [List.drop_succ_cons, valL]
      omega

theorem valL_step {b : Int} {l : List Int} {j : Nat} (h : j < l.length) : valL b (l.drop j) = l.getD j 0 + b * valL b (l.drop (j + 1)) := by
  rw [List.drop_eq_getElem_cons h, getD_lt h]
  rfl

theorem cap_ge {v w : Int} (h : 1000000000000 < v) (h' : v ≤ w) : cap w = 1000000000001 := by
  unfold cap; rw [if_neg (by omega)]

theorem mul16 {b v : Int} (hb : 2 ≤ b) (hb' : b ≤ 16) (hv : 0 ≤ v) (hv' : v ≤ 1000000000002) : 0 ≤ b * v ∧ b * v ≤ 16000000000032 := by
  have h1 := Int.mul_nonneg (show 0 ≤ b by omega) hv
  have h2 : b * v ≤ 16 * v := Int.mul_le_mul_of_nonneg_right hb' hv
  omega

theorem i_value (b : Int) (l : List Int) (hb : 2 ≤ b) (hb' : b ≤ 16) (h : digitsOk b l) (hl : (l.length : Int) ≤ 1000000) : F_i_Register_value (b, l) = some (cap (valL b l)) := by
  unfold F_i_Register_value
  have key : ∀ (f : Int × Int × Int × List Int → Option ((Int × Int × Int × List Int) ⊕ Int)), (∀ s, f s = (cond (ige s.2.1 0)
      (chk (okIx s.2.1 (xlen s.2.2.2))
      (cond (igt (iadd .i64 (imul .i64 s.1 s.2.2.1) (xget s.2.2.2 (i2n s.2.1) 0)) 1000000000000)
        (some (.inr 1000000000001))
        (some (.inl ((iadd .i64 (imul .i64 s.1 s.2.2.1) (xget s.2.2.2 (i2n s.2.1) 0)), ((isub .i64 s.2.1 1), s.2.2))))))
      (some (.inr s.1)))) → ∀ j, j ≤ l.length → valL b (l.drop j) ≤ 1000000000000 → iter f (valL b (l.drop j), (j : Int) - 1, b, l) = some (cap (valL b l)) := by
    intro f hf j
    induction j with
    | zero =>
      intro _ hv
      refine iter_end ?_
      rw [hf]
      simp (disch := omega) only [ige_e, cond_neg]
      simp only [List.drop_zero] at hv ⊢
      unfold cap
      rw [if_pos hv]
    | succ j ih =>
      intro hj hv
      have h0 := valL_nonneg (b := b) (by omega) (digitsOk_drop h (j + 1))
      have hm := mul16 hb hb' h0 (by omega)
      have hd := getD_all (p := fun d => 0 ≤ d ∧ d ≤ b - 1) h (i := j) (by omega)
      have hs := valL_step (b := b) (l := l) (j := j) (by omega)
      have e1 : ((j + 1 : Nat) : Int) - 1 = (j : Int) := by omega
      have e2 : valL b (l.drop (j + 1)) * b = b * valL b (l.drop (j + 1)) := Int.mul_comm _ _
      have e3 : b * valL b (l.drop (j + 1)) + l.getD j 0 = valL b (l.drop j) := by omega
      by_cases hc : 1000000000000 < valL b (l.drop j)
      · refine iter_end ?_
        rw [hf]
        simp (disch := omega) only [e1, ige_e, cond_pos, okIx_e, xlen_e, chk_pos, imul_e, iadd_e, e2, xget_e, i2n_e, w64, e3, igt_e]
        rw [cap_ge hc (valL_drop hb h j)]
      · refine iter_eq (s' := (valL b (l.drop j), (j : Int) - 1, b, l)) ?_ (ih (by omega) (by omega))
        rw [hf]
        simp (disch := omega) only [e1, ige_e, cond_pos, okIx_e, xlen_e, chk_pos, imul_e, iadd_e, e2, xget_e, i2n_e, w64, e3, igt_e, cond_neg, isub_e]
  have := key _ (fun _ => rfl) l.length (Nat.le_refl _) (by simp [valL])
  simp only [List.drop_length, valL] at this
  simp (disch := omega) only [n2i_e, xlen_e, isub_e, w64]
  exact this

theorem cap_step {b v d : Int} (hb : 2 ≤ b) (hd : 0 ≤ d) (hv : 0 ≤ v) : (if (1000000000001 : Int) < b * cap v + d then 1000000000001 else b * cap v + d) = cap (d + b * v) := by
  unfold cap
  by_cases h : v ≤ 1000000000000
  · simp only [if_pos h]
    by_cases h2 : d + b * v ≤ 1000000000000
    · rw [if_pos h2, if_neg (by omega)]; omega
    · rw [if_neg h2]
      split <;> omega
  · simp only [if_neg h]
    have h3 : 2 * v ≤ b * v := Int.mul_le_mul_of_nonneg_right hb (by omega)
    rw [if_pos (by omega), if_neg (by omega)]

theorem cap_in {v : Int} (h : 0 ≤ v) : 0 ≤ cap v ∧ cap v ≤ 1000000000001 := by
  unfold cap; split <;> omega

theorem s_value (b : Int) (l : List Int) (hb : 2 ≤ b) (hb' : b ≤ 16) (h : digitsOk b l) (hl : (l.length : Int) ≤ 1000000) : F_s_l02Value (b, l) = some (cap (valL b l)) := by
  unfold F_s_l02Value
  simp (disch := omega) only [n2i_e, xlen_e, isub_e, w64]
  refine iter_run (fun i => (b, cap (valL b (l.drop (l.length - i))), (l.length : Int) - 1 - i, l)) l.length (by simp [valL, cap]) (fun i hi => ?_) ?_
  · have h0 := valL_nonneg (b := b) (by omega) (digitsOk_drop h (l.length - i))
    have hc := cap_in h0
    have hm := mul16 hb hb' hc.1 (by omega)
    have hd := getD_all (p := fun d => 0 ≤ d ∧ d ≤ b - 1) h (i := l.length - 1 - i) (by omega)
    have hs := valL_step (b := b) (l := l) (j := l.length - 1 - i) (by omega)
    rw [show l.length - 1 - i + 1 = l.length - i from by omega] at hs
    have e1 : i2n ((l.length : Int) - 1 - i) = l.length - 1 - i := by unfold i2n; omega
    have e2 : cap (valL b (l.drop (l.length - i))) * b = b * cap (valL b (l.drop (l.length - i))) := Int.mul_comm _ _
    have e3 := cap_step (d := l.getD (l.length - 1 - i) 0) hb hd.1 h0
    simp (disch := omega) only [ige_e, cond_pos, okIx_e, xlen_e, chk_pos, imul_e, iadd_e, e2, xget_e, e1, w64, min_e, bind_s, e3, isub_e]
    rw [← hs, show l.length - 1 - i = l.length - (i + 1) from by omega, show (l.length : Int) - 1 - i - 1 = (l.length : Int) - 1 - ((i + 1 : Nat) : Int) from by omega]
  · have hi : ¬ (0 : Int) ≤ (l.length : Int) - 1 - (l.length : Nat) := by omega
    simp only [ige_e, cond_neg hi, Nat.sub_self, List.drop_zero]

/-- a valid register -/
def validR (r : Int × List Int) : Bool := decide (2 ≤ r.1 ∧ r.1 ≤ 16) && (decide (1 ≤ (r.2.length : Int) ∧ (r.2.length : Int) ≤ 16) && (r.2.all (fun d => decide (0 ≤ d ∧ d ≤ r.1 - 1)) && decide (valL r.1 r.2 ≤ 1000000000000)))

theorem cap_le (v : Int) : decide (cap v ≤ 1000000000000) = decide (v ≤ 1000000000000) := by
  unfold cap
  by_cases h : v ≤ 1000000000000 <;> simp [h]

theorem all_digits {b : Int} {l : List Int} : l.all (fun d => decide (0 ≤ d ∧ d ≤ b - 1)) = true ↔ digitsOk b l := by
  simp [List.all_eq_true, digitsOk]

theorem i_validR (r : Int × List Int) (hl : (r.2.length : Int) ≤ 9223372036854775807) : F_i_ValidRegister r = some (validR r) := by
  obtain ⟨b, l⟩ := r
  simp only at hl
  unfold F_i_ValidRegister F_i_isBase F_i_isRegisterWidth
  simp only [between_e, bind_s, bnot_d, xlen_e, n2i_e, validR]
  by_cases h1 : 2 ≤ b ∧ b ≤ 16
  · rw [cond_neg (by simpa using h1)]
    by_cases h2 : 1 ≤ (l.length : Int) ∧ (l.length : Int) ≤ 16
    · rw [cond_neg (by simpa using h2)]
      have h1' := h1
      have h2' := h2
      simp only [h1', h2', and_self, decide_true, Bool.true_and]
      refine Eq.trans (iter_all2 (good := decide (valL b l ≤ 1000000000000)) (bad := false) l (fun d => decide (0 ≤ d ∧ d ≤ b - 1)) (fun i => ((l.length : Int), (i : Int), b, l)) rfl (fun i hi hp' => ?_) (fun i hi hp' => ?_) (fun hd => ?_)) ?_
      · have hg : l.getD i 0 = l[i] := getD_lt hi
        have hq : 0 ≤ l[i] ∧ l[i] ≤ b - 1 := by simpa using hp'
        simp (disch := omega) only [ilt_e, cond_pos, okIx_e, chk_pos, i2n_e, xget_e, isub_e, iadd_e, w64, hg, cond_neg]
        rfl
      · have hg : l.getD i 0 = l[i] := getD_lt hi
        have hq : ¬ (0 ≤ l[i] ∧ l[i] ≤ b - 1) := by simpa using hp'
        simp (disch := omega) only [ilt_e, cond_pos, okIx_e, chk_pos, i2n_e, xget_e, isub_e, iadd_e, w64, hg]
      · have hv := i_value b l h1.1 h1.2 (all_digits.1 hd) (by omega)
        simp (disch := omega) only [ilt_e, cond_neg, hv, bind_s, ile_e, cap_le]
        rfl
      · cases l.all (fun d => decide (0 ≤ d ∧ d ≤ b - 1)) <;> simp
    · rw [cond_pos (by simpa using h2)]
      simp [h2]
  · rw [cond_pos (by simpa using h1)]
    simp [h1]

theorem s_digits (b : Int) (l : List Int) (hb : 2 ≤ b ∧ b ≤ 16) (hl : (l.length : Int) ≤ 9223372036854775806) : F_s_l02Digits (b, l) = some (l.all (fun d => decide (0 ≤ d ∧ d ≤ b - 1)) && decide (1 ≤ (l.length : Int) ∧ (l.length : Int) ≤ 16)) := by
  unfold F_s_l02Digits
  refine Eq.trans (iter_all2 (good := decide (1 ≤ (l.length : Int) ∧ (l.length : Int) ≤ 16)) (bad := false) l (fun d => decide (0 ≤ d ∧ d ≤ b - 1)) (fun i => (b, (i : Int), l)) rfl (fun i hi hp' => ?_) (fun i hi hp' => ?_) (fun hd => ?_)) ?_
  · have hg : l.getD i 0 = l[i] := getD_lt hi
    have hq : 0 ≤ l[i] ∧ l[i] ≤ b - 1 := by simpa using hp'
    simp (disch := omega) only [ilt_e, n2i_e, xlen_e, cond_pos, okIx_e, chk_pos, i2n_e, xget_e, isub_e, iadd_e, w64, hg, l00In_e, bind_s, bnot_d, cond_neg]
    rfl
  · have hg : l.getD i 0 = l[i] := getD_lt hi
    have hq : ¬ (0 ≤ l[i] ∧ l[i] ≤ b - 1) := by simpa using hp'
    simp (disch := omega) only [ilt_e, n2i_e, xlen_e, cond_pos, okIx_e, chk_pos, i2n_e, xget_e, isub_e, iadd_e, w64, hg, l00In_e, bind_s, bnot_d]
  · simp (disch := omega) only [ilt_e, n2i_e, xlen_e, cond_neg, l00In_e, bind_s]
    rfl
  · cases l.all (fun d => decide (0 ≤ d ∧ d ≤ b - 1)) <;> simp

theorem s_validR (r : Int × List Int) (hl : (r.2.length : Int) ≤ 9223372036854775806) : F_s_l02Ok r = some (validR r) := by
  obtain ⟨b, l⟩ := r
  simp only at hl
  unfold F_s_l02Ok F_s_l02Base
  simp only [l00In_e, bind_s, validR]
  by_cases h1 : 2 ≤ b ∧ b ≤ 16
  · rw [cond_pos h1, s_digits b l h1 hl]
    simp only [bind_s]
    by_cases h2 : 1 ≤ (l.length : Int) ∧ (l.length : Int) ≤ 16
    · cases hd : l.all (fun d => decide (0 ≤ d ∧ d ≤ b - 1)) with
      | true =>
        have hv := s_value b l h1.1 h1.2 (all_digits.1 hd) (by omega)
        have h1' := h1
        have h2' := h2
        simp only [h1', h2', and_self, decide_true, Bool.and_true, Bool.true_and, cond_t, hv, bind_s, ile_e, cap_le]
      | false =>
        have h1' := h1
        have h2' := h2
        simp only [h1', h2', and_self, decide_true, Bool.and_true, Bool.true_and, cond_f, Bool.false_and]
    · simp [h2]
  · rw [cond_neg h1]
    simp [h1]

end Go.Prg
