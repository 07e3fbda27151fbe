/- Plain laws, part B: rows of numbers: copied, compared, marked, held. Conditions: none. -/
import Derived.Test.YtjkaapoklbhokaaDoorPlA
import Derived.Test.YtjkaapoklbhokaaDoorF1
set_option linter.all false
namespace Go.Prg
open Go.Eng
set_option linter.unusedSimpArgs false

theorem getD_lt {α : Type} {l : List α} {i : Nat} {d : α} (h : i < l.length) : l.getD i d = l[i] := by simp [List.getD_eq_getElem?_getD, h]

theorem mem_set_all {p : Int → Prop} {l : List Int} (h : ∀ x ∈ l, p x) {i : Nat} {y : Int} (hy : p y) : ∀ x ∈ l.set i y, p x := by
  intro x hx
  rcases List.mem_or_eq_of_mem_set hx with h1 | h1
  · exact h x h1
  · rw [h1]; exact hy

theorem getD_all {p : Int → Prop} {l : List Int} (h : ∀ x ∈ l, p x) {i : Nat} (hi : i < l.length) : p (l.getD i 0) := by
  rw [getD_lt hi]; exact h _ (List.getElem_mem hi)

/-- the first place where two lists of one length differ -/
theorem first_diff {α : Type} {a b : List α} (hl : a.length = b.length) (hab : a ≠ b) : ∃ k, k < a.length ∧ a[k]? ≠ b[k]? ∧ ∀ j, j < k → a[j]? = b[j]? := by
  induction a generalizing b with
  | nil => cases b with
    | nil => exact absurd rfl hab
    | cons y b => simp at hl
  | cons x a ih => cases b with
    | nil => simp at hl
    | cons y b =>
      by_cases hxy : x = y
      · subst hxy
        obtain ⟨k, h1, h2, h3⟩ := ih (b := b) (by simpa using hl) (fun e => hab (by rw [e]))
        refine ⟨k + 1, by simpa using h1, by simpa using h2, fun j hj => ?_⟩
        cases j with
        | zero => rfl
        | succ j => simpa using h3 j (by omega)
      · exact ⟨0, by simp, by simpa using hxy, fun j hj => by omega⟩

/-- what a law counts: the room that is left -/
theorem sz_Int64S (l : List Int) (n : Int) (h : (l.length : Int) ≤ 9223372036854775807) (hn : 0 ≤ n) (hn' : n ≤ 1048576) : F_l_szInt64S (l, n) = some (if n - l.length < 0 then -1 else n - l.length) := by
  unfold F_l_szInt64S
  simp (disch := omega) only [xlen_e, n2i_e, isub_e, w64, ilt_e, Bool.cond_decide]
  split <;> rfl

theorem to_Int64S (l : List Int) (h : (l.length : Int) ≤ 1048576) : F_l_toInt64S l = some l := by
  unfold F_l_toInt64S
  simp (disch := omega) only [xlen_e, n2i_e, ieq_e, okMake_e, chk_pos, i2n_e, xrep_e]
  refine iter_run (fun i => ((i : Int), l, l.take i ++ List.replicate (l.length - i) 0)) l.length (by simp) (fun i hi => ?_) ?_
  · have hlen : (l.take i ++ List.replicate (l.length - i) (0 : Int)).length = l.length := by simp; omega
    simp (disch := omega) only [xlen_e, n2i_e, ilt_e, cond_pos, okIx_e, hlen, chk_pos, i2n_e, xset_e, xget_e, iadd_e, w64]
    congr 4
    rw [getD_lt hi, List.set_append_right _ _ (by simp; omega)]
    rw [show l.length - i = (l.length - (i + 1)) + 1 from by omega, List.replicate_succ, List.length_take, Nat.min_eq_left (by omega), Nat.sub_self, List.set_cons_zero, List.take_succ_eq_append_getElem hi, List.append_assoc]
    rfl
  · simp (disch := omega) only [xlen_e, n2i_e, ilt_e, cond_neg, Nat.sub_self]
    simp

theorem eq_Int64S (a b : List Int) (h : (a.length : Int) ≤ 9223372036854775806) (h' : (b.length : Int) ≤ 9223372036854775806) : F_l_eqInt64S (a, b) = some (decide (a = b)) := by
  unfold F_l_eqInt64S
  simp only [xlen_e, n2i_e, ine_e]
  by_cases hl : a.length = b.length
  · rw [cond_neg (by omega)]
    by_cases hab : a = b
    · subst hab
      refine iter_run (fun i => ((i : Int), a, a)) a.length rfl (fun i hi => ?_) ?_
      · simp (disch := omega) only [ilt_e, cond_pos, okIx_e, chk_pos, i2n_e, xget_e, iadd_e, w64, cond_neg]
        simp
      · simp (disch := omega) only [ilt_e, cond_neg]
        simp
    · obtain ⟨k, hk, hne, hmin⟩ := first_diff hl hab
      refine iter_run (fun i => ((i : Int), a, b)) k rfl (fun i hi => ?_) ?_
      · have h1 : a.getD i 0 = b.getD i 0 := by rw [List.getD_eq_getElem?_getD, List.getD_eq_getElem?_getD, hmin i hi]
        simp (disch := omega) only [ilt_e, cond_pos, okIx_e, chk_pos, i2n_e, xget_e, h1, iadd_e, w64, cond_neg]
        simp
      · have h1 : ¬ a.getD k 0 = b.getD k 0 := by
          rw [getD_lt hk, getD_lt (by omega)]
          rw [List.getElem?_eq_getElem hk, List.getElem?_eq_getElem (by omega)] at hne
          simpa using hne
        simp (disch := omega) only [ilt_e, cond_pos, okIx_e, chk_pos, i2n_e, xget_e]
        simp [hab]
  · rw [cond_pos (by omega)]
    have : a ≠ b := fun e => hl (by rw [e])
    simp [this]

/-- k, k + 1, .. -/
def count : Int → Nat → List Int
  | _, 0 => []
  | k, n + 1 => k :: count (k + 1) n

theorem count_len : ∀ (n : Nat) (k : Int), (count k n).length = n
  | 0, _ => rfl
  | n + 1, k => by simp [count, count_len n]

theorem count_get : ∀ (n : Nat) (k : Int) (i : Nat), i < n → (count k n).getD i 0 = k + i
  | n + 1, k, 0, _ => by simp [count]
  | n + 1, k, i + 1, h => by
    have := count_get n (k + 1) i (by omega)
    simp only [count, List.getD_cons_succ, this]
    omega

theorem count_succ : ∀ (n : Nat) (k : Int), count k (n + 1) = count k n ++ [k + n]
  | 0, k => by simp [count]
  | n + 1, k => by
    rw [count, count_succ n (k + 1)]
    simp only [count, List.cons_append]
    congr 3
    omega

end Go.Prg
