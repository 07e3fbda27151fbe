/- Plain laws, part S: rows of tests, of events, of signals moved, compared, marked, held; the laws of wheels and levers. Conditions: none. -/
import Derived.Test.YtjkaapoklbhokaaPlR
set_option linter.all false
namespace Go.Prg
open Go.Eng

theorem bnev_e (a b : Bool) : bnev a b = decide (¬ a = b) := by cases a <;> cases b <;> rfl
theorem pair_eta {α β : Type} (p : α × β) : (p.1, p.2) = p := rfl
theorem set_self {α : Type} {l : List α} {k : Nat} {x d : α} (h : k < l.length) : (l.set k x).getD k d = x := by rw [set_get h]; simp

/-- f k, f (k + s), .. -/
def cnt {α : Type} (f : Int → α) (s : Int) : Int → Nat → List α
  | _, 0 => []
  | k, n + 1 => f k :: cnt f s (k + s) n

theorem cnt_len {α : Type} (f : Int → α) (s : Int) : ∀ (k : Int) (n : Nat), (cnt f s k n).length = n
  | _, 0 => rfl
  | k, n + 1 => by simp [cnt, cnt_len f s (k + s) n]
theorem cnt_get {α : Type} (f : Int → α) (s : Int) (d : α) : ∀ (n : Nat) (k : Int) (i : Nat), i < n → (cnt f s k n).getD i d = f (k + s * i)
  | n + 1, k, 0, _ => by simp [cnt]
  | n + 1, k, i + 1, h => by
    have := cnt_get f s d n (k + s) i (by omega)
    simp only [cnt, List.getD_cons_succ, this]
    congr 1
    rw [show ((i + 1 : Nat) : Int) = (i : Int) + 1 by omega, Int.mul_add]
    omega
theorem cnt_succ {α : Type} (f : Int → α) (s : Int) : ∀ (k : Int) (n : Nat), cnt f s k (n + 1) = cnt f s k n ++ [f (k + s * n)]
  | k, 0 => by simp [cnt]
  | k, n + 1 => by
    rw [cnt, cnt_succ f s (k + s) n]
    simp only [cnt, List.cons_append]
    congr 3
    rw [show ((n + 1 : Nat) : Int) = (n : Int) + 1 by omega, Int.mul_add]
    congr 1
    omega

def f_BoolS (k : Int) : Bool := decide (k.tmod 3 = 0)

theorem eq_CarryEvent (a b : Ev) : F_l_eqCarryEvent (a, b) = some (decide (a = b)) := by
  obtain ⟨a1, a2, a3⟩ := a
  obtain ⟨b1, b2, b3⟩ := b
  unfold F_l_eqCarryEvent
  simp only [ine_e]
  by_cases h1 : a1 = b1
  · by_cases h2 : a2 = b2
    · by_cases h3 : a3 = b3 <;> simp [h1, h2, h3]
    · simp [h1, h2]
  · simp [h1]

theorem eq_CarryEventS (a b : List Ev) (h : (a.length : Int) ≤ 9223372036854775806) (h' : (b.length : Int) ≤ 9223372036854775806) : F_l_eqCarryEventS (a, b) = some (decide (a = b)) := by
  unfold F_l_eqCarryEventS
  simp only [xlen_e, n2i_e, ine_e]
  by_cases hl : a.length = b.length
  · rw [cond_neg (by omega)]
    by_cases hab : a = b
    · subst hab
      refine iter_run (fun i => ((i : Int), a, a)) a.length rfl (fun i hi => ?_) ?_
      · simp (disch := omega) only [ilt_e, cond_pos, okIx_e, chk_pos, i2n_e, xget_e, iadd_e, w64, pair_eta, bnev_s, eq_CarryEvent, bind_s, decide_true, bnot_t, cond_f]
        rfl
      · simp (disch := omega) only [ilt_e, cond_neg]
        simp
    · obtain ⟨k, hk, hne, hmin⟩ := first_diff hl hab
      refine iter_run (fun i => ((i : Int), a, b)) k rfl (fun i hi => ?_) ?_
      · have h1 : a.getD i (0, (0, 0)) = b.getD i (0, (0, 0)) := by rw [List.getD_eq_getElem?_getD, List.getD_eq_getElem?_getD, hmin i hi]
        simp (disch := omega) only [ilt_e, cond_pos, okIx_e, chk_pos, i2n_e, xget_e, h1, iadd_e, w64, pair_eta, bnev_s, eq_CarryEvent, bind_s, decide_true, bnot_t, cond_f]
        rfl
      · have h1 : ¬ a.getD k (0, (0, 0)) = b.getD k (0, (0, 0)) := by
          rw [getD_lt hk, getD_lt (by omega)]
          rw [List.getElem?_eq_getElem hk, List.getElem?_eq_getElem (by omega)] at hne
          simpa using hne
        simp (disch := omega) only [ilt_e, cond_pos, okIx_e, chk_pos, i2n_e, xget_e, pair_eta, bnev_e, eq_CarryEvent, bind_s, h1, not_false_eq_true, decide_false, decide_true, bnot_f, cond_t]
        simp [hab]
  · rw [cond_pos (by omega)]
    have : a ≠ b := fun e => hl (by rw [e])
    simp [this]

def f_CarryEventS (k : Int) : Ev := (k, (k + 1, k + 1 + 1))

theorem mark_CarryEventS (l : List Ev) (k : Int) (h : (l.length : Int) ≤ 4000000) (hk : 0 ≤ k) (hk' : k ≤ 3000000000000000000) : F_l_markCarryEventS (l, k) = some (k + 3 * l.length, cnt f_CarryEventS 3 k l.length) := by
  unfold F_l_markCarryEventS
  refine iter_run (fun i => (k + 3 * (i : Int), (i : Int), cnt f_CarryEventS 3 k i ++ l.drop i)) l.length (by simp [cnt]) (fun i hi => ?_) ?_
  · have hlen : (cnt f_CarryEventS 3 k i ++ l.drop i).length = l.length := by simp [cnt_len]; omega
    have hg : (cnt f_CarryEventS 3 k i ++ l.drop i).getD i (0, (0, 0)) = l.getD i (0, (0, 0)) := mid_drop (cnt_len _ _ _ _) hi
    simp (disch := omega) only [xlen_e, n2i_e, ilt_e, cond_pos, okIx_e, okDiv_e, List.length_set, hlen, chk_pos, i2n_e, xset_e, xget_e, iadd_e, w64, set_self, List.set_set, share_e, ieq_e, irem_e, hg]
    rw [mid_set (cnt_len _ _ _ _) hi, cnt_succ]
    refine congrArg (fun z => some (Sum.inl z)) (Prod.ext ?_ (Prod.ext ?_ ?_))
    · simp only; omega
    · simp only; omega
    · rfl
  · have hlen : (cnt f_CarryEventS 3 k l.length ++ l.drop l.length).length = l.length := by simp [cnt_len]
    simp (disch := omega) only [xlen_e, n2i_e, ilt_e, hlen, cond_neg]
    simp

theorem held_CarryEventS (n : Nat) (k : Int) (h : (n : Int) ≤ 4000000) (hk : 0 ≤ k) (hk' : k ≤ 3000000000000000000) : F_l_heldCarryEventS (cnt f_CarryEventS 3 k n, k) = some (k + 3 * n) := by
  unfold F_l_heldCarryEventS
  refine iter_run (fun i => (k + 3 * (i : Int), (i : Int), cnt f_CarryEventS 3 k n)) n (by simp) (fun i hi => ?_) ?_
  · have hg := cnt_get f_CarryEventS 3 (0, (0, 0)) n k i hi
    simp (disch := omega) only [xlen_e, n2i_e, ilt_e, cond_pos, okIx_e, okDiv_e, cnt_len, chk_pos, i2n_e, xget_e, hg, f_CarryEventS, ine_e, ieq_e, irem_e, bnev_s, cond_neg, iadd_e, w64, not_true_eq_false, decide_false, cond_f]
    refine congrArg (fun z => some (Sum.inl z)) (Prod.ext ?_ (Prod.ext ?_ ?_))
    · simp only; omega
    · simp only; omega
    · rfl
  · simp (disch := omega) only [xlen_e, n2i_e, ilt_e, cnt_len, cond_neg]


def f_SignalS (k : Int) : (Bool × Bool) := (decide (k.tmod 3 = 0), decide ((k + 1).tmod 3 = 0))

end Go.Prg
