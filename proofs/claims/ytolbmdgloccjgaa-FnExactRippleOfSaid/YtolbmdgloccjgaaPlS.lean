/- Plain laws, part S: rows of tests, of events, of signals moved, compared, marked, held; the laws of wheels and levers. Conditions: none. -/
import Derived.Test.YtolbmdgloccjgaaPlR
set_option linter.all false
namespace Go.Prg
open Go.Eng

theorem bnev_e (a b : Bool) : bnev a b = decide (¬ a = b) := by cases a <;> cases b <;> rfl
theorem pair_eta {α β : Type} (p : α × β) : (p.1, p.2) = p := rfl
theorem set_self {α : Type} {l : List α} {k : Nat} {x d : α} (h : k < l.length) : (l.set k x).getD k d = x := by rw [set_get h]; simp

/-- f k, f (k + s), .. -/
def cnt {α : Type} (f : Int → α) (s : Int) : Int → Nat → List α
  | _, 0 => []
  | k, n + 1 => f k :: cnt f s (k + s) n

theorem cnt_len {α : Type} (f : Int → α) (s : Int) : ∀ (k : Int) (n : Nat), (cnt f s k n).length = n
  | _, 0 => rfl
  | k, n + 1 => by simp [cnt, cnt_len f s (k + s) n]
theorem cnt_get {α : Type} (f : Int → α) (s : Int) (d : α) : ∀ (n : Nat) (k : Int) (i : Nat), i < n → (cnt f s k n).getD i d = f (k + s * i)
  | n + 1, k, 0, _ => by simp [cnt]
  | n + 1, k, i + 1, h => by
    have := cnt_get f s d n (k + s) i (by omega)
    simp only [cnt, List.getD_cons_succ, this]
    congr 1
    rw [show ((i + 1 : Nat) : Int) = (i : Int) + 1 by omega, Int.mul_add]
    omega
theorem cnt_succ {α : Type} (f : Int → α) (s : Int) : ∀ (k : Int) (n : Nat), cnt f s k (n + 1) = cnt f s k n ++ [f (k + s * n)]
  | k, 0 => by simp [cnt]
  | k, n + 1 => by
    rw [cnt, cnt_succ f s (k + s) n]
    simp only [cnt, List.cons_append]
    congr 3
    rw [show ((n + 1 : Nat) : Int) = (n : Int) + 1 by omega, Int.mul_add]
    congr 1
    omega

theorem to_BoolS (l : List Bool) (h : (l.length : Int) ≤ 1048576) : F_l_toBoolS l = some l := by
  unfold F_l_toBoolS
  simp (disch := omega) only [xlen_e, n2i_e, ieq_e, okMake_e, chk_pos, i2n_e, xrep_e, decide_true, chk_t]
  refine iter_run (fun i => ((i : Int), l, l.take i ++ List.replicate (l.length - i) false)) l.length (by simp) (fun i hi => ?_) ?_
  · have hlen : (l.take i ++ List.replicate (l.length - i) false).length = l.length := by simp; omega
    have ht : (l.take i).length = i := by simp; omega
    simp (disch := omega) only [xlen_e, n2i_e, ilt_e, cond_pos, okIx_e, hlen, chk_pos, i2n_e, xset_e, xget_e, iadd_e, w64, pair_eta, bnev_s, bind_s]
    rw [mid_rep ht hi, List.take_succ_eq_append_getElem hi, getD_lt hi]
    rfl
  · simp (disch := omega) only [xlen_e, n2i_e, ilt_e, cond_neg, Nat.sub_self]
    simp

theorem eq_BoolS (a b : List Bool) (h : (a.length : Int) ≤ 9223372036854775806) (h' : (b.length : Int) ≤ 9223372036854775806) : F_l_eqBoolS (a, b) = some (decide (a = b)) := by
  unfold F_l_eqBoolS
  simp only [xlen_e, n2i_e, ine_e]
  by_cases hl : a.length = b.length
  · rw [cond_neg (by omega)]
    by_cases hab : a = b
    · subst hab
      refine iter_run (fun i => ((i : Int), a, a)) a.length rfl (fun i hi => ?_) ?_
      · simp (disch := omega) only [ilt_e, cond_pos, okIx_e, chk_pos, i2n_e, xget_e, iadd_e, w64, pair_eta, bnev_s, bnev_s, bind_s, decide_true, bnot_t, cond_f]
        rfl
      · simp (disch := omega) only [ilt_e, cond_neg]
        simp
    · obtain ⟨k, hk, hne, hmin⟩ := first_diff hl hab
      refine iter_run (fun i => ((i : Int), a, b)) k rfl (fun i hi => ?_) ?_
      · have h1 : a.getD i false = b.getD i false := by rw [List.getD_eq_getElem?_getD, List.getD_eq_getElem?_getD, hmin i hi]
        simp (disch := omega) only [ilt_e, cond_pos, okIx_e, chk_pos, i2n_e, xget_e, h1, iadd_e, w64, pair_eta, bnev_s, bnev_s, bind_s, decide_true, bnot_t, cond_f]
        rfl
      · have h1 : ¬ a.getD k false = b.getD k false := by
          rw [getD_lt hk, getD_lt (by omega)]
          rw [List.getElem?_eq_getElem hk, List.getElem?_eq_getElem (by omega)] at hne
          simpa using hne
        simp (disch := omega) only [ilt_e, cond_pos, okIx_e, chk_pos, i2n_e, xget_e, pair_eta, bnev_e, bnev_s, bind_s, h1, not_false_eq_true, decide_false, decide_true, bnot_f, cond_t]
        simp [hab]
  · rw [cond_pos (by omega)]
    have : a ≠ b := fun e => hl (by rw [e])
    simp [this]

def f_BoolS (k : Int) : Bool := decide (k.tmod 3 = 0)

theorem mark_BoolS (l : List Bool) (k : Int) (h : (l.length : Int) ≤ 4000000) (hk : 0 ≤ k) (hk' : k ≤ 3000000000000000000) : F_l_markBoolS (l, k) = some (k + 1 * l.length, cnt f_BoolS 1 k l.length) := by
  unfold F_l_markBoolS
  refine iter_run (fun i => (k + 1 * (i : Int), (i : Int), cnt f_BoolS 1 k i ++ l.drop i)) l.length (by simp [cnt]) (fun i hi => ?_) ?_
  · have hlen : (cnt f_BoolS 1 k i ++ l.drop i).length = l.length := by simp [cnt_len]; omega
    have hg : (cnt f_BoolS 1 k i ++ l.drop i).getD i false = l.getD i false := mid_drop (cnt_len _ _ _ _) hi
    simp (disch := omega) only [xlen_e, n2i_e, ilt_e, cond_pos, okIx_e, okDiv_e, List.length_set, hlen, chk_pos, i2n_e, xset_e, xget_e, iadd_e, w64, set_self, List.set_set, ieq_e, irem_e, hg]
    rw [mid_set (cnt_len _ _ _ _) hi, cnt_succ]
    refine congrArg (fun z => some (Sum.inl z)) (Prod.ext ?_ (Prod.ext ?_ ?_))
    · simp only; omega
    · simp only; omega
    · rfl
  · have hlen : (cnt f_BoolS 1 k l.length ++ l.drop l.length).length = l.length := by simp [cnt_len]
    simp (disch := omega) only [xlen_e, n2i_e, ilt_e, hlen, cond_neg]
    simp

theorem held_BoolS (n : Nat) (k : Int) (h : (n : Int) ≤ 4000000) (hk : 0 ≤ k) (hk' : k ≤ 3000000000000000000) : F_l_heldBoolS (cnt f_BoolS 1 k n, k) = some (k + 1 * n) := by
  unfold F_l_heldBoolS
  refine iter_run (fun i => (k + 1 * (i : Int), (i : Int), cnt f_BoolS 1 k n)) n (by simp) (fun i hi => ?_) ?_
  · have hg := cnt_get f_BoolS 1 false n k i hi
    simp (disch := omega) only [xlen_e, n2i_e, ilt_e, cond_pos, okIx_e, okDiv_e, cnt_len, chk_pos, i2n_e, xget_e, hg, f_BoolS, ine_e, ieq_e, irem_e, bnev_s, cond_neg, iadd_e, w64, not_true_eq_false, decide_false, cond_f]
    refine congrArg (fun z => some (Sum.inl z)) (Prod.ext ?_ (Prod.ext ?_ ?_))
    · simp only; omega
    · simp only; omega
    · rfl
  · simp (disch := omega) only [xlen_e, n2i_e, ilt_e, cnt_len, cond_neg]


theorem to_CarryEvent (e : Ev) : F_l_toCarryEvent e = some e := rfl
theorem eq_CarryEvent (a b : Ev) : F_l_eqCarryEvent (a, b) = some (decide (a = b)) := by
  obtain ⟨a1, a2, a3⟩ := a
  obtain ⟨b1, b2, b3⟩ := b
  unfold F_l_eqCarryEvent
  simp only [ine_e]
  by_cases h1 : a1 = b1
  · by_cases h2 : a2 = b2
    · by_cases h3 : a3 = b3 <;> simp [h1, h2, h3]
    · simp [h1, h2]
  · simp [h1]

theorem sz_CarryEventS (l : List Ev) (n : Int) (h : (l.length : Int) ≤ 9223372036854775807) (hn : 0 ≤ n) (hn' : n ≤ 1048576) : ∃ v, F_l_szCarryEventS (l, n) = some v ∧ (v = -1 ∨ 0 ≤ v ∧ v + l.length = n) := by
  unfold F_l_szCarryEventS
  simp (disch := omega) only [xlen_e, n2i_e, isub_e, w64, ilt_e]
  by_cases hs : n - l.length < 0
  · exact ⟨-1, by simp [hs], .inl rfl⟩
  · exact ⟨n - l.length, by simp [hs], .inr ⟨by omega, by omega⟩⟩

theorem to_CarryEventS (l : List Ev) (h : (l.length : Int) ≤ 1048576) : F_l_toCarryEventS l = some l := by
  unfold F_l_toCarryEventS
  simp (disch := omega) only [xlen_e, n2i_e, ieq_e, okMake_e, chk_pos, i2n_e, xrep_e, decide_true, chk_t]
  refine iter_run (fun i => ((i : Int), l, l.take i ++ List.replicate (l.length - i) (0, (0, 0)))) l.length (by simp) (fun i hi => ?_) ?_
  · have hlen : (l.take i ++ List.replicate (l.length - i) (0, (0, 0))).length = l.length := by simp; omega
    have ht : (l.take i).length = i := by simp; omega
    simp (disch := omega) only [xlen_e, n2i_e, ilt_e, cond_pos, okIx_e, hlen, chk_pos, i2n_e, xset_e, xget_e, iadd_e, w64, pair_eta, to_CarryEvent, eq_CarryEvent, bind_s]
    rw [mid_rep ht hi, List.take_succ_eq_append_getElem hi, getD_lt hi]
    rfl
  · simp (disch := omega) only [xlen_e, n2i_e, ilt_e, cond_neg, Nat.sub_self]
    simp

theorem eq_CarryEventS (a b : List Ev) (h : (a.length : Int) ≤ 9223372036854775806) (h' : (b.length : Int) ≤ 9223372036854775806) : F_l_eqCarryEventS (a, b) = some (decide (a = b)) := by
  unfold F_l_eqCarryEventS
  simp only [xlen_e, n2i_e, ine_e]
  by_cases hl : a.length = b.length
  · rw [cond_neg (by omega)]
    by_cases hab : a = b
    · subst hab
      refine iter_run (fun i => ((i : Int), a, a)) a.length rfl (fun i hi => ?_) ?_
      · simp (disch := omega) only [ilt_e, cond_pos, okIx_e, chk_pos, i2n_e, xget_e, iadd_e, w64, pair_eta, bnev_s, to_CarryEvent, eq_CarryEvent, bind_s, decide_true, bnot_t, cond_f]
        rfl
      · simp (disch := omega) only [ilt_e, cond_neg]
        simp
    · obtain ⟨k, hk, hne, hmin⟩ := first_diff hl hab
      refine iter_run (fun i => ((i : Int), a, b)) k rfl (fun i hi => ?_) ?_
      · have h1 : a.getD i (0, (0, 0)) = b.getD i (0, (0, 0)) := by rw [List.getD_eq_getElem?_getD, List.getD_eq_getElem?_getD, hmin i hi]
        simp (disch := omega) only [ilt_e, cond_pos, okIx_e, chk_pos, i2n_e, xget_e, h1, iadd_e, w64, pair_eta, bnev_s, to_CarryEvent, eq_CarryEvent, bind_s, decide_true, bnot_t, cond_f]
        rfl
      · have h1 : ¬ a.getD k (0, (0, 0)) = b.getD k (0, (0, 0)) := by
          rw [getD_lt hk, getD_lt (by omega)]
          rw [List.getElem?_eq_getElem hk, List.getElem?_eq_getElem (by omega)] at hne
          simpa using hne
        simp (disch := omega) only [ilt_e, cond_pos, okIx_e, chk_pos, i2n_e, xget_e, pair_eta, bnev_e, to_CarryEvent, eq_CarryEvent, bind_s, h1, not_false_eq_true, decide_false, decide_true, bnot_f, cond_t]
        simp [hab]
  · rw [cond_pos (by omega)]
    have : a ≠ b := fun e => hl (by rw [e])
    simp [this]

def f_CarryEventS (k : Int) : Ev := (k, (k + 1, k + 1 + 1))

theorem mark_CarryEventS (l : List Ev) (k : Int) (h : (l.length : Int) ≤ 4000000) (hk : 0 ≤ k) (hk' : k ≤ 3000000000000000000) : F_l_markCarryEventS (l, k) = some (k + 3 * l.length, cnt f_CarryEventS 3 k l.length) := by
  unfold F_l_markCarryEventS
  refine iter_run (fun i => (k + 3 * (i : Int), (i : Int), cnt f_CarryEventS 3 k i ++ l.drop i)) l.length (by simp [cnt]) (fun i hi => ?_) ?_
  · have hlen : (cnt f_CarryEventS 3 k i ++ l.drop i).length = l.length := by simp [cnt_len]; omega
    have hg : (cnt f_CarryEventS 3 k i ++ l.drop i).getD i (0, (0, 0)) = l.getD i (0, (0, 0)) := mid_drop (cnt_len _ _ _ _) hi
    simp (disch := omega) only [xlen_e, n2i_e, ilt_e, cond_pos, okIx_e, okDiv_e, List.length_set, hlen, chk_pos, i2n_e, xset_e, xget_e, iadd_e, w64, set_self, List.set_set, ieq_e, irem_e, hg]
    rw [mid_set (cnt_len _ _ _ _) hi, cnt_succ]
    refine congrArg (fun z => some (Sum.inl z)) (Prod.ext ?_ (Prod.ext ?_ ?_))
    · simp only; omega
    · simp only; omega
    · rfl
  · have hlen : (cnt f_CarryEventS 3 k l.length ++ l.drop l.length).length = l.length := by simp [cnt_len]
    simp (disch := omega) only [xlen_e, n2i_e, ilt_e, hlen, cond_neg]
    simp

theorem held_CarryEventS (n : Nat) (k : Int) (h : (n : Int) ≤ 4000000) (hk : 0 ≤ k) (hk' : k ≤ 3000000000000000000) : F_l_heldCarryEventS (cnt f_CarryEventS 3 k n, k) = some (k + 3 * n) := by
  unfold F_l_heldCarryEventS
  refine iter_run (fun i => (k + 3 * (i : Int), (i : Int), cnt f_CarryEventS 3 k n)) n (by simp) (fun i hi => ?_) ?_
  · have hg := cnt_get f_CarryEventS 3 (0, (0, 0)) n k i hi
    simp (disch := omega) only [xlen_e, n2i_e, ilt_e, cond_pos, okIx_e, okDiv_e, cnt_len, chk_pos, i2n_e, xget_e, hg, f_CarryEventS, ine_e, ieq_e, irem_e, bnev_s, cond_neg, iadd_e, w64, not_true_eq_false, decide_false, cond_f]
    refine congrArg (fun z => some (Sum.inl z)) (Prod.ext ?_ (Prod.ext ?_ ?_))
    · simp only; omega
    · simp only; omega
    · rfl
  · simp (disch := omega) only [xlen_e, n2i_e, ilt_e, cnt_len, cond_neg]


theorem eq_Signal (a b : Bool × Bool) : F_l_eqSignal (a, b) = some (decide (a = b)) := by
  obtain ⟨a1, a2⟩ := a
  obtain ⟨b1, b2⟩ := b
  unfold F_l_eqSignal
  cases a1 <;> cases a2 <;> cases b1 <;> cases b2 <;> rfl

theorem eq_SignalS (a b : List (Bool × Bool)) (h : (a.length : Int) ≤ 9223372036854775806) (h' : (b.length : Int) ≤ 9223372036854775806) : F_l_eqSignalS (a, b) = some (decide (a = b)) := by
  unfold F_l_eqSignalS
  simp only [xlen_e, n2i_e, ine_e]
  by_cases hl : a.length = b.length
  · rw [cond_neg (by omega)]
    by_cases hab : a = b
    · subst hab
      refine iter_run (fun i => ((i : Int), a, a)) a.length rfl (fun i hi => ?_) ?_
      · simp (disch := omega) only [ilt_e, cond_pos, okIx_e, chk_pos, i2n_e, xget_e, iadd_e, w64, pair_eta, bnev_s, eq_Signal, bind_s, decide_true, bnot_t, cond_f]
        rfl
      · simp (disch := omega) only [ilt_e, cond_neg]
        simp
    · obtain ⟨k, hk, hne, hmin⟩ := first_diff hl hab
      refine iter_run (fun i => ((i : Int), a, b)) k rfl (fun i hi => ?_) ?_
      · have h1 : a.getD i (false, false) = b.getD i (false, false) := by rw [List.getD_eq_getElem?_getD, List.getD_eq_getElem?_getD, hmin i hi]
        simp (disch := omega) only [ilt_e, cond_pos, okIx_e, chk_pos, i2n_e, xget_e, h1, iadd_e, w64, pair_eta, bnev_s, eq_Signal, bind_s, decide_true, bnot_t, cond_f]
        rfl
      · have h1 : ¬ a.getD k (false, false) = b.getD k (false, false) := by
          rw [getD_lt hk, getD_lt (by omega)]
          rw [List.getElem?_eq_getElem hk, List.getElem?_eq_getElem (by omega)] at hne
          simpa using hne
        simp (disch := omega) only [ilt_e, cond_pos, okIx_e, chk_pos, i2n_e, xget_e, pair_eta, bnev_e, eq_Signal, bind_s, h1, not_false_eq_true, decide_false, decide_true, bnot_f, cond_t]
        simp [hab]
  · rw [cond_pos (by omega)]
    have : a ≠ b := fun e => hl (by rw [e])
    simp [this]

def f_SignalS (k : Int) : (Bool × Bool) := (decide (k.tmod 3 = 0), decide ((k + 1).tmod 3 = 0))

theorem mark_SignalS (l : List (Bool × Bool)) (k : Int) (h : (l.length : Int) ≤ 4000000) (hk : 0 ≤ k) (hk' : k ≤ 3000000000000000000) : F_l_markSignalS (l, k) = some (k + 2 * l.length, cnt f_SignalS 2 k l.length) := by
  unfold F_l_markSignalS
  refine iter_run (fun i => (k + 2 * (i : Int), (i : Int), cnt f_SignalS 2 k i ++ l.drop i)) l.length (by simp [cnt]) (fun i hi => ?_) ?_
  · have hlen : (cnt f_SignalS 2 k i ++ l.drop i).length = l.length := by simp [cnt_len]; omega
    have hg : (cnt f_SignalS 2 k i ++ l.drop i).getD i (false, false) = l.getD i (false, false) := mid_drop (cnt_len _ _ _ _) hi
    simp (disch := omega) only [xlen_e, n2i_e, ilt_e, cond_pos, okIx_e, okDiv_e, List.length_set, hlen, chk_pos, i2n_e, xset_e, xget_e, iadd_e, w64, set_self, List.set_set, ieq_e, irem_e, hg]
    rw [mid_set (cnt_len _ _ _ _) hi, cnt_succ]
    refine congrArg (fun z => some (Sum.inl z)) (Prod.ext ?_ (Prod.ext ?_ ?_))
    · simp only; omega
    · simp only; omega
    · rfl
  · have hlen : (cnt f_SignalS 2 k l.length ++ l.drop l.length).length = l.length := by simp [cnt_len]
    simp (disch := omega) only [xlen_e, n2i_e, ilt_e, hlen, cond_neg]
    simp

theorem held_SignalS (n : Nat) (k : Int) (h : (n : Int) ≤ 4000000) (hk : 0 ≤ k) (hk' : k ≤ 3000000000000000000) : F_l_heldSignalS (cnt f_SignalS 2 k n, k) = some (k + 2 * n) := by
  unfold F_l_heldSignalS
  refine iter_run (fun i => (k + 2 * (i : Int), (i : Int), cnt f_SignalS 2 k n)) n (by simp) (fun i hi => ?_) ?_
  · have hg := cnt_get f_SignalS 2 (false, false) n k i hi
    simp (disch := omega) only [xlen_e, n2i_e, ilt_e, cond_pos, okIx_e, okDiv_e, cnt_len, chk_pos, i2n_e, xget_e, hg, f_SignalS, ine_e, ieq_e, irem_e, bnev_s, cond_neg, iadd_e, w64, not_true_eq_false, decide_false, cond_f]
    refine congrArg (fun z => some (Sum.inl z)) (Prod.ext ?_ (Prod.ext ?_ ?_))
    · simp only; omega
    · simp only; omega
    · rfl
  · simp (disch := omega) only [xlen_e, n2i_e, ilt_e, cnt_len, cond_neg]


end Go.Prg
