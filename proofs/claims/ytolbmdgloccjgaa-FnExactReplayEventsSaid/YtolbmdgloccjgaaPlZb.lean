/- Plain laws, part Zb: events replayed. Conditions: none. -/
import Derived.Test.YtolbmdgloccjgaaPlZ
set_option linter.all false
namespace Go.Prg
open Go.Eng


/-- whether an event can happen -/
def evOk (w : Int) (n : Nat) (e : Ev) : Bool := decide (1 ≤ e.1 ∧ e.1 ≤ 3) && (decide (0 ≤ e.2.1 ∧ e.2.1 ≤ (n : Int) - 1) && decide (0 ≤ e.2.2 ∧ e.2.2 ≤ w - 1))

/-- the wheels after an event -/
def repD (w : Int) (d : List Int) (e : Ev) : List Int :=
  if e.1 = 1 then d.set e.2.1.toNat ((d.getD e.2.1.toNat 0 + e.2.2).tmod w)
  else if e.1 = 3 ∧ e.2.1 + 1 < d.length then d.set (e.2.1.toNat + 1) ((d.getD (e.2.1.toNat + 1) 0 + 1).tmod w) else d

def repS (w : Int) (l : List Int) (xs : List Ev) : Nat → List Int
  | 0 => l
  | i + 1 => repD w (repS w l xs i) (xs.getD i (((0 : Int), ((0 : Int), (0 : Int))) : Int × Int × Int))

theorem repS_len (w : Int) (l : List Int) (xs : List Ev) : ∀ i, (repS w l xs i).length = l.length
  | 0 => rfl
  | i + 1 => by
    have ih := repS_len w l xs i
    simp only [repS, repD]
    split
    · simp [ih]
    · split
      · simp [ih]
      · exact ih

theorem tmod_in' {w x : Int} (hw : 2 ≤ w) (h : 0 ≤ x) : 0 ≤ x.tmod w ∧ x.tmod w ≤ w - 1 := by
  rw [Int.tmod_eq_emod_of_nonneg h]
  have h3 := Int.emod_nonneg x (show w ≠ 0 by omega)
  have h4 := Int.emod_lt_of_pos x (show 0 < w by omega)
  omega

theorem evOk_parts {w : Int} {n : Nat} {e : Ev} (h : evOk w n e = true) : (1 ≤ e.1 ∧ e.1 ≤ 3) ∧ (0 ≤ e.2.1 ∧ e.2.1 ≤ (n : Int) - 1) ∧ (0 ≤ e.2.2 ∧ e.2.2 ≤ w - 1) := by
  simp only [evOk, Bool.and_eq_true, decide_eq_true_eq] at h
  exact h

theorem repS_ok {w : Int} (hw : 2 ≤ w) {l : List Int} (hd : digitsOk w l) (xs : List Ev) (hx : ∀ e ∈ xs, evOk w l.length e = true) : ∀ i, i ≤ xs.length → digitsOk w (repS w l xs i)
  | 0, _ => hd
  | i + 1, hi => by
    have ih := repS_ok hw hd xs hx i (by omega)
    have hl := repS_len w l xs i
    have he : evOk w l.length (xs.getD i (((0 : Int), ((0 : Int), (0 : Int))) : Int × Int × Int)) = true := by rw [getD_lt (by omega)]; exact hx _ (List.getElem_mem _)
    obtain ⟨p1, p2, p3⟩ := evOk_parts he
    simp only [repS, repD]
    split
    · have g := getD_all (p := fun d => 0 ≤ d ∧ d ≤ w - 1) ih (i := (xs.getD i (((0 : Int), ((0 : Int), (0 : Int))) : Int × Int × Int)).2.1.toNat) (by omega)
      exact mem_set_all ih (tmod_in' hw (by omega))
    · split
      · rename_i hc
        have g := getD_all (p := fun d => 0 ≤ d ∧ d ≤ w - 1) ih (i := (xs.getD i (((0 : Int), ((0 : Int), (0 : Int))) : Int × Int × Int)).2.1.toNat + 1) (by omega)
        exact mem_set_all ih (tmod_in' hw (by omega))
      · exact ih

def replayR (r : Reg) (xs : List Ev) : Reg × Int :=
  cond (validR r) (cond (xs.all (evOk r.1 r.2.length)) (cond (validR (r.1, repS r.1 r.2 xs xs.length)) ((r.1, repS r.1 r.2 xs xs.length), 0) (zeroR, 5)) (zeroR, 2)) (zeroR, 1)

theorem replayR_len (r : Reg) (xs : List Ev) : ((replayR r xs).1.2.length : Int) ≤ 16 := by
  unfold replayR
  cases h : validR r with
  | false => simp
  | true =>
    obtain ⟨_, h2, _, _⟩ := validR_all h
    simp only [cond_t]
    cases xs.all (evOk r.1 r.2.length)
    · simp
    · simp only [cond_t]
      cases validR (r.1, repS r.1 r.2 xs xs.length)
      · simp
      · simp only [cond_t, repS_len]; omega

theorem i_sole (b : Int) (l : List Int) (h : (l.length : Int) ≤ 9223372036854775806) : F_i_sole (b, l) = some (cond (validR (b, l)) ((b, l), 0) (zeroR, 5)) := by
  unfold F_i_sole
  simp only [i_validR' b l h, bind_s]
  cases validR (b, l) <;> rfl

theorem i_replay (r : Reg) (xs : List Ev) (hr : (r.2.length : Int) ≤ 1048576) (hx : (xs.length : Int) ≤ 1048576) : F_i_ReplayEvents (r, xs) = some (replayR r xs) := by
  unfold F_i_ReplayEvents F_i_Register_width replayR
  simp only [i_validR r (by omega), bind_s]
  cases h : validR r with
  | false => rfl
  | true =>
    obtain ⟨w, l⟩ := r
    obtain ⟨hw, hl, hd, _⟩ := validR_all h
    simp only at hw hl hd
    simp only [bnot_t, cond_f, cond_t, n2i_e, xlen_e]
    refine Eq.trans (iter_all2 (good := cond (validR (w, repS w l xs xs.length)) ((w, repS w l xs xs.length), 0) (zeroR, 5)) (bad := (zeroR, 2)) xs (evOk w l.length) (fun i => ((xs.length : Int), (i : Int), xs, w, l, (0 : Int), ([] : List Int))) rfl (fun i hi hp' => ?_) (fun i hi hp' => ?_) (fun hall => ?_)) ?_
    · have hg : xs.getD i (((0 : Int), ((0 : Int), (0 : Int))) : Int × Int × Int) = xs[i] := getD_lt hi
      obtain ⟨p1, p2, p3⟩ := evOk_parts hp'
      rw [← hg] at p1 p2 p3
      simp (disch := omega) only [ilt_e, cond_pos, okIx_e, chk_pos, xget_e, i2n_e, between_e, bind_s, bnot_d, isub_e, iadd_e, w64, xlen_e]
      rw [cond_neg (fun h => h p1), cond_neg (fun h => h p2), cond_neg (fun h => h p3)]
      rfl
    · have hg : xs.getD i (((0 : Int), ((0 : Int), (0 : Int))) : Int × Int × Int) = xs[i] := getD_lt hi
      rw [← hg] at hp'
      simp (disch := omega) only [ilt_e, cond_pos, okIx_e, chk_pos, xget_e, i2n_e, between_e, bind_s, bnot_d, isub_e, iadd_e, w64, xlen_e]
      by_cases q1 : 1 ≤ (xs.getD i (((0 : Int), ((0 : Int), (0 : Int))) : Int × Int × Int)).1 ∧ (xs.getD i (((0 : Int), ((0 : Int), (0 : Int))) : Int × Int × Int)).1 ≤ 3
      · rw [cond_neg (by simpa using q1)]
        by_cases q2 : 0 ≤ (xs.getD i (((0 : Int), ((0 : Int), (0 : Int))) : Int × Int × Int)).2.1 ∧ (xs.getD i (((0 : Int), ((0 : Int), (0 : Int))) : Int × Int × Int)).2.1 ≤ (l.length : Int) - 1
        · rw [cond_neg (by simpa using q2)]
          by_cases q3 : 0 ≤ (xs.getD i (((0 : Int), ((0 : Int), (0 : Int))) : Int × Int × Int)).2.2 ∧ (xs.getD i (((0 : Int), ((0 : Int), (0 : Int))) : Int × Int × Int)).2.2 ≤ w - 1
          · simp only [evOk, q1, q2, q3, and_self, decide_true, Bool.and_self] at hp'
            cases hp'
          · rw [cond_pos (by simpa using q3)]
        · rw [cond_pos (by simpa using q2)]
      · rw [cond_pos (by simpa using q1)]
    · rw [List.all_eq_true] at hall
      simp (disch := omega) only [ilt_e, cond_neg, cpN, bind_s]
      refine Eq.trans (congrArg (Option.map Sum.inr) (iter_run (r := cond (validR (w, repS w l xs xs.length)) ((w, repS w l xs xs.length), 0) (zeroR, 5)) (fun i => ((xs.length : Int), (i : Int), w, l, (0 : Int), ([] : List Int), w, repS w l xs i, xs)) xs.length (by simp [repS, n2i, xlen]) (fun i hi => ?_) ?_)) rfl
      · have hg : xs.getD i (((0 : Int), ((0 : Int), (0 : Int))) : Int × Int × Int) = xs[i] := getD_lt hi
        obtain ⟨p1, p2, p3⟩ := evOk_parts (hall _ (List.getElem_mem hi))
        rw [← hg] at p1 p2 p3
        have hok := repS_ok hw.1 hd xs hall i (by omega)
        have hlen := repS_len w l xs i
        have g1 := getD_all (p := fun d => 0 ≤ d ∧ d ≤ w - 1) hok (i := (xs.getD i (((0 : Int), ((0 : Int), (0 : Int))) : Int × Int × Int)).2.1.toNat) (by omega)
        have e1 : i2n ((xs.getD i (((0 : Int), ((0 : Int), (0 : Int))) : Int × Int × Int)).2.1 + 1) = (xs.getD i (((0 : Int), ((0 : Int), (0 : Int))) : Int × Int × Int)).2.1.toNat + 1 := by unfold i2n; omega
        have e2 : i2n (xs.getD i (((0 : Int), ((0 : Int), (0 : Int))) : Int × Int × Int)).2.1 = (xs.getD i (((0 : Int), ((0 : Int), (0 : Int))) : Int × Int × Int)).2.1.toNat := rfl
        simp (disch := omega) only [ilt_e, cond_pos, okIx_e, xlen_e, chk_pos, xget_e, i2n_e, ieq_e, iadd_e, w64]
        simp only [repS, repD]
        by_cases q2 : (xs.getD i (((0 : Int), ((0 : Int), (0 : Int))) : Int × Int × Int)).1 = 2
        · rw [cond_pos q2, if_neg (by omega), if_neg (by omega)]
          rfl
        rw [cond_neg q2]
        by_cases q3 : (xs.getD i (((0 : Int), ((0 : Int), (0 : Int))) : Int × Int × Int)).1 = 3
        · rw [cond_pos q3, if_neg (by omega)]
          by_cases q4 : (xs.getD i (((0 : Int), ((0 : Int), (0 : Int))) : Int × Int × Int)).2.1 + 1 < ((repS w l xs i).length : Int)
          · have g2 := getD_all (p := fun d => 0 ≤ d ∧ d ≤ w - 1) hok (i := (xs.getD i (((0 : Int), ((0 : Int), (0 : Int))) : Int × Int × Int)).2.1.toNat + 1) (by omega)
            rw [if_pos ⟨q3, q4⟩]
            simp (disch := omega) only [n2i_e, cond_pos, chk_pos, okDiv_e, okIx_e, xlen_e, xset_e, e1, irem_e, w64]
            rfl
          · rw [if_neg (fun h => q4 h.2)]
            simp (disch := omega) only [n2i_e, cond_neg]
            rfl
        · rw [cond_neg q3, if_pos (by omega)]
          simp (disch := omega) only [n2i_e, cond_pos, chk_pos, okDiv_e, okIx_e, xlen_e, xset_e, e2, irem_e, w64]
          rfl
      · have hlen := repS_len w l xs xs.length
        simp (disch := omega) only [ilt_e, cond_neg, i_sole, bind_s]
        rfl
    · cases xs.all (evOk w l.length) <;> rfl

theorem s_event (w : Int) (l : List Int) (e : Ev) (hl : l.length ≤ 16) (hw : 2 ≤ w ∧ w ≤ 16) : F_s_l06Event ((w, l), e) = some (evOk w l.length e) := by
  unfold F_s_l06Event evOk
  simp (disch := omega) only [l00In_e, bind_s, n2i_e, xlen_e, isub_e, w64]
  cases decide (1 ≤ e.1 ∧ e.1 ≤ 3) with
  | false => rfl
  | true => cases decide (0 ≤ e.2.1 ∧ e.2.1 ≤ (l.length : Int) - 1) <;> rfl

theorem s_replay (r : Reg) (xs : List Ev) (hr : (r.2.length : Int) ≤ 1048576) (hx : (xs.length : Int) ≤ 1048576) : F_s_ReplayEvents (r, xs) = some (replayR r xs) := by
  unfold F_s_ReplayEvents replayR
  simp only [s_validR r (by omega), bind_s]
  cases h : validR r with
  | false => rfl
  | true =>
    obtain ⟨w, l⟩ := r
    obtain ⟨hw, hl, hd, _⟩ := validR_all h
    simp only at hw hl hd
    have ho := ownR (w, l) (by simp only; omega)
    simp only [bnot_t, cond_f, cond_t, ho, bind_s]
    have hpre : ∀ i, (∀ j, j < i → (hj : j < xs.length) → evOk w l.length xs[j] = true) → i ≤ xs.length → digitsOk w (repS w l xs i) := by
      intro i
      induction i with
      | zero => exact fun _ _ => hd
      | succ i ih =>
        intro hj hi
        have ih' := ih (fun j h1 h2 => hj j (by omega) h2) (by omega)
        have hlen := repS_len w l xs i
        have he : evOk w l.length (xs.getD i (((0 : Int), ((0 : Int), (0 : Int))) : Int × Int × Int)) = true := by rw [getD_lt (by omega)]; exact hj i (by omega) (by omega)
        obtain ⟨p1, p2, p3⟩ := evOk_parts he
        simp only [repS, repD]
        split
        · have g := getD_all (p := fun d => 0 ≤ d ∧ d ≤ w - 1) ih' (i := (xs.getD i (((0 : Int), ((0 : Int), (0 : Int))) : Int × Int × Int)).2.1.toNat) (by omega)
          exact mem_set_all ih' (tmod_in' hw.1 (by omega))
        · split
          · have g := getD_all (p := fun d => 0 ≤ d ∧ d ≤ w - 1) ih' (i := (xs.getD i (((0 : Int), ((0 : Int), (0 : Int))) : Int × Int × Int)).2.1.toNat + 1) (by omega)
            exact mem_set_all ih' (tmod_in' hw.1 (by omega))
          · exact ih'
    have step : ∀ i (hi : i < xs.length), (∀ j, j ≤ i → (hj : j < xs.length) → evOk w l.length xs[j] = true) → True := fun _ _ _ => trivial
    cases hall : xs.all (evOk w l.length) with
    | true =>
      rw [List.all_eq_true] at hall
      simp only [cond_t]
      refine iter_run (fun i => ((i : Int), xs, w, l, (0 : Int), ([] : List Int), w, repS w l xs i)) xs.length (by simp [repS]) (fun i hi => ?_) ?_
      · have hg : xs.getD i (((0 : Int), ((0 : Int), (0 : Int))) : Int × Int × Int) = xs[i] := getD_lt hi
        have he : evOk w l.length (xs.getD i (((0 : Int), ((0 : Int), (0 : Int))) : Int × Int × Int)) = true := by rw [hg]; exact hall _ (List.getElem_mem hi)
        obtain ⟨p1, p2, p3⟩ := evOk_parts he
        have hok := hpre i (fun j _ hj => hall _ (List.getElem_mem hj)) (by omega)
        have hlen := repS_len w l xs i
        have g1 := getD_all (p := fun d => 0 ≤ d ∧ d ≤ w - 1) hok (i := (xs.getD i (((0 : Int), ((0 : Int), (0 : Int))) : Int × Int × Int)).2.1.toNat) (by omega)
        have e1 : i2n ((xs.getD i (((0 : Int), ((0 : Int), (0 : Int))) : Int × Int × Int)).2.1 + 1) = (xs.getD i (((0 : Int), ((0 : Int), (0 : Int))) : Int × Int × Int)).2.1.toNat + 1 := by unfold i2n; omega
        have e2 : i2n (xs.getD i (((0 : Int), ((0 : Int), (0 : Int))) : Int × Int × Int)).2.1 = (xs.getD i (((0 : Int), ((0 : Int), (0 : Int))) : Int × Int × Int)).2.1.toNat := rfl
        simp (disch := omega) only [ilt_e, n2i_e, cond_pos, okIx_e, xlen_e, chk_pos, xget_e, i2n_e, pair_eta, s_event w l _ hl.2 hw, he, bind_s, bnot_t, cond_f, ieq_e, iadd_e, w64]
        simp only [repS, repD]
        by_cases q1 : (xs.getD i (((0 : Int), ((0 : Int), (0 : Int))) : Int × Int × Int)).1 = 1
        · rw [cond_pos q1, if_pos q1]
          simp (disch := omega) only [chk_pos, okDiv_e, okIx_e, xlen_e, xset_e, e2, irem_e, w64]
          rfl
        rw [cond_neg q1, if_neg q1]
        by_cases q3 : (xs.getD i (((0 : Int), ((0 : Int), (0 : Int))) : Int × Int × Int)).1 = 3
        · rw [cond_pos q3]
          by_cases q4 : (xs.getD i (((0 : Int), ((0 : Int), (0 : Int))) : Int × Int × Int)).2.1 + 1 < ((repS w l xs i).length : Int)
          · have g2 := getD_all (p := fun d => 0 ≤ d ∧ d ≤ w - 1) hok (i := (xs.getD i (((0 : Int), ((0 : Int), (0 : Int))) : Int × Int × Int)).2.1.toNat + 1) (by omega)
            rw [if_pos ⟨q3, q4⟩]
            simp (disch := omega) only [cond_pos, chk_pos, okDiv_e, okIx_e, xlen_e, xset_e, e1, irem_e, w64]
            rfl
          · rw [if_neg (fun h => q4 h.2)]
            simp (disch := omega) only [cond_neg]
            rfl
        · rw [cond_neg q3, if_neg (fun h => q3 h.1)]
          rfl
      · have hlen := repS_len w l xs xs.length
        simp (disch := omega) only [ilt_e, n2i_e, xlen_e, cond_neg, s_full06, bind_s]
        cases validR (w, repS w l xs xs.length) <;> rfl
    | false =>
      simp only [cond_f]
      have hex : ∃ k, ∃ h : k < xs.length, evOk w l.length xs[k] = false ∧ ∀ j (hj : j < k), evOk w l.length (xs[j]'(by omega)) = true := by
        clear hx hpre step h ho
        induction xs with
        | nil => simp at hall
        | cons x xs ih =>
          cases hx : evOk w l.length x with
          | false => exact ⟨0, by simp, hx, fun j hj => by omega⟩
          | true =>
            simp only [List.all_cons, hx, Bool.true_and] at hall
            obtain ⟨k, hk, h1, h2⟩ := ih hall
            refine ⟨k + 1, by simpa using hk, by simpa using h1, fun j hj => ?_⟩
            cases j with
            | zero => simpa using hx
            | succ j => simpa using h2 j (by omega)
      obtain ⟨k, hk, hbad, hgood⟩ := hex
      refine iter_run (fun i => ((i : Int), xs, w, l, (0 : Int), ([] : List Int), w, repS w l xs i)) k (by simp [repS]) (fun i hi => ?_) ?_
      · have hi' : i < xs.length := by omega
        have hg : xs.getD i (((0 : Int), ((0 : Int), (0 : Int))) : Int × Int × Int) = xs[i] := getD_lt hi'
        have he : evOk w l.length (xs.getD i (((0 : Int), ((0 : Int), (0 : Int))) : Int × Int × Int)) = true := by rw [hg]; exact hgood i hi
        obtain ⟨p1, p2, p3⟩ := evOk_parts he
        have hok := hpre i (fun j hj _ => hgood j (by omega)) (by omega)
        have hlen := repS_len w l xs i
        have g1 := getD_all (p := fun d => 0 ≤ d ∧ d ≤ w - 1) hok (i := (xs.getD i (((0 : Int), ((0 : Int), (0 : Int))) : Int × Int × Int)).2.1.toNat) (by omega)
        have e1 : i2n ((xs.getD i (((0 : Int), ((0 : Int), (0 : Int))) : Int × Int × Int)).2.1 + 1) = (xs.getD i (((0 : Int), ((0 : Int), (0 : Int))) : Int × Int × Int)).2.1.toNat + 1 := by unfold i2n; omega
        have e2 : i2n (xs.getD i (((0 : Int), ((0 : Int), (0 : Int))) : Int × Int × Int)).2.1 = (xs.getD i (((0 : Int), ((0 : Int), (0 : Int))) : Int × Int × Int)).2.1.toNat := rfl
        simp (disch := omega) only [ilt_e, n2i_e, cond_pos, okIx_e, xlen_e, chk_pos, xget_e, i2n_e, pair_eta, s_event w l _ hl.2 hw, he, bind_s, bnot_t, cond_f, ieq_e, iadd_e, w64]
        simp only [repS, repD]
        by_cases q1 : (xs.getD i (((0 : Int), ((0 : Int), (0 : Int))) : Int × Int × Int)).1 = 1
        · rw [cond_pos q1, if_pos q1]
          simp (disch := omega) only [chk_pos, okDiv_e, okIx_e, xlen_e, xset_e, e2, irem_e, w64]
          rfl
        rw [cond_neg q1, if_neg q1]
        by_cases q3 : (xs.getD i (((0 : Int), ((0 : Int), (0 : Int))) : Int × Int × Int)).1 = 3
        · rw [cond_pos q3]
          by_cases q4 : (xs.getD i (((0 : Int), ((0 : Int), (0 : Int))) : Int × Int × Int)).2.1 + 1 < ((repS w l xs i).length : Int)
          · have g2 := getD_all (p := fun d => 0 ≤ d ∧ d ≤ w - 1) hok (i := (xs.getD i (((0 : Int), ((0 : Int), (0 : Int))) : Int × Int × Int)).2.1.toNat + 1) (by omega)
            rw [if_pos ⟨q3, q4⟩]
            simp (disch := omega) only [cond_pos, chk_pos, okDiv_e, okIx_e, xlen_e, xset_e, e1, irem_e, w64]
            rfl
          · rw [if_neg (fun h => q4 h.2)]
            simp (disch := omega) only [cond_neg]
            rfl
        · rw [cond_neg q3, if_neg (fun h => q3 h.1)]
          rfl
      · have hg : xs.getD k (((0 : Int), ((0 : Int), (0 : Int))) : Int × Int × Int) = xs[k] := getD_lt hk
        have he : evOk w l.length (xs.getD k (((0 : Int), ((0 : Int), (0 : Int))) : Int × Int × Int)) = false := by rw [hg]; exact hbad
        simp (disch := omega) only [ilt_e, n2i_e, cond_pos, okIx_e, xlen_e, chk_pos, xget_e, i2n_e, pair_eta, s_event w l _ hl.2 hw, he, bind_s, bnot_f, cond_t]

theorem law_ReplayEvents (a : Reg) (b : List Ev) (h0 : (a.2.length : Int) ≤ 9223372036854775807) (h1 : (b.length : Int) ≤ 9223372036854775807) : F_l_FnExactReplayEvents (a, b) = some true := by
  have hb := replayR_len a b
  unfold F_l_FnExactReplayEvents
  obtain ⟨v0, e0, q0⟩ := sz_R a 1048576 h0 (by omega) (by omega)
  simp only [e0, bind_s, ilt_e]
  rcases q0 with rfl | ⟨q0, q0'⟩
  · rfl
  rw [cond_neg (by omega)]
  obtain ⟨v1, e1, q1⟩ := sz_CarryEventS b v0 h1 (by omega) (by omega)
  simp only [e1, bind_s, ilt_e]
  rcases q1 with rfl | ⟨q1, q1'⟩
  · rfl
  rw [cond_neg (by omega)]
  simp (disch := omega) only [bind_s, ilt_e, cond_neg, to_Register, to_Int64S, eq_Register, eq_Int64S, mark_Register, mark_Int64S, held_Register, held_Int64S, to_BoolS, eq_BoolS, mark_BoolS, held_BoolS, to_CarryEventS, eq_CarryEventS, mark_CarryEventS, held_CarryEventS, eq_SignalS, mark_SignalS, held_SignalS, decide_true, bnot_t, cond_f, ine_e, not_true_eq_false, decide_false, bnev_s, cnt_len, s_replay, i_replay]

theorem FnExactReplayEvents_true {t1 t3 : TypeId} (x : (Reg) × (List Ev)) (h : wfArgs [.val true (.pair (.int .i64) (.row false t1 (.int .i64))), .val false (.row false t3 (.pair (.int .i64) (.pair (.int .i64) (.int .i64))))] x) : ∃ y, F_l_FnExactReplayEvents x = some y ∧ hhead .bool [] y = true :=
  ⟨true, law_ReplayEvents (x.1) (x.2) (maxLen_le (n := (x.1).2.length) h.1.2.1) (maxLen_le (n := List.length (x.2)) h.2.1.1), rfl⟩


end Go.Prg
