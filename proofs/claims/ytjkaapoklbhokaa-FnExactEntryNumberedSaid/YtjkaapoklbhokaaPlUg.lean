/- Plain laws, part Ug: entries of a catalogue. Conditions: none. -/
import Derived.Test.YtjkaapoklbhokaaPlUd
set_option linter.all false
namespace Go.Prg
open Go.Eng

abbrev Ent := Int × ByteArray × ByteArray × Int × List ByteArray

theorem sne_self (a : ByteArray) : sne a a = false := by simp [sne]

/-- a loop over indexes that stops at the first one that fails -/
theorem iter_rng {σ X : Type} {f : σ → Option (σ ⊕ X)} {s : σ} {good bad : X} (n : Nat) (p : Nat → Bool) (inv : Nat → σ) (h0 : s = inv 0)
    (hs : ∀ i, i < n → f (inv i) = some (cond (p i) (.inl (inv (i + 1))) (.inr bad))) (he : f (inv n) = some (.inr good)) : iter f s = some (cond ((List.range n).all p) good bad) := by
  have hg : ∀ i (hi : i < (List.range n).length), (List.range n)[i] = i := fun i hi => by simp
  refine iter_all2 (List.range n) p inv h0 (fun i hi hp => ?_) (fun i hi hp => ?_) (fun _ => by rw [List.length_range]; exact he)
  · rw [hg] at hp
    rw [hs i (by simpa using hi), hp]; rfl
  · rw [hg] at hp
    rw [hs i (by simpa using hi), hp]; rfl

/-- the order of bytes is total -/
theorem bl_tot : ∀ (x y : List UInt8), (Op.bytesLess x y || (x == y)) = !(Op.bytesLess y x)
  | [], [] => by simp [Op.bytesLess]
  | [], _ :: _ => by simp [Op.bytesLess]
  | _ :: _, [] => by simp [Op.bytesLess]
  | a :: x, b :: y => by
    have ih := bl_tot x y
    rw [Op.bytesLess, Op.bytesLess]
    by_cases h1 : a < b
    · have h2 : ¬ b < a := by rw [UInt8.lt_iff_toNat_lt] at *; omega
      have h3 : ¬ b = a := by rintro rfl; rw [UInt8.lt_iff_toNat_lt] at *; omega
      simp [h1, h2, h3]
    · by_cases h2 : b < a
      · have h3 : ¬ a = b := by rintro rfl; rw [UInt8.lt_iff_toNat_lt] at *; omega
        simp [h1, h2, h3]
      · have h3 : a = b := by
          rw [UInt8.lt_iff_toNat_lt] at h1 h2
          exact UInt8.toNat_inj.1 (by omega)
        subst h3
        simp [ih]

theorem sle_sge (a b : ByteArray) : sle a b = sge b a := bl_tot a.toList b.toList

/- names -/
def nmCh (L : List Int) (i : Nat) : Bool := decide (97 ≤ L.getD i 0 ∧ L.getD i 0 ≤ 122) || (!decide (i = 0) && (decide (L.getD i 0 = 45) || decide (48 ≤ L.getD i 0 ∧ L.getD i 0 ≤ 57)))
def nmB (L : List Int) : Bool := decide (1 ≤ L.length ∧ L.length ≤ 12) && (List.range L.length).all (nmCh L)

theorem i_digit (x : Int) : F_i_isDigit x = some (decide (48 ≤ x ∧ x ≤ 57)) := by
  unfold F_i_isDigit
  simp only [ige_e, ile_e]
  by_cases h : 48 ≤ x
  · rw [cond_pos h]; simp [h]
  · rw [cond_neg h]; simp [h]
theorem s_digit (x : Int) : F_s_l01Digit x = some (decide (48 ≤ x ∧ x ≤ 57)) := by
  unfold F_s_l01Digit
  simp only [ige_e, ile_e]
  by_cases h : 48 ≤ x
  · rw [cond_pos h]; simp [h]
  · rw [cond_neg h]; simp [h]
theorem s_small (x : Int) : F_s_l01Small x = some (decide (97 ≤ x ∧ x ≤ 122)) := by
  unfold F_s_l01Small
  simp only [ige_e, ile_e]
  by_cases h : 97 ≤ x
  · rw [cond_pos h]; simp [h]
  · rw [cond_neg h]; simp [h]

theorem i_name (s : ByteArray) : F_i_IsName s = some (nmB (toL s)) := by
  unfold F_i_IsName nmB
  have es := slen_e s
  generalize hL : toL s = L at es ⊢
  simp only [ieq_e, igt_e, n2i_e, es]
  by_cases h0 : L.length = 0
  · rw [cond_pos (by omega), decide_eq_false (by omega)]; rfl
  · rw [cond_neg (by omega)]
    by_cases h1 : L.length ≤ 12
    · rw [cond_neg (by omega), decide_eq_true (by omega), Bool.true_and]
      refine Eq.trans (iter_rng (good := true) (bad := false) L.length (nmCh L) (fun i => (s, (L.length : Int), (i : Int))) rfl (fun i hi => ?_) ?_) (by cases (List.range L.length).all (nmCh L) <;> rfl)
      · simp (disch := omega) only [ilt_e, cond_pos, okIx_e, es, chk_pos, i2n_e, byteAt_e, hL, ige_e, ile_e, ieq_e, ine_e, i_digit, bind_s, iadd_e, w64]
        unfold nmCh
        by_cases c1 : 97 ≤ L.getD i 0
        · rw [cond_pos c1]
          by_cases c2 : L.getD i 0 ≤ 122
          · rw [decide_eq_true c2, decide_eq_true (p := 97 ≤ L.getD i 0 ∧ L.getD i 0 ≤ 122) ⟨c1, c2⟩]; rfl
          · rw [decide_eq_false c2, decide_eq_false (p := 97 ≤ L.getD i 0 ∧ L.getD i 0 ≤ 122) (fun q => c2 q.2), decide_eq_false (p := 48 ≤ L.getD i 0 ∧ L.getD i 0 ≤ 57) (by omega), decide_eq_false (p := L.getD i 0 = 45) (by omega), decide_eq_true (p := ¬ L.getD i 0 = 45) (by omega)]
            by_cases c0 : i = 0
            · rw [decide_eq_true (p := (i : Int) = 0) (by omega), decide_eq_true c0]; rfl
            · rw [decide_eq_false (p := (i : Int) = 0) (by omega), decide_eq_false c0]; rfl
        · rw [cond_neg c1, decide_eq_false (p := 97 ≤ L.getD i 0 ∧ L.getD i 0 ≤ 122) (fun q => c1 q.1)]
          by_cases c0 : i = 0
          · rw [decide_eq_true (p := (i : Int) = 0) (by omega), decide_eq_true c0]; rfl
          · rw [decide_eq_false (p := (i : Int) = 0) (by omega), decide_eq_false c0]
            by_cases c3 : L.getD i 0 = 45
            · rw [decide_eq_true c3, decide_eq_false (p := ¬ L.getD i 0 = 45) (fun q => q c3)]; rfl
            · rw [decide_eq_false c3, decide_eq_true (p := ¬ L.getD i 0 = 45) c3]
              cases decide (48 ≤ L.getD i 0 ∧ L.getD i 0 ≤ 57) <;> rfl
      · simp (disch := omega) only [ilt_e, cond_neg]
    · rw [cond_pos (by omega), decide_eq_false (by omega)]; rfl

theorem s_name (s : ByteArray) : F_s_IsName s = some (nmB (toL s)) := by
  unfold F_s_IsName nmB
  have es := slen_e s
  have hq : seq s (ByteArray.mk #[]) = decide (toL s = []) := by rw [seq_e, toL_nil]
  rw [hq]
  generalize hL : toL s = L at es ⊢
  simp only [igt_e, n2i_e, es]
  by_cases h0 : L = []
  · rw [cond_pos h0, decide_eq_false (by rw [h0]; simp)]; rfl
  · have hlen : 1 ≤ L.length := List.length_pos_iff.2 h0
    rw [cond_neg h0]
    by_cases h1 : L.length ≤ 12
    · have ez : i2n 0 = 0 := rfl
      rw [cond_neg (by omega), decide_eq_true (by omega), Bool.true_and]
      simp (disch := omega) only [okIx_e, es, chk_pos, ez, byteAt_e, hL, s_small, bind_s, bnot_d]
      by_cases c0 : 97 ≤ L.getD 0 0 ∧ L.getD 0 0 ≤ 122
      · rw [cond_neg (fun q => q c0)]
        refine Eq.trans (iter_rng (good := true) (bad := false) L.length (nmCh L) (fun i => (s, (i : Int))) rfl (fun i hi => ?_) ?_) (by cases (List.range L.length).all (nmCh L) <;> rfl)
        · simp (disch := omega) only [ilt_e, n2i_e, cond_pos, okIx_e, es, chk_pos, i2n_e, byteAt_e, hL, s_small, s_digit, bind_s, ine_e, iadd_e, w64]
          unfold nmCh
          by_cases c1 : 97 ≤ L.getD i 0 ∧ L.getD i 0 ≤ 122
          · rw [cond_neg (fun q => q c1), decide_eq_true c1]; rfl
          · have ci : ¬ i = 0 := by rintro rfl; exact c1 c0
            rw [cond_pos c1, decide_eq_false c1, decide_eq_false ci]
            by_cases c2 : 48 ≤ L.getD i 0 ∧ L.getD i 0 ≤ 57
            · rw [decide_eq_true c2, Bool.or_true]; rfl
            · rw [decide_eq_false c2]
              by_cases c3 : L.getD i 0 = 45
              · rw [decide_eq_true c3, decide_eq_false (p := ¬ L.getD i 0 = 45) (fun q => q c3)]; rfl
              · rw [decide_eq_false c3, decide_eq_true (p := ¬ L.getD i 0 = 45) c3]; rfl
        · simp (disch := omega) only [ilt_e, n2i_e, es, cond_neg]
      · rw [cond_pos c0]
        cases ha : (List.range L.length).all (nmCh L) with
        | false => rfl
        | true =>
          rw [List.all_eq_true] at ha
          have h9 := ha 0 (List.mem_range.2 (by omega))
          rw [nmCh, decide_eq_false c0] at h9
          simp at h9
    · rw [cond_pos (by omega), decide_eq_false (by omega)]; rfl

/- entries -/
def wdOk (W : List ByteArray) (i : Nat) : Bool := nmB (toL (W.getD i (ByteArray.mk #[]))) && (decide (i = 0) || !(sge (W.getD (i - 1) (ByteArray.mk #[])) (W.getD i (ByteArray.mk #[]))))
def entB (e : Ent) : Bool := decide (1 ≤ e.1 ∧ e.1 ≤ 1000000) && (nmB (toL e.2.1) && (nmB (toL e.2.2.1) && (decide (1000 ≤ e.2.2.2.1 ∧ e.2.2.2.1 ≤ 3000) && (decide (e.2.2.2.2.length ≤ 8) && (List.range e.2.2.2.2.length).all (wdOk e.2.2.2.2)))))

theorem i_entry (e : Ent) (h : (e.2.2.2.2.length : Int) ≤ 1048576) : F_i_validEntry e = some (entB e) := by
  unfold F_i_validEntry entB
  obtain ⟨n, a, b, y, W⟩ := e
  simp only [between_e, bind_s, i_name]
  cases decide (1 ≤ n ∧ n ≤ 1000000) with
  | false => rfl
  | true =>
    cases nmB (toL a) with
    | false => rfl
    | true =>
      cases nmB (toL b) with
      | false => rfl
      | true =>
        cases decide (1000 ≤ y ∧ y ≤ 3000) with
        | false => rfl
        | true =>
          simp only [bnot_t, cond_f, Bool.true_and, igt_e, n2i_e, xlen_e]
          simp only at h
          by_cases h8 : W.length ≤ 8
          · rw [cond_neg (by omega), decide_eq_true h8, Bool.true_and]
            refine Eq.trans (iter_rng (good := true) (bad := false) W.length (wdOk W) (fun i => ((W.length : Int), (i : Int), n, a, b, y, W)) rfl (fun i hi => ?_) ?_) (by cases (List.range W.length).all (wdOk W) <;> rfl)
            · simp (disch := omega) only [ilt_e, cond_pos, okIx_e, xlen_e, chk_pos, xget_e, i2n_e, i_name, bind_s, sle_sge]
              unfold wdOk
              cases nmB (toL (W.getD i (ByteArray.mk #[]))) with
              | false => rfl
              | true =>
                simp only [bnot_t, cond_f, Bool.true_and, igt_e]
                by_cases h0 : i = 0
                · rw [cond_neg (by omega), iadd_e, w64 (by omega) (by omega), decide_eq_true h0]; rfl
                · have e1 : i2n ((i : Int) - 1) = i - 1 := by unfold i2n; omega
                  rw [cond_pos (by omega), decide_eq_false h0]
                  simp (disch := omega) only [isub_e, w64, okIx_e, chk_pos, e1, iadd_e, Bool.false_or]
                  cases sge (W.getD (i - 1) (ByteArray.mk #[])) (W.getD i (ByteArray.mk #[])) <;> rfl
            · simp (disch := omega) only [ilt_e, cond_neg]
          · rw [cond_pos (by omega), decide_eq_false h8]; rfl

theorem s_entry (e : Ent) (h : (e.2.2.2.2.length : Int) ≤ 1048576) : F_s_l25One e = some (entB e) := by
  unfold F_s_l25One entB
  simp only [l00In_e, bind_s, s_name]
  cases decide (1 ≤ e.1 ∧ e.1 ≤ 1000000) with
  | false => rfl
  | true =>
    cases nmB (toL e.2.1) with
    | false => rfl
    | true =>
      cases nmB (toL e.2.2.1) with
      | false => rfl
      | true =>
        cases decide (1000 ≤ e.2.2.2.1 ∧ e.2.2.2.1 ≤ 3000) with
        | false => rfl
        | true =>
          simp only [bnot_t, cond_f, Bool.true_and]
          have hq8 : igt (n2i (xlen e.2.2.2.2)) 8 = decide (8 < (e.2.2.2.2.length : Int)) := rfl
          rw [hq8]
          by_cases h8 : e.2.2.2.2.length ≤ 8
          · rw [cond_neg (by omega), decide_eq_true h8, Bool.true_and]
            refine Eq.trans (iter_rng (good := true) (bad := false) e.2.2.2.2.length (wdOk e.2.2.2.2) (fun i => ((i : Int), [e])) rfl (fun i hi => ?_) ?_) (by cases (List.range e.2.2.2.2.length).all (wdOk e.2.2.2.2) <;> rfl)
            · simp (disch := omega) only [xget0, ilt_e, n2i_e, xlen_e, cond_pos, okIx_e, chk_pos, xget_e, i2n_e, s_name, bind_s]
              unfold wdOk
              cases nmB (toL (e.2.2.2.2.getD i (ByteArray.mk #[]))) with
              | false => rfl
              | true =>
                simp only [bnot_t, cond_f, Bool.true_and, igt_e]
                by_cases h0 : i = 0
                · rw [cond_neg (by omega), iadd_e, w64 (by omega) (by omega), decide_eq_true h0]; rfl
                · have e1 : i2n ((i : Int) - 1) = i - 1 := by unfold i2n; omega
                  rw [cond_pos (by omega), decide_eq_false h0]
                  simp (disch := omega) only [isub_e, w64, okIx_e, chk_pos, e1, iadd_e, Bool.false_or]
                  cases sge (e.2.2.2.2.getD (i - 1) (ByteArray.mk #[])) (e.2.2.2.2.getD i (ByteArray.mk #[])) <;> rfl
            · simp (disch := omega) only [xget0, ilt_e, n2i_e, xlen_e, cond_neg]
          · rw [cond_pos (by omega), decide_eq_false h8]; rfl

def lenES (l : List Ent) (B : Int) : Prop := (l.length : Int) ≤ B ∧ ∀ i, i < l.length → ((l.getD i (0, ((ByteArray.mk #[]), ((ByteArray.mk #[]), (0, ([] : List ByteArray)))))).2.2.2.2.length : Int) ≤ B
def enOk (l : List Ent) (i : Nat) : Bool := entB (l.getD i (0, ((ByteArray.mk #[]), ((ByteArray.mk #[]), (0, ([] : List ByteArray)))))) && (decide (i = 0) || !decide ((l.getD i (0, ((ByteArray.mk #[]), ((ByteArray.mk #[]), (0, ([] : List ByteArray)))))).1 ≤ (l.getD (i - 1) (0, ((ByteArray.mk #[]), ((ByteArray.mk #[]), (0, ([] : List ByteArray)))))).1))
def entsB (l : List Ent) : Bool := (List.range l.length).all (enOk l) && decide (l.length ≤ 50)

theorem i_ents (l : List Ent) (h : lenES l 1048576) : F_i_ValidEntries l = some (entsB l) := by
  unfold F_i_ValidEntries
  have h0 := h.1
  refine Eq.trans (iter_rng (good := decide (l.length ≤ 50)) (bad := false) l.length (enOk l) (fun i => ((l.length : Int), (i : Int), l)) rfl (fun i hi => ?_) ?_) ?_
  · have e := i_entry _ (h.2 i hi)
    simp (disch := omega) only [ilt_e, cond_pos, okIx_e, xlen_e, chk_pos, xget_e, i2n_e, pair_eta, e, bind_s]
    unfold enOk
    cases entB (l.getD i (0, ((ByteArray.mk #[]), ((ByteArray.mk #[]), (0, ([] : List ByteArray)))))) with
    | false => rfl
    | true =>
      simp only [bnot_t, cond_f, Bool.true_and, igt_e]
      by_cases h0 : i = 0
      · rw [cond_neg (by omega), iadd_e, w64 (by omega) (by omega), decide_eq_true h0]; rfl
      · have e1 : i2n ((i : Int) - 1) = i - 1 := by unfold i2n; omega
        rw [cond_pos (by omega), decide_eq_false h0]
        simp (disch := omega) only [isub_e, w64, okIx_e, chk_pos, e1, iadd_e, Bool.false_or, ile_e]
        cases decide ((l.getD i (0, ((ByteArray.mk #[]), ((ByteArray.mk #[]), (0, ([] : List ByteArray)))))).1 ≤ (l.getD (i - 1) (0, ((ByteArray.mk #[]), ((ByteArray.mk #[]), (0, ([] : List ByteArray)))))).1) <;> rfl
  · simp (disch := omega) only [ilt_e, n2i_e, xlen_e, cond_neg, ile_e]
    refine congrArg (fun b => some (Sum.inr b)) ?_
    by_cases hh : l.length ≤ 50
    · rw [decide_eq_true hh, decide_eq_true (by omega)]
    · rw [decide_eq_false hh, decide_eq_false (by omega)]
  · unfold entsB
    cases (List.range l.length).all (enOk l) <;> rfl

theorem s_ents (l : List Ent) (h : lenES l 1048576) : F_s_l25Ok l = some (entsB l) := by
  unfold F_s_l25Ok
  have h0 := h.1
  refine Eq.trans (iter_rng (good := decide (l.length ≤ 50)) (bad := false) l.length (enOk l) (fun i => ((i : Int), l)) rfl (fun i hi => ?_) ?_) ?_
  · have e := s_entry _ (h.2 i hi)
    simp (disch := omega) only [ilt_e, n2i_e, cond_pos, okIx_e, xlen_e, chk_pos, xget_e, i2n_e, e, bind_s]
    unfold enOk
    cases entB (l.getD i (0, ((ByteArray.mk #[]), ((ByteArray.mk #[]), (0, ([] : List ByteArray)))))) with
    | false => rfl
    | true =>
      simp only [bnot_t, cond_f, Bool.true_and, igt_e]
      by_cases h0 : i = 0
      · rw [cond_neg (by omega), iadd_e, w64 (by omega) (by omega), decide_eq_true h0]; rfl
      · have e1 : i2n ((i : Int) - 1) = i - 1 := by unfold i2n; omega
        rw [cond_pos (by omega), decide_eq_false h0]
        simp (disch := omega) only [isub_e, w64, okIx_e, chk_pos, e1, iadd_e, Bool.false_or, ige_e]
        cases decide ((l.getD i (0, ((ByteArray.mk #[]), ((ByteArray.mk #[]), (0, ([] : List ByteArray)))))).1 ≤ (l.getD (i - 1) (0, ((ByteArray.mk #[]), ((ByteArray.mk #[]), (0, ([] : List ByteArray)))))).1) <;> rfl
  · simp (disch := omega) only [ilt_e, n2i_e, xlen_e, cond_neg, ile_e]
    refine congrArg (fun b => some (Sum.inr b)) ?_
    by_cases hh : l.length ≤ 50
    · rw [decide_eq_true hh, decide_eq_true (by omega)]
    · rw [decide_eq_false hh, decide_eq_false (by omega)]
  · unfold entsB
    cases (List.range l.length).all (enOk l) <;> rfl

/- where an entry is -/
def fdI (n : Int) : List Ent → Nat
  | [] => 0
  | e :: r => if e.1 = n then 0 else fdI n r + 1
theorem fdI_spec (n : Int) : ∀ (l : List Ent), fdI n l ≤ l.length ∧ (∀ j, j < fdI n l → ¬ (l.getD j (0, ((ByteArray.mk #[]), ((ByteArray.mk #[]), (0, ([] : List ByteArray)))))).1 = n) ∧ (fdI n l < l.length → (l.getD (fdI n l) (0, ((ByteArray.mk #[]), ((ByteArray.mk #[]), (0, ([] : List ByteArray)))))).1 = n)
  | [] => by simp [fdI]
  | e :: r => by
    obtain ⟨h1, h2, h3⟩ := fdI_spec n r
    by_cases h : e.1 = n
    · simp only [fdI, if_pos h, List.length_cons]
      exact ⟨by omega, fun j hj => absurd hj (by omega), fun _ => by simpa using h⟩
    · simp only [fdI, if_neg h, List.length_cons]
      refine ⟨by omega, fun j hj => ?_, fun g => ?_⟩
      · cases j with
        | zero => simpa using h
        | succ j => simpa using h2 j (by omega)
      · simpa using h3 (by omega)

theorem i_at (l : List Ent) (n : Int) (h : (l.length : Int) ≤ 1048576) : F_i_entryAt (l, n) = some (if fdI n l < l.length then (fdI n l : Int) else -1) := by
  unfold F_i_entryAt
  obtain ⟨h1, h2, h3⟩ := fdI_spec n l
  refine iter_run (fun i => (n, (l.length : Int), (i : Int), l)) (fdI n l) rfl (fun i hi => ?_) ?_
  · have hne := h2 i hi
    simp (disch := omega) only [ilt_e, cond_pos, okIx_e, xlen_e, chk_pos, xget_e, i2n_e, ieq_e, iadd_e, w64]
    rw [cond_neg hne]; rfl
  · by_cases hk : fdI n l < l.length
    · simp (disch := omega) only [ilt_e, cond_pos, okIx_e, xlen_e, chk_pos, xget_e, i2n_e, ieq_e]
      first | rw [if_pos hk] | rw [cond_pos (h3 hk), if_pos hk]
    · simp (disch := omega) only [ilt_e, cond_neg]
      rw [if_neg hk]
theorem s_at (l : List Ent) (n : Int) (h : (l.length : Int) ≤ 1048576) : F_s_l25Find (l, n) = some (if fdI n l < l.length then (fdI n l : Int) else -1) := by
  unfold F_s_l25Find
  obtain ⟨h1, h2, h3⟩ := fdI_spec n l
  refine iter_run (fun i => (n, (i : Int), l)) (fdI n l) rfl (fun i hi => ?_) ?_
  · have hne := h2 i hi
    simp (disch := omega) only [ilt_e, n2i_e, cond_pos, okIx_e, xlen_e, chk_pos, xget_e, i2n_e, ieq_e, iadd_e, w64]
    rw [cond_neg hne]; rfl
  · by_cases hk : fdI n l < l.length
    · simp (disch := omega) only [ilt_e, n2i_e, cond_pos, okIx_e, xlen_e, chk_pos, xget_e, i2n_e, ieq_e]
      first | rw [if_pos hk] | rw [cond_pos (h3 hk), if_pos hk]
    · simp (disch := omega) only [ilt_e, n2i_e, xlen_e, cond_neg]
      rw [if_neg hk]

theorem own_e (e : Ent) (h : (e.2.2.2.2.length : Int) ≤ 1048576) : F_s_l25Own e = some e := by
  unfold F_s_l25Own
  simp (disch := (simp only [List.length_nil]; omega)) only [okRoom_e, xlen_e, chk_pos]
  rfl
theorem cp_e (e : Ent) (h : (e.2.2.2.2.length : Int) ≤ 1048576) : F_i_Entry_copied e = some e := by
  unfold F_i_Entry_copied
  simp (disch := (simp only [List.length_nil]; omega)) only [okRoom_e, xlen_e, chk_pos]
  rfl

def ask (l : List Ent) (n : Int) : Int × Int := cond (entsB l) (if fdI n l < l.length then ((fdI n l : Int), 0) else (0, 3)) (0, 1)
theorem s_ask (l : List Ent) (n : Int) (h : lenES l 1048576) : F_s_l25Ask (l, n) = some (ask l n) := by
  unfold F_s_l25Ask ask
  simp only [s_ents l h, bind_s]
  cases entsB l with
  | false => rfl
  | true =>
    simp only [bnot_t, cond_f, cond_t, s_at l n h.1, bind_s, ilt_e]
    by_cases hk : fdI n l < l.length
    · rw [if_pos hk, if_pos hk, cond_neg (by omega)]
    · rw [if_neg hk, if_neg hk]; rfl

def entR (l : List Ent) (n : Int) : Ent × Int := cond (entsB l) (if fdI n l < l.length then (l.getD (fdI n l) (0, ((ByteArray.mk #[]), ((ByteArray.mk #[]), (0, ([] : List ByteArray))))), 0) else ((0, ((ByteArray.mk #[]), ((ByteArray.mk #[]), (0, ([] : List ByteArray))))), 3)) ((0, ((ByteArray.mk #[]), ((ByteArray.mk #[]), (0, ([] : List ByteArray))))), 1)
theorem entR_len (l : List Ent) (n : Int) (h : lenES l 1048576) : ((entR l n).1.2.2.2.2.length : Int) ≤ 1048576 := by
  unfold entR
  cases entsB l with
  | false => simp
  | true =>
    simp only [cond_t]
    split
    · exact h.2 _ (by assumption)
    · simp

theorem i_ent (l : List Ent) (n : Int) (h : lenES l 1048576) : F_i_EntryNumbered (l, n) = some (entR l n) := by
  unfold F_i_EntryNumbered entR
  simp only [i_ents l h, bind_s]
  cases entsB l with
  | false => rfl
  | true =>
    simp only [bnot_t, cond_f, cond_t, i_at l n h.1, bind_s, ilt_e]
    by_cases hk : fdI n l < l.length
    · have e := cp_e _ (h.2 _ hk)
      rw [if_pos hk, if_pos hk, cond_neg (by omega)]
      simp (disch := omega) only [okIx_e, xlen_e, chk_pos, xget_e, i2n_e, pair_eta, e, bind_s]
    · rw [if_neg hk, if_neg hk]; rfl

theorem s_ent (l : List Ent) (n : Int) (h : lenES l 1048576) : F_s_EntryNumbered (l, n) = some (entR l n) := by
  unfold F_s_EntryNumbered entR
  simp only [s_ask l n h, bind_s, ask]
  cases entsB l with
  | false => rfl
  | true =>
    simp only [cond_t]
    by_cases hk : fdI n l < l.length
    · have e := own_e _ (h.2 _ hk)
      simp only [if_pos hk, ine_e, not_true_eq_false, decide_false, cond_f]
      simp (disch := omega) only [okIx_e, xlen_e, chk_pos, xget_e, i2n_e, pair_eta, e, bind_s]
    · simp only [if_neg hk]; rfl

/- removed -/
theorem s_copies (l : List Ent) (h : lenES l 1048576) : F_s_l25Copy l = some l := by
  unfold F_s_l25Copy
  have h0 := h.1
  refine iter_run (fun i => ((i : Int), l, l.take i)) l.length (by simp) (fun i hi => ?_) ?_
  · have e := own_e _ (h.2 i hi)
    have hl : (l.take i).length = i := by rw [List.length_take]; omega
    simp (disch := omega) only [ilt_e, n2i_e, xlen_e, cond_pos, okIx_e, chk_pos, xget_e, i2n_e, e, bind_s, okRoom_e, hl, List.length_cons, List.length_nil, pair_eta, iadd_e, w64, xapp_e]
    rw [List.take_succ_eq_append_getElem hi, getD_lt hi]
    rfl
  · simp (disch := omega) only [ilt_e, n2i_e, xlen_e, cond_neg]
    rw [List.take_length]
theorem i_copies (l : List Ent) (h : lenES l 1048576) : F_i_copyEntries l = some l := by
  unfold F_i_copyEntries
  have h0 := h.1
  refine iter_run (fun i => ((l.length : Int), (i : Int), l.take i, l)) l.length (by simp) (fun i hi => ?_) ?_
  · have e := cp_e _ (h.2 i hi)
    have hl : (l.take i).length = i := by rw [List.length_take]; omega
    simp (disch := omega) only [ilt_e, cond_pos, okIx_e, xlen_e, chk_pos, xget_e, i2n_e, pair_eta, e, bind_s, okRoom_e, hl, List.length_cons, List.length_nil, iadd_e, w64, xapp_e]
    rw [List.take_succ_eq_append_getElem hi, getD_lt hi]
    rfl
  · simp (disch := omega) only [ilt_e, cond_neg]
    rw [List.take_length]

def remR (l : List Ent) (n : Int) : List Ent × Int := cond (entsB l) (if fdI n l < l.length then (l.take (fdI n l) ++ l.drop (fdI n l + 1), 0) else ([], 3)) ([], 1)
theorem lenES_take {l : List Ent} {B : Int} (h : lenES l B) (k : Nat) : lenES (l.take k) B := by
  refine ⟨by rw [List.length_take]; have := h.1; omega, fun i hi => ?_⟩
  rw [List.length_take] at hi
  have e : (l.take k).getD i (0, ((ByteArray.mk #[]), ((ByteArray.mk #[]), (0, ([] : List ByteArray))))) = l.getD i (0, ((ByteArray.mk #[]), ((ByteArray.mk #[]), (0, ([] : List ByteArray))))) := by rw [List.getD_eq_getElem?_getD, List.getElem?_take, if_pos (by omega), List.getD_eq_getElem?_getD]
  rw [e]; exact h.2 i (by omega)
theorem lenES_drop {l : List Ent} {B : Int} (h : lenES l B) (k : Nat) : lenES (l.drop k) B := by
  refine ⟨by rw [List.length_drop]; have := h.1; omega, fun i hi => ?_⟩
  rw [List.length_drop] at hi
  have e : (l.drop k).getD i (0, ((ByteArray.mk #[]), ((ByteArray.mk #[]), (0, ([] : List ByteArray))))) = l.getD (k + i) (0, ((ByteArray.mk #[]), ((ByteArray.mk #[]), (0, ([] : List ByteArray))))) := by rw [List.getD_eq_getElem?_getD, List.getElem?_drop, List.getD_eq_getElem?_getD]
  rw [e]; exact h.2 _ (by omega)
theorem lenES_app {l m : List Ent} {B : Int} (h : lenES l B) (h' : lenES m B) (hB : ((l ++ m).length : Int) ≤ B) : lenES (l ++ m) B := by
  refine ⟨hB, fun i hi => ?_⟩
  rw [List.length_append] at hi
  by_cases q : i < l.length
  · have e : (l ++ m).getD i (0, ((ByteArray.mk #[]), ((ByteArray.mk #[]), (0, ([] : List ByteArray))))) = l.getD i (0, ((ByteArray.mk #[]), ((ByteArray.mk #[]), (0, ([] : List ByteArray))))) := by rw [List.getD_eq_getElem?_getD, List.getElem?_append_left q, List.getD_eq_getElem?_getD]
    rw [e]; exact h.2 i q
  · have e : (l ++ m).getD i (0, ((ByteArray.mk #[]), ((ByteArray.mk #[]), (0, ([] : List ByteArray))))) = m.getD (i - l.length) (0, ((ByteArray.mk #[]), ((ByteArray.mk #[]), (0, ([] : List ByteArray))))) := by rw [List.getD_eq_getElem?_getD, List.getElem?_append_right (by omega), List.getD_eq_getElem?_getD]
    rw [e]; exact h'.2 _ (by omega)
theorem remR_len (l : List Ent) (n : Int) (h : lenES l 1048576) : lenES (remR l n).1 1048576 := by
  have hn : lenES ([] : List Ent) 1048576 := ⟨by simp, fun i hi => absurd hi (by simp)⟩
  unfold remR
  cases entsB l with
  | false => exact hn
  | true =>
    simp only [cond_t]
    split
    · have := h.1
      exact lenES_app (lenES_take h _) (lenES_drop h _) (by simp only [List.length_append, List.length_take, List.length_drop]; omega)
    · exact hn

theorem i_rem (l : List Ent) (n : Int) (h : lenES l 1048576) : F_i_RemoveEntry (l, n) = some (remR l n) := by
  unfold F_i_RemoveEntry remR
  simp only [i_ents l h, bind_s]
  have h0 := h.1
  cases entsB l with
  | false => rfl
  | true =>
    simp only [bnot_t, cond_f, cond_t, i_at l n h.1, bind_s, ilt_e]
    by_cases hk : fdI n l < l.length
    · have e1 : i2n ((fdI n l : Int) + 1) = fdI n l + 1 := by unfold i2n; omega
      have c1 := i_copies _ (lenES_take h (fdI n l))
      have c2 := i_copies _ (lenES_drop h (fdI n l + 1))
      have l1 : (l.take (fdI n l)).length = fdI n l := by rw [List.length_take]; omega
      have l2 : (l.drop (fdI n l + 1)).length = l.length - (fdI n l + 1) := by rw [List.length_drop]
      rw [if_pos hk, if_pos hk, cond_neg (by omega)]
      simp (disch := omega) only [okTo_e, xlen_e, chk_pos, i2n_e, iadd_e, w64, e1, xsub_e, List.drop_zero, List.take_length, c1, c2, bind_s, okRoom_e, l1, l2, xapp_e]
    · rw [if_neg hk, if_neg hk]; rfl

theorem s_rem (l : List Ent) (n : Int) (h : lenES l 1048576) : F_s_RemoveEntry (l, n) = some (remR l n) := by
  unfold F_s_RemoveEntry
  have hr := remR_len l n h
  unfold remR at hr ⊢
  simp only [s_ask l n h, bind_s, ask]
  have h0 := h.1
  cases hv : entsB l with
  | false => rfl
  | true =>
    rw [hv] at hr
    simp only [cond_t] at hr ⊢
    by_cases hk : fdI n l < l.length
    · have e1 : i2n ((fdI n l : Int) + 1) = fdI n l + 1 := by unfold i2n; omega
      have l1 : (l.take (fdI n l)).length = fdI n l := by rw [List.length_take]; omega
      have l2 : (l.drop (fdI n l + 1)).length = l.length - (fdI n l + 1) := by rw [List.length_drop]
      rw [if_pos hk] at hr
      simp only [if_pos hk, ine_e, not_true_eq_false, decide_false, cond_f]
      have c1 := s_copies _ hr
      simp only at c1
      simp (disch := first | omega | (simp only [List.length_nil, List.nil_append]; omega)) only [okTo_e, xlen_e, chk_pos, i2n_e, iadd_e, w64, e1, xsub_e, List.drop_zero, List.take_length, List.nil_append, okRoom_e, l1, l2, xapp_e, c1, bind_s]
    · simp only [if_neg hk]; rfl

/- the size of what is given -/
def hugeW (W : List ByteArray) : Prop := (W.length : Int) ≤ 9223372036854775807 ∧ ∀ i, i < W.length → ((W.getD i (ByteArray.mk #[])).size : Int) ≤ 9223372036854775807
def hugeE (e : Ent) : Prop := (e.2.1.size : Int) ≤ 9223372036854775807 ∧ (e.2.2.1.size : Int) ≤ 9223372036854775807 ∧ hugeW e.2.2.2.2
def hugeS (l : List Ent) : Prop := (l.length : Int) ≤ 9223372036854775807 ∧ ∀ i, i < l.length → hugeE (l.getD i (0, ((ByteArray.mk #[]), ((ByteArray.mk #[]), (0, ([] : List ByteArray))))))

theorem slen_s (s : ByteArray) : slen s = s.size := rfl

theorem sz_StringS (W : List ByteArray) (n : Int) (h : hugeW W) (hn : 0 ≤ n) (hn' : n ≤ 1048576) : ∃ v, F_l_szStringS (W, n) = some v ∧ (v = -1 ∨ 0 ≤ v ∧ v ≤ n ∧ (W.length : Int) ≤ n) := by
  unfold F_l_szStringS
  obtain ⟨h1, h2⟩ := h
  simp (disch := omega) only [xlen_e, n2i_e, isub_e, w64, ilt_e]
  by_cases hs : n - W.length < 0
  · exact ⟨-1, by rw [cond_pos hs], .inl rfl⟩
  rw [cond_neg hs]
  have key : ∀ m i (v : Int), i + m = W.length → 0 ≤ v → v ≤ n - W.length → ∃ r, iter (σ := Int × Int × List ByteArray) (fun s2 =>
      (cond (decide (s2.2.1 < (s2.2.2.length : Int)))
        (chk (okIx s2.2.1 s2.2.2.length)
        (cond (decide (IntKind.i64.wrap (s2.1 - ((slen (xget s2.2.2 (i2n s2.2.1) (ByteArray.mk #[])) : Nat) : Int)) < 0))
          (some (.inr (-1)))
          (some (.inl (IntKind.i64.wrap (s2.1 - ((slen (xget s2.2.2 (i2n s2.2.1) (ByteArray.mk #[])) : Nat) : Int)), ((iadd .i64 s2.2.1 1), s2.2.2))))))
        (some (.inr s2.1)))) (v, ((i : Int), W)) = some r ∧ (r = -1 ∨ 0 ≤ r ∧ r ≤ n) := by
    intro m
    induction m with
    | zero =>
      intro i v hi h0 hv
      refine ⟨v, iter_end ?_, .inr ⟨h0, by omega⟩⟩
      simp (disch := omega) only [cond_neg]
    | succ m ih =>
      intro i v hi h0 hv
      have h3 := h2 i (by omega)
      by_cases hv' : v - (W.getD i (ByteArray.mk #[])).size < 0
      · refine ⟨-1, iter_end ?_, .inl rfl⟩
        simp (disch := omega) only [cond_pos, okIx_e, chk_pos, xget_e, i2n_e, slen_s, w64]
      · obtain ⟨r', e', q'⟩ := ih (i + 1) (v - (W.getD i (ByteArray.mk #[])).size) (by omega) (by omega) (by omega)
        refine ⟨r', iter_eq ?_ e', q'⟩
        simp (disch := omega) only [cond_pos, okIx_e, chk_pos, xget_e, i2n_e, slen_s, w64, cond_neg, iadd_e]
        rfl
  obtain ⟨r, e, q⟩ := key W.length 0 (n - W.length) (by omega) (by omega) (by omega)
  refine ⟨r, e, ?_⟩
  rcases q with q | ⟨q1, q2⟩
  · exact .inl q
  · exact .inr ⟨q1, q2, by omega⟩

theorem sz_Entry (e : Ent) (n : Int) (h : hugeE e) (hn : 0 ≤ n) (hn' : n ≤ 1048576) : ∃ v, F_l_szEntry (e, n) = some v ∧ (v = -1 ∨ 0 ≤ v ∧ v ≤ n ∧ (e.2.2.2.2.length : Int) ≤ n) := by
  unfold F_l_szEntry
  obtain ⟨h1, h2, h3⟩ := h
  simp only [slen_s, n2i_e, isub_e, ilt_e]
  by_cases a1 : n - e.2.1.size < 0
  · exact ⟨-1, by simp (disch := omega) only [w64, cond_pos], .inl rfl⟩
  by_cases a2 : n - e.2.1.size - e.2.2.1.size < 0
  · exact ⟨-1, by simp (disch := omega) only [w64, cond_pos, cond_neg], .inl rfl⟩
  obtain ⟨v, e1, q⟩ := sz_StringS e.2.2.2.2 (n - e.2.1.size - e.2.2.1.size) h3 (by omega) (by omega)
  simp (disch := omega) only [w64, cond_neg, e1, bind_s]
  rcases q with rfl | ⟨q1, q2, q3⟩
  · exact ⟨-1, rfl, .inl rfl⟩
  · exact ⟨v, by rw [cond_neg (by omega)], .inr ⟨q1, by omega, by omega⟩⟩

theorem sz_EntryS (l : List Ent) (n : Int) (h : hugeS l) (hn : 0 ≤ n) (hn' : n ≤ 1048576) : ∃ v, F_l_szEntryS (l, n) = some v ∧ (v = -1 ∨ 0 ≤ v ∧ v ≤ n ∧ lenES l n) := by
  unfold F_l_szEntryS
  obtain ⟨h1, h2⟩ := h
  simp (disch := omega) only [xlen_e, n2i_e, isub_e, w64, ilt_e]
  by_cases hs : n - l.length < 0
  · exact ⟨-1, by rw [cond_pos hs], .inl rfl⟩
  rw [cond_neg hs]
  have key : ∀ m i (v : Int), i + m = l.length → 0 ≤ v → v ≤ n - l.length → (∀ j, j < i → ((l.getD j (0, ((ByteArray.mk #[]), ((ByteArray.mk #[]), (0, ([] : List ByteArray)))))).2.2.2.2.length : Int) ≤ n) → ∃ r, iter (σ := Int × Int × List Ent) (fun s2 =>
      (cond (decide (s2.2.1 < (s2.2.2.length : Int)))
        (chk (okIx s2.2.1 s2.2.2.length)
        (Option.bind (F_l_szEntry (((xget s2.2.2 (i2n s2.2.1) (0, ((ByteArray.mk #[]), ((ByteArray.mk #[]), (0, ([] : List ByteArray)))))).1, ((xget s2.2.2 (i2n s2.2.1) (0, ((ByteArray.mk #[]), ((ByteArray.mk #[]), (0, ([] : List ByteArray)))))).2.1, ((xget s2.2.2 (i2n s2.2.1) (0, ((ByteArray.mk #[]), ((ByteArray.mk #[]), (0, ([] : List ByteArray)))))).2.2.1, (xget s2.2.2 (i2n s2.2.1) (0, ((ByteArray.mk #[]), ((ByteArray.mk #[]), (0, ([] : List ByteArray)))))).2.2.2))), s2.1)) fun r4 =>
          (cond (decide (r4 < 0))
            (some (.inr (-1)))
            (some (.inl (r4, ((iadd .i64 s2.2.1 1), s2.2.2)))))))
        (some (.inr s2.1)))) (v, ((i : Int), l)) = some r ∧ (r = -1 ∨ 0 ≤ r ∧ r ≤ n ∧ ∀ j, j < l.length → ((l.getD j (0, ((ByteArray.mk #[]), ((ByteArray.mk #[]), (0, ([] : List ByteArray)))))).2.2.2.2.length : Int) ≤ n) := by
    intro m
    induction m with
    | zero =>
      intro i v hi h0 hv hj
      refine ⟨v, iter_end ?_, .inr ⟨h0, by omega, fun j hj' => hj j (by omega)⟩⟩
      simp (disch := omega) only [cond_neg]
    | succ m ih =>
      intro i v hi h0 hv hj
      obtain ⟨r, e, q⟩ := sz_Entry (l.getD i (0, ((ByteArray.mk #[]), ((ByteArray.mk #[]), (0, ([] : List ByteArray)))))) v (h2 i (by omega)) h0 (by omega)
      rcases q with rfl | ⟨q1, q2, q3⟩
      · refine ⟨-1, iter_end ?_, .inl rfl⟩
        simp (disch := omega) only [cond_pos, okIx_e, chk_pos, xget_e, i2n_e, pair_eta, e, bind_s]
      · obtain ⟨r', e', q'⟩ := ih (i + 1) r (by omega) q1 (by omega) (fun j hj' => by
          by_cases hji : j = i
          · rw [hji]; omega
          · exact hj j (by omega))
        refine ⟨r', iter_eq ?_ e', q'⟩
        simp (disch := omega) only [cond_pos, okIx_e, chk_pos, xget_e, i2n_e, pair_eta, e, bind_s, cond_neg, iadd_e, w64]
        rfl
  obtain ⟨r, e, q⟩ := key l.length 0 (n - l.length) (by omega) (by omega) (by omega) (fun j hj => absurd hj (by omega))
  refine ⟨r, e, ?_⟩
  rcases q with q | ⟨q1, q2, q3⟩
  · exact .inl q
  · exact .inr ⟨q1, q2, by omega, q3⟩

/- moved and compared -/
theorem to_StringS (l : List ByteArray) (h : (l.length : Int) ≤ 1048576) : F_l_toStringS l = some l := by
  unfold F_l_toStringS
  simp (disch := omega) only [xlen_e, n2i_e, ieq_e, okMake_e, chk_pos, i2n_e, xrep_e, decide_true, chk_t]
  refine iter_run (fun i => ((i : Int), l, l.take i ++ List.replicate (l.length - i) (ByteArray.mk #[]))) l.length (by simp) (fun i hi => ?_) ?_
  · have hlen : (l.take i ++ List.replicate (l.length - i) (ByteArray.mk #[])).length = l.length := by simp; omega
    have ht : (l.take i).length = i := by simp; omega
    simp (disch := omega) only [xlen_e, n2i_e, ilt_e, cond_pos, okIx_e, hlen, chk_pos, i2n_e, xset_e, xget_e, iadd_e, w64]
    rw [mid_rep ht hi, List.take_succ_eq_append_getElem hi, getD_lt hi]
    rfl
  · simp (disch := omega) only [xlen_e, n2i_e, ilt_e, cond_neg, Nat.sub_self]
    simp
theorem to_Entry (e : Ent) (h : (e.2.2.2.2.length : Int) ≤ 1048576) : F_l_toEntry e = some e := by
  unfold F_l_toEntry
  simp only [to_StringS _ h, bind_s]
theorem to_EntryS (l : List Ent) (h : lenES l 1048576) : F_l_toEntryS l = some l := by
  unfold F_l_toEntryS
  have h0 := h.1
  simp (disch := omega) only [xlen_e, n2i_e, ieq_e, okMake_e, chk_pos, i2n_e, xrep_e, decide_true, chk_t]
  refine iter_run (fun i => ((i : Int), l, l.take i ++ List.replicate (l.length - i) (0, ((ByteArray.mk #[]), ((ByteArray.mk #[]), (0, ([] : List ByteArray))))))) l.length (by simp) (fun i hi => ?_) ?_
  · have hlen : (l.take i ++ List.replicate (l.length - i) (0, ((ByteArray.mk #[]), ((ByteArray.mk #[]), (0, ([] : List ByteArray)))))).length = l.length := by simp; omega
    have ht : (l.take i).length = i := by simp; omega
    have e := to_Entry _ (h.2 i hi)
    simp (disch := omega) only [xlen_e, n2i_e, ilt_e, cond_pos, okIx_e, hlen, chk_pos, i2n_e, xset_e, xget_e, iadd_e, w64, pair_eta, e, bind_s]
    rw [mid_rep ht hi, List.take_succ_eq_append_getElem hi, getD_lt hi]
    rfl
  · simp (disch := omega) only [xlen_e, n2i_e, ilt_e, cond_neg, Nat.sub_self]
    simp

theorem eq_StringS (l : List ByteArray) (h : (l.length : Int) ≤ 1048576) : F_l_eqStringS (l, l) = some true := by
  unfold F_l_eqStringS
  simp only [ine_e, n2i_e, xlen_e, not_true_eq_false, decide_false, cond_f]
  refine iter_run (fun i => ((i : Int), l, l)) l.length rfl (fun i hi => ?_) ?_
  · simp (disch := omega) only [ilt_e, cond_pos, okIx_e, xlen_e, chk_pos, xget_e, i2n_e, sne_self, cond_f, iadd_e, w64]
    rfl
  · simp (disch := omega) only [ilt_e, cond_neg]
theorem eq_Entry (e : Ent) (h : (e.2.2.2.2.length : Int) ≤ 1048576) : F_l_eqEntry (e, e) = some true := by
  unfold F_l_eqEntry
  simp only [ine_e, not_true_eq_false, decide_false, cond_f, sne_self, eq_StringS _ h, bind_s, bnot_t]
theorem eq_EntryS (l : List Ent) (h : lenES l 1048576) : F_l_eqEntryS (l, l) = some true := by
  unfold F_l_eqEntryS
  have h0 := h.1
  simp only [ine_e, n2i_e, xlen_e, not_true_eq_false, decide_false, cond_f]
  refine iter_run (fun i => ((i : Int), l, l)) l.length rfl (fun i hi => ?_) ?_
  · have e := eq_Entry _ (h.2 i hi)
    simp (disch := omega) only [ilt_e, cond_pos, okIx_e, xlen_e, chk_pos, xget_e, i2n_e, pair_eta, e, bind_s, bnot_t, cond_f, iadd_e, w64]
    rfl
  · simp (disch := omega) only [ilt_e, cond_neg]

/- marked -/
noncomputable def mt (k : Int) : ByteArray := ((F_l_markText k).getD ((ByteArray.mk #[]), 0)).1

theorem cat_len (x : Int) (t : ByteArray) : (sadd (b2s [x]) t).size = 1 + t.size := by
  show (b2s [x] ++ t).size = 1 + t.size
  rw [ByteArray.size_append]
  rfl

theorem markText_ex (x : Int) : ∀ (m : Nat) (k : Int) (t : ByteArray), 0 ≤ k → k ≤ 9223372036854775807 → k < 10 ^ m → t.size + m ≤ 1000 → ∃ r, iter (σ := (Int × (ByteArray × Int))) (fun s2 =>
      (cond (igt s2.1 0)
        (chk (okDiv 10)
        (chk (okCat (slen (b2s ((iwrap .u8 (iadd .i64 48 (irem s2.1 10))) :: ([] : (List Int))))) (slen s2.2.1))
        (chk (okDiv 10)
        (some (.inl ((iquo .i64 s2.1 10), ((sadd (b2s ((iwrap .u8 (iadd .i64 48 (irem s2.1 10))) :: ([] : (List Int)))) s2.2.1), s2.2.2)))))))
        (Option.map Sum.inr
          (chk (okCat (slen (ByteArray.mk #[109])) (slen s2.2.1))
        (some ((sadd (ByteArray.mk #[109]) s2.2.1), s2.2.2)))))) (k, (t, x)) = some (r, x) := by
  intro m
  induction m with
  | zero =>
    intro k t h0 hb hk ht
    refine ⟨sadd (ByteArray.mk #[109]) t, iter_end ?_⟩
    have hc : okCat (slen (ByteArray.mk #[109])) (slen t) = true := by
      show decide (1 + t.size ≤ 9223372036854775807) = true
      rw [decide_eq_true]; omega
    have hk0 : k = 0 := by simp at hk; omega
    subst hk0
    simp only [igt_e, hc]
    rfl
  | succ m ih =>
    intro k t h0 hb hk ht
    by_cases hp : 0 < k
    · have hc : ∀ y, okCat (slen (b2s [y])) (slen t) = true := by
        intro y
        show decide (1 + t.size ≤ 9223372036854775807) = true
        rw [decide_eq_true]; omega
      have hq : k.tdiv 10 = k / 10 := Int.tdiv_eq_ediv_of_nonneg h0
      obtain ⟨r, e⟩ := ih (k / 10) (sadd (b2s [iwrap .u8 (iadd .i64 48 (irem k 10))]) t) (by omega) (by omega) (by
        have : (10 : Int) ^ (m + 1) = 10 ^ m * 10 := by rw [Int.pow_succ]
        omega) (by rw [cat_len]; omega)
      refine ⟨r, iter_eq ?_ e⟩
      have hw : IntKind.i64.wrap (k / 10) = k / 10 := w64 (by omega) (by omega)
      have hd : okDiv 10 = true := rfl
      simp only [igt_e, cond_pos hp, hd, chk_t, hc, iquo_e, hq, hw]
    · refine ⟨sadd (ByteArray.mk #[109]) t, iter_end ?_⟩
      have hc : okCat (slen (ByteArray.mk #[109])) (slen t) = true := by
        show decide (1 + t.size ≤ 9223372036854775807) = true
        rw [decide_eq_true]; omega
      simp only [igt_e, cond_neg hp, hc]
      rfl

theorem markText_e (k : Int) (h0 : 0 ≤ k) (h : k ≤ 4000000000000000000) : F_l_markText k = some (mt k, k) := by
  have : ∃ r, F_l_markText k = some (r, k) := by
    unfold F_l_markText
    simp only [ile_e]
    by_cases hk : k ≤ 0
    · exact ⟨_, by rw [cond_pos hk]⟩
    · obtain ⟨r, e⟩ := markText_ex k 19 k (ByteArray.mk #[]) h0 (by omega) (by omega) (by decide)
      exact ⟨r, by rw [cond_neg hk]; exact e⟩
  obtain ⟨r, e⟩ := this
  unfold mt
  rw [e]; rfl

noncomputable def mkS (k : Int) (n : Nat) : List ByteArray := (List.range n).map fun i : Nat => mt (k + i)
theorem mkS_len (k : Int) (n : Nat) : (mkS k n).length = n := by simp [mkS]
theorem mkS_succ (k : Int) (n : Nat) : mkS k (n + 1) = mkS k n ++ [mt (k + n)] := by
  simp only [mkS]; rw [List.range_succ, List.map_append]; rfl
theorem mkS_get (k : Int) {n i : Nat} (h : i < n) : (mkS k n).getD i (ByteArray.mk #[]) = mt (k + i) := by
  simp [mkS, List.getD_eq_getElem?_getD, h]

theorem mark_StringS (l : List ByteArray) (k : Int) (h : (l.length : Int) ≤ 1048576) (hk : 0 ≤ k) (hk' : k ≤ 3000000000000000000) : F_l_markStringS (l, k) = some (k + l.length, mkS k l.length) := by
  unfold F_l_markStringS
  refine iter_run (fun i => (k + i, (i : Int), mkS k i ++ l.drop i)) l.length (by simp [mkS]) (fun i hi => ?_) ?_
  · have hlen : (mkS k i ++ l.drop i).length = l.length := by rw [List.length_append, mkS_len, List.length_drop]; omega
    have e := markText_e (k + i) (by omega) (by omega)
    have hset : (mkS k i ++ l.drop i).set i (mt (k + i)) = mkS k (i + 1) ++ l.drop (i + 1) := by
      rw [List.drop_eq_getElem_cons hi, List.set_append_right (h := by rw [mkS_len]; omega), mkS_len, Nat.sub_self, List.set_cons_zero, mkS_succ, List.append_assoc]
      rfl
    simp (disch := omega) only [xlen_e, n2i_e, ilt_e, hlen, cond_pos, e, bind_s, okIx_e, chk_pos, i2n_e, xset_e, hset, iadd_e, w64]
    rw [show k + (i : Int) + 1 = k + ((i + 1 : Nat) : Int) by omega]
    rfl
  · have hlen : (mkS k l.length ++ l.drop l.length).length = l.length := by rw [List.length_append, mkS_len, List.length_drop]; omega
    simp (disch := omega) only [xlen_e, n2i_e, ilt_e, hlen, cond_neg]
    rw [List.drop_length, List.append_nil]

theorem held_StringS (n : Nat) (k : Int) (h : (n : Int) ≤ 1048576) (hk : 0 ≤ k) (hk' : k ≤ 3000000000000000000) : F_l_heldStringS (mkS k n, k) = some (k + n) := by
  unfold F_l_heldStringS
  have hlen := mkS_len k n
  refine iter_run (fun i => (k + i, (i : Int), mkS k n)) n (by simp) (fun i hi => ?_) ?_
  · have e := markText_e (k + i) (by omega) (by omega)
    have hg := mkS_get k hi
    simp (disch := omega) only [xlen_e, n2i_e, ilt_e, hlen, cond_pos, e, bind_s, okIx_e, chk_pos, i2n_e, xget_e, hg, sne_self, cond_f, iadd_e, w64]
    rw [show k + (i : Int) + 1 = k + ((i + 1 : Nat) : Int) by omega]
    rfl
  · simp (disch := omega) only [xlen_e, n2i_e, ilt_e, hlen, cond_neg]

theorem mark_Entry (e : Ent) (k : Int) (h : (e.2.2.2.2.length : Int) ≤ 1048576) (hk : 0 ≤ k) (hk' : k ≤ 3000000000000000000) : F_l_markEntry (e, k) = some (k + e.2.2.2.2.length, (e.1, (e.2.1, (e.2.2.1, (e.2.2.2.1, mkS k e.2.2.2.2.length))))) := by
  unfold F_l_markEntry
  simp only [mark_StringS _ k h hk hk', bind_s]
theorem held_Entry (a : Int) (b c : ByteArray) (d : Int) (n : Nat) (k : Int) (h : (n : Int) ≤ 1048576) (hk : 0 ≤ k) (hk' : k ≤ 3000000000000000000) : F_l_heldEntry ((a, (b, (c, (d, mkS k n)))), k) = some (k + n) := by
  unfold F_l_heldEntry
  simp only [held_StringS n k h hk hk', bind_s, ilt_e]
  rw [cond_neg (by omega)]

noncomputable def markE (k : Int) (e : Ent) : Ent := (k, (mt (k + 1), (mt (k + 1 + 1), (k + 1 + 1 + 1, mkS (k + 1 + 1 + 1 + 1) e.2.2.2.2.length))))
def nextE (k : Int) (e : Ent) : Int := k + 1 + 1 + 1 + 1 + e.2.2.2.2.length
def markK (l : List Ent) (k : Int) : Nat → Int
  | 0 => k
  | i + 1 => nextE (markK l k i) (l.getD i (0, ((ByteArray.mk #[]), ((ByteArray.mk #[]), (0, ([] : List ByteArray))))))
noncomputable def markL (l : List Ent) (k : Int) : Nat → List Ent
  | 0 => l
  | i + 1 => (markL l k i).set i (markE (markK l k i) (l.getD i (0, ((ByteArray.mk #[]), ((ByteArray.mk #[]), (0, ([] : List ByteArray)))))))
theorem markL_len (l : List Ent) (k : Int) : ∀ i, (markL l k i).length = l.length
  | 0 => rfl
  | i + 1 => by unfold markL; rw [List.length_set]; exact markL_len l k i
theorem markL_get (l : List Ent) (k : Int) : ∀ i j, i ≤ j → (markL l k i).getD j (0, ((ByteArray.mk #[]), ((ByteArray.mk #[]), (0, ([] : List ByteArray))))) = l.getD j (0, ((ByteArray.mk #[]), ((ByteArray.mk #[]), (0, ([] : List ByteArray)))))
  | 0, _, _ => rfl
  | i + 1, j, h => by
    unfold markL
    rw [List.getD_eq_getElem?_getD, List.getElem?_set_ne (by omega), ← List.getD_eq_getElem?_getD]
    exact markL_get l k i j (by omega)
theorem markL_done (l : List Ent) (k : Int) : ∀ i j, j < i → i ≤ l.length → (markL l k i).getD j (0, ((ByteArray.mk #[]), ((ByteArray.mk #[]), (0, ([] : List ByteArray))))) = markE (markK l k j) (l.getD j (0, ((ByteArray.mk #[]), ((ByteArray.mk #[]), (0, ([] : List ByteArray))))))
  | 0, _, h, _ => absurd h (by omega)
  | i + 1, j, h, hi => by
    unfold markL
    by_cases hj : j = i
    · subst hj
      exact set_self (by rw [markL_len]; omega)
    · rw [List.getD_eq_getElem?_getD, List.getElem?_set_ne (by omega), ← List.getD_eq_getElem?_getD]
      exact markL_done l k i j (by omega) (by omega)
theorem markK_in {l : List Ent} (h : lenES l 1048576) {k : Int} (hk : 0 ≤ k) (hk' : k ≤ 1000) : ∀ i, i ≤ l.length → 0 ≤ markK l k i ∧ markK l k i ≤ 1000 + 1048580 * i
  | 0, _ => by unfold markK; omega
  | i + 1, hi => by
    have ih := markK_in h hk hk' i (by omega)
    have h2 := h.2 i (by omega)
    unfold markK nextE
    omega

theorem mark_EntryS (l : List Ent) (k : Int) (h : lenES l 1048576) (hk : 0 ≤ k) (hk' : k ≤ 1000) : F_l_markEntryS (l, k) = some (markK l k l.length, markL l k l.length) := by
  unfold F_l_markEntryS
  have h0 := h.1
  refine iter_run (fun i => (markK l k i, (i : Int), markL l k i)) l.length rfl (fun i hi => ?_) ?_
  · have hb := markK_in h hk hk' i (by omega)
    have hL := markL_len l k i
    have h2 := h.2 i hi
    have hg := markL_get l k i i (Nat.le_refl _)
    have e1 := markText_e (markK l k i + 1) (by omega) (by omega)
    have e2 := markText_e (markK l k i + 1 + 1) (by omega) (by omega)
    have e3 := mark_StringS (l.getD i (0, ((ByteArray.mk #[]), ((ByteArray.mk #[]), (0, ([] : List ByteArray)))))).2.2.2.2 (markK l k i + 1 + 1 + 1 + 1) (by omega) (by omega) (by omega)
    simp (disch := omega) only [share_e, xlen_e, n2i_e, ilt_e, cond_pos, okIx_e, hL, List.length_set, chk_pos, i2n_e, xset_e, xget_e, set_self, List.set_set, hg, iadd_e, w64, e1, e2, e3, bind_s]
    rfl
  · simp (disch := omega) only [xlen_e, n2i_e, markL_len, ilt_e, cond_neg]

theorem held_EntryS (l : List Ent) (k : Int) (h : lenES l 1048576) (hk : 0 ≤ k) (hk' : k ≤ 1000) : F_l_heldEntryS (markL l k l.length, k) = some (markK l k l.length) := by
  unfold F_l_heldEntryS
  have h0 := h.1
  have hL := markL_len l k l.length
  refine iter_run (fun i => (markK l k i, (i : Int), markL l k l.length)) l.length rfl (fun i hi => ?_) ?_
  · have hb := markK_in h hk hk' i (by omega)
    have h2 := h.2 i hi
    have hg := markL_done l k l.length i hi (Nat.le_refl _)
    have e1 := markText_e (markK l k i + 1) (by omega) (by omega)
    have e2 := markText_e (markK l k i + 1 + 1) (by omega) (by omega)
    have e3 := held_StringS (l.getD i (0, ((ByteArray.mk #[]), ((ByteArray.mk #[]), (0, ([] : List ByteArray)))))).2.2.2.2.length (markK l k i + 1 + 1 + 1 + 1) (by omega) (by omega) (by omega)
    simp (disch := omega) only [xlen_e, n2i_e, ilt_e, cond_pos, okIx_e, hL, chk_pos, i2n_e, xget_e, hg, markE, iadd_e, w64, e1, e2, e3, bind_s, ine_e, not_true_eq_false, decide_false, cond_f, sne_self, cond_neg]
    rfl
  · simp (disch := omega) only [xlen_e, n2i_e, hL, ilt_e, cond_neg]

/- the laws -/
theorem law_EntryNumbered (l : List Ent) (n : Int) (h : hugeS l) : F_l_FnExactEntryNumbered (l, n) = some true := by
  unfold F_l_FnExactEntryNumbered
  obtain ⟨v, e, q⟩ := sz_EntryS l 1048576 h (by omega) (by omega)
  simp only [e, bind_s, ilt_e]
  rcases q with rfl | ⟨q1, q2, hS⟩
  · rfl
  rw [cond_neg (by omega)]
  have hl := entR_len l n hS
  have hk := markK_in hS (k := 1) (by omega) (by omega) l.length (Nat.le_refl _)
  have m1 := mark_EntryS l 1 hS (by omega) (by omega)
  simp (disch := omega) only [to_EntryS l hS, bind_s, s_ent l n hS, i_ent l n hS, pair_eta, eq_Entry, ine_e, not_true_eq_false, decide_false, cond_f, eq_EntryS l hS, bnot_t, m1, mark_Entry, held_Entry, cond_neg]

theorem law_RemoveEntry (l : List Ent) (n : Int) (h : hugeS l) : F_l_FnExactRemoveEntry (l, n) = some true := by
  unfold F_l_FnExactRemoveEntry
  obtain ⟨v, e, q⟩ := sz_EntryS l 1048576 h (by omega) (by omega)
  simp only [e, bind_s, ilt_e]
  rcases q with rfl | ⟨q1, q2, hS⟩
  · rfl
  rw [cond_neg (by omega)]
  have hR := remR_len l n hS
  have hk := markK_in hS (k := 1) (by omega) (by omega) l.length (Nat.le_refl _)
  have hk2 := markK_in hR (k := 1) (by omega) (by omega) (remR l n).1.length (Nat.le_refl _)
  have m1 := mark_EntryS l 1 hS (by omega) (by omega)
  have m2 := mark_EntryS (remR l n).1 1 hR (by omega) (by omega)
  have m3 := held_EntryS (remR l n).1 1 hR (by omega) (by omega)
  simp (disch := omega) only [to_EntryS l hS, bind_s, s_rem l n hS, i_rem l n hS, ine_e, not_true_eq_false, decide_false, cond_f, eq_EntryS l hS, eq_EntryS _ hR, bnot_t, m1, m2, m3, cond_neg]

abbrev entTy (t1 : TypeId) : Ty := .pair (.int .i64) (.pair .str (.pair .str (.pair (.int .i64) (.row false t1 .str))))
theorem wf_ents {t1 t6 : TypeId} {l : List Ent} (h : wf (.row false t6 (entTy t1)) l) : hugeS l := by
  refine ⟨maxLen_le (n := l.length) h.1, fun i hi => ?_⟩
  have hm : l.getD i (0, ((ByteArray.mk #[]), ((ByteArray.mk #[]), (0, ([] : List ByteArray))))) ∈ l := by rw [getD_lt hi]; exact List.getElem_mem hi
  have hw := h.2 _ hm
  refine ⟨maxLen_le (n := ByteArray.size _) hw.2.1, maxLen_le (n := ByteArray.size _) hw.2.2.1, maxLen_le (n := List.length _) hw.2.2.2.2.1, fun j hj => ?_⟩
  have hm' : (l.getD i (0, ((ByteArray.mk #[]), ((ByteArray.mk #[]), (0, ([] : List ByteArray)))))).2.2.2.2.getD j (ByteArray.mk #[]) ∈ (l.getD i (0, ((ByteArray.mk #[]), ((ByteArray.mk #[]), (0, ([] : List ByteArray)))))).2.2.2.2 := by rw [getD_lt hj]; exact List.getElem_mem hj
  exact maxLen_le (n := ByteArray.size _) (hw.2.2.2.2.2 _ hm')

theorem FnExactEntryNumbered_true {t1 t6 : TypeId} (x : List Ent × Int) (h : wfArgs [.val false (.row false t6 (entTy t1)), .val false (.int .i64)] x) : ∃ y, F_l_FnExactEntryNumbered x = some y ∧ hhead .bool [] y = true :=
  ⟨true, law_EntryNumbered x.1 x.2 (wf_ents h.1), rfl⟩
theorem FnExactRemoveEntry_true {t1 t6 : TypeId} (x : List Ent × Int) (h : wfArgs [.val false (.row false t6 (entTy t1)), .val false (.int .i64)] x) : ∃ y, F_l_FnExactRemoveEntry x = some y ∧ hhead .bool [] y = true :=
  ⟨true, law_RemoveEntry x.1 x.2 (wf_ents h.1), rfl⟩

end Go.Prg
