/- Plain laws, part Ue: registers unpacked. Conditions: none. -/
import Derived.Test.YtjkaapoklbhokaaPlUd
set_option linter.all false
namespace Go.Prg
open Go.Eng

theorem tdiv_e {a b : Int} (h : 0 ≤ a) : a.tdiv b = a / b := Int.tdiv_eq_ediv_of_nonneg h
theorem tmod_e {a b : Int} (h : 0 ≤ a) : a.tmod b = a % b := Int.tmod_eq_emod_of_nonneg h

/-- the width, the base and the digits that bytes tell -/
def wN (L : List Int) : Nat := (L.getD 0 0 % 16).toNat + 1
def bN (L : List Int) : Int := L.getD 0 0 / 16 + 1
def nibs (L : List Int) (w : Nat) : List Int := (List.range w).map fun k => if k % 2 = 0 then L.getD (1 + k / 2) 0 / 16 else L.getD (1 + k / 2) 0 % 16
def enough (L : List Int) : Bool := decide (1 ≤ L.length) && decide (1 + (wN L + 1) / 2 ≤ L.length)
def padB (L : List Int) : Bool := decide (wN L % 2 = 0) || decide (L.getD ((wN L + 1) / 2) 0 % 16 = 0)
def regN (L : List Int) : Reg := (bN L, nibs L (wN L))

theorem nibs_len (L : List Int) (w : Nat) : (nibs L w).length = w := by simp [nibs]
theorem nibs_succ (L : List Int) (w : Nat) : nibs L (w + 1) = nibs L w ++ [if w % 2 = 0 then L.getD (1 + w / 2) 0 / 16 else L.getD (1 + w / 2) 0 % 16] := by
  simp only [nibs]; rw [List.range_succ, List.map_append]; rfl
theorem nibs_get (L : List Int) {w k : Nat} (h : k < w) : (nibs L w).getD k 0 = if k % 2 = 0 then L.getD (1 + k / 2) 0 / 16 else L.getD (1 + k / 2) 0 % 16 := by
  simp [nibs, List.getD_eq_getElem?_getD, h]
theorem wN_in {L : List Int} (h : ∀ x ∈ L, 0 ≤ x ∧ x ≤ 255) : 1 ≤ wN L ∧ wN L ≤ 16 ∧ (wN L : Int) = L.getD 0 0 % 16 + 1 := by
  have := getD_byte h 0
  unfold wN; omega

theorem ext_getD {l m : List Int} (hl : l.length = m.length) (h : ∀ i, i < l.length → l.getD i 0 = m.getD i 0) : l = m := by
  apply List.ext_getElem hl
  intro i h1 h2
  have := h i h1
  rwa [getD_lt h1, getD_lt h2] at this

theorem seq_nil (s : ByteArray) : seq s (ByteArray.mk #[]) = decide (toL s = []) := by rw [seq_e, toL_nil]

theorem i_take (s : ByteArray) (h : (toL s).length ≤ 2000000) :
    F_i_takeRegister s = some (cond (enough (toL s)) (regN (toL s), (ssub s (1 + (wN (toL s) + 1) / 2) (toL s).length, true)) (zeroR, (ByteArray.mk #[], false))) := by
  unfold F_i_takeRegister
  rw [seq_nil]
  have hB := toL_in s
  generalize hL : toL s = L at h hB ⊢
  by_cases h0 : L = []
  · rw [cond_pos h0, h0]; rfl
  · rw [cond_neg h0]
    have hlen : 1 ≤ L.length := List.length_pos_iff.2 h0
    obtain ⟨w1, w2, w3⟩ := wN_in hB
    have g0 := getD_byte hB 0
    have e0 : byteAt s 0 = L.getD 0 0 := by rw [byteAt_e, hL]
    have es : slen s = L.length := by rw [slen_e, hL]
    have ez : i2n 0 = 0 := rfl
    simp (disch := omega) only [okIx_e, es, chk_pos, okDiv_e, ez, e0, irem_e, iquo8_e, iquo_e, iwrap_e, iadd_e, tmod_e, tdiv_e, w64, w8, ilt_e, n2i_e]
    rw [show L.getD 0 0 % 16 + 1 = (wN L : Int) by omega]
    by_cases hn : 1 + (wN L + 1) / 2 ≤ L.length
    · have he : enough L = true := by simp [enough, hlen, hn]
      rw [cond_neg (by omega), he, cond_t]
      refine iter_run (fun k => (s, (wN L : Int), (wN L : Int), (k : Int), (0 : Int), ([] : List Int), bN L, nibs L k)) (wN L) (by simp [nibs, bN]) (fun k hk => ?_) ?_
      · have g := getD_byte hB (1 + k / 2)
        have e1 : i2n (1 + (k : Int) / 2) = 1 + k / 2 := by unfold i2n; omega
        have hl := nibs_len L k
        simp (disch := omega) only [ilt_e, cond_pos, okDiv_e, chk_pos, iquo_e, iadd_e, tdiv_e, w64, okIx_e, es, irem_e, tmod_e, e1, byteAt_e, hL, ieq_e, iquo8_e, w8, iwrap_e, okRoom_e, xlen_e, hl, List.length_cons, List.length_nil, xapp_e, nibs_succ]
        by_cases hp : k % 2 = 0
        · rw [cond_pos (by omega), if_pos hp, show L.getD (1 + k / 2) 0 / 16 % 16 = L.getD (1 + k / 2) 0 / 16 by omega]; rfl
        · rw [cond_neg (by omega), if_neg hp]; rfl
      · have e2 : i2n (1 + ((wN L : Int) + 1) / 2) = 1 + (wN L + 1) / 2 := by unfold i2n; omega
        simp (disch := omega) only [ilt_e, cond_neg, okDiv_e, chk_pos, iadd_e, iquo_e, tdiv_e, w64, okTo_e, es, e2, map_s, regN]
    · have he : enough L = false := by simp [enough, hn]
      rw [cond_pos (by omega), he]; rfl

theorem s_take (s : ByteArray) (h : (toL s).length ≤ 2000000) :
    F_s_l27Register s = some (cond (enough (toL s)) (regN (toL s), (ssub s (1 + (wN (toL s) + 1) / 2) (toL s).length, padB (toL s))) (zeroR, (ByteArray.mk #[], false))) := by
  unfold F_s_l27Register
  rw [seq_nil]
  have hB := toL_in s
  generalize hL : toL s = L at h hB ⊢
  by_cases h0 : L = []
  · rw [cond_pos h0, h0]; rfl
  · rw [cond_neg h0]
    have hlen : 1 ≤ L.length := List.length_pos_iff.2 h0
    obtain ⟨w1, w2, w3⟩ := wN_in hB
    have g0 := getD_byte hB 0
    have e0 : byteAt s 0 = L.getD 0 0 := by rw [byteAt_e, hL]
    have es : slen s = L.length := by rw [slen_e, hL]
    have ez : i2n 0 = 0 := rfl
    simp (disch := omega) only [okIx_e, es, chk_pos, okDiv_e, ez, e0, irem_e, iquo8_e, iquo_e, iwrap_e, iadd_e, tmod_e, tdiv_e, w64, w8, ilt_e, n2i_e]
    rw [show L.getD 0 0 % 16 + 1 = (wN L : Int) by omega]
    by_cases hn : 1 + (wN L + 1) / 2 ≤ L.length
    · have he : enough L = true := by simp [enough, hlen, hn]
      rw [cond_neg (by omega), he, cond_t]
      refine iter_run (fun k => (s, (wN L : Int), ((wN L : Int) + 1) / 2, (k : Int), (0 : Int), ([] : List Int), bN L, nibs L k)) (wN L) (by simp [nibs, bN]) (fun k hk => ?_) ?_
      · have g := getD_byte hB (1 + k / 2)
        have e1 : i2n (1 + (k : Int) / 2) = 1 + k / 2 := by unfold i2n; omega
        have hl := nibs_len L k
        simp (disch := omega) only [ilt_e, cond_pos, okDiv_e, chk_pos, iquo_e, iadd_e, tdiv_e, w64, okIx_e, es, irem_e, tmod_e, e1, byteAt_e, hL, ieq_e, iquo8_e, w8, iwrap_e, okRoom_e, xlen_e, hl, List.length_cons, List.length_nil, xapp_e, nibs_succ]
        by_cases hp : k % 2 = 0
        · rw [cond_pos (by omega), if_pos hp]; rfl
        · rw [cond_neg (by omega), if_neg hp]; rfl
      · have e2 : i2n (((wN L : Int) + 1) / 2 + 1) = 1 + (wN L + 1) / 2 := by unfold i2n; omega
        have e3 : i2n (((wN L : Int) + 1) / 2) = (wN L + 1) / 2 := by unfold i2n; omega
        have g := getD_byte hB ((wN L + 1) / 2)
        simp (disch := omega) only [ilt_e, cond_neg, okDiv_e, chk_pos, iadd_e, iquo_e, tdiv_e, w64, okTo_e, es, e2, e3, irem_e, tmod_e, ieq_e, okIx_e, byteAt_e, hL, regN]
        by_cases hp : wN L % 2 = 0
        · rw [cond_pos (by omega)]
          simp [padB, hp]
        · rw [cond_neg (by omega)]
          simp [padB, hp]
    · have he : enough L = false := by simp [enough, hn]
      rw [cond_pos (by omega), he]; rfl

/-- bytes that begin with a register's -/
theorem take_pack {b : Int} {l : List Int} (hb : 2 ≤ b ∧ b ≤ 16) (hl : 1 ≤ l.length ∧ l.length ≤ 16) (h : digitsOk b l) (rest : List Int) :
    wN (packR b l ++ rest) = l.length ∧ regN (packR b l ++ rest) = (b, l) ∧ enough (packR b l ++ rest) = true ∧ padB (packR b l ++ rest) = true ∧ (packR b l ++ rest).drop (1 + (l.length + 1) / 2) = rest := by
  have hlen := packR_len b l
  have g0 : (packR b l ++ rest).getD 0 0 = 16 * (b - 1) + l.length - 1 := by simp [packR]
  have gj : ∀ j, j < (l.length + 1) / 2 → (packR b l ++ rest).getD (1 + j) 0 = digB l j := by
    intro j hj
    rw [List.getD_eq_getElem?_getD, List.getElem?_append_left (by omega)]
    simp [packR, packD, Nat.add_comm 1 j, hj]
  have hw : wN (packR b l ++ rest) = l.length := by unfold wN; rw [g0]; omega
  have hbb : bN (packR b l ++ rest) = b := by unfold bN; rw [g0]; omega
  refine ⟨hw, ?_, ?_, ?_, ?_⟩
  · unfold regN
    rw [hw, hbb]
    refine congrArg (Prod.mk b) (ext_getD (by rw [nibs_len]) fun k hk => ?_)
    rw [nibs_len] at hk
    rw [nibs_get _ hk, gj (k / 2) (by omega)]
    have d1 := getD_dig hb h (2 * (k / 2))
    have d2 := getD_dig hb h (2 * (k / 2) + 1)
    unfold digB
    split
    · rw [show 2 * (k / 2) = k by omega] at *; omega
    · rw [show 2 * (k / 2) + 1 = k by omega] at *; omega
  · unfold enough
    rw [hw]
    simp only [List.length_append, hlen, Bool.and_eq_true, decide_eq_true_eq]; omega
  · unfold padB
    rw [hw]
    by_cases hp : l.length % 2 = 0
    · simp [hp]
    · have : (packR b l ++ rest).getD ((l.length + 1) / 2) 0 % 16 = 0 := by
        have e := gj ((l.length + 1) / 2 - 1) (by omega)
        rw [show 1 + ((l.length + 1) / 2 - 1) = (l.length + 1) / 2 by omega] at e
        rw [e]
        unfold digB
        rw [show l.getD (2 * ((l.length + 1) / 2 - 1) + 1) 0 = 0 by rw [List.getD_eq_getElem?_getD, List.getElem?_eq_none (by omega)]; rfl]
        omega
      simp only [this, decide_true, Bool.or_true]
  · rw [← hlen, List.drop_left]

/-- and back -/
theorem pack_take {B : List Int} (hB : ∀ x ∈ B, 0 ≤ x ∧ x ≤ 255) (hl : B.length = 1 + (wN B + 1) / 2) (hp : padB B = true) : packR (bN B) (nibs B (wN B)) = B := by
  obtain ⟨w1, w2, w3⟩ := wN_in hB
  have hlen := packR_len (bN B) (nibs B (wN B))
  rw [nibs_len] at hlen
  refine ext_getD (by omega) fun i hi => ?_
  cases i with
  | zero =>
    simp only [packR, List.getD_cons_zero, nibs_len]
    unfold bN; omega
  | succ j =>
    have hj : j < (wN B + 1) / 2 := by omega
    have e : (packR (bN B) (nibs B (wN B))).getD (j + 1) 0 = digB (nibs B (wN B)) j := by
      rw [List.getD_eq_getElem?_getD]
      simp [packR, packD, nibs_len, hj]
    have g := getD_byte hB (j + 1)
    rw [e]
    unfold digB
    rw [nibs_get B (k := 2 * j) (by omega), if_pos (by omega), show 1 + 2 * j / 2 = j + 1 by omega]
    by_cases h1 : 2 * j + 1 < wN B
    · rw [nibs_get B h1, if_neg (by omega), show 1 + (2 * j + 1) / 2 = j + 1 by omega]
      omega
    · rw [show (nibs B (wN B)).getD (2 * j + 1) 0 = 0 by rw [List.getD_eq_getElem?_getD, List.getElem?_eq_none (by rw [nibs_len]; omega)]; rfl]
      have hj2 : (wN B + 1) / 2 = j + 1 := by omega
      have : B.getD (j + 1) 0 % 16 = 0 := by
        unfold padB at hp
        rw [hj2] at hp
        simp only [Bool.or_eq_true, decide_eq_true_eq] at hp
        rcases hp with hp | hp
        · omega
        · exact hp
      omega

/-- the bytes between the kind and the checksum -/
def bodyL (L : List Int) : List Int := (L.take (L.length - 2)).drop 1
def sealedB (k : Int) (L : List Int) : Bool := decide (3 ≤ L.length) && (decide (L.getD 0 0 = k) && decide (sumN L (L.length - 2) = 256 * L.getD (L.length - 2) 0 + L.getD (L.length - 1) 0))

theorem sumN_take (L : List Int) (n : Nat) (h : n ≤ L.length) : sumN (L.take n) n = sumN L n := by
  have := sumN_pre (L.take n) (L.drop n) n (by rw [List.length_take]; omega)
  rw [List.take_append_drop] at this
  exact this.symm

theorem s_body (s : ByteArray) (k : Int) (h : (toL s).length ≤ 2000000) : F_s_l27Body (s, k) = some (cond (sealedB k (toL s)) (ssub s 1 ((toL s).length - 2), true) (ByteArray.mk #[], false)) := by
  unfold F_s_l27Body sealedB
  have hB := toL_in s
  have es := slen_e s
  have hsub : toL (ssub s 0 ((toL s).length - 2)) = (toL s).take ((toL s).length - 2) := by rw [ssub_e]; rfl
  have hsum := s_sum (ssub s 0 ((toL s).length - 2)) (by rw [hsub, List.length_take]; omega)
  rw [hsub, List.length_take, Nat.min_eq_left (by omega), sumN_take _ _ (by omega)] at hsum
  generalize hL : toL s = L at h hB es hsub hsum ⊢
  simp only [ilt_e, n2i_e, es]
  by_cases h3 : 3 ≤ L.length
  · have ez : i2n 0 = 0 := rfl
    have g1 := getD_byte hB (L.length - 2)
    have g2 := getD_byte hB (L.length - 1)
    have e1 : i2n ((L.length : Int) - 2) = L.length - 2 := by unfold i2n; omega
    have e2 : i2n ((L.length : Int) - 1) = L.length - 1 := by unfold i2n; omega
    have e3 : i2n 1 = 1 := rfl
    rw [cond_neg (by omega)]
    simp (disch := omega) only [okIx_e, es, chk_pos, ez, byteAt_e, hL, ine_e]
    by_cases hk : L.getD 0 0 = k
    · rw [cond_neg (by simpa using hk)]
      simp (disch := omega) only [isub_e, w64, okTo_e, es, chk_pos, e1, e2, e3, hsum, bind_s, okIx_e, byteAt_e, hL, imul_e, iwrap_e, iadd_e, ieq_e]
      by_cases hs : sumN L (L.length - 2) = 256 * L.getD (L.length - 2) 0 + L.getD (L.length - 1) 0
      · rw [cond_neg (fun q => q hs), decide_eq_true h3, decide_eq_true hk, decide_eq_true hs]; rfl
      · rw [cond_pos hs, decide_eq_true h3, decide_eq_true hk, decide_eq_false hs]; rfl
    · rw [cond_pos hk, decide_eq_true h3, decide_eq_false hk]; rfl
  · rw [cond_pos (by omega), decide_eq_false h3]; rfl

theorem bodyL_e (s : ByteArray) : toL (ssub s 1 ((toL s).length - 2)) = bodyL (toL s) := by rw [ssub_e]; rfl

theorem bodyL_len (L : List Int) : (bodyL L).length = L.length - 3 := by simp [bodyL]; omega

theorem take_in {L : List Int} (h : ∀ x ∈ L, 0 ≤ x ∧ x ≤ 255) (n m : Nat) : ∀ x ∈ (L.take n).drop m, 0 ≤ x ∧ x ≤ 255 := fun x hx => h x (List.mem_of_mem_take (List.mem_of_mem_drop hx))

/-- bytes that bear their checksum -/
theorem sealed_form {k : Int} {L : List Int} (h : ∀ x ∈ L, 0 ≤ x ∧ x ≤ 255) : sealedB k L = true ↔ 3 ≤ L.length ∧ L = sealL (k :: bodyL L) := by
  have hlen : 3 ≤ L.length → L = L.getD 0 0 :: bodyL L ++ [L.getD (L.length - 2) 0, L.getD (L.length - 1) 0] := by
    intro h3
    refine ext_getD (by simp [bodyL_len]; omega) fun i hi => ?_
    cases i with
    | zero => rfl
    | succ i =>
      simp only [List.cons_append, List.getD_cons_succ]
      by_cases h1 : i < L.length - 3
      · rw [List.getD_eq_getElem?_getD (l := bodyL L ++ _), List.getElem?_append_left (by rw [bodyL_len]; omega)]
        simp only [bodyL, List.getElem?_drop, List.getElem?_take]
        rw [if_pos (by omega), List.getD_eq_getElem?_getD, Nat.add_comm 1 i]
      · rw [List.getD_eq_getElem?_getD (l := bodyL L ++ _), List.getElem?_append_right (by rw [bodyL_len]; omega), bodyL_len]
        by_cases h2 : i = L.length - 3
        · subst h2
          rw [Nat.sub_self, show L.length - 3 + 1 = L.length - 2 by omega]
          rfl
        · rw [show i - (L.length - 3) = 1 by omega, show i + 1 = L.length - 1 by omega]
          rfl
  have hsum : 3 ≤ L.length → sumN (L.getD 0 0 :: bodyL L) (L.getD 0 0 :: bodyL L).length = sumN L (L.length - 2) := by
    intro h3
    have e := sumN_pre (L.getD 0 0 :: bodyL L) [L.getD (L.length - 2) 0, L.getD (L.length - 1) 0] (L.getD 0 0 :: bodyL L).length (Nat.le_refl _)
    rw [← hlen h3] at e
    rw [← e]
    congr 1
    simp only [List.length_cons, bodyL_len]; omega
  have g1 := getD_byte h (L.length - 2)
  have g2 := getD_byte h (L.length - 1)
  unfold sealedB
  simp only [Bool.and_eq_true, decide_eq_true_eq]
  constructor
  · rintro ⟨h3, hk, hs⟩
    refine ⟨h3, ?_⟩
    have hl := hlen h3
    have hq := hsum h3
    rw [hk] at hl hq
    unfold sealL
    rw [hq, hs, tdiv_e (by omega), tmod_e (by omega), show (256 * L.getD (L.length - 2) 0 + L.getD (L.length - 1) 0) / 256 = L.getD (L.length - 2) 0 by omega, show (256 * L.getD (L.length - 2) 0 + L.getD (L.length - 1) 0) % 256 = L.getD (L.length - 1) 0 by omega]
    exact hl
  · rintro ⟨h3, hL⟩
    have hk : L.getD 0 0 = k := by rw [hL]; rfl
    refine ⟨h3, hk, ?_⟩
    have hq := hsum h3
    rw [hk] at hq
    have hin : ∀ x ∈ k :: bodyL L, 0 ≤ x ∧ x ≤ 255 := by
      intro x hx
      rcases List.mem_cons.1 hx with hx | hx
      · rw [hx, ← hk]; exact getD_byte h 0
      · exact take_in h _ _ x hx
    obtain ⟨_, _, q3⟩ := sum_parts (sumN_in hin (k :: bodyL L).length)
    rw [hq] at q3
    have hn : (k :: bodyL L).length = L.length - 2 := by simp only [List.length_cons, bodyL_len]; omega
    have e1 : L.getD (L.length - 2) 0 = (sumN L (L.length - 2)).tdiv 256 := by
      have : L.getD (L.length - 2) 0 = (sealL (k :: bodyL L)).getD (L.length - 2) 0 := by rw [← hL]
      rw [this]
      unfold sealL
      rw [hq, List.getD_eq_getElem?_getD, List.getElem?_append_right (by omega), hn, Nat.sub_self]
      rfl
    have e2 : L.getD (L.length - 1) 0 = (sumN L (L.length - 2)).tmod 256 := by
      have : L.getD (L.length - 1) 0 = (sealL (k :: bodyL L)).getD (L.length - 1) 0 := by rw [← hL]
      rw [this]
      unfold sealL
      rw [hq, List.getD_eq_getElem?_getD, List.getElem?_append_right (by omega), hn, show L.length - 1 - (L.length - 2) = 1 by omega]
      rfl
    rw [e1, e2]
    exact q3

def specU (L : List Int) : Bool := sealedB 82 L && (enough (bodyL L) && (padB (bodyL L) && (decide (bodyL L = (bodyL L).take (1 + (wN (bodyL L) + 1) / 2)) && validR (regN (bodyL L)))))
def unpackR (L : List Int) : Reg × Int := cond (specU L) (regN (bodyL L), 0) (zeroR, 8)

theorem drop_nil_iff (B : List Int) (n : Nat) : (B.drop n = []) ↔ B = B.take n := by
  constructor
  · intro h
    have := List.take_append_drop n B
    rw [h, List.append_nil] at this
    exact this.symm
  · intro h; rw [h]; simp

theorem sne_nil (s : ByteArray) : sne s (ByteArray.mk #[]) = decide (¬ toL s = []) := by rw [sne_e, toL_nil]

theorem s_unpack (s : ByteArray) (h : (toL s).length ≤ 1048576) : F_s_UnpackRegister s = some (unpackR (toL s)) := by
  unfold F_s_UnpackRegister
  rw [s_body s 82 (by omega)]
  simp only [bind_s, unpackR, specU]
  cases hs : sealedB 82 (toL s) with
  | false =>
    simp only [cond_f]
    rw [s_take _ (by rw [toL_nil]; simp)]
    rfl
  | true =>
    simp only [cond_t]
    rw [s_take _ (by rw [bodyL_e, bodyL_len]; omega), bodyL_e]
    simp only [bind_s, bnot_t, cond_f, Bool.true_and]
    cases he : enough (bodyL (toL s)) with
    | false => rfl
    | true =>
      simp only [cond_t, Bool.true_and]
      cases hp : padB (bodyL (toL s)) with
      | false => rfl
      | true =>
        have hB := take_in (toL_in s) ((toL s).length - 2) 1
        obtain ⟨w1, w2, _⟩ := wN_in (L := bodyL (toL s)) hB
        simp only [bnot_t, cond_f, Bool.true_and]
        rw [sne_nil, ssub_e, bodyL_e, List.take_length]
        by_cases hd : bodyL (toL s) = (bodyL (toL s)).take (1 + (wN (bodyL (toL s)) + 1) / 2)
        · rw [decide_eq_true hd, cond_neg (fun q => q ((drop_nil_iff _ _).2 hd)), s_validR _ (by simp only [regN, nibs_len]; omega)]
          simp only [bind_s, Bool.true_and]
          cases validR (regN (bodyL (toL s))) <;> rfl
        · rw [decide_eq_false hd, cond_pos (p := ¬ (bodyL (toL s)).drop (1 + (wN (bodyL (toL s)) + 1) / 2) = []) (fun q => hd ((drop_nil_iff _ _).1 q))]
          rfl

theorem i_packR (r : Reg) (hl : (r.2.length : Int) ≤ 9223372036854775806) : F_i_PackRegister r = some (cond (validR r) (b2s (sealL (82 :: packR r.1 r.2)), 0) (ByteArray.mk #[], 1)) := by
  unfold F_i_PackRegister
  rw [i_validR r (by omega)]
  simp only [bind_s]
  cases hv : validR r with
  | false => rfl
  | true =>
    obtain ⟨a1, a2, a3, _⟩ := validR_all hv
    obtain ⟨b, l⟩ := r
    have l1 := packR_len b l
    have q1 := packR_in a1 a2 a3
    have hs := i_seal (82 :: packR b l) (by
      intro x hx
      rcases List.mem_cons.1 hx with hx | hx
      · omega
      · exact q1 x hx) (by simp only [List.length_cons, l1]; simp only at a2; omega)
    have hb := i_bytes b l a1 a2 a3
    simp only [bnot_t, cond_f, cond_t, hb, bind_s]
    simp (disch := (simp only [List.length_cons, List.length_nil, l1] at *; omega)) only [okRoom_e, xlen_e, xapp_e, chk_pos]
    refine Eq.trans (congrArg (fun o => Option.bind o _) hs) ?_
    rfl

theorem sealR_in {r : Reg} (hv : validR r = true) : ∀ x ∈ sealL (82 :: packR r.1 r.2), 0 ≤ x ∧ x ≤ 255 := by
  obtain ⟨a1, a2, a3, _⟩ := validR_all hv
  refine sealL_in fun x hx => ?_
  rcases List.mem_cons.1 hx with hx | hx
  · omega
  · exact packR_in a1 a2 a3 x hx

/-- what is unpacked is what has been packed -/
theorem unpack_iff {L : List Int} (h : ∀ x ∈ L, 0 ≤ x ∧ x ≤ 255) : (enough (L.drop 1) = true ∧ validR (regN (L.drop 1)) = true ∧ sealL (82 :: packR (regN (L.drop 1)).1 (regN (L.drop 1)).2) = L) ↔ specU L = true := by
  unfold specU
  simp only [Bool.and_eq_true, decide_eq_true_eq]
  constructor
  · rintro ⟨h1, h2, h3⟩
    obtain ⟨a1, a2, a3, _⟩ := validR_all h2
    generalize regN (L.drop 1) = r at *
    obtain ⟨b, l⟩ := r
    have l1 := packR_len b l
    have hb : bodyL L = packR b l := by
      rw [← h3]
      have e : (sealL (82 :: packR b l)).length - 2 = (82 :: packR b l).length := by simp [sealL]
      unfold bodyL
      rw [e]
      unfold sealL
      rw [List.take_left']
      · rfl
      · rfl
    have h4 : 3 ≤ L.length := by rw [← h3]; simp [sealL, l1]
    obtain ⟨t1, t2, t3, t4, t5⟩ := take_pack a1 a2 a3 []
    simp only [List.append_nil] at t1 t2 t3 t4 t5
    rw [hb]
    refine ⟨(sealed_form h).2 ⟨h4, by rw [hb]; exact h3.symm⟩, t3, t4, ?_, by rw [t2]; exact h2⟩
    rw [t1]
    exact (drop_nil_iff _ _).1 t5
  · rintro ⟨h1, h2, h3, h4, h5⟩
    obtain ⟨h6, h7⟩ := (sealed_form h).1 h1
    have hB : ∀ x ∈ bodyL L, 0 ≤ x ∧ x ≤ 255 := take_in h _ _
    have hl : (bodyL L).length = 1 + (wN (bodyL L) + 1) / 2 := by
      have : 1 + (wN (bodyL L) + 1) / 2 ≤ (bodyL L).length := by
        simp only [enough, Bool.and_eq_true, decide_eq_true_eq] at h2
        exact h2.2
      have h8 := congrArg List.length h4
      rw [List.length_take] at h8
      omega
    have hp := pack_take hB hl h3
    obtain ⟨a1, a2, a3, _⟩ := validR_all h5
    have hd : L.drop 1 = packR (regN (bodyL L)).1 (regN (bodyL L)).2 ++ [(sumN (82 :: bodyL L) (82 :: bodyL L).length).tdiv 256, (sumN (82 :: bodyL L) (82 :: bodyL L).length).tmod 256] := by
      have : packR (regN (bodyL L)).1 (regN (bodyL L)).2 = bodyL L := hp
      rw [this]
      conv => lhs; rw [h7]
      rfl
    obtain ⟨t1, t2, t3, t4, t5⟩ := take_pack a1 a2 a3 [(sumN (82 :: bodyL L) (82 :: bodyL L).length).tdiv 256, (sumN (82 :: bodyL L) (82 :: bodyL L).length).tmod 256]
    rw [← hd] at t2 t3
    refine ⟨t3, by rw [t2]; exact h5, ?_⟩
    rw [t2]
    have : packR (regN (bodyL L)).1 (regN (bodyL L)).2 = bodyL L := hp
    simp only [this]
    exact h7.symm

theorem unpack_reg {L : List Int} (h : ∀ x ∈ L, 0 ≤ x ∧ x ≤ 255) (hs : specU L = true) : regN (L.drop 1) = regN (bodyL L) := by
  have h' := (unpack_iff h).2 hs
  obtain ⟨h1, h2, h3⟩ := h'
  obtain ⟨a1, a2, a3, _⟩ := validR_all h2
  generalize hr : regN (L.drop 1) = r at *
  obtain ⟨b, l⟩ := r
  have hb : bodyL L = packR b l := by
    rw [← h3]
    have e : (sealL (82 :: packR b l)).length - 2 = (82 :: packR b l).length := by simp [sealL]
    unfold bodyL
    rw [e]
    unfold sealL
    rw [List.take_left']
    · rfl
    · rfl
  obtain ⟨t1, t2, _⟩ := take_pack a1 a2 a3 []
  rw [List.append_nil] at t2
  rw [hb, t2]

theorem i_unpack (s : ByteArray) (h : (toL s).length ≤ 1048576) : F_i_UnpackRegister s = some (unpackR (toL s)) := by
  unfold F_i_UnpackRegister
  rw [seq_nil]
  have hB := toL_in s
  have hi := unpack_iff hB
  have hu := unpack_reg hB
  by_cases h0 : toL s = []
  · rw [cond_pos h0]
    have : specU (toL s) = false := by rw [h0]; rfl
    unfold unpackR
    rw [this]; rfl
  · rw [cond_neg h0]
    have hlen : 1 ≤ (toL s).length := List.length_pos_iff.2 h0
    have e1 : i2n 1 = 1 := rfl
    have hd : toL (ssub s 1 (toL s).length) = (toL s).drop 1 := by rw [ssub_e, List.take_length]
    simp (disch := omega) only [okTo_e, slen_e, chk_pos, e1]
    rw [i_take _ (by rw [hd, List.length_drop]; omega), hd]
    simp only [bind_s]
    have hB1 : ∀ x ∈ (toL s).drop 1, 0 ≤ x ∧ x ≤ 255 := fun x hx => hB x (List.mem_of_mem_drop hx)
    obtain ⟨w1, w2, _⟩ := wN_in hB1
    unfold unpackR
    cases he : enough ((toL s).drop 1) with
    | false =>
      have : specU (toL s) = false := by
        cases hs : specU (toL s) with
        | false => rfl
        | true => have := (hi.2 hs).1; rw [he] at this; cases this
      rw [this]
      simp only [cond_f]
      rw [i_packR zeroR (by simp)]
      rfl
    | true =>
      simp only [cond_t]
      rw [i_packR _ (by simp only [regN, nibs_len]; omega)]
      simp only [bind_s, bnot_t, cond_f]
      cases hv : validR (regN ((toL s).drop 1)) with
      | false =>
        have : specU (toL s) = false := by
          cases hs : specU (toL s) with
          | false => rfl
          | true => have := (hi.2 hs).2.1; rw [hv] at this; cases this
        rw [this]
        rfl
      | true =>
        simp only [cond_t, ine_e, not_true_eq_false, decide_false, cond_f, sne_e]
        rw [b2s_e _ (sealR_in hv)]
        by_cases hq : sealL (82 :: packR (regN ((toL s).drop 1)).1 (regN ((toL s).drop 1)).2) = toL s
        · have hs := hi.1 ⟨he, hv, hq⟩
          rw [cond_neg (fun x => x hq), hs, hu hs]; rfl
        · have : specU (toL s) = false := by
            cases hs : specU (toL s) with
            | false => rfl
            | true => exact absurd (hi.2 hs).2.2 hq
          rw [cond_pos hq, this]; rfl

theorem unpackR_len (L : List Int) : ((unpackR L).1.2.length : Int) ≤ 16 := by
  unfold unpackR
  cases h : specU L with
  | false => simp
  | true =>
    unfold specU at h
    simp only [Bool.and_eq_true] at h
    obtain ⟨_, a2, _, _⟩ := validR_all h.2.2.2.2
    simp only [cond_t]; omega

theorem law_UnpackRegister (s : ByteArray) (h : (s.size : Int) ≤ 9223372036854775807) : F_l_FnExactUnpackRegister s = some true := by
  unfold F_l_FnExactUnpackRegister
  have es := toL_len s
  have e2 : slen s = s.size := rfl
  simp only [igt_e, n2i_e, e2]
  by_cases hl : 1048576 < (s.size : Int)
  · rw [cond_pos hl]
  · rw [cond_neg hl]
    have h1 := s_unpack s (by omega)
    have h2 := i_unpack s (by omega)
    have hb := unpackR_len (toL s)
    simp (disch := omega) only [bind_s, h1, h2, eq_Register, mark_Register, held_Register, decide_true, bnot_t, cond_f, ine_e, not_true_eq_false, decide_false, ilt_e, cond_neg]

theorem FnExactUnpackRegister_true (x : ByteArray) (h : wfArgs [.val false .str] x) : ∃ y, F_l_FnExactUnpackRegister x = some y ∧ hhead .bool [] y = true :=
  ⟨true, law_UnpackRegister x (maxLen_le (n := x.size) h.1), rfl⟩

end Go.Prg
