/- Plain laws, part Ud: texts as rows of bytes, checksums, registers packed. Conditions: none. -/
import Derived.Test.YtjkaapoklbhokaaPlS
import Derived.Lib.Strings
set_option linter.all false
namespace Go.Prg
open Go.Eng

/-- the bytes of a text -/
def toL (s : ByteArray) : List Int := s.data.toList.map fun b => (b.toNat : Int)

theorem toL_len (s : ByteArray) : (toL s).length = s.size := by simp [toL]
theorem slen_e (s : ByteArray) : slen s = (toL s).length := (toL_len s).symm
theorem toL_in (s : ByteArray) : ∀ x ∈ toL s, 0 ≤ x ∧ x ≤ 255 := by
  intro x hx
  simp only [toL, List.mem_map] at hx
  obtain ⟨b, _, rfl⟩ := hx
  have := b.toNat_lt
  omega
theorem toL_inj {s t : ByteArray} : toL s = toL t ↔ s = t := by
  constructor
  · intro h
    have h1 : s.data.toList = t.data.toList := by
      refine (List.map_inj_right (f := fun b : UInt8 => (b.toNat : Int)) fun x y hxy => ?_).1 h
      have hxy' : (x.toNat : Int) = (y.toNat : Int) := hxy
      have : x.toNat = y.toNat := by omega
      exact UInt8.toNat_inj.1 this
    cases s; cases t
    simp only [Array.toList_inj] at h1
    rw [h1]
  · intro h; rw [h]
theorem seq_e (s t : ByteArray) : seq s t = decide (toL s = toL t) := by
  have h : (s.toList = t.toList) ↔ (toL s = toL t) := by
    rw [Lib.toList_data, Lib.toList_data]
    constructor
    · intro h; simp only [toL, h]
    · intro h; rw [toL_inj.1 h]
  show (s.toList == t.toList) = _
  by_cases e : toL s = toL t
  · rw [decide_eq_true e]; simpa using h.2 e
  · rw [decide_eq_false e]
    simpa using fun x => e (h.1 x)
theorem sne_e (s t : ByteArray) : sne s t = decide (¬ toL s = toL t) := by
  have : sne s t = !(seq s t) := rfl
  rw [this, seq_e]
  by_cases e : toL s = toL t <;> simp [e]
theorem byteAt_e (s : ByteArray) (i : Nat) : byteAt s i = (toL s).getD i 0 := by
  unfold byteAt toL
  rw [List.getD_eq_getElem?_getD, List.getElem?_map]
  have h : s[i]? = s.data.toList[i]? := by
    by_cases hi : i < s.size
    · rw [getElem?_pos s i hi, Array.getElem?_toList, getElem?_pos s.data i (by simpa using hi)]
      rfl
    · rw [getElem?_neg s i hi, Array.getElem?_toList, getElem?_neg s.data i (by simpa using hi)]
  rw [h]
  cases s.data.toList[i]? <;> rfl
theorem ssub_e (s : ByteArray) (i j : Nat) : toL (ssub s i j) = ((toL s).take j).drop i := by
  unfold toL
  show List.map _ (s.extract i j).data.toList = _
  rw [ByteArray.data_extract, Array.toList_extract, ← List.map_take, ← List.map_drop, List.extract_eq_drop_take, List.drop_take]
theorem toL_nil : toL (ByteArray.mk #[]) = [] := rfl
theorem push_e (l : List Int) : ∀ (a : ByteArray), (∀ x ∈ l, 0 ≤ x ∧ x ≤ 255) → toL (l.foldl (fun r n => r.push (UInt8.ofNat n.toNat)) a) = toL a ++ l := by
  induction l with
  | nil => intro a _; simp
  | cons x l ih =>
    intro a h
    rw [List.foldl_cons, ih _ fun y hy => h y (by simp [hy])]
    have hx := h x (by simp)
    have e : toL (a.push (UInt8.ofNat x.toNat)) = toL a ++ [x] := by
      unfold toL
      rw [ByteArray.data_push, Array.toList_push, List.map_append, List.map_cons, List.map_nil]
      congr 2
      have e : (UInt8.ofNat x.toNat).toNat = x.toNat % 256 := by simp
      rw [e]
      omega
    rw [e, List.append_assoc]
    rfl
theorem b2s_e (l : List Int) (h : ∀ x ∈ l, 0 ≤ x ∧ x ≤ 255) : toL (b2s l) = l := by
  show toL (l.foldl (fun r n => r.push (UInt8.ofNat n.toNat)) ByteArray.empty) = l
  rw [push_e l _ h]
  rfl

theorem w8 {n : Int} (h : 0 ≤ n) (h' : n ≤ 255) : IntKind.u8.wrap n = n := by rw [IntKind.wrap_u8]; omega
theorem iadd8_e (a b : Int) : iadd .u8 a b = IntKind.u8.wrap (a + b) := rfl
theorem iquo8_e (a b : Int) : iquo .u8 a b = IntKind.u8.wrap (a.tdiv b) := rfl

theorem getD_byte {l : List Int} (h : ∀ x ∈ l, 0 ≤ x ∧ x ≤ 255) (i : Nat) : 0 ≤ l.getD i 0 ∧ l.getD i 0 ≤ 255 := by
  by_cases hi : i < l.length
  · exact getD_all (p := fun x => 0 ≤ x ∧ x ≤ 255) h hi
  · rw [List.getD_eq_getElem?_getD, List.getElem?_eq_none (by omega)]; simp

/-- the checksum of the first bytes -/
def sumN (l : List Int) : Nat → Int
  | 0 => 7
  | i + 1 => (31 * sumN l i + l.getD i 0 + 1).tmod 65521

theorem sumN_in {l : List Int} (h : ∀ x ∈ l, 0 ≤ x ∧ x ≤ 255) : ∀ i, 0 ≤ sumN l i ∧ sumN l i ≤ 65520
  | 0 => by simp [sumN]
  | i + 1 => by
    have ih := sumN_in h i
    have g := getD_byte h i
    simp only [sumN]
    rw [Int.tmod_eq_emod_of_nonneg (by omega)]
    omega

theorem sumN_pre (l m : List Int) : ∀ i, i ≤ l.length → sumN (l ++ m) i = sumN l i
  | 0, _ => rfl
  | i + 1, h => by
    rw [sumN, sumN, sumN_pre l m i (by omega)]
    rw [List.getD_eq_getElem?_getD, List.getD_eq_getElem?_getD, List.getElem?_append_left (by omega)]

theorem i_sum (s : ByteArray) (h : (toL s).length ≤ 2000000) : F_i_SumOfBytes s = some (sumN (toL s) (toL s).length) := by
  unfold F_i_SumOfBytes
  refine iter_run (fun i => (s, sumN (toL s) i, ((toL s).length : Int), (i : Int))) (toL s).length (by simp [sumN, slen_e, n2i]) (fun i hi => ?_) ?_
  · have g := getD_byte (toL_in s) i
    have q := sumN_in (toL_in s) i
    simp (disch := omega) only [ilt_e, cond_pos, okIx_e, slen_e, chk_pos, okDiv_e, imul_e, byteAt_e, i2n_e, iwrap_e, iadd_e, w64, irem_e, sumN]
    rfl
  · simp (disch := omega) only [ilt_e, cond_neg]

theorem s_sum (s : ByteArray) (h : (toL s).length ≤ 2000000) : F_s_l27Sum s = some (sumN (toL s) (toL s).length) := by
  unfold F_s_l27Sum
  refine iter_run (fun i => (s, sumN (toL s) i, (i : Int))) (toL s).length (by simp [sumN]) (fun i hi => ?_) ?_
  · have g := getD_byte (toL_in s) i
    have q := sumN_in (toL_in s) i
    simp (disch := omega) only [ilt_e, n2i_e, cond_pos, okIx_e, slen_e, chk_pos, okDiv_e, imul_e, byteAt_e, i2n_e, iwrap_e, iadd_e, w64, irem_e, sumN]
    rfl
  · simp (disch := omega) only [ilt_e, n2i_e, slen_e, cond_neg]

/-- bytes with their checksum -/
def sealL (l : List Int) : List Int := l ++ [(sumN l l.length).tdiv 256, (sumN l l.length).tmod 256]

theorem sum_parts {x : Int} (h : 0 ≤ x ∧ x ≤ 65520) : (0 ≤ x.tdiv 256 ∧ x.tdiv 256 ≤ 255) ∧ (0 ≤ x.tmod 256 ∧ x.tmod 256 ≤ 255) ∧ x = 256 * x.tdiv 256 + x.tmod 256 := by
  rw [Int.tdiv_eq_ediv_of_nonneg h.1, Int.tmod_eq_emod_of_nonneg h.1]
  omega

theorem sealL_in {l : List Int} (h : ∀ x ∈ l, 0 ≤ x ∧ x ≤ 255) : ∀ x ∈ sealL l, 0 ≤ x ∧ x ≤ 255 := by
  intro x hx
  obtain ⟨q1, q2, _⟩ := sum_parts (sumN_in h l.length)
  simp only [sealL, List.mem_append, List.mem_cons, List.not_mem_nil, or_false] at hx
  rcases hx with hx | hx | hx
  · exact h x hx
  · rw [hx]; exact q1
  · rw [hx]; exact q2

theorem i_seal (l : List Int) (h : ∀ x ∈ l, 0 ≤ x ∧ x ≤ 255) (hl : l.length ≤ 1000000) : F_i_sealed l = some (b2s (sealL l)) := by
  unfold F_i_sealed
  have e := b2s_e l h
  rw [i_sum (b2s l) (by rw [e]; omega), e]
  obtain ⟨q1, q2, _⟩ := sum_parts (sumN_in h l.length)
  have q3 := sumN_in h l.length
  simp (disch := omega) only [bind_s, okDiv_e, chk_pos, iquo_e, irem_e, iwrap_e, w64, w8, okRoom_e, xlen_e, List.length_cons, List.length_nil, xapp_e]
  rfl
theorem s_seal (l : List Int) (h : ∀ x ∈ l, 0 ≤ x ∧ x ≤ 255) (hl : l.length ≤ 1000000) : F_s_l27Ended l = some (b2s (sealL l)) := by
  unfold F_s_l27Ended
  have e := b2s_e l h
  rw [s_sum (b2s l) (by rw [e]; omega), e]
  obtain ⟨q1, q2, _⟩ := sum_parts (sumN_in h l.length)
  have q3 := sumN_in h l.length
  simp (disch := omega) only [bind_s, okDiv_e, chk_pos, iquo_e, irem_e, iwrap_e, w64, w8, okRoom_e, xlen_e, List.length_cons, List.length_nil, xapp_e]
  rfl

/- registers packed -/
def digB (l : List Int) (k : Nat) : Int := 16 * l.getD (2 * k) 0 + l.getD (2 * k + 1) 0
def packD (l : List Int) (m : Nat) : List Int := (List.range m).map (digB l)
def packR (b : Int) (l : List Int) : List Int := (16 * (b - 1) + l.length - 1) :: packD l ((l.length + 1) / 2)

theorem packD_len (l : List Int) (m : Nat) : (packD l m).length = m := by simp [packD]
theorem packD_succ (l : List Int) (m : Nat) : packD l (m + 1) = packD l m ++ [digB l m] := by
  simp only [packD]; rw [List.range_succ, List.map_append]; rfl
theorem packR_len (b : Int) (l : List Int) : (packR b l).length = 1 + (l.length + 1) / 2 := by simp [packR, packD_len]; omega

theorem getD_dig {b : Int} (hb : 2 ≤ b ∧ b ≤ 16) {l : List Int} (h : digitsOk b l) (i : Nat) : 0 ≤ l.getD i 0 ∧ l.getD i 0 ≤ 15 := by
  by_cases hi : i < l.length
  · have := getD_all (p := fun d => 0 ≤ d ∧ d ≤ b - 1) h hi
    omega
  · rw [List.getD_eq_getElem?_getD, List.getElem?_eq_none (by omega)]; simp

theorem digB_in {b : Int} (hb : 2 ≤ b ∧ b ≤ 16) {l : List Int} (h : digitsOk b l) (k : Nat) : 0 ≤ digB l k ∧ digB l k ≤ 255 := by
  have h1 := getD_dig hb h (2 * k)
  have h2 := getD_dig hb h (2 * k + 1)
  unfold digB; omega

theorem packR_in {b : Int} {l : List Int} (hb : 2 ≤ b ∧ b ≤ 16) (hl : 1 ≤ l.length ∧ l.length ≤ 16) (h : digitsOk b l) : ∀ x ∈ packR b l, 0 ≤ x ∧ x ≤ 255 := by
  intro x hx
  simp only [packR, packD, List.mem_cons, List.mem_map, List.mem_range] at hx
  rcases hx with rfl | ⟨k, _, rfl⟩
  · omega
  · exact digB_in hb h k

theorem i_width (b : Int) (l : List Int) : F_i_Register_width (b, l) = some (l.length : Int) := rfl

theorem i_bytes (b : Int) (l : List Int) (hb : 2 ≤ b ∧ b ≤ 16) (hl : 1 ≤ l.length ∧ l.length ≤ 16) (h : digitsOk b l) : F_i_Register_bytes (b, l) = some (packR b l) := by
  unfold F_i_Register_bytes
  simp only [i_width, bind_s]
  refine iter_run (fun i => (2 * (i : Int), b, l, (16 * (b - 1) + (l.length : Int) - 1) :: packD l i)) ((l.length + 1) / 2) ?_ (fun i hi => ?_) ?_
  · simp (disch := omega) only [iadd8_e, imul_e, isub_e, iwrap_e, w64, w8]
    simp only [packD, List.range_zero, List.map_nil]
    rw [show 16 * (b - 1) + ((l.length : Int) - 1) = 16 * (b - 1) + (l.length : Int) - 1 by omega]
    rfl
  · have g1 := getD_dig hb h (2 * i)
    have g2 := getD_dig hb h (2 * i + 1)
    have e1 : i2n (2 * (i : Int)) = 2 * i := by unfold i2n; omega
    have e2 : i2n (2 * (i : Int) + 1) = 2 * i + 1 := by unfold i2n; omega
    have hlen : ((16 * (b - 1) + (l.length : Int) - 1) :: packD l i).length ≤ 20 := by simp [packD_len]; omega
    simp (disch := omega) only [ilt_e, cond_pos, okIx_e, xlen_e, chk_pos, iadd_e, w64, e1, e2, xget_e, imul_e, iwrap_e, w8, okRoom_e, List.length_cons, List.length_nil, xapp_e, packD_succ]
    by_cases hk : 2 * i + 1 < l.length
    · simp (disch := omega) only [cond_pos, chk_pos, iadd8_e, w8, packD_len, digB, List.cons_append]
      rw [show 2 * ((i + 1 : Nat) : Int) = 2 * (i : Int) + 2 by omega]
    · have hz : l.getD (2 * i + 1) 0 = 0 := by rw [List.getD_eq_getElem?_getD, List.getElem?_eq_none (by omega)]; rfl
      simp (disch := omega) only [cond_neg, chk_pos, packD_len, digB, hz, Int.add_zero, List.cons_append]
      rw [show 2 * ((i + 1 : Nat) : Int) = 2 * (i : Int) + 2 by omega]
  · simp (disch := omega) only [ilt_e, cond_neg]
    rfl

theorem s_digits27 (out : List Int) (b : Int) (l : List Int) (hb : 2 ≤ b ∧ b ≤ 16) (hl : 1 ≤ l.length ∧ l.length ≤ 16) (h : digitsOk b l) (ho : out.length ≤ 1000) : F_s_l27Digits (out, (b, l)) = some (out ++ packR b l) := by
  unfold F_s_l27Digits
  simp (disch := omega) only [okRoom_e, xlen_e, List.length_cons, List.length_nil, chk_pos]
  refine iter_run (fun i => (2 * (i : Int), out ++ ((16 * (b - 1) + (l.length : Int) - 1) :: packD l i), [(b, l)])) ((l.length + 1) / 2) ?_ (fun i hi => ?_) ?_
  · simp (disch := omega) only [iadd_e, imul_e, isub_e, iwrap_e, n2i_e, xlen_e, w64, w8]
    simp only [packD, List.range_zero, List.map_nil]
    rfl
  · have g1 := getD_dig hb h (2 * i)
    have g2 := getD_dig hb h (2 * i + 1)
    have e1 : i2n (2 * (i : Int)) = 2 * i := by unfold i2n; omega
    have e2 : i2n (2 * (i : Int) + 1) = 2 * i + 1 := by unfold i2n; omega
    have hlen : (out ++ ((16 * (b - 1) + (l.length : Int) - 1) :: packD l i)).length ≤ 1020 := by simp [packD_len]; omega
    simp (disch := omega) only [xget0, ilt_e, n2i_e, cond_pos, okIx_e, xlen_e, chk_pos, iadd_e, w64, e1, e2, xget_e, imul_e, iwrap_e, w8, okRoom_e, List.length_cons, List.length_nil, xapp_e, packD_succ]
    by_cases hk : 2 * i + 1 < l.length
    · simp (disch := omega) only [cond_pos, chk_pos, digB]
      rw [show 2 * ((i + 1 : Nat) : Int) = 2 * (i : Int) + 2 by omega]
      simp
    · have hz : l.getD (2 * i + 1) 0 = 0 := by rw [List.getD_eq_getElem?_getD, List.getElem?_eq_none (by omega)]; rfl
      simp (disch := omega) only [cond_neg, chk_pos, digB, hz, Int.add_zero]
      rw [show 2 * ((i + 1 : Nat) : Int) = 2 * (i : Int) + 2 by omega]
      simp
  · simp (disch := omega) only [xget0, ilt_e, n2i_e, xlen_e, cond_neg]
    rfl

def packM (a b c : Reg) (p : Int) : List Int := [77, p] ++ packR a.1 a.2 ++ packR b.1 b.2 ++ packR c.1 c.2
def packMR (a b c : Reg) (p : Int) : ByteArray × Int := cond (validM (a, b, c, p)) (b2s (sealL (packM a b c p)), 0) (ByteArray.mk #[], 1)

theorem packM_parts {a b c : Reg} {p : Int} (h : validM (a, b, c, p) = true) : ∃ (w : Int) (la lb lc : List Int), a = (w, la) ∧ b = (w, lb) ∧ c = (w, lc) ∧ (2 ≤ w ∧ w ≤ 16) ∧ (1 ≤ la.length ∧ la.length ≤ 16) ∧ (1 ≤ lb.length ∧ lb.length ≤ 16) ∧ (1 ≤ lc.length ∧ lc.length ≤ 16) ∧
    digitsOk w la ∧ digitsOk w lb ∧ digitsOk w lc ∧ (0 ≤ p ∧ p ≤ 15) := by
  obtain ⟨h1, h2, h3, h4, h5, h6, h7, h8, h9⟩ := validM_all h
  obtain ⟨a1, a2, a3, _⟩ := validR_all h1
  obtain ⟨_, b2, b3, _⟩ := validR_all h2
  obtain ⟨_, c2, c3, _⟩ := validR_all h3
  obtain ⟨w, la⟩ := a
  obtain ⟨w2, lb⟩ := b
  obtain ⟨w3, lc⟩ := c
  simp only at *
  subst h4; subst h5
  refine ⟨w, la, lb, lc, rfl, rfl, rfl, a1, a2, b2, c2, a3, b3, c3, h9.1, ?_⟩
  have := h9.2
  simp only [placesM, imin] at this
  split at this <;> omega

theorem i_packM (a b c : Reg) (p : Int) (h1 : (a.2.length : Int) ≤ 9223372036854775806) (h2 : (b.2.length : Int) ≤ 9223372036854775806) (h3 : (c.2.length : Int) ≤ 9223372036854775806) : F_i_PackMachine (a, (b, (c, p))) = some (packMR a b c p) := by
  unfold F_i_PackMachine packMR
  simp only [i_validM' a b c p h1 h2 h3, bind_s]
  cases hv : validM (a, b, c, p) with
  | false => rfl
  | true =>
    obtain ⟨w, la, lb, lc, rfl, rfl, rfl, hw, hla, hlb, hlc, da, db, dc, hp⟩ := packM_parts hv
    have q1 := packR_in hw hla da
    have q2 := packR_in hw hlb db
    have q3 := packR_in hw hlc dc
    have l1 := packR_len w la
    have l2 := packR_len w lb
    have l3 := packR_len w lc
    have hs := i_seal (packM (w, la) (w, lb) (w, lc) p) (by
      intro x hx
      simp only [packM, List.mem_append, List.mem_cons, List.not_mem_nil, or_false] at hx
      rcases hx with ((hx | hx) | hx) | hx
      · omega
      · exact q1 x hx
      · exact q2 x hx
      · exact q3 x hx) (by simp [packM, l1, l2, l3]; omega)
    simp only [bnot_t, cond_f, cond_t, i_bytes w la hw hla da, i_bytes w lb hw hlb db, i_bytes w lc hw hlc dc, bind_s]
    have e8 : iwrap .u8 p = p := by rw [iwrap_e, w8 (by omega) (by omega)]
    simp (disch := (simp only [List.length_append, List.length_cons, List.length_nil, l1, l2, l3]; omega)) only [e8, okRoom_e, xlen_e, xapp_e, chk_pos]
    refine Eq.trans (congrArg (fun o => Option.bind o _) hs) ?_
    rfl

theorem s_packM (a b c : Reg) (p : Int) (h1 : (a.2.length : Int) ≤ 9223372036854775806) (h2 : (b.2.length : Int) ≤ 9223372036854775806) (h3 : (c.2.length : Int) ≤ 9223372036854775806) : F_s_PackMachine (a, (b, (c, p))) = some (packMR a b c p) := by
  unfold F_s_PackMachine F_s_l27Machine packMR
  simp only [s_validM' a b c p h1 h2 h3, bind_s]
  cases hv : validM (a, b, c, p) with
  | false => rfl
  | true =>
    obtain ⟨w, la, lb, lc, rfl, rfl, rfl, hw, hla, hlb, hlc, da, db, dc, hp⟩ := packM_parts hv
    have q1 := packR_in hw hla da
    have q2 := packR_in hw hlb db
    have q3 := packR_in hw hlc dc
    have l1 := packR_len w la
    have l2 := packR_len w lb
    have l3 := packR_len w lc
    have hs := s_seal (packM (w, la) (w, lb) (w, lc) p) (by
      intro x hx
      simp only [packM, List.mem_append, List.mem_cons, List.not_mem_nil, or_false] at hx
      rcases hx with ((hx | hx) | hx) | hx
      · omega
      · exact q1 x hx
      · exact q2 x hx
      · exact q3 x hx) (by simp [packM, l1, l2, l3]; omega)
    have e8 : iwrap .u8 p = p := by rw [iwrap_e, w8 (by omega) (by omega)]
    have d1 := s_digits27 [77, p] w la hw hla da (by simp)
    have d2 := s_digits27 ([77, p] ++ packR w la) w lb hw hlb db (by simp [l1]; omega)
    have d3 := s_digits27 ([77, p] ++ packR w la ++ packR w lb) w lc hw hlc dc (by simp [l1, l2]; omega)
    simp only [bnot_t, cond_f, cond_t, e8, d1, d2, d3, bind_s]
    refine Eq.trans (congrArg (fun o => Option.bind (Option.bind o _) _) hs) ?_
    rfl

theorem sne_same (a : ByteArray) : sne a a = false := by simp [sne]

theorem law_PackMachine (a1 a2 a3 : Reg) (a4 : Int) (h0 : (a1.2.length : Int) ≤ 9223372036854775807) (h1 : (a2.2.length : Int) ≤ 9223372036854775807) (h2 : (a3.2.length : Int) ≤ 9223372036854775807) : F_l_FnExactPackMachine (a1, (a2, (a3, a4))) = some true := by
  unfold F_l_FnExactPackMachine
  obtain ⟨v0, e0, q0⟩ := sz_M' a1 a2 a3 a4 1048576 h0 h1 h2 (by omega) (by omega)
  simp only [e0, bind_s, ilt_e]
  rcases q0 with rfl | ⟨q0, q0'⟩
  · rfl
  rw [cond_neg (by omega)]
  simp (disch := omega) only [bind_s, ilt_e, cond_neg, to_Register, to_Machine, to_Int64S, eq_Register, eq_Machine, eq_Int64S, mark_Register, mark_M, mark_Int64S, held_Register, held_M, held_Int64S, decide_true, bnot_t, cond_f, ine_e, not_true_eq_false, decide_false, bnev_s, cnt_len, s_packM, i_packM, sne_same]

theorem FnExactPackMachine_true {t1 : TypeId} (x : (Mach)) (h : wfArgs [.val true (.pair (.pair (.int .i64) (.row false t1 (.int .i64))) (.pair (.pair (.int .i64) (.row false t1 (.int .i64))) (.pair (.pair (.int .i64) (.row false t1 (.int .i64))) (.int .i64))))] x) : ∃ y, F_l_FnExactPackMachine x = some y ∧ hhead .bool [] y = true :=
  ⟨true, law_PackMachine x.1 x.2.1 x.2.2.1 x.2.2.2 (maxLen_le (n := x.1.2.length) h.1.1.2.1) (maxLen_le (n := x.2.1.2.length) h.1.2.1.2.1) (maxLen_le (n := x.2.2.1.2.length) h.1.2.2.1.2.1), rfl⟩


end Go.Prg
