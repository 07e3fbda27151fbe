/- Plain laws, part Ud: texts as rows of bytes, checksums, registers packed. Conditions: none. -/
import Derived.Test.YtjkaapoklbhokaaDoorPlS
import Derived.Lib.Strings
set_option linter.all false
namespace Go.Prg
open Go.Eng

/-- the bytes of a text -/
def toL (s : ByteArray) : List Int := s.data.toList.map fun b => (b.toNat : Int)

theorem toL_len (s : ByteArray) : (toL s).length = s.size := by simp [toL]
theorem slen_e (s : ByteArray) : slen s = (toL s).length := (toL_len s).symm
theorem toL_in (s : ByteArray) : ∀ x ∈ toL s, 0 ≤ x ∧ x ≤ 255 := by
  intro x hx
  simp only [toL, List.mem_map] at hx
  obtain ⟨b, _, rfl⟩ := hx
  have := b.toNat_lt
  omega
theorem toL_inj {s t : ByteArray} : toL s = toL t ↔ s = t := by
  constructor
  · intro h
    have h1 : s.data.toList = t.data.toList := by
      refine (List.map_inj_right (f := fun b : UInt8 => (b.toNat : Int)) fun x y hxy => ?_).1 h
      have hxy' : (x.toNat : Int) = (y.toNat : Int) := hxy
      have : x.toNat = y.toNat := by omega
      exact UInt8.toNat_inj.1 this
    cases s; cases t
    simp only [Array.toList_inj] at h1
    rw [h1]
  · intro h; rw [h]
theorem seq_e (s t : ByteArray) : seq s t = decide (toL s = toL t) := by
  have h : (s.toList = t.toList) ↔ (toL s = toL t) := by
    rw [Lib.toList_data, Lib.toList_data]
    constructor
    · intro h; simp only [toL, h]
    · intro h; rw [toL_inj.1 h]
  show (s.toList == t.toList) = _
  by_cases e : toL s = toL t
  · rw [decide_eq_true e]; simpa using h.2 e
  · rw [decide_eq_false e]
    simpa using fun x => e (h.1 x)
theorem sne_e (s t : ByteArray) : sne s t = decide (¬ toL s = toL t) := by
  have : sne s t = !(seq s t) := rfl
  rw [this, seq_e]
  by_cases e : toL s = toL t <;> simp [e]
theorem byteAt_e (s : ByteArray) (i : Nat) : byteAt s i = (toL s).getD i 0 := by
  unfold byteAt toL
  rw [List.getD_eq_getElem?_getD, List.getElem?_map]
  have h : s[i]? = s.data.toList[i]? := by
    by_cases hi : i < s.size
    · rw [getElem?_pos s i hi, Array.getElem?_toList, getElem?_pos s.data i (by simpa using hi)]
      rfl
    · rw [getElem?_neg s i hi, Array.getElem?_toList, getElem?_neg s.data i (by simpa using hi)]
  rw [h]
  cases s.data.toList[i]? <;> rfl
theorem ssub_e (s : ByteArray) (i j : Nat) : toL (ssub s i j) = ((toL s).take j).drop i := by
  unfold toL
  show List.map _ (s.extract i j).data.toList = _
  rw [ByteArray.data_extract, Array.toList_extract, ← List.map_take, ← List.map_drop, List.extract_eq_drop_take, List.drop_take]
theorem toL_nil : toL (ByteArray.mk #[]) = [] := rfl
theorem push_e (l : List Int) : ∀ (a : ByteArray), (∀ x ∈ l, 0 ≤ x ∧ x ≤ 255) → toL (l.foldl (fun r n => r.push (UInt8.ofNat n.toNat)) a) = toL a ++ l := by
  induction l with
  | nil => intro a _; simp
  | cons x l ih =>
    intro a h
    rw [List.foldl_cons, ih _ fun y hy => h y (by simp [hy])]
    have hx := h x (by simp)
    have e : toL (a.push (UInt8.ofNat x.toNat)) = toL a ++ [x] := by
      unfold toL
      rw [ByteArray.data_push, Array.toList_push, List.map_append, List.map_cons, List.map_nil]
      congr 2
      have e : (UInt8.ofNat x.toNat).toNat = x.toNat % 256 := by simp
      rw [e]
      omega
    rw [e, List.append_assoc]
    rfl
theorem b2s_e (l : List Int) (h : ∀ x ∈ l, 0 ≤ x ∧ x ≤ 255) : toL (b2s l) = l := by
  show toL (l.foldl (fun r n => r.push (UInt8.ofNat n.toNat)) ByteArray.empty) = l
  rw [push_e l _ h]
  rfl

theorem w8 {n : Int} (h : 0 ≤ n) (h' : n ≤ 255) : IntKind.u8.wrap n = n := by rw [IntKind.wrap_u8]; omega
theorem iadd8_e (a b : Int) : iadd .u8 a b = IntKind.u8.wrap (a + b) := rfl
theorem iquo8_e (a b : Int) : iquo .u8 a b = IntKind.u8.wrap (a.tdiv b) := rfl

theorem getD_byte {l : List Int} (h : ∀ x ∈ l, 0 ≤ x ∧ x ≤ 255) (i : Nat) : 0 ≤ l.getD i 0 ∧ l.getD i 0 ≤ 255 := by
  by_cases hi : i < l.length
  · exact getD_all (p := fun x => 0 ≤ x ∧ x ≤ 255) h hi
  · rw [List.getD_eq_getElem?_getD, List.getElem?_eq_none (by omega)]; simp

/-- the checksum of the first bytes -/
def sumN (l : List Int) : Nat → Int
  | 0 => 7
  | i + 1 => (31 * sumN l i + l.getD i 0 + 1).tmod 65521

theorem sumN_in {l : List Int} (h : ∀ x ∈ l, 0 ≤ x ∧ x ≤ 255) : ∀ i, 0 ≤ sumN l i ∧ sumN l i ≤ 65520
  | 0 => by simp [sumN]
  | i + 1 => by
    have ih := sumN_in h i
    have g := getD_byte h i
    simp only [sumN]
    rw [Int.tmod_eq_emod_of_nonneg (by omega)]
    omega

theorem sumN_pre (l m : List Int) : ∀ i, i ≤ l.length → sumN (l ++ m) i = sumN l i
  | 0, _ => rfl
  | i + 1, h => by
    rw [sumN, sumN, sumN_pre l m i (by omega)]
    rw [List.getD_eq_getElem?_getD, List.getD_eq_getElem?_getD, List.getElem?_append_left (by omega)]

/-- bytes with their checksum -/
def sealL (l : List Int) : List Int := l ++ [(sumN l l.length).tdiv 256, (sumN l l.length).tmod 256]

theorem sum_parts {x : Int} (h : 0 ≤ x ∧ x ≤ 65520) : (0 ≤ x.tdiv 256 ∧ x.tdiv 256 ≤ 255) ∧ (0 ≤ x.tmod 256 ∧ x.tmod 256 ≤ 255) ∧ x = 256 * x.tdiv 256 + x.tmod 256 := by
  rw [Int.tdiv_eq_ediv_of_nonneg h.1, Int.tmod_eq_emod_of_nonneg h.1]
  omega

theorem sealL_in {l : List Int} (h : ∀ x ∈ l, 0 ≤ x ∧ x ≤ 255) : ∀ x ∈ sealL l, 0 ≤ x ∧ x ≤ 255 := by
  intro x hx
  obtain ⟨q1, q2, _⟩ := sum_parts (sumN_in h l.length)
  simp only [sealL, List.mem_append, List.mem_cons, List.not_mem_nil, or_false] at hx
  rcases hx with hx | hx | hx
  · exact h x hx
  · rw [hx]; exact q1
  · rw [hx]; exact q2

/- registers packed -/
def digB (l : List Int) (k : Nat) : Int := 16 * l.getD (2 * k) 0 + l.getD (2 * k + 1) 0
def packD (l : List Int) (m : Nat) : List Int := (List.range m).map (digB l)
def packR (b : Int) (l : List Int) : List Int := (16 * (b - 1) + l.length - 1) :: packD l ((l.length + 1) / 2)

theorem packD_len (l : List Int) (m : Nat) : (packD l m).length = m := by simp [packD]
theorem packD_succ (l : List Int) (m : Nat) : packD l (m + 1) = packD l m ++ [digB l m] := by
  simp only [packD]; rw [List.range_succ, List.map_append]; rfl
theorem packR_len (b : Int) (l : List Int) : (packR b l).length = 1 + (l.length + 1) / 2 := by simp [packR, packD_len]; omega

theorem getD_dig {b : Int} (hb : 2 ≤ b ∧ b ≤ 16) {l : List Int} (h : digitsOk b l) (i : Nat) : 0 ≤ l.getD i 0 ∧ l.getD i 0 ≤ 15 := by
  by_cases hi : i < l.length
  · have := getD_all (p := fun d => 0 ≤ d ∧ d ≤ b - 1) h hi
    omega
  · rw [List.getD_eq_getElem?_getD, List.getElem?_eq_none (by omega)]; simp

theorem digB_in {b : Int} (hb : 2 ≤ b ∧ b ≤ 16) {l : List Int} (h : digitsOk b l) (k : Nat) : 0 ≤ digB l k ∧ digB l k ≤ 255 := by
  have h1 := getD_dig hb h (2 * k)
  have h2 := getD_dig hb h (2 * k + 1)
  unfold digB; omega

theorem packR_in {b : Int} {l : List Int} (hb : 2 ≤ b ∧ b ≤ 16) (hl : 1 ≤ l.length ∧ l.length ≤ 16) (h : digitsOk b l) : ∀ x ∈ packR b l, 0 ≤ x ∧ x ≤ 255 := by
  intro x hx
  simp only [packR, packD, List.mem_cons, List.mem_map, List.mem_range] at hx
  rcases hx with rfl | ⟨k, _, rfl⟩
  · omega
  · exact digB_in hb h k

theorem i_width (b : Int) (l : List Int) : F_i_Register_width (b, l) = some (l.length : Int) := rfl

def packM (a b c : Reg) (p : Int) : List Int := [77, p] ++ packR a.1 a.2 ++ packR b.1 b.2 ++ packR c.1 c.2
def packMR (a b c : Reg) (p : Int) : ByteArray × Int := cond (validM (a, b, c, p)) (b2s (sealL (packM a b c p)), 0) (ByteArray.mk #[], 1)

theorem packM_parts {a b c : Reg} {p : Int} (h : validM (a, b, c, p) = true) : ∃ (w : Int) (la lb lc : List Int), a = (w, la) ∧ b = (w, lb) ∧ c = (w, lc) ∧ (2 ≤ w ∧ w ≤ 16) ∧ (1 ≤ la.length ∧ la.length ≤ 16) ∧ (1 ≤ lb.length ∧ lb.length ≤ 16) ∧ (1 ≤ lc.length ∧ lc.length ≤ 16) ∧
    digitsOk w la ∧ digitsOk w lb ∧ digitsOk w lc ∧ (0 ≤ p ∧ p ≤ 15) := by
  obtain ⟨h1, h2, h3, h4, h5, h6, h7, h8, h9⟩ := validM_all h
  obtain ⟨a1, a2, a3, _⟩ := validR_all h1
  obtain ⟨_, b2, b3, _⟩ := validR_all h2
  obtain ⟨_, c2, c3, _⟩ := validR_all h3
  obtain ⟨w, la⟩ := a
  obtain ⟨w2, lb⟩ := b
  obtain ⟨w3, lc⟩ := c
  simp only at *
  subst h4; subst h5
  refine ⟨w, la, lb, lc, rfl, rfl, rfl, a1, a2, b2, c2, a3, b3, c3, h9.1, ?_⟩
  have := h9.2
  simp only [placesM, imin] at this
  split at this <;> omega

theorem sne_same (a : ByteArray) : sne a a = false := by simp [sne]

end Go.Prg
