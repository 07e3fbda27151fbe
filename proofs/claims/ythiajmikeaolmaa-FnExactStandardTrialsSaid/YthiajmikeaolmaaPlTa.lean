/- Plain laws, part Ta: tables of sums. Conditions: none. -/
import Derived.Test.YthiajmikeaolmaaPlS
set_option linter.all false
namespace Go.Prg
open Go.Eng

abbrev Row5 := Int × Int × Int × Int × Int

theorem qdiv {q b c : Nat} (h : c < b) : (q * b + c) / b = q ∧ (q * b + c) % b = c := by
  have hb : 0 < b := by omega
  rw [Nat.add_comm, Nat.add_mul_div_right _ _ hb, Nat.add_mul_mod_self_right, Nat.div_eq_of_lt h, Nat.mod_eq_of_lt h]
  exact ⟨by omega, rfl⟩

/-- the right row of an index -/
def rowT (b k : Nat) : Row5 := (((k / b / b : Nat) : Int), (((k / b % b : Nat) : Int), (((k % b : Nat) : Int), ((((k / b / b + k / b % b + k % b) % b : Nat) : Int), (((k / b / b + k / b % b + k % b) / b : Nat) : Int)))))
def tabT (b n : Nat) : List Row5 := (List.range n).map (rowT b)

theorem tabT_len (b n : Nat) : (tabT b n).length = n := by simp [tabT]
theorem tabT_succ (b n : Nat) : tabT b (n + 1) = tabT b n ++ [rowT b n] := by
  simp only [tabT]; rw [List.range_succ, List.map_append]; rfl
theorem tabT_get (b : Nat) {n k : Nat} (h : k < n) : (tabT b n).getD k (((0 : Int), ((0 : Int), ((0 : Int), ((0 : Int), (0 : Int))))) : Int × Int × Int × Int × Int) = rowT b k := by
  simp [tabT, List.getD_eq_getElem?_getD, h]

/-- the row of a carry and two digits -/
theorem rowT_at {b c x y : Nat} (hx : x < b) (hy : y < b) : rowT b ((c * b + x) * b + y) = ((c : Int), ((x : Int), ((y : Int), ((((c + x + y) % b : Nat) : Int), (((c + x + y) / b : Nat) : Int))))) := by
  obtain ⟨h1, h2⟩ := qdiv (q := c * b + x) hy
  obtain ⟨h3, h4⟩ := qdiv (q := c) hx
  unfold rowT
  rw [h1, h2, h3, h4]

theorem n_tdiv (a b : Nat) : ((a : Int)).tdiv (b : Int) = ((a / b : Nat) : Int) := (Int.ofNat_tdiv a b).symm
theorem n_tmod (a b : Nat) : ((a : Int)).tmod (b : Int) = ((a % b : Nat) : Int) := (Int.ofNat_tmod a b).symm
theorem div_le' (a b : Nat) : a / b ≤ a := Nat.div_le_self a b
theorem mod_le' (a b : Nat) : a % b ≤ a := Nat.mod_le a b

theorem sq16 {b : Nat} (h : 2 ≤ b ∧ b ≤ 16) : 4 ≤ b * b ∧ b * b ≤ 256 ∧ 2 * b ≤ b * b := by
  have h1 := Nat.mul_le_mul h.1 h.1
  have h2 := Nat.mul_le_mul h.2 h.2
  have h3 := Nat.mul_le_mul_right b h.1
  omega

theorem add3 (c x y : Nat) (hc : c ≤ 600) (hx : x ≤ 600) (hy : y ≤ 600) : iadd .i64 (iadd .i64 (c : Int) (x : Int)) (y : Int) = ((c + x + y : Nat) : Int) := by
  have e : iadd .i64 (c : Int) (x : Int) = ((c + x : Nat) : Int) := by rw [iadd_e, w64 (by omega) (by omega)]; omega
  rw [e, iadd_e, w64 (by omega) (by omega)]; omega

theorem s_right (b c x y : Nat) (h : 2 ≤ b ∧ b ≤ 16) (hc : c ≤ 600) (hx : x ≤ 600) (hy : y ≤ 600) : F_s_l08Right ((b : Int), ((c : Int), ((x : Int), (y : Int)))) = some ((c : Int), ((x : Int), ((y : Int), ((((c + x + y) % b : Nat) : Int), (((c + x + y) / b : Nat) : Int))))) := by
  unfold F_s_l08Right
  have e := add3 c x y (by omega) (by omega) (by omega)
  have h2 := div_le' (c + x + y) b
  simp only [e]
  simp (disch := omega) only [okDiv_e, chk_pos, irem_e, iquo_e, n_tdiv, n_tmod]
  rw [w64 (by generalize (c + x + y) / b = z at h2 ⊢; omega) (by generalize (c + x + y) / b = z at h2 ⊢; omega)]

theorem s_table (b : Nat) (h : 2 ≤ b ∧ b ≤ 16) : F_s_l08Table (b : Int) = some (tabT b (2 * b * b)) := by
  unfold F_s_l08Table
  obtain ⟨q1, q2, q3⟩ := sq16 h
  have hbb : ((b : Int)) * b = ((b * b : Nat) : Int) := by simp
  have hn : 2 * b * b = 2 * (b * b) := Nat.mul_assoc 2 b b
  have e1 : imul .i64 2 (b : Int) = ((2 * b : Nat) : Int) := by rw [imul_e, w64 (by omega) (by omega)]; omega
  have e2 : (((2 * b : Nat) : Int)) * (b : Int) = ((2 * b * b : Nat) : Int) := by simp
  have hm : imul .i64 (imul .i64 2 (b : Int)) (b : Int) = ((2 * b * b : Nat) : Int) := by
    rw [e1, imul_e, e2, w64 (by omega) (by omega)]
  refine iter_run (fun i => ((b : Int), (i : Int), tabT b i)) (2 * b * b) (by simp [tabT]) (fun i hi => ?_) ?_
  · have d1 := div_le' i b
    have d2 := div_le' (i / b) b
    have d3 := mod_le' (i / b) b
    have d4 := mod_le' i b
    have hr := s_right b (i / b / b) (i / b % b) (i % b) h (by generalize i / b / b = z at *; generalize i / b = z' at *; omega) (by generalize i / b % b = z at *; generalize i / b = z' at *; omega) (by generalize i % b = z at *; omega)
    have hl := tabT_len b i
    simp only [hm]
    have w1 : IntKind.i64.wrap ((i / b : Nat) : Int) = ((i / b : Nat) : Int) := by
      generalize i / b = z at d1 ⊢; exact w64 (by omega) (by omega)
    have w2 : IntKind.i64.wrap ((i / b / b : Nat) : Int) = ((i / b / b : Nat) : Int) := by
      generalize i / b / b = z at d2 ⊢; generalize i / b = z' at d1 d2; exact w64 (by omega) (by omega)
    simp (disch := omega) only [ilt_e, cond_pos, okDiv_e, chk_pos, iquo_e, irem_e, n_tdiv, w1, w2, n_tmod]
    simp (disch := omega) only [hr, bind_s, okRoom_e, xlen_e, hl, List.length_cons, List.length_nil, chk_pos, xapp_e, iadd_e, w64, tabT_succ]
    rfl
  · simp only [hm]
    simp (disch := omega) only [ilt_e, cond_neg]

theorem i_table (b : Nat) (h : 2 ≤ b ∧ b ≤ 16) : F_i_rightTable (b : Int) = some (tabT b (2 * b * b)) := by
  unfold F_i_rightTable
  obtain ⟨q1, q2, q3⟩ := sq16 h
  have hn : 2 * b * b = 2 * (b * b) := Nat.mul_assoc 2 b b
  refine iter_run (fun c => ((b : Int), (c : Int), tabT b (c * b * b))) 2 (by simp [tabT]) (fun c hc => ?_) ?_
  · have hcb : c * b * b = c * (b * b) := Nat.mul_assoc c b b
    have hc2 : c * (b * b) ≤ b * b := by
      have := Nat.mul_le_mul_right (b * b) (show c ≤ 1 by omega)
      omega
    simp (disch := omega) only [ilt_e, cond_pos]
    refine iter_run (fun x => ((b : Int), (c : Int), (c : Int), (b : Int), (x : Int), tabT b ((c * b + x) * b))) b (by simp) (fun x hx => ?_) ?_
    · have hxb : (c * b + x) * b = c * b * b + x * b := Nat.add_mul _ _ _
      have hx2 : x * b + b ≤ b * b := by
        have := Nat.mul_le_mul_right b (show x + 1 ≤ b by omega)
        rw [Nat.add_mul] at this; omega
      simp (disch := omega) only [ilt_e, cond_pos]
      refine iter_run (fun y => ((b : Int), (c : Int), (x : Int), (c : Int), (b : Int), (x : Int), (b : Int), (y : Int), tabT b ((c * b + x) * b + y))) b (by simp) (fun y hy => ?_) ?_
      · have hl := tabT_len b ((c * b + x) * b + y)
        have e := add3 c x y (by omega) (by omega) (by omega)
        have h2 := div_le' (c + x + y) b
        have hr := rowT_at (c := c) hx hy
        have w1 : IntKind.i64.wrap (((c + x + y) / b : Nat) : Int) = (((c + x + y) / b : Nat) : Int) := by
          generalize (c + x + y) / b = z at h2 ⊢; exact w64 (by omega) (by omega)
        simp only [e]
        simp (disch := omega) only [ilt_e, cond_pos, okDiv_e, chk_pos, irem_e, iquo_e, n_tdiv, w1, n_tmod, okRoom_e, xlen_e, hl, List.length_cons, List.length_nil, xapp_e]
        rw [show (c * b + x) * b + (y + 1) = (c * b + x) * b + y + 1 by omega, tabT_succ, hr]
        try simp (disch := omega) only [iadd_e, w64]
        rfl
      · simp (disch := omega) only [ilt_e, cond_neg, iadd_e, w64]
        rw [show (c * b + (x + 1)) * b = (c * b + x) * b + b by rw [← Nat.add_assoc, Nat.add_mul _ 1, Nat.one_mul]]
        rfl
    · simp (disch := omega) only [ilt_e, cond_neg, iadd_e, w64]
      rw [show (c + 1) * b * b = (c * b + b) * b by rw [Nat.add_mul c 1, Nat.one_mul]]
      rfl
  · simp (disch := omega) only [ilt_e, cond_neg]

/- tables of a base -/
def rowOk (b : Nat) (l : List Row5) (i : Nat) : Bool :=
  decide ((l.getD i (((0 : Int), ((0 : Int), ((0 : Int), ((0 : Int), (0 : Int))))) : Int × Int × Int × Int × Int)).1 = (rowT b i).1) && (decide ((l.getD i (((0 : Int), ((0 : Int), ((0 : Int), ((0 : Int), (0 : Int))))) : Int × Int × Int × Int × Int)).2.1 = (rowT b i).2.1) && (decide ((l.getD i (((0 : Int), ((0 : Int), ((0 : Int), ((0 : Int), (0 : Int))))) : Int × Int × Int × Int × Int)).2.2.1 = (rowT b i).2.2.1) && (decide (0 ≤ (l.getD i (((0 : Int), ((0 : Int), ((0 : Int), ((0 : Int), (0 : Int))))) : Int × Int × Int × Int × Int)).2.2.2.1 ∧ (l.getD i (((0 : Int), ((0 : Int), ((0 : Int), ((0 : Int), (0 : Int))))) : Int × Int × Int × Int × Int)).2.2.2.1 ≤ (b : Int) - 1) && decide (0 ≤ (l.getD i (((0 : Int), ((0 : Int), ((0 : Int), ((0 : Int), (0 : Int))))) : Int × Int × Int × Int × Int)).2.2.2.2 ∧ (l.getD i (((0 : Int), ((0 : Int), ((0 : Int), ((0 : Int), (0 : Int))))) : Int × Int × Int × Int × Int)).2.2.2.2 ≤ 1))))
def formB (b : Nat) (l : List Row5) : Bool := decide (l.length = 2 * b * b) && (List.range l.length).all (rowOk b l)

theorem range_get {n i : Nat} (h : i < (List.range n).length) : (List.range n)[i] = i := by simp

theorem formB_row {b : Nat} {l : List Row5} (h : formB b l = true) {i : Nat} (hi : i < l.length) : (l.getD i (((0 : Int), ((0 : Int), ((0 : Int), ((0 : Int), (0 : Int))))) : Int × Int × Int × Int × Int)).1 = (rowT b i).1 ∧ (l.getD i (((0 : Int), ((0 : Int), ((0 : Int), ((0 : Int), (0 : Int))))) : Int × Int × Int × Int × Int)).2.1 = (rowT b i).2.1 ∧ (l.getD i (((0 : Int), ((0 : Int), ((0 : Int), ((0 : Int), (0 : Int))))) : Int × Int × Int × Int × Int)).2.2.1 = (rowT b i).2.2.1 ∧ (0 ≤ (l.getD i (((0 : Int), ((0 : Int), ((0 : Int), ((0 : Int), (0 : Int))))) : Int × Int × Int × Int × Int)).2.2.2.1 ∧ (l.getD i (((0 : Int), ((0 : Int), ((0 : Int), ((0 : Int), (0 : Int))))) : Int × Int × Int × Int × Int)).2.2.2.1 ≤ (b : Int) - 1) ∧ (0 ≤ (l.getD i (((0 : Int), ((0 : Int), ((0 : Int), ((0 : Int), (0 : Int))))) : Int × Int × Int × Int × Int)).2.2.2.2 ∧ (l.getD i (((0 : Int), ((0 : Int), ((0 : Int), ((0 : Int), (0 : Int))))) : Int × Int × Int × Int × Int)).2.2.2.2 ≤ 1) := by
  simp only [formB, Bool.and_eq_true, List.all_eq_true, List.mem_range] at h
  have := h.2 i hi
  simpa only [rowOk, Bool.and_eq_true, decide_eq_true_eq] using this

theorem i_form (b : Nat) (l : List Row5) (h : 2 ≤ b ∧ b ≤ 16) (hl : (l.length : Int) ≤ 9223372036854775806) : F_i_isAddTable ((b : Int), l) = some (formB b l) := by
  unfold F_i_isAddTable
  obtain ⟨q1, q2, q3⟩ := sq16 h
  have hn : 2 * b * b = 2 * (b * b) := Nat.mul_assoc 2 b b
  have ht := tabT_len b (2 * b * b)
  simp only [i_table b h, bind_s, ine_e, n2i_e, xlen_e, ht]
  by_cases he : l.length = 2 * b * b
  · rw [cond_neg (by omega)]
    refine Eq.trans (iter_all2 (good := true) (bad := false) (List.range l.length) (rowOk b l) (fun i => ((b : Int), (l.length : Int), (i : Int), tabT b (2 * b * b), l)) rfl (fun i hi hp => ?_) (fun i hi hp => ?_) (fun _ => ?_)) ?_
    · rw [range_get] at hp
      rw [List.length_range] at hi
      have hg := tabT_get b (show i < 2 * b * b by omega)
      simp only [rowOk, Bool.and_eq_true, decide_eq_true_eq] at hp
      obtain ⟨p1, p2, p3, p4, p5⟩ := hp
      simp (disch := omega) only [ilt_e, cond_pos, okIx_e, xlen_e, ht, chk_pos, xget_e, i2n_e, hg, p1, p2, p3, cond_neg, not_true_eq_false, decide_false, cond_f, isub_e, w64, between_e, bind_s, bnot_d]
      first
        | rfl
        | (rw [cond_neg (fun q => q p4), cond_neg (fun q => q p5)]
           simp (disch := omega) only [iadd_e, w64]
           rfl)
    · rw [range_get] at hp
      rw [List.length_range] at hi
      have hg := tabT_get b (show i < 2 * b * b by omega)
      simp (disch := omega) only [ilt_e, cond_pos, okIx_e, xlen_e, ht, chk_pos, xget_e, i2n_e, hg]
      by_cases p1 : (l.getD i (((0 : Int), ((0 : Int), ((0 : Int), ((0 : Int), (0 : Int))))) : Int × Int × Int × Int × Int)).1 = (rowT b i).1
      · rw [cond_neg (by simpa using p1)]
        by_cases p2 : (l.getD i (((0 : Int), ((0 : Int), ((0 : Int), ((0 : Int), (0 : Int))))) : Int × Int × Int × Int × Int)).2.1 = (rowT b i).2.1
        · rw [cond_neg (by simpa using p2)]
          by_cases p3 : (l.getD i (((0 : Int), ((0 : Int), ((0 : Int), ((0 : Int), (0 : Int))))) : Int × Int × Int × Int × Int)).2.2.1 = (rowT b i).2.2.1
          · rw [cond_neg (by simpa using p3)]
            simp (disch := omega) only [isub_e, w64, between_e, bind_s, bnot_d]
            by_cases p4 : 0 ≤ (l.getD i (((0 : Int), ((0 : Int), ((0 : Int), ((0 : Int), (0 : Int))))) : Int × Int × Int × Int × Int)).2.2.2.1 ∧ (l.getD i (((0 : Int), ((0 : Int), ((0 : Int), ((0 : Int), (0 : Int))))) : Int × Int × Int × Int × Int)).2.2.2.1 ≤ (b : Int) - 1
            · rw [cond_neg (fun q => q p4)]
              by_cases p5 : 0 ≤ (l.getD i (((0 : Int), ((0 : Int), ((0 : Int), ((0 : Int), (0 : Int))))) : Int × Int × Int × Int × Int)).2.2.2.2 ∧ (l.getD i (((0 : Int), ((0 : Int), ((0 : Int), ((0 : Int), (0 : Int))))) : Int × Int × Int × Int × Int)).2.2.2.2 ≤ 1
              · exfalso
                simp only [rowOk, p1, p2, p3, p4, p5, and_self, decide_true, Bool.and_self] at hp
                cases hp
              · rw [cond_pos p5]
            · rw [cond_pos p4]
          · rw [cond_pos p3]
        · rw [cond_pos p2]
      · rw [cond_pos p1]
    · rw [List.length_range]
      simp (disch := omega) only [ilt_e, cond_neg]
    · unfold formB
      rw [decide_eq_true he, Bool.true_and]
      cases (List.range l.length).all (rowOk b l) <;> rfl
  · rw [cond_pos (by omega)]
    simp [formB, he]

theorem s_form (b : Nat) (l : List Row5) (h : 2 ≤ b ∧ b ≤ 16) (hl : (l.length : Int) ≤ 9223372036854775806) : F_s_l08Form ((b : Int), l) = some (formB b l) := by
  unfold F_s_l08Form
  obtain ⟨q1, q2, q3⟩ := sq16 h
  have hn : 2 * b * b = 2 * (b * b) := Nat.mul_assoc 2 b b
  have ht := tabT_len b (2 * b * b)
  simp only [s_table b h, bind_s, ine_e, n2i_e, xlen_e, ht]
  by_cases he : l.length = 2 * b * b
  · rw [cond_neg (by omega)]
    refine Eq.trans (iter_all2 (good := true) (bad := false) (List.range l.length) (rowOk b l) (fun i => ((b : Int), (i : Int), l, tabT b (2 * b * b))) rfl (fun i hi hp => ?_) (fun i hi hp => ?_) (fun _ => ?_)) ?_
    · rw [range_get] at hp
      rw [List.length_range] at hi
      have hg := tabT_get b (show i < 2 * b * b by omega)
      simp only [rowOk, Bool.and_eq_true, decide_eq_true_eq] at hp
      obtain ⟨p1, p2, p3, p4, p5⟩ := hp
      simp (disch := omega) only [ilt_e, cond_pos, okIx_e, xlen_e, ht, chk_pos, xget_e, i2n_e, hg, p1, p2, p3, cond_neg, not_true_eq_false, decide_false, cond_f, isub_e, w64, l00In_e, bind_s, bnot_d]
      first
        | rfl
        | (rw [cond_neg (fun q => q p4), cond_neg (fun q => q p5)]
           simp (disch := omega) only [iadd_e, w64]
           rfl)
    · rw [range_get] at hp
      rw [List.length_range] at hi
      have hg := tabT_get b (show i < 2 * b * b by omega)
      simp (disch := omega) only [ilt_e, cond_pos, okIx_e, xlen_e, ht, chk_pos, xget_e, i2n_e, hg]
      by_cases p1 : (l.getD i (((0 : Int), ((0 : Int), ((0 : Int), ((0 : Int), (0 : Int))))) : Int × Int × Int × Int × Int)).1 = (rowT b i).1
      · rw [cond_neg (by simpa using p1)]
        by_cases p2 : (l.getD i (((0 : Int), ((0 : Int), ((0 : Int), ((0 : Int), (0 : Int))))) : Int × Int × Int × Int × Int)).2.1 = (rowT b i).2.1
        · rw [cond_neg (by simpa using p2)]
          by_cases p3 : (l.getD i (((0 : Int), ((0 : Int), ((0 : Int), ((0 : Int), (0 : Int))))) : Int × Int × Int × Int × Int)).2.2.1 = (rowT b i).2.2.1
          · rw [cond_neg (by simpa using p3)]
            simp (disch := omega) only [isub_e, w64, l00In_e, bind_s, bnot_d]
            by_cases p4 : 0 ≤ (l.getD i (((0 : Int), ((0 : Int), ((0 : Int), ((0 : Int), (0 : Int))))) : Int × Int × Int × Int × Int)).2.2.2.1 ∧ (l.getD i (((0 : Int), ((0 : Int), ((0 : Int), ((0 : Int), (0 : Int))))) : Int × Int × Int × Int × Int)).2.2.2.1 ≤ (b : Int) - 1
            · rw [cond_neg (fun q => q p4)]
              by_cases p5 : 0 ≤ (l.getD i (((0 : Int), ((0 : Int), ((0 : Int), ((0 : Int), (0 : Int))))) : Int × Int × Int × Int × Int)).2.2.2.2 ∧ (l.getD i (((0 : Int), ((0 : Int), ((0 : Int), ((0 : Int), (0 : Int))))) : Int × Int × Int × Int × Int)).2.2.2.2 ≤ 1
              · exfalso
                simp only [rowOk, p1, p2, p3, p4, p5, and_self, decide_true, Bool.and_self] at hp
                cases hp
              · rw [cond_pos p5]
            · rw [cond_pos p4]
          · rw [cond_pos p3]
        · rw [cond_pos p2]
      · rw [cond_pos p1]
    · rw [List.length_range]
      simp (disch := omega) only [ilt_e, cond_neg]
    · unfold formB
      rw [decide_eq_true he, Bool.true_and]
      cases (List.range l.length).all (rowOk b l) <;> rfl
  · rw [cond_pos (by omega)]
    simp [formB, he]

/- addition by a table -/
def ixT (b c x y : Int) : Nat := ((c * b + x) * b + y).toNat
def byS (t : List Row5) (b : Int) (l m : List Int) : Nat → Int × List Int
  | 0 => (0, [])
  | k + 1 => ((t.getD (ixT b (byS t b l m k).1 (l.getD k 0) (m.getD k 0)) (((0 : Int), ((0 : Int), ((0 : Int), ((0 : Int), (0 : Int))))) : Int × Int × Int × Int × Int)).2.2.2.2, (byS t b l m k).2 ++ [(t.getD (ixT b (byS t b l m k).1 (l.getD k 0) (m.getD k 0)) (((0 : Int), ((0 : Int), ((0 : Int), ((0 : Int), (0 : Int))))) : Int × Int × Int × Int × Int)).2.2.2.1])

theorem ixT_in {b : Nat} (h : 2 ≤ b ∧ b ≤ 16) {c x y : Int} (hc : 0 ≤ c ∧ c ≤ 1) (hx : 0 ≤ x ∧ x ≤ (b : Int) - 1) (hy : 0 ≤ y ∧ y ≤ (b : Int) - 1) :
    (c * b + x) * b + y = (ixT b c x y : Int) ∧ ixT b c x y < 2 * b * b ∧ (0 ≤ c * b ∧ c * b ≤ 16) ∧ (0 ≤ (c * b + x) * b ∧ (c * b + x) * b ≤ 512) ∧ ixT b c x y = (c.toNat * b + x.toNat) * b + y.toNat := by
  have h1 : 0 ≤ c * b ∧ c * b ≤ b := by
    rcases (show c = 0 ∨ c = 1 by omega) with rfl | rfl
    · omega
    · omega
  have h2 := Int.mul_le_mul_of_nonneg_right (c := (b : Int)) (show c * b + x ≤ 2 * b - 1 by omega) (by omega)
  have h3 := Int.mul_nonneg (show 0 ≤ c * b + x by omega) (show (0 : Int) ≤ b by omega)
  obtain ⟨q1, q2, q3⟩ := sq16 h
  have e1 : (2 * (b : Int) - 1) * b = 2 * ((b * b : Nat) : Int) - b := by
    rw [Int.sub_mul, Int.one_mul, Int.mul_assoc]; simp
  have hn : 2 * b * b = 2 * (b * b) := Nat.mul_assoc 2 b b
  have e2 : (((c.toNat * b + x.toNat) * b + y.toNat : Nat) : Int) = (c * b + x) * b + y := by
    simp only [Int.natCast_add, Int.natCast_mul]
    rw [show ((c.toNat : Nat) : Int) = c by omega, show ((x.toNat : Nat) : Int) = x by omega, show ((y.toNat : Nat) : Int) = y by omega]
  unfold ixT
  refine ⟨by omega, by omega, by omega, by omega, by omega⟩

theorem byS_in {b : Nat} (h : 2 ≤ b ∧ b ≤ 16) {t : List Row5} (ht : formB b t = true) {l m : List Int} (hl : digitsOk b l) (hm : digitsOk b m) (he : l.length = m.length) : ∀ k, k ≤ l.length →
    (0 ≤ (byS t b l m k).1 ∧ (byS t b l m k).1 ≤ 1) ∧ (byS t b l m k).2.length = k ∧ digitsOk b (byS t b l m k).2
  | 0, _ => ⟨by simp [byS], by simp [byS], by intro d hd; simp [byS] at hd⟩
  | k + 1, hk => by
    obtain ⟨i1, i2, i3⟩ := byS_in h ht hl hm he k (by omega)
    have g1 := getD_all (p := fun d => 0 ≤ d ∧ d ≤ (b : Int) - 1) hl (i := k) (by omega)
    have g2 := getD_all (p := fun d => 0 ≤ d ∧ d ≤ (b : Int) - 1) hm (i := k) (by omega)
    obtain ⟨_, hix, _⟩ := ixT_in h i1 g1 g2
    have hlen : t.length = 2 * b * b := by
      simp only [formB, Bool.and_eq_true, decide_eq_true_eq] at ht
      exact ht.1
    obtain ⟨_, _, _, p4, p5⟩ := formB_row ht (i := ixT b (byS t b l m k).1 (l.getD k 0) (m.getD k 0)) (by omega)
    refine ⟨p5, by simp [byS, i2], fun d hd => ?_⟩
    simp only [byS, List.mem_append, List.mem_singleton] at hd
    rcases hd with hd | hd
    · exact i3 d hd
    · rw [hd]; exact p4

def byTabR (t : List Row5) (x y : Reg) : Reg × Int × Int :=
  if pairC x y = 0 then cond (formB x.1.toNat t) (wholeR (x.1, (byS t x.1 x.2 y.2 x.2.length).2) (byS t x.1 x.2 y.2 x.2.length).1) (zeroR, 0, 8) else (zeroR, 0, pairC x y)

theorem byTabR_len (t : List Row5) (x y : Reg) : ((byTabR t x y).1.2.length : Int) ≤ 16 := by
  unfold byTabR
  split
  · cases formB x.1.toNat t
    · simp
    · simp only [cond_t]; exact wholeR_len _ _
  · simp

theorem i_byTable (t : List Row5) (x y : Reg) (ht : (t.length : Int) ≤ 1048576) (hx : (x.2.length : Int) ≤ 9223372036854775806) (hy : (y.2.length : Int) ≤ 9223372036854775806) : F_i_AddByTable (t, (x, y)) = some (byTabR t x y) := by
  unfold F_i_AddByTable byTabR
  simp only [i_pair x y hx hy, bind_s, ine_e]
  by_cases h : pairC x y = 0
  · obtain ⟨w, l, m, rfl, rfl, hw, hl, he, hdl, hdm⟩ := pair_parts h
    obtain ⟨b, rfl⟩ : ∃ b : Nat, w = b := ⟨w.toNat, by omega⟩
    have hb : 2 ≤ b ∧ b ≤ 16 := by omega
    rw [if_pos h, cond_neg (by simpa using h)]
    simp only [i_form b t hb (by omega), bind_s, Int.toNat_natCast]
    cases hf : formB b t with
    | false => rfl
    | true =>
      have hlen : t.length = 2 * b * b := by
        have hf' := hf
        simp only [formB, Bool.and_eq_true, decide_eq_true_eq] at hf'
        exact hf'.1
      simp only [bnot_t, cond_f, cond_t]
      refine iter_run (fun k => ((byS t b l m k).1, (l.length : Int), (k : Int), t, (b : Int), l, (b : Int), m, (0 : Int), ([] : List Int), (b : Int), (byS t b l m k).2)) l.length (by simp [byS, n2i]) (fun k hk => ?_) ?_
      · obtain ⟨i1, i2, i3⟩ := byS_in hb hf hdl hdm he k (by omega)
        have g1 := getD_all (p := fun d => 0 ≤ d ∧ d ≤ (b : Int) - 1) hdl (i := k) (by omega)
        have g2 := getD_all (p := fun d => 0 ≤ d ∧ d ≤ (b : Int) - 1) hdm (i := k) (by omega)
        obtain ⟨r1, r2, r3, r4, _⟩ := ixT_in hb i1 g1 g2
        obtain ⟨q1, q2, q3⟩ := sq16 hb
        have e : iadd .i64 (imul .i64 (iadd .i64 (imul .i64 (byS t b l m k).1 (b : Int)) (l.getD k 0)) (b : Int)) (m.getD k 0) = (ixT b (byS t b l m k).1 (l.getD k 0) (m.getD k 0) : Int) := by
          generalize (byS t b l m k).1 = C at i1 r1 r2 r3 r4 ⊢
          generalize l.getD k 0 = d at g1 r1 r2 r3 r4 ⊢
          generalize m.getD k 0 = f at g2 r1 r2 ⊢
          have e1 : imul .i64 C (b : Int) = C * b := by rw [imul_e, w64 (by omega) (by omega)]
          have e2 : iadd .i64 (C * b) d = C * b + d := by rw [iadd_e, w64 (by omega) (by omega)]
          have e3 : imul .i64 (C * b + d) (b : Int) = (C * b + d) * b := by rw [imul_e, w64 (by omega) (by omega)]
          have e4 : iadd .i64 ((C * b + d) * b) f = (C * b + d) * b + f := by rw [iadd_e, w64 (by omega) (by omega)]
          rw [e1, e2, e3, e4]
          exact r1
        simp only [xget_e, i2n_e, e]
        simp (disch := omega) only [ilt_e, cond_pos, okIx_e, xlen_e, chk_pos, okRoom_e, i2, List.length_cons, List.length_nil, xapp_e, iadd_e, w64]
        rfl
      · obtain ⟨i1, i2, i3⟩ := byS_in hb hf hdl hdm he l.length (Nat.le_refl _)
        simp (disch := omega) only [ilt_e, cond_neg]
        rw [i_whole' _ _ _ (by omega)]
        rfl
  · rw [if_neg h, cond_pos h]

theorem s_byTable (t : List Row5) (x y : Reg) (ht : (t.length : Int) ≤ 1048576) (hx : (x.2.length : Int) ≤ 9223372036854775806) (hy : (y.2.length : Int) ≤ 9223372036854775806) : F_s_AddByTable (t, (x, y)) = some (byTabR t x y) := by
  unfold F_s_AddByTable byTabR
  simp only [s_pair x y hx hy, bind_s, ieq_e]
  by_cases h : pairC x y = 0
  · obtain ⟨w, l, m, rfl, rfl, hw, hl, he, hdl, hdm⟩ := pair_parts h
    obtain ⟨b, rfl⟩ : ∃ b : Nat, w = b := ⟨w.toNat, by omega⟩
    have hb : 2 ≤ b ∧ b ≤ 16 := by omega
    rw [if_pos h, cond_pos h]
    simp only [s_form b t hb (by omega), bind_s, Int.toNat_natCast]
    cases hf : formB b t with
    | false => rfl
    | true =>
      have hlen : t.length = 2 * b * b := by
        have hf' := hf
        simp only [formB, Bool.and_eq_true, decide_eq_true_eq] at hf'
        exact hf'.1
      simp only [bnot_t, cond_f, cond_t]
      simp only [ine_e]
      rw [cond_neg (by simpa using h)]
      refine iter_run (fun k => ((byS t b l m k).1, (k : Int), t, (b : Int), l, (b : Int), m, (0 : Int), ([] : List Int), (b : Int), (byS t b l m k).2)) l.length (by simp [byS]) (fun k hk => ?_) ?_
      · obtain ⟨i1, i2, i3⟩ := byS_in hb hf hdl hdm he k (by omega)
        have g1 := getD_all (p := fun d => 0 ≤ d ∧ d ≤ (b : Int) - 1) hdl (i := k) (by omega)
        have g2 := getD_all (p := fun d => 0 ≤ d ∧ d ≤ (b : Int) - 1) hdm (i := k) (by omega)
        obtain ⟨r1, r2, r3, r4, _⟩ := ixT_in hb i1 g1 g2
        obtain ⟨q1, q2, q3⟩ := sq16 hb
        have e : iadd .i64 (imul .i64 (iadd .i64 (imul .i64 (byS t b l m k).1 (b : Int)) (l.getD k 0)) (b : Int)) (m.getD k 0) = (ixT b (byS t b l m k).1 (l.getD k 0) (m.getD k 0) : Int) := by
          generalize (byS t b l m k).1 = C at i1 r1 r2 r3 r4 ⊢
          generalize l.getD k 0 = d at g1 r1 r2 r3 r4 ⊢
          generalize m.getD k 0 = f at g2 r1 r2 ⊢
          have e1 : imul .i64 C (b : Int) = C * b := by rw [imul_e, w64 (by omega) (by omega)]
          have e2 : iadd .i64 (C * b) d = C * b + d := by rw [iadd_e, w64 (by omega) (by omega)]
          have e3 : imul .i64 (C * b + d) (b : Int) = (C * b + d) * b := by rw [imul_e, w64 (by omega) (by omega)]
          have e4 : iadd .i64 ((C * b + d) * b) f = (C * b + d) * b + f := by rw [iadd_e, w64 (by omega) (by omega)]
          rw [e1, e2, e3, e4]
          exact r1
        simp only [xget_e, i2n_e, e]
        simp (disch := omega) only [ilt_e, n2i_e, cond_pos, okIx_e, xlen_e, chk_pos, okRoom_e, i2, List.length_cons, List.length_nil, xapp_e, iadd_e, w64]
        rfl
      · obtain ⟨i1, i2, i3⟩ := byS_in hb hf hdl hdm he l.length (Nat.le_refl _)
        simp (disch := omega) only [ilt_e, n2i_e, xlen_e, cond_neg]
        rw [s_validR' _ _ (by omega)]
        simp only [bind_s, wholeR]
        cases validR ((b : Int), (byS t b l m l.length).2) <;> rfl
  · rw [if_neg h, cond_neg h]
    simp only [ine_e]
    rw [cond_pos h]

theorem to_AddRow (e : Row5) : F_l_toAddRow e = some e := rfl
theorem eq_AddRow (a b : Row5) : F_l_eqAddRow (a, b) = some (decide (a = b)) := by
  obtain ⟨a1, a2, a3, a4, a5⟩ := a
  obtain ⟨b1, b2, b3, b4, b5⟩ := b
  unfold F_l_eqAddRow
  simp only [ine_e]
  by_cases h1 : a1 = b1
  · by_cases h2 : a2 = b2
    · by_cases h3 : a3 = b3
      · by_cases h4 : a4 = b4
        · by_cases h5 : a5 = b5 <;> simp [h1, h2, h3, h4, h5]
        · simp [h1, h2, h3, h4]
      · simp [h1, h2, h3]
    · simp [h1, h2]
  · simp [h1]

theorem sz_AddRowS (l : List Row5) (n : Int) (h : (l.length : Int) ≤ 9223372036854775807) (hn : 0 ≤ n) (hn' : n ≤ 1048576) : ∃ v, F_l_szAddRowS (l, n) = some v ∧ (v = -1 ∨ 0 ≤ v ∧ v + l.length = n) := by
  unfold F_l_szAddRowS
  simp (disch := omega) only [xlen_e, n2i_e, isub_e, w64, ilt_e]
  by_cases hs : n - l.length < 0
  · exact ⟨-1, by simp [hs], .inl rfl⟩
  · exact ⟨n - l.length, by simp [hs], .inr ⟨by omega, by omega⟩⟩

theorem to_AddRowS (l : List Row5) (h : (l.length : Int) ≤ 1048576) : F_l_toAddRowS l = some l := by
  unfold F_l_toAddRowS
  simp (disch := omega) only [xlen_e, n2i_e, ieq_e, okMake_e, chk_pos, i2n_e, xrep_e, decide_true, chk_t]
  refine iter_run (fun i => ((i : Int), l, l.take i ++ List.replicate (l.length - i) (((0 : Int), ((0 : Int), ((0 : Int), ((0 : Int), (0 : Int))))) : Int × Int × Int × Int × Int))) l.length (by simp) (fun i hi => ?_) ?_
  · have hlen : (l.take i ++ List.replicate (l.length - i) (((0 : Int), ((0 : Int), ((0 : Int), ((0 : Int), (0 : Int))))) : Int × Int × Int × Int × Int)).length = l.length := by simp; omega
    have ht : (l.take i).length = i := by simp; omega
    simp (disch := omega) only [xlen_e, n2i_e, ilt_e, cond_pos, okIx_e, hlen, chk_pos, i2n_e, xset_e, xget_e, iadd_e, w64, pair_eta, to_AddRow, eq_AddRow, bind_s]
    rw [mid_rep ht hi, List.take_succ_eq_append_getElem hi, getD_lt hi]
    rfl
  · simp (disch := omega) only [xlen_e, n2i_e, ilt_e, cond_neg, Nat.sub_self]
    simp

theorem eq_AddRowS (a b : List Row5) (h : (a.length : Int) ≤ 9223372036854775806) (h' : (b.length : Int) ≤ 9223372036854775806) : F_l_eqAddRowS (a, b) = some (decide (a = b)) := by
  unfold F_l_eqAddRowS
  simp only [xlen_e, n2i_e, ine_e]
  by_cases hl : a.length = b.length
  · rw [cond_neg (by omega)]
    by_cases hab : a = b
    · subst hab
      refine iter_run (fun i => ((i : Int), a, a)) a.length rfl (fun i hi => ?_) ?_
      · simp (disch := omega) only [ilt_e, cond_pos, okIx_e, chk_pos, i2n_e, xget_e, iadd_e, w64, pair_eta, bnev_s, to_AddRow, eq_AddRow, bind_s, decide_true, bnot_t, cond_f]
        rfl
      · simp (disch := omega) only [ilt_e, cond_neg]
        simp
    · obtain ⟨k, hk, hne, hmin⟩ := first_diff hl hab
      refine iter_run (fun i => ((i : Int), a, b)) k rfl (fun i hi => ?_) ?_
      · have h1 : a.getD i (((0 : Int), ((0 : Int), ((0 : Int), ((0 : Int), (0 : Int))))) : Int × Int × Int × Int × Int) = b.getD i (((0 : Int), ((0 : Int), ((0 : Int), ((0 : Int), (0 : Int))))) : Int × Int × Int × Int × Int) := by rw [List.getD_eq_getElem?_getD, List.getD_eq_getElem?_getD, hmin i hi]
        simp (disch := omega) only [ilt_e, cond_pos, okIx_e, chk_pos, i2n_e, xget_e, h1, iadd_e, w64, pair_eta, bnev_s, to_AddRow, eq_AddRow, bind_s, decide_true, bnot_t, cond_f]
        rfl
      · have h1 : ¬ a.getD k (((0 : Int), ((0 : Int), ((0 : Int), ((0 : Int), (0 : Int))))) : Int × Int × Int × Int × Int) = b.getD k (((0 : Int), ((0 : Int), ((0 : Int), ((0 : Int), (0 : Int))))) : Int × Int × Int × Int × Int) := by
          rw [getD_lt hk, getD_lt (by omega)]
          rw [List.getElem?_eq_getElem hk, List.getElem?_eq_getElem (by omega)] at hne
          simpa using hne
        simp (disch := omega) only [ilt_e, cond_pos, okIx_e, chk_pos, i2n_e, xget_e, pair_eta, bnev_e, to_AddRow, eq_AddRow, bind_s, h1, not_false_eq_true, decide_false, decide_true, bnot_f, cond_t]
        simp [hab]
  · rw [cond_pos (by omega)]
    have : a ≠ b := fun e => hl (by rw [e])
    simp [this]

def f_AddRowS (k : Int) : Row5 := (k, (k + 1, (k + 1 + 1, (k + 1 + 1 + 1, k + 1 + 1 + 1 + 1))))

theorem mark_AddRowS (l : List Row5) (k : Int) (h : (l.length : Int) ≤ 4000000) (hk : 0 ≤ k) (hk' : k ≤ 3000000000000000000) : F_l_markAddRowS (l, k) = some (k + 5 * l.length, cnt f_AddRowS 5 k l.length) := by
  unfold F_l_markAddRowS
  refine iter_run (fun i => (k + 5 * (i : Int), (i : Int), cnt f_AddRowS 5 k i ++ l.drop i)) l.length (by simp [cnt]) (fun i hi => ?_) ?_
  · have hlen : (cnt f_AddRowS 5 k i ++ l.drop i).length = l.length := by simp [cnt_len]; omega
    have hg : (cnt f_AddRowS 5 k i ++ l.drop i).getD i (((0 : Int), ((0 : Int), ((0 : Int), ((0 : Int), (0 : Int))))) : Int × Int × Int × Int × Int) = l.getD i (((0 : Int), ((0 : Int), ((0 : Int), ((0 : Int), (0 : Int))))) : Int × Int × Int × Int × Int) := mid_drop (cnt_len _ _ _ _) hi
    simp (disch := omega) only [xlen_e, n2i_e, ilt_e, cond_pos, okIx_e, okDiv_e, List.length_set, hlen, chk_pos, i2n_e, xset_e, xget_e, iadd_e, w64, set_self, List.set_set, share_e, ieq_e, irem_e, hg]
    rw [mid_set (cnt_len _ _ _ _) hi, cnt_succ]
    refine congrArg (fun z => some (Sum.inl z)) (Prod.ext ?_ (Prod.ext ?_ ?_))
    · simp only; omega
    · simp only; omega
    · rfl
  · have hlen : (cnt f_AddRowS 5 k l.length ++ l.drop l.length).length = l.length := by simp [cnt_len]
    simp (disch := omega) only [xlen_e, n2i_e, ilt_e, hlen, cond_neg]
    simp

theorem law_AddByTable (a : List Row5) (b : Reg) (c : Reg) (h0 : (a.length : Int) ≤ 9223372036854775807) (h1 : (b.2.length : Int) ≤ 9223372036854775807) (h2 : (c.2.length : Int) ≤ 9223372036854775807) : F_l_FnExactAddByTable (a, (b, c)) = some true := by
  have hb := byTabR_len a b c
  unfold F_l_FnExactAddByTable
  obtain ⟨v0, e0, q0⟩ := sz_AddRowS a 1048576 h0 (by omega) (by omega)
  simp only [e0, bind_s, ilt_e]
  rcases q0 with rfl | ⟨q0, q0'⟩
  · rfl
  rw [cond_neg (by omega)]
  obtain ⟨v1, e1, q1⟩ := sz_R b v0 h1 (by omega) (by omega)
  simp only [e1, bind_s, ilt_e]
  rcases q1 with rfl | ⟨q1, q1'⟩
  · rfl
  rw [cond_neg (by omega)]
  obtain ⟨v2, e2, q2⟩ := sz_R c v1 h2 (by omega) (by omega)
  simp only [e2, bind_s, ilt_e]
  rcases q2 with rfl | ⟨q2, q2'⟩
  · rfl
  rw [cond_neg (by omega)]
  simp (disch := omega) only [bind_s, ilt_e, cond_neg, to_Register, to_Int64S, eq_Register, eq_Int64S, mark_Register, mark_Int64S, held_Register, held_Int64S, to_AddRowS, eq_AddRowS, mark_AddRowS, decide_true, bnot_t, cond_f, ine_e, not_true_eq_false, decide_false, bnev_s, cnt_len, s_byTable, i_byTable]

theorem FnExactAddByTable_true {t1 t5 : TypeId} (x : (List Row5) × (Reg) × (Reg)) (h : wfArgs [.val false (.row false t5 (.pair (.int .i64) (.pair (.int .i64) (.pair (.int .i64) (.pair (.int .i64) (.int .i64)))))), .val true (.pair (.int .i64) (.row false t1 (.int .i64))), .val true (.pair (.int .i64) (.row false t1 (.int .i64)))] x) : ∃ y, F_l_FnExactAddByTable x = some y ∧ hhead .bool [] y = true :=
  ⟨true, law_AddByTable (x.1) (x.2.1) (x.2.2) (maxLen_le (n := List.length (x.1)) h.1.1) (maxLen_le (n := (x.2.1).2.length) h.2.1.2.1) (maxLen_le (n := (x.2.2).2.length) h.2.2.1.2.1), rfl⟩


end Go.Prg
