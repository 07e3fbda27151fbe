/- Plain laws, part Uh: the text of an accumulator. Conditions: none. -/
import Derived.Test.YtjkaapoklbhokaaDoorPlP
import Derived.Test.YtjkaapoklbhokaaDoorPlUd
import Derived.Lib.ItoaNum
set_option linter.all false
namespace Go.Prg
open Go.Eng

def ddI (u : Nat) : List Int := (Go.Lib.decDigits u).map fun b => (b.toNat : Int)

theorem ofNat_dig {d : Nat} (h : d < 10) : ((UInt8.ofNat (48 + d)).toNat : Int) = 48 + (d : Int) := by
  have : (UInt8.ofNat (48 + d)).toNat = 48 + d := by
    first
      | (rw [UInt8.toNat_ofNat']; omega)
      | (simp; omega)
  rw [this]; omega
theorem ddI_small {u : Nat} (h : u < 10) : ddI u = [48 + (u : Int)] := by
  unfold ddI
  rw [Go.Lib.decDigits, dif_pos h]
  simp only [List.map_cons, List.map_nil]
  rw [ofNat_dig h]
theorem ddI_big {u : Nat} (h : 10 ≤ u) : ddI u = ddI (u / 10) ++ [48 + ((u % 10 : Nat) : Int)] := by
  unfold ddI
  conv => lhs; rw [Go.Lib.decDigits, dif_neg (by omega)]
  simp only [List.map_append, List.map_cons, List.map_nil]
  rw [ofNat_dig (Nat.mod_lt _ (by omega))]
theorem ddI_len : ∀ (u : Nat), 1 ≤ (ddI u).length ∧ (ddI u).length ≤ u + 1 := by
  intro u
  induction u using Nat.strongRecOn with
  | _ u ih =>
    by_cases h : u < 10
    · rw [ddI_small h]; simp
    · have := ih (u / 10) (by omega)
      rw [ddI_big (by omega), List.length_append]
      simp only [List.length_cons, List.length_nil]
      omega
theorem ddI_in : ∀ (u : Nat), ∀ x ∈ ddI u, 0 ≤ x ∧ x ≤ 255 := by
  intro u x hx
  simp only [ddI, List.mem_map] at hx
  obtain ⟨b, _, rfl⟩ := hx
  have := b.toNat_lt
  omega

theorem b2s_size (l : List Int) : (b2s l).size = l.length := by
  have key : ∀ (l : List Int) (a : ByteArray), (l.foldl (fun r n => r.push (UInt8.ofNat n.toNat)) a).size = a.size + l.length := by
    intro l
    induction l with
    | nil => intro a; rfl
    | cons x r ih =>
      intro a
      rw [List.foldl_cons, ih, ByteArray.size_push, List.length_cons]; omega
  have := key l ByteArray.empty
  rw [show (b2s l).size = (l.foldl (fun r n => r.push (UInt8.ofNat n.toNat)) ByteArray.empty).size from rfl, this]
  simp
theorem toL_app (a b : ByteArray) : toL (sadd a b) = toL a ++ toL b := by
  show toL (a ++ b) = _
  unfold toL
  rw [ByteArray.data_append, Array.toList_append, List.map_append]
theorem toL_arr (l : List UInt8) : toL ⟨l.toArray⟩ = l.map fun b => (b.toNat : Int) := by simp [toL]

def itB (n : Int) : ByteArray := ⟨(Go.Lib.itoa n).toArray⟩
theorem itB_neg {n : Int} (h : n < 0) : toL (itB n) = 45 :: ddI n.natAbs := by
  unfold itB
  rw [toL_arr, Go.Lib.itoa, if_pos h]
  rfl
theorem itB_pos {n : Int} (h : 0 ≤ n) : toL (itB n) = ddI n.toNat := by
  unfold itB
  rw [toL_arr, Go.Lib.itoa, if_neg (by omega)]
  rfl
theorem itB_size {n : Int} (h : -10000000000000 ≤ n ∧ n ≤ 10000000000000) : (itB n).size ≤ 20000000000000 := by
  rw [← toL_len]
  by_cases hn : n < 0
  · rw [itB_neg hn]
    have := ddI_len n.natAbs
    simp only [List.length_cons]; omega
  · rw [itB_pos (by omega)]
    have := ddI_len n.toNat
    omega

def fin (n : Int) (out : List Int) : ByteArray := if out.length = 0 then ByteArray.mk #[48] else if n < 0 then sadd (ByteArray.mk #[45]) (b2s out) else b2s out

theorem dec_loop {n : Int} {f : Int × Int × List Int → Option ((Int × Int × List Int) ⊕ ByteArray)}
    (hs : ∀ (k : Int) (out : List Int), ¬ k = 0 → out.length + k.natAbs ≤ 20000000000000 → f (n, (k, out)) = some (.inl (n, (k.tdiv 10, (48 + ((k.natAbs % 10 : Nat) : Int)) :: out))))
    (he : ∀ out : List Int, out.length ≤ 20000000000000 → f (n, (0, out)) = some (.inr (fin n out))) :
    ∀ (u : Nat) (k : Int) (out : List Int), k.natAbs = u → out.length + u ≤ 20000000000000 → iter f (n, (k, out)) = some (fin n (if u = 0 then out else ddI u ++ out)) := by
  intro u
  induction u using Nat.strongRecOn with
  | _ u ih =>
    intro k out hk hb
    by_cases h0 : u = 0
    · subst h0
      have hk0 : k = 0 := by omega
      subst hk0
      rw [if_pos rfl]
      exact iter_end (he out (by omega))
    · have hq : (k.tdiv 10).natAbs = u / 10 := by
        rw [Int.natAbs_tdiv, hk]; rfl
      refine iter_eq (hs k out (by omega) (by omega)) ?_
      have := ih (u / 10) (by omega) (k.tdiv 10) ((48 + ((k.natAbs % 10 : Nat) : Int)) :: out) hq (by simp only [List.length_cons]; omega)
      rw [this, if_neg h0, hk]
      by_cases h1 : u < 10
      · rw [if_pos (by omega), ddI_small h1, show u % 10 = u by omega]; rfl
      · rw [if_neg (by omega), ddI_big (u := u) (by omega), List.append_assoc]; rfl

theorem tmod_abs (k : Int) : (if k.tmod 10 < 0 then 0 - k.tmod 10 else k.tmod 10) = ((k.natAbs % 10 : Nat) : Int) := by
  rcases Int.le_total 0 k with h | h
  · have e : k.tmod 10 = k % 10 := Int.tmod_eq_emod_of_nonneg h
    rw [e, if_neg (by omega)]; omega
  · have e : k.tmod 10 = -((-k) % 10) := by
      have : k = -(-k) := by omega
      conv => lhs; rw [this]
      rw [Int.neg_tmod, Int.tmod_eq_emod_of_nonneg (by omega)]
    rw [e]
    split <;> omega

theorem s_dec (n : Int) (h : -10000000000000 ≤ n ∧ n ≤ 10000000000000) : F_s_l01Dec n = some (itB n) := by
  unfold F_s_l01Dec
  refine Eq.trans (dec_loop (n := n) (fun k out hk hb => ?_) (fun out hb => ?_) n.natAbs n [] rfl (by simp only [List.length_nil]; omega)) ?_
  · have e8 : ∀ d : Int, 0 ≤ d ∧ d ≤ 9 → iwrap .u8 (iadd .i64 48 d) = 48 + d := fun d hd => by
      rw [iwrap_e, iadd_e, w64 (by omega) (by omega), w8 (by omega) (by omega)]
    have hm := tmod_abs k
    have hd10 : k.natAbs % 10 < 10 := Nat.mod_lt _ (by omega)
    have ew : IntKind.i64.wrap (k.tdiv 10) = k.tdiv 10 := by
      have : (k.tdiv 10).natAbs ≤ k.natAbs := by rw [Int.natAbs_tdiv]; exact Nat.div_le_self _ _
      exact w64 (by omega) (by omega)
    simp only [ine_e, irem_e, ilt_e, iquo_e, ew, okDiv_e]
    rw [cond_pos hk, chk_pos (by omega)]
    by_cases hneg : k.tmod 10 < 0
    · rw [if_pos hneg] at hm
      have es : isub .i64 0 (k.tmod 10) = 0 - k.tmod 10 := by rw [isub_e, w64 (by omega) (by omega)]
      rw [cond_pos hneg, es, hm, e8 _ (by omega)]
      simp (disch := (simp only [List.length_cons, List.length_nil]; omega)) only [okRoom_e, xlen_e, chk_pos]
      rw [chk_pos (by omega)]
      rfl
    · rw [if_neg hneg] at hm
      rw [cond_neg hneg, hm, e8 _ (by omega)]
      simp (disch := (simp only [List.length_cons, List.length_nil]; omega)) only [okRoom_e, xlen_e, chk_pos]
      rw [chk_pos (by omega)]
      rfl
  · simp only [ine_e, not_true_eq_false, decide_false, cond_f, ieq_e, n2i_e, xlen_e, ilt_e, fin]
    by_cases h0 : out.length = 0
    · rw [cond_pos (by omega), if_pos h0]; rfl
    · rw [cond_neg (by omega), if_neg h0]
      by_cases hn : n < 0
      · rw [cond_pos hn, if_pos hn]
        have hc : okCat (slen (ByteArray.mk #[45])) (slen (b2s out)) = true := by
          show decide (1 + (b2s out).size ≤ 9223372036854775807) = true
          rw [b2s_size, decide_eq_true]; omega
        rw [hc]; rfl
      · rw [cond_neg hn, if_neg hn]; rfl
  · refine congrArg some (toL_inj.1 ?_)
    by_cases h0 : n = 0
    · subst h0
      have e : ddI 0 = [48 + ((0 : Nat) : Int)] := ddI_small (by omega)
      rw [itB_pos (by omega)]
      show toL (fin 0 []) = ddI 0
      rw [e]; rfl
    · rw [if_neg (by omega), List.append_nil]
      have hl := ddI_len n.natAbs
      unfold fin
      rw [if_neg (by omega)]
      by_cases hn : n < 0
      · rw [if_pos hn, toL_app, b2s_e _ (ddI_in _), itB_neg hn]; rfl
      · rw [if_neg hn, b2s_e _ (ddI_in _), itB_pos (by omega), show n.natAbs = n.toNat by omega]

theorem i_dec (n : Int) (h : -10000000000000 ≤ n ∧ n ≤ 10000000000000) : F_i_Decimal n = some (itB n) := by
  unfold F_i_Decimal F_strconv_FormatInt F_internal_strconv_FormatInt
  simp only [ieq_e, decide_true, cond_t]
  rw [chk_pos (by omega)]
  rfl

theorem numV_bnd {b : Int} {l : List Int} (h : accOk (b, l) = true) : -10000000000000 ≤ numV b l ∧ numV b l ≤ 10000000000000 := by
  obtain ⟨b', l', e, hb, hl, hd, hv, hf, _⟩ := acc_parts h
  cases e
  have h1 := numV_in hb.1 hd
  unfold fullB at hf
  simp only [decide_eq_true_eq] at hf
  generalize b ^ l.length = P at h1 hf
  omega

def textR (r : Reg) : ByteArray := cond (accOk r) (if numV r.1 r.2 < 0 then itB (numV r.1 r.2) else sadd (ByteArray.mk #[43]) (itB (numV r.1 r.2))) (ByteArray.mk #[])

theorem plus_ok {n : Int} (h : -10000000000000 ≤ n ∧ n ≤ 10000000000000) : okCat (slen (ByteArray.mk #[43])) (slen (itB n)) = true := by
  have := itB_size h
  show decide (1 + (itB n).size ≤ 9223372036854775807) = true
  rw [decide_eq_true]; omega

theorem i_text (r : Reg) (hl : (r.2.length : Int) ≤ 9223372036854775806) : F_i_AccumulatorText r = some (textR r) := by
  unfold F_i_AccumulatorText textR
  rw [acc_size r hl]
  simp only [bind_s, acc_size_zero]
  cases ha : accOk r with
  | false => rfl
  | true =>
    obtain ⟨b, l⟩ := r
    have hn := numV_bnd ha
    simp only [Bool.not_true, cond_f, cond_t, i_number b l ha, bind_s, i_dec _ hn, ilt_e, plus_ok hn, chk_t]
    by_cases hneg : numV b l < 0
    · rw [cond_pos hneg, if_pos hneg]
    · rw [cond_neg hneg, if_neg hneg]

theorem s_text (r : Reg) (hl : (r.2.length : Int) ≤ 9223372036854775806) : F_s_AccumulatorText r = some (textR r) := by
  unfold F_s_AccumulatorText textR
  rw [acc_ok r hl]
  simp only [bind_s]
  cases ha : accOk r with
  | false => rfl
  | true =>
    obtain ⟨b, l⟩ := r
    have hn := numV_bnd ha
    simp only [bnot_t, cond_f, cond_t, s_number b l ha, bind_s, s_dec _ hn, ilt_e, plus_ok hn, chk_t]
    by_cases hneg : numV b l < 0
    · rw [cond_pos hneg, if_pos hneg]
    · rw [cond_neg hneg, if_neg hneg]

theorem sne_self' (a : ByteArray) : sne a a = false := by simp [sne]

theorem law_AccumulatorText (r : Reg) (h : (r.2.length : Int) ≤ 9223372036854775807) : F_l_FnExactAccumulatorText r = some true := by
  unfold F_l_FnExactAccumulatorText
  obtain ⟨v0, e0, q0⟩ := sz_R r 1048576 h (by omega) (by omega)
  simp only [e0, bind_s, ilt_e]
  rcases q0 with rfl | ⟨q0, q0'⟩
  · rfl
  rw [cond_neg (by omega)]
  simp (disch := omega) only [to_Register, bind_s, s_text, i_text, sne_self', cond_f, eq_Register, decide_true, bnot_t]

theorem FnExactAccumulatorText_true {t1 : TypeId} (x : Reg) (h : wfArgs [.val true (.pair (.int .i64) (.row false t1 (.int .i64)))] x) : ∃ y, F_l_FnExactAccumulatorText x = some y ∧ hhead .bool [] y = true :=
  ⟨true, law_AccumulatorText x (maxLen_le (n := x.2.length) h.1.2.1), rfl⟩

end Go.Prg
