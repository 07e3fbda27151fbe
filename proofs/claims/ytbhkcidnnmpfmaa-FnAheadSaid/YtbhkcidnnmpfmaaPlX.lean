/- Plain laws, part X: the reference's groups, carries ahead, their laws. Conditions: none. -/
import Derived.Test.YtbhkcidnnmpfmaaPlW
set_option linter.all false
namespace Go.Prg
open Go.Eng

/-- the reference's groups, step by step -/
def grpS (S : List Sig) (z : Nat) : Nat → List Sig
  | 0 => []
  | k + 1 => if k % z = 0 then grpS S z k ++ [S.getD k s0] else (grpS S z k).set ((grpS S z k).length - 1) (jn ((grpS S z k).getD ((grpS S z k).length - 1) s0) (S.getD k s0))

theorem grpS_len (S : List Sig) (z : Nat) : ∀ k, (grpS S z k).length ≤ k ∧ (1 ≤ k → 1 ≤ (grpS S z k).length)
  | 0 => by simp [grpS]
  | k + 1 => by
    obtain ⟨h1, h2⟩ := grpS_len S z k
    simp only [grpS]
    split
    · simp; omega
    · rename_i h
      have hk : 1 ≤ k := by
        rcases Nat.eq_zero_or_pos k with h0 | h0
        · subst h0; simp at h
        · exact h0
      have := h2 hk
      simp; omega

theorem grp_part (S : List Sig) {z : Nat} (hz : 1 ≤ z) (g : Nat) (h : grpS S z (z * g) = fullG S z g) : ∀ r, r < z → grpS S z (z * g + r + 1) = fullG S z g ++ [joinS S (z * g) r]
  | 0, _ => by
    have hm : (z * g) % z = 0 := Nat.mul_mod_right z g
    simp only [Nat.add_zero, grpS, hm, if_true, h]
    rfl
  | r + 1, hr => by
    have ih := grp_part S hz g h r (by omega)
    have hm : ¬ (z * g + r + 1) % z = 0 := by
      rw [Nat.add_assoc, Nat.mul_add_mod, Nat.mod_eq_of_lt (by omega)]
      omega
    have hl := fullG_len S z g
    rw [show z * g + (r + 1) + 1 = (z * g + r + 1) + 1 by omega, grpS, if_neg hm, ih]
    have hlen : (fullG S z g ++ [joinS S (z * g) r]).length - 1 = g := by simp [hl]
    rw [hlen, mid_get hl, List.set_append_right _ _ (by omega), hl, Nat.sub_self]
    rfl

theorem grp_full (S : List Sig) {z : Nat} (hz : 1 ≤ z) : ∀ g, grpS S z (z * g) = fullG S z g
  | 0 => rfl
  | g + 1 => by
    have ih := grp_full S hz g
    have := grp_part S hz g ih (z - 1) (by omega)
    rw [Nat.mul_succ, show z * g + z = z * g + (z - 1) + 1 by omega, this, fullG_succ]

theorem grp_all (S : List Sig) {z : Nat} (hz : 1 ≤ z) : grpS S z S.length = allG S z := by
  have hdm := Nat.div_add_mod S.length z
  have hf := grp_full S hz (S.length / z)
  unfold allG
  by_cases hr : S.length % z = 0
  · rw [if_pos hr, List.append_nil, ← hf]
    congr 1
    omega
  · rw [if_neg hr, ← grp_part S hz (S.length / z) hf (S.length % z - 1) (by have := Nat.mod_lt S.length (show z > 0 by omega); omega)]
    congr 1
    omega

/-- the carries that enter the groups -/
def entL (S : List Sig) (z g : Nat) : List Int := (List.range (g + 1)).map fun i => thr S (min (z * i) S.length)
theorem entL_len (S : List Sig) (z g : Nat) : (entL S z g).length = g + 1 := by simp [entL]
theorem entL_succ (S : List Sig) (z g : Nat) : entL S z (g + 1) = entL S z g ++ [thr S (min (z * (g + 1)) S.length)] := by
  simp only [entL]; rw [List.range_succ, List.map_append]; rfl
theorem entL_get (S : List Sig) (z : Nat) {g i : Nat} (h : i ≤ g) : (entL S z g).getD i 0 = thr S (min (z * i) S.length) := by
  simp [entL, List.getD_eq_getElem?_getD, show i < g + 1 by omega]

theorem allG_len (S : List Sig) (z : Nat) : (allG S z).length = S.length / z + (if S.length % z = 0 then 0 else 1) := by
  unfold allG
  rw [List.length_append, fullG_len]
  split <;> rfl

theorem all_through (S : List Sig) {z : Nat} (hz : 1 ≤ z) {g : Nat} (hg : g < (allG S z).length) : thr1 ((allG S z).getD g s0) (thr S (min (z * g) S.length)) = thr S (min (z * (g + 1)) S.length) := by
  have hdm := Nat.div_add_mod S.length z
  have hlt := Nat.mod_lt S.length (show z > 0 by omega)
  have hl := fullG_len S z (S.length / z)
  rw [allG_len] at hg
  have e0 : z * (g + 1) = z * g + z := Nat.mul_succ z g
  by_cases h : g < S.length / z
  · have h1 := Nat.mul_le_mul_left z (show g + 1 ≤ S.length / z by omega)
    have hG : (allG S z).getD g s0 = joinS S (z * g) (z - 1) := by
      unfold allG
      rw [List.getD_eq_getElem?_getD, List.getElem?_append_left (by omega)]
      simp [fullG, h]
    rw [hG, Nat.min_eq_left (by omega), Nat.min_eq_left (by omega), thr_join]
    congr 1
    omega
  · have hr : ¬ S.length % z = 0 := fun e => by rw [if_pos e] at hg; omega
    rw [if_neg hr] at hg
    have hge : g = S.length / z := by omega
    have hG : (allG S z).getD g s0 = joinS S (z * g) (S.length % z - 1) := by
      unfold allG
      rw [if_neg hr, hge, mid_get hl]
      rfl
    rw [hG, Nat.min_eq_left (by rw [hge]; omega), Nat.min_eq_right (by rw [hge] at e0 ⊢; omega), thr_join]
    congr 1
    rw [hge]; omega

theorem all_end (S : List Sig) {z : Nat} (hz : 1 ≤ z) : min (z * (allG S z).length) S.length = S.length := by
  have hdm := Nat.div_add_mod S.length z
  have hlt := Nat.mod_lt S.length (show z > 0 by omega)
  rw [allG_len]
  split
  · rw [Nat.add_zero]; omega
  · have e0 : z * (S.length / z + 1) = z * (S.length / z) + z := Nat.mul_succ z (S.length / z)
    omega

/-- all carries -/
def thrL (S : List Sig) (k : Nat) : List Int := (List.range k).map (thr S)
theorem thrL_len (S : List Sig) (k : Nat) : (thrL S k).length = k := by simp [thrL]
theorem thrL_succ (S : List Sig) (k : Nat) : thrL S (k + 1) = thrL S k ++ [thr S k] := by
  simp only [thrL]; rw [List.range_succ, List.map_append]; rfl

theorem allG_le (S : List Sig) {z : Nat} (hz : 1 ≤ z) : (allG S z).length ≤ S.length + 1 := by
  rw [allG_len]
  have := Nat.div_le_self S.length z
  split <;> omega

theorem div_lt_all (S : List Sig) {z k : Nat} (hz : 1 ≤ z) (hk : k < S.length) : k / z ≤ (allG S z).length := by
  rw [allG_len]
  have := Nat.div_le_div_right (c := z) (show k ≤ S.length by omega)
  omega

theorem i_ahead (S : List Sig) (z : Nat) (hz : 1 ≤ z ∧ z ≤ 16) (hn : S.length ≤ 16) : F_i_carriesAhead (S, (z : Int)) = some (thrL S (S.length + 1)) := by
  unfold F_i_carriesAhead
  rw [i_groups S z hz hn]
  have hle := allG_le S hz.1
  simp only [bind_s, n2i_e, xlen_e]
  refine iter_run (fun g => ((z : Int), ((allG S z).length : Int), (g : Int), S, entL S z g, allG S z)) (allG S z).length (by simp [entL, thr]) (fun g hg => ?_) ?_
  · have hlen := entL_len S z g
    have hget := entL_get S z (Nat.le_refl g)
    simp (disch := omega) only [ilt_e, cond_pos, okIx_e, xlen_e, hlen, chk_pos, xget_e, i2n_e, hget, i_through, bind_s, okRoom_e, List.length_cons, List.length_nil, iadd_e, w64, xapp_e, all_through S hz.1 hg]
    rw [entL_succ]
    rfl
  · simp only [ilt_e]
    rw [cond_neg (by omega)]
    have hE := entL_len S z (allG S z).length
    have hEe := entL_get S z (Nat.le_refl (allG S z).length)
    rw [all_end S hz.1] at hEe
    refine Eq.trans (congrArg (Option.map Sum.inr) (iter_run (r := thrL S (S.length + 1)) (fun k => ((z : Int), thr S k, (S.length : Int), (k : Int), entL S z (allG S z).length, thrL S k, S)) S.length (by simp [thr, thrL, n2i, xlen]) (fun k hk => ?_) ?_)) rfl
    · have hm : (k : Int).tmod z = ((k % z : Nat) : Int) := by rw [Int.tmod_eq_emod_of_nonneg (by omega)]; rfl
      have hd : (k : Int).tdiv z = ((k / z : Nat) : Int) := by rw [Int.tdiv_eq_ediv_of_nonneg (by omega)]; rfl
      have hdl := Nat.div_le_self k z
      have ht := thrL_len S k
      have hq := div_lt_all S hz.1 hk
      have hdm := Nat.div_add_mod k z
      simp (disch := omega) only [ilt_e, cond_pos, okIx_e, xlen_e, chk_pos, okDiv_e, irem_e, ieq_e, hm, iquo_e, hd]
      generalize k / z = q at hd hdl hq hdm ⊢
      generalize k % z = r at hm hdm ⊢
      by_cases hr : r = 0
      · have hg2 := entL_get S z hq
        rw [show min (z * q) S.length = k by rw [Nat.min_eq_left] <;> omega] at hg2
        rw [cond_pos (by omega)]
        simp (disch := omega) only [w64, okIx_e, xlen_e, hE, chk_pos, okRoom_e, ht, List.length_cons, List.length_nil, xget_e, i2n_e, hg2, i_through, bind_s, iadd_e, xapp_e]
        rw [thrL_succ]
        rfl
      · rw [cond_neg (by omega)]
        simp (disch := omega) only [w64, xlen_e, chk_pos, okRoom_e, ht, List.length_cons, List.length_nil, xget_e, i2n_e, i_through, bind_s, iadd_e, xapp_e]
        rw [thrL_succ]
        rfl
    · have ht := thrL_len S S.length
      have e1 : i2n (((entL S z (allG S z).length).length : Int) - 1) = (allG S z).length := by unfold i2n; omega
      simp (disch := omega) only [ilt_e, cond_neg, n2i_e, xlen_e, isub_e, w64, okIx_e, chk_pos, okRoom_e, ht, List.length_cons, List.length_nil, e1, xget_e, hEe, xapp_e]
      rw [thrL_succ]
      rfl

theorem thr_carr (w : Int) (l m : List Int) (hw : 2 ≤ w ∧ w ≤ 16) (hdl : digitsOk w l) (hdm : digitsOk w m) (he : l.length = m.length) : ∀ k, k ≤ l.length → thr (sigL w l m l.length) k = carr w l m k
  | 0, _ => rfl
  | k + 1, hk => by
    have ih := thr_carr w l m hw hdl hdm he k (by omega)
    have h1 := getD_all (p := fun d => 0 ≤ d ∧ d ≤ w - 1) hdl (i := k) (by omega)
    have h2 := getD_all (p := fun d => 0 ≤ d ∧ d ≤ w - 1) hdm (i := k) (by omega)
    have h3 := carr_in hw.1 hdl hdm he k (by omega)
    have hs : (sigL w l m l.length).getD k s0 = (decide (w ≤ l.getD k 0 + m.getD k 0), decide (l.getD k 0 + m.getD k 0 = w - 1)) := by
      simp [sigL, List.getD_eq_getElem?_getD, show k < l.length by omega]
    simp only [thr, carr, hs, ih]
    unfold thr1
    simp only [decide_eq_true_eq]
    rw [Int.tdiv_eq_ediv_of_nonneg (by omega)]
    by_cases hc : w ≤ l.getD k 0 + m.getD k 0 + carr w l m k
    · rw [if_pos (by omega)]
      have : (l.getD k 0 + m.getD k 0 + carr w l m k) / w = 1 := by
        rw [show l.getD k 0 + m.getD k 0 + carr w l m k = (l.getD k 0 + m.getD k 0 + carr w l m k - w) + 1 * w by omega, Int.add_mul_ediv_right _ _ (by omega), Int.ediv_eq_zero_of_lt (by omega) (by omega)]
        rfl
      omega
    · rw [if_neg (by omega), Int.ediv_eq_zero_of_lt (by omega) (by omega)]

theorem thrL_carr (w : Int) (l m : List Int) (hw : 2 ≤ w ∧ w ≤ 16) (hdl : digitsOk w l) (hdm : digitsOk w m) (he : l.length = m.length) : thrL (sigL w l m l.length) (l.length + 1) = carrL w l m l.length := by
  unfold thrL carrL
  apply List.map_congr_left
  intro k hk
  rw [List.mem_range] at hk
  exact thr_carr w l m hw hdl hdm he k (by omega)

/-- the code of two registers and a size -/
def aheadC (a b : Reg) (z : Int) : Int := if pairC a b = 0 then if 1 ≤ z ∧ z ≤ 16 then 0 else 2 else pairC a b

theorem i_aheadC (a b : Reg) (z : Int) (ha : (a.2.length : Int) ≤ 9223372036854775806) (hb : (b.2.length : Int) ≤ 9223372036854775806) : F_i_aheadCode (a, (b, z)) = some (aheadC a b z) := by
  unfold F_i_aheadCode aheadC
  simp only [i_pair a b ha hb, bind_s, ine_e, isWidth_e, bnot_d]
  by_cases h : pairC a b = 0
  · rw [if_pos h, cond_neg (by simpa using h)]
    by_cases hz : 1 ≤ z ∧ z ≤ 16
    · rw [cond_neg (by simpa using hz), if_pos hz]
    · rw [cond_pos (by simpa using hz), if_neg hz]
  · rw [if_neg h, cond_pos h]

theorem ahead_parts {a b : Reg} {z : Int} (h : aheadC a b z = 0) : pairC a b = 0 ∧ 1 ≤ z ∧ z ≤ 16 := by
  unfold aheadC at h
  split at h
  · rename_i h1
    split at h
    · rename_i h2; exact ⟨h1, h2⟩
    · simp at h
  · rename_i h1; exact absurd h h1

def carriesA (a b : Reg) (z : Int) : List Int × Int := if aheadC a b z = 0 then (carrL a.1 a.2 b.2 a.2.length, 0) else ([], aheadC a b z)

theorem carriesA_len (a b : Reg) (z : Int) : ((carriesA a b z).1.length : Int) ≤ 17 := by
  unfold carriesA
  split
  · rename_i h
    obtain ⟨w, l, m, rfl, rfl, hw, hl, he, hdl, hdm⟩ := pair_parts (ahead_parts h).1
    simp only [carrL_len]; omega
  · simp

theorem i_carriesA (a b : Reg) (z : Int) (ha : (a.2.length : Int) ≤ 9223372036854775806) (hb : (b.2.length : Int) ≤ 9223372036854775806) : F_i_CarriesAhead (a, (b, z)) = some (carriesA a b z) := by
  unfold F_i_CarriesAhead carriesA
  simp only [i_aheadC a b z ha hb, bind_s, ine_e]
  by_cases h : aheadC a b z = 0
  · obtain ⟨hp, hz⟩ := ahead_parts h
    obtain ⟨w, l, m, rfl, rfl, hw, hl, he, hdl, hdm⟩ := pair_parts hp
    obtain ⟨n, rfl⟩ : ∃ n : Nat, z = n := ⟨z.toNat, by omega⟩
    have hS := sigL_len w l m l.length
    have hA := i_ahead (sigL w l m l.length) n (by omega) (by omega)
    rw [hS, thrL_carr w l m hw hdl hdm he] at hA
    rw [if_pos h, cond_neg (by simpa using h), i_signals w l m hw hdl hdm he hl.2]
    simp only [bind_s, hA]
  · rw [if_neg h, cond_pos h]

def addA (a b : Reg) (z : Int) : Reg × Int × Int := if aheadC a b z = 0 then wholeR (a.1, sumL a.1 a.2 b.2 a.2.length) (carr a.1 a.2 b.2 a.2.length) else (zeroR, 0, aheadC a b z)

theorem addA_len (a b : Reg) (z : Int) : ((addA a b z).1.2.length : Int) ≤ 16 := by
  unfold addA
  split
  · exact wholeR_len _ _
  · simp

end Go.Prg
