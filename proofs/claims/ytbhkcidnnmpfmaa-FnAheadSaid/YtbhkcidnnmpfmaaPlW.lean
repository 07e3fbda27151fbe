/- Plain laws, part W: signals joined in groups, carries that are prepared ahead. Conditions: none. -/
import Derived.Test.YtbhkcidnnmpfmaaPlT
set_option linter.all false
namespace Go.Prg
open Go.Eng

abbrev Sig := Bool × Bool
abbrev s0 : Sig := (false, false)

/-- lower and higher digits together -/
def jn (a b : Sig) : Sig := (b.1 || (b.2 && a.1), a.2 && b.2)

theorem i_join (a b : Sig) : F_i_JoinSignals (a, b) = some (jn a b) := by
  obtain ⟨a1, a2⟩ := a
  obtain ⟨b1, b2⟩ := b
  unfold F_i_JoinSignals jn
  cases a1 <;> cases a2 <;> cases b1 <;> cases b2 <;> rfl
theorem s_join (a b : Sig) : F_s_JoinSignals (a, b) = some (jn a b) := by
  obtain ⟨a1, a2⟩ := a
  obtain ⟨b1, b2⟩ := b
  unfold F_s_JoinSignals jn
  cases a1 <;> cases a2 <;> cases b1 <;> cases b2 <;> rfl

/-- the carry that leaves the digits of a signal -/
def thr1 (s : Sig) (c : Int) : Int := if s.1 = true ∨ (s.2 = true ∧ c = 1) then 1 else 0

theorem i_through (s : Sig) (c : Int) : F_i_Signal_through (s, c) = some (thr1 s c) := by
  obtain ⟨a, b⟩ := s
  unfold F_i_Signal_through thr1
  by_cases h : c = 1
  · cases a <;> cases b <;> simp [ieq_e, h]
  · cases a <;> cases b <;> simp [ieq_e, h]
theorem thr1_in (s : Sig) (c : Int) : thr1 s c = 0 ∨ thr1 s c = 1 := by
  unfold thr1; split <;> simp
theorem thr1_jn (a b : Sig) (c : Int) : thr1 (jn a b) c = thr1 b (thr1 a c) := by
  obtain ⟨a1, a2⟩ := a
  obtain ⟨b1, b2⟩ := b
  unfold thr1 jn
  by_cases h : c = 1
  · cases a1 <;> cases a2 <;> cases b1 <;> cases b2 <;> simp [h]
  · cases a1 <;> cases a2 <;> cases b1 <;> cases b2 <;> simp [h]

/-- the carry into place k -/
def thr (S : List Sig) : Nat → Int
  | 0 => 0
  | k + 1 => thr1 (S.getD k s0) (thr S k)

theorem thr_in (S : List Sig) : ∀ k, thr S k = 0 ∨ thr S k = 1
  | 0 => .inl rfl
  | k + 1 => thr1_in _ _

/-- the signals a .. a + k together -/
def joinS (S : List Sig) (a : Nat) : Nat → Sig
  | 0 => S.getD a s0
  | k + 1 => jn (joinS S a k) (S.getD (a + k + 1) s0)

theorem thr_join (S : List Sig) (a : Nat) : ∀ k, thr1 (joinS S a k) (thr S a) = thr S (a + k + 1)
  | 0 => rfl
  | k + 1 => by
    have ih := thr_join S a k
    simp only [joinS, thr1_jn, ih]
    rfl

theorem xsub_get (S : List Sig) {a b i : Nat} (h : a + i < b) (hb : b ≤ S.length) : ((S.take b).drop a).getD i s0 = S.getD (a + i) s0 := by
  rw [List.getD_eq_getElem?_getD, List.getD_eq_getElem?_getD, List.getElem?_drop, List.getElem?_take, if_pos h]

theorem joinS_sub (S : List Sig) {a b : Nat} (hb : b ≤ S.length) : ∀ k, a + k < b → joinS ((S.take b).drop a) 0 k = joinS S a k
  | 0, h => by simp only [joinS]; rw [xsub_get S h hb]; simp
  | k + 1, h => by
    simp only [joinS]
    rw [joinS_sub S hb k (by omega), xsub_get S (by omega) hb]
    congr 2
    omega

theorem i_joined (X : List Sig) (h : 1 ≤ X.length) (h' : X.length ≤ 1000) : F_i_joined X = some (joinS X 0 (X.length - 1)) := by
  unfold F_i_joined
  have hl : ((X.take X.length).drop 1).length = X.length - 1 := by simp
  simp (disch := omega) only [okIx_e, okTo_e, xlen_e, chk_pos, xsub_e, i2n_e, show i2n 1 = 1 from rfl, show i2n 0 = 0 from rfl, xget_e, n2i_e, hl]
  refine iter_run (fun i => (((X.length - 1 : Nat) : Int), (i : Int), false, false, (joinS X 0 i).1, (joinS X 0 i).2, (X.take X.length).drop 1)) (X.length - 1) (by simp [joinS]) (fun i hi => ?_) ?_
  · have hg : ((X.take X.length).drop 1).getD i s0 = X.getD (0 + i + 1) s0 := by rw [xsub_get X (by omega) (Nat.le_refl _)]; congr 1; omega
    simp (disch := omega) only [ilt_e, cond_pos, okIx_e, xlen_e, hl, chk_pos, xget_e, i2n_e, hg, pair_eta, i_join, bind_s, iadd_e, w64]
    rfl
  · simp (disch := omega) only [ilt_e, cond_neg]

/-- the first g whole groups -/
def fullG (S : List Sig) (z g : Nat) : List Sig := (List.range g).map fun i => joinS S (z * i) (z - 1)
theorem fullG_len (S : List Sig) (z g : Nat) : (fullG S z g).length = g := by simp [fullG]
theorem fullG_succ (S : List Sig) (z g : Nat) : fullG S z (g + 1) = fullG S z g ++ [joinS S (z * g) (z - 1)] := by
  simp only [fullG]; rw [List.range_succ, List.map_append]; rfl

/-- all groups -/
def allG (S : List Sig) (z : Nat) : List Sig := fullG S z (S.length / z) ++ (if S.length % z = 0 then [] else [joinS S (z * (S.length / z)) (S.length % z - 1)])

theorem i_groups (S : List Sig) (z : Nat) (hz : 1 ≤ z ∧ z ≤ 16) (hn : S.length ≤ 16) : F_i_groups (S, (z : Int)) = some (allG S z) := by
  unfold F_i_groups
  have hdm := Nat.div_add_mod S.length z
  have hlt := Nat.mod_lt S.length (show z > 0 by omega)
  have full : ∀ g, g < S.length / z → z * g + z ≤ S.length := by
    intro g hg
    have h1 := Nat.mul_le_mul_left z (show g + 1 ≤ S.length / z by omega)
    rw [Nat.mul_succ] at h1
    omega
  have step : ∀ (g k : Nat) (out : List Sig), out.length ≤ 100 → z * g < S.length → (z * g + (k + 1) = S.length ∧ k + 1 ≤ z ∨ z * g + z ≤ S.length ∧ k + 1 = z) →
      (cond (ilt ((z * g : Nat) : Int) (n2i (xlen S)))
      (chk (okTo (imin (iadd .i64 ((z * g : Nat) : Int) (z : Int)) (n2i (xlen S))) (xlen S))
      (chk (okTo ((z * g : Nat) : Int) (i2n (imin (iadd .i64 ((z * g : Nat) : Int) (z : Int)) (n2i (xlen S)))))
      (Option.bind (F_i_joined (xsub S (i2n ((z * g : Nat) : Int)) (i2n (imin (iadd .i64 ((z * g : Nat) : Int) (z : Int)) (n2i (xlen S)))))) fun r3 =>
        (chk (okRoom (xlen out) (xlen (r3 :: ([] : (List (Bool × Bool))))) 2)
        (some (.inl ((z : Int), ((iadd .i64 ((z * g : Nat) : Int) (z : Int)), (S, (xapp out (r3 :: ([] : (List (Bool × Bool))))))))))))))
      (some (.inr out))) = (some (.inl ((z : Int), (((z * (g + 1) : Nat) : Int), (S, out ++ [joinS S (z * g) k])))) : Option ((Int × Int × List Sig × List Sig) ⊕ List Sig)) := by
    intro g k out ho hlt2 hk
    have e0 : z * (g + 1) = z * g + z := Nat.mul_succ z g
    have em : imin ((z * g : Nat) + (z : Int)) (S.length : Int) = ((z * g + (k + 1) : Nat) : Int) := by
      unfold imin
      split <;> omega
    have hb : z * g + (k + 1) ≤ S.length := by omega
    have hl : ((S.take (z * g + (k + 1))).drop (z * g)).length = k + 1 := by simp; omega
    have hj := i_joined ((S.take (z * g + (k + 1))).drop (z * g)) (by omega) (by omega)
    rw [hl, show k + 1 - 1 = k by omega, joinS_sub S hb k (by omega)] at hj
    rw [ilt_e, n2i_e, xlen_e, cond_pos (by omega), iadd_e, w64 (by omega) (by omega), em]
    simp (disch := omega) only [okTo_e, chk_pos, i2n_e, xsub_e, hj, bind_s, okRoom_e, xlen_e, List.length_cons, List.length_nil, xapp_e]
    rw [show ((z * g : Nat) : Int) + (z : Int) = ((z * (g + 1) : Nat) : Int) by omega]
  by_cases hr : S.length % z = 0
  · refine iter_run (fun g => ((z : Int), ((z * g : Nat) : Int), S, fullG S z g)) (S.length / z) (by simp [fullG]) (fun g hg => ?_) ?_
    · have hf := full g hg
      have l1 := fullG_len S z g
      have hq : g ≤ 16 := by
        have := Nat.le_mul_of_pos_left g (show 0 < z by omega)
        omega
      exact (step g (z - 1) (fullG S z g) (by omega) (by omega) (.inr ⟨hf, by omega⟩)).trans (by rw [fullG_succ])
    · simp only [ilt_e, n2i_e, xlen_e]
      rw [cond_neg (by omega)]
      simp [allG, hr]
  · refine iter_run (fun g => ((z : Int), ((z * g : Nat) : Int), S, if g ≤ S.length / z then fullG S z g else allG S z)) (S.length / z + 1) (by simp [fullG]) (fun g hg => ?_) ?_
    · have hq : g ≤ 16 := by
        have h1 := Nat.le_mul_of_pos_left (S.length / z) (show 0 < z by omega)
        omega
      have l1 := fullG_len S z g
      rw [if_pos (show g ≤ S.length / z by omega)]
      by_cases hg2 : g < S.length / z
      · have hf := full g hg2
        rw [if_pos (show g + 1 ≤ S.length / z by omega)]
        exact (step g (z - 1) (fullG S z g) (by omega) (by omega) (.inr ⟨hf, by omega⟩)).trans (by rw [fullG_succ])
      · have hge : g = S.length / z := by omega
        rw [if_neg (show ¬ g + 1 ≤ S.length / z by omega)]
        refine (step g (S.length % z - 1) (fullG S z g) (by omega) (by rw [hge]; omega) (.inl ⟨by rw [hge]; omega, by omega⟩)).trans ?_
        rw [hge]
        simp [allG, hr]
    · have e0 : z * (S.length / z + 1) = z * (S.length / z) + z := Nat.mul_succ z (S.length / z)
      simp only [ilt_e, n2i_e, xlen_e]
      rw [cond_neg (by omega), if_neg (by omega)]

end Go.Prg
