/- Plain laws, part Yc: turns counted. Conditions: none. -/
import Derived.Test.YtjkaapoklbhokaaPlYb
set_option linter.all false
namespace Go.Prg
open Go.Eng

/-- the machine after i strokes -/
def mS (m : Mach) (ks : List Int) : Nat → Mach
  | 0 => m
  | i + 1 => (strokeMM (mS m ks i) (ks.getD i 0)).1

theorem mS_cons (m : Mach) (k : Int) (ks : List Int) : ∀ i, mS m (k :: ks) (i + 1) = mS (strokeMM m k).1 ks i
  | 0 => rfl
  | i + 1 => by
    rw [mS, mS_cons m k ks i]
    rfl

theorem mS_sh {m : Mach} {w : Int} {a b c : Nat} (h : shM m w a b c) {ks : List Int} (hk : ∀ k ∈ ks, 1 ≤ k ∧ k ≤ 4) : ∀ i, i ≤ ks.length → shM (mS m ks i) w a b c
  | 0, _ => h
  | i + 1, hi => by
    have := getD_all (p := fun k => 1 ≤ k ∧ k ≤ 4) hk (i := i) (by omega)
    exact stroke_sh (mS_sh h hk i (by omega)) (by omega)

/-- n strokes are done; the bell rings at the last one at most -/
theorem runK_spec : ∀ (ks : List Int) (m : Mach) (j : Int), ∃ n, n ≤ ks.length ∧ runK m j ks = (mS m ks n, j + n) ∧ ∀ i, i < n → (strokeMM (mS m ks i) (ks.getD i 0)).2 = true → i + 1 = n
  | [], m, j => ⟨0, Nat.le_refl _, by simp [runK, mS], fun i hi => by omega⟩
  | k :: ks, m, j => by
    simp only [runK]
    cases hb : (strokeMM m k).2 with
    | true => exact ⟨1, by simp, by simp [mS], fun i hi _ => by omega⟩
    | false =>
      obtain ⟨n, h1, h2, h3⟩ := runK_spec ks (strokeMM m k).1 (j + 1)
      refine ⟨n + 1, by simpa using h1, ?_, fun i hi hbell => ?_⟩
      · rw [cond_f, h2, mS_cons]
        congr 1
        omega
      · cases i with
        | zero => simp only [mS, List.getD_cons_zero] at hbell; rw [hb] at hbell; cases hbell
        | succ i =>
          rw [mS_cons, List.getD_cons_succ] at hbell
          have := h3 i (by omega) hbell
          omega

/-- the turns after i strokes -/
def tS (w : Int) (m : Mach) (ks : List Int) : Nat → Int
  | 0 => 0
  | i + 1 => tS w m ks i + (if ks.getD i 0 = 1 then w ^ (mS m ks i).2.2.2.toNat else if ks.getD i 0 = 2 then -(w ^ (mS m ks i).2.2.2.toNat) else 0)

theorem tmod_q (x N : Int) : ∃ q, x.tmod N = x + N * q := ⟨-(x.tdiv N), by rw [Int.tmod_def, Int.mul_neg]; omega⟩

theorem modN_q (x N : Int) : ∃ q, modN N x = x + N * q := by
  unfold modN
  obtain ⟨q1, h1⟩ := tmod_q x N
  obtain ⟨q2, h2⟩ := tmod_q (x.tmod N + N) N
  refine ⟨q1 + 1 + q2, ?_⟩
  rw [h2, h1, Int.mul_add, Int.mul_add, Int.mul_one]
  omega

theorem mvL_q {w : Int} (hw : 2 ≤ w ∧ w ≤ 16) {l : List Int} (x : Int) : ∃ q, valL w (mvL w l x) = valL w l + x + w ^ l.length * q := by
  unfold mvL
  have hN : 0 < w ^ l.length := by have := pow_nonneg' hw.1 l.length; omega
  have h1 := valL_dig (b := w) (v := modN (w ^ l.length) (valL w l + x)) hw.1 (modN_in _ hN).1 l.length
  obtain ⟨q, hq⟩ := modN_q (valL w l + x) (w ^ l.length)
  refine ⟨q - restI w (modN (w ^ l.length) (valL w l + x)) l.length, ?_⟩
  rw [Int.mul_sub]
  omega

theorem mS_counts {m : Mach} {w : Int} {a b c : Nat} (h : shM m w a b c) {ks : List Int} (hk : ∀ k ∈ ks, 1 ≤ k ∧ k ≤ 4) (hR : valL w m.2.1.2 = 0) (hC : valL w m.2.2.1.2 = 0) : ∀ i, i ≤ ks.length →
    (mS m ks i).1.2 = m.1.2 ∧ (∃ q, valL w (mS m ks i).2.1.2 = tS w m ks i * valL w m.1.2 + w ^ b * q) ∧ (∃ q, valL w (mS m ks i).2.2.1.2 = tS w m ks i + w ^ c * q)
  | 0, _ => ⟨rfl, ⟨0, by simp [mS, tS, hR]⟩, ⟨0, by simp [mS, tS, hC]⟩⟩
  | i + 1, hi => by
    obtain ⟨e1, ⟨q1, e2⟩, ⟨q2, e3⟩⟩ := mS_counts h hk hR hC i (by omega)
    have g := getD_all (p := fun k => 1 ≤ k ∧ k ≤ 4) hk (i := i) (by omega)
    have hs := mS_sh h hk i (by omega)
    simp only [mS, tS]
    generalize mS m ks i = y at e1 e2 e3 hs
    generalize tS w m ks i = t at e2 e3
    generalize ks.getD i 0 = k at g
    obtain ⟨la, lb, lc, p, rfl, l1, l2, l3, hw, _, _, _, _, _, _, _, _, _⟩ := shM_parts hs
    simp only at e1 e2 e3
    subst e1
    simp only [strokeMM, strokeM]
    by_cases k1 : k = 1
    · obtain ⟨r1, f1⟩ := mvL_q hw (l := lb) (valL w m.1.2 * w ^ p.toNat)
      obtain ⟨r2, f2⟩ := mvL_q hw (l := lc) (w ^ p.toNat)
      rw [l2] at f1
      rw [l3] at f2
      simp only [if_pos k1]
      refine ⟨trivial, ⟨q1 + r1, ?_⟩, ⟨q2 + r2, ?_⟩⟩
      · rw [f1, e2, Int.mul_add, Int.add_mul, Int.mul_comm (valL w m.1.2)]; omega
      · rw [f2, e3, Int.mul_add]; omega
    · by_cases k2 : k = 2
      · obtain ⟨r1, f1⟩ := mvL_q hw (l := lb) (-(valL w m.1.2 * w ^ p.toNat))
        obtain ⟨r2, f2⟩ := mvL_q hw (l := lc) (-(w ^ p.toNat))
        rw [l2] at f1
        rw [l3] at f2
        simp only [if_neg k1, if_pos k2]
        refine ⟨trivial, ⟨q1 + r1, ?_⟩, ⟨q2 + r2, ?_⟩⟩
        · rw [f1, e2, Int.mul_add, Int.add_mul, Int.neg_mul, Int.mul_comm (valL w m.1.2)]; omega
        · rw [f2, e3, Int.mul_add]; omega
      · simp only [if_neg k1, if_neg k2, Int.add_zero]
        split
        · split <;> exact ⟨rfl, ⟨q1, e2⟩, ⟨q2, e3⟩⟩
        · rw [if_pos (show k = 4 by omega)]
          split <;> exact ⟨rfl, ⟨q1, e2⟩, ⟨q2, e3⟩⟩

end Go.Prg
