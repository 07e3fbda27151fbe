/- Plain laws, part Yd: the law of counted turns. Conditions: none. -/
import Derived.Test.YtjkaapoklbhokaaPlYc
import Derived.Test.YtjkaapoklbhokaaPlUc
set_option linter.all false
namespace Go.Prg
open Go.Eng

theorem tS_in {m : Mach} {w : Int} {a b c : Nat} (h : shM m w a b c) (hw : 2 ≤ w ∧ w ≤ 12) (hc : c ≤ 5) {ks : List Int} (hk : ∀ k ∈ ks, 1 ≤ k ∧ k ≤ 4) : ∀ i, i ≤ ks.length → -20736 * (i : Int) ≤ tS w m ks i ∧ tS w m ks i ≤ 20736 * (i : Int)
  | 0, _ => by simp [tS]
  | i + 1, hi => by
    have ih := tS_in h hw hc hk i (by omega)
    obtain ⟨la, lb, lc, p, e, _, _, _, _, _, _, _, _, _, _, _, _, hp⟩ := shM_parts (mS_sh h hk i (by omega))
    have hp2 := imin_le ((b : Int) - a + 1) c
    have hpow := pow12s hw (n := p.toNat) (by omega)
    simp only [tS, e]
    split
    · omega
    · split <;> omega

theorem a2Power_e (w : Int) (hw : 2 ≤ w ∧ w ≤ 12) (n : Nat) (hn : n ≤ 8) : F_l_a2Power (w, (n : Int)) = some (w ^ n) := by
  unfold F_l_a2Power
  refine iter_run (fun i => (w, (n : Int) - (i : Int), w ^ i)) n (by simp) (fun i hi => ?_) ?_
  · have h1 := pow12 hw (n := i) (by omega)
    have h2 := pow12 hw (n := i + 1) (by omega)
    rw [Int.pow_succ] at h2
    simp (disch := omega) only [igt_e, cond_pos, isub_e, imul_e, w64]
    rw [Int.pow_succ, show (n : Int) - ((i + 1 : Nat) : Int) = (n : Int) - (i : Int) - 1 by omega]
  · simp (disch := omega) only [igt_e, cond_neg]

theorem s_strokeB (m : Mach) (k : Int) (h : validM m = true) (hk : 1 ≤ k ∧ k ≤ 6) : F_s_DoStroke_b (((m.1.1, m.1.2), ((m.2.1.1, m.2.1.2), ((m.2.2.1.1, m.2.2.1.2), m.2.2.2))), k) = some ((strokeMM m k).1, ((strokeMM m k).2, 0)) := by
  obtain ⟨l1, l2, l3⟩ := machine_len m h
  have hd := s_doMM m k h hk
  have hv := s_validM' m.1 m.2.1 m.2.2.1 m.2.2.2 (by omega) (by omega) (by omega)
  have ho := ownM m.1 m.2.1 m.2.2.1 m.2.2.2 (by omega) (by omega) (by omega)
  have h' : validM (m.1, m.2.1, m.2.2.1, m.2.2.2) = true := h
  rw [h'] at hv
  unfold F_s_DoStroke_b F_s_l10Kind
  simp only [pair_eta, hv, bind_s, l00In_e, bnot_t, cond_f, bnot_d, ho]
  rw [cond_neg (fun q => q hk)]
  simp only [pair_eta] at hd
  refine Eq.trans (congrArg (fun o => Option.bind o _) hd) ?_
  rfl

end Go.Prg
