/- Plain laws, part Ua: the desk at the beginning, desks compared, the inputs one by one. Conditions: none. -/
import Derived.Test.YtjkaapoklbhokaaPlU
import Derived.Test.YtjkaapoklbhokaaPlS
set_option linter.all false
namespace Go.Prg
open Go.Eng

theorem sne_s (a : ByteArray) : sne a a = false := by simp [sne]

theorem newM_desk : newM 10 3 6 4 = (blankM 10 3 6 4, 0) := by
  unfold newM
  rw [if_pos (by omega), show validM (blankM 10 3 6 4) = true from by decide +kernel]
  rfl

/- inputs -/
def inputR (b s r c n : Int) : Mach × Int :=
  if (inputsC b s r c).2 = 0 then if 0 ≤ n ∧ n ≤ b ^ s.toNat * b ^ r.toNat - 1 then (((b, digL b (n.tdiv (b ^ r.toNat)) s.toNat), (b, digL b (n.tmod (b ^ r.toNat)) r.toNat), (b, digL b 0 c.toNat), 0), 0) else (zeroM, 3) else (zeroM, (inputsC b s r c).2)

theorem inputR_len (b s r c n : Int) : ((inputR b s r c n).1.1.2.length : Int) ≤ 16 ∧ ((inputR b s r c n).1.2.1.2.length : Int) ≤ 16 ∧ ((inputR b s r c n).1.2.2.1.2.length : Int) ≤ 16 := by
  unfold inputR
  split
  · rename_i h
    obtain ⟨h1, h2, _⟩ := inputsC_ok h
    obtain ⟨hr, _⟩ := newM_ok h1
    split
    · simp only [digL_len]; omega
    · simp
  · simp

end Go.Prg
