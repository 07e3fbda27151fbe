/- The contract of strconv's FormatInt at base 10, off the kit's contract. Conditions: none. -/
import Derived.Test.YtjkaapoklbhokaaDoorF1
import Derived.Test.YtjkaapoklbhokaaDoorShelf
import Derived.KernelRfl
namespace Go.Proofs.YtjkaapoklbhokaaDoor
open Go.Eng Go.Prg
set_option linter.all false

theorem tab_of {w : World} {R : Nat → Prop} (h : Glob w R) : Lib.TabIs Tryd.prog w "internal/strconv.uint64pow10" .u64 Lib.pow10Tab := by
  obtain ⟨⟨x, y, h1⟩, _⟩ := h (0, (Go.Lib.pow10Tab.map fun z => Value.int .u64 z).toArray) (by simp [globs])
  unfold Lib.TabIs World.var?
  rw [show Tryd.prog.globalNamed "internal/strconv.uint64pow10" = some 0 from by kernel_rfl]
  simp only [Option.bind_some]
  rw [show w.heap[0]? = some (.cells (Go.Lib.pow10Tab.map fun z => Value.int .u64 z).toArray x y) from h1]

theorem M_internal_strconv_FormatInt : Meets Tryd.prog 37 ⟨[.val false (.int .i64), .val false (.int .i64)], [(.val false, .str)], F_internal_strconv_FormatInt⟩ := by
  refine ⟨by kernel_rfl, fun x r hx w R S vs hargs hnd hoff hlt hgl => ?_⟩
  obtain ⟨n, b⟩ := x
  obtain ⟨v1, vs1, S1, S2, rfl, rfl, ⟨cs1, ⟨h1, h1'⟩, h1''⟩, v2, vs2, S3, S4, rfl, rfl, ⟨cs2, ⟨h2, h2'⟩, h2''⟩, rfl, rfl⟩ := hargs
  have e1 : cs1 = [v1] := h1''
  have e2 : cs2 = [v2] := h2''
  subst e1; subst e2
  have e3 : v1 = .int .i64 n := (List.cons.inj h1).1
  have e4 : v2 = .int .i64 b := (List.cons.inj h2).1
  subst e3; subst e4
  have hs1 : S1 = [] := h1'
  have hs3 : S3 = [] := h2'
  subst hs1; subst hs3
  have hx' : (cond (ieq b 10) (chk (decide (-9223372036854775808 ≤ n ∧ n ≤ 9223372036854775807)) (some (⟨(Go.Lib.itoa n).toArray⟩ : ByteArray))) none) = some r := hx
  by_cases hb : b = 10
  · subst hb
    by_cases hn : -9223372036854775808 ≤ n ∧ n ≤ 9223372036854775807
    · rw [decide_eq_true hn] at hx'
      have hr : (⟨(Go.Lib.itoa n).toArray⟩ : ByteArray) = r := by simpa [ieq, chk] using hx'
      subst hr
      refine (Tryd.internal_strconv_FormatInt_10 n hn.1 hn.2 w (tab_of hgl)).mono ?_
      rintro e w' ⟨rfl, k, os, rfl⟩
      refine ⟨[.string ⟨(Go.Lib.itoa n).toArray⟩], R, [], [], rfl, ⟨_, _, [], [], rfl, rfl, ⟨_, ⟨rfl, rfl⟩, rfl⟩, rfl, rfl⟩, ⟨_, _, rfl, _, _, rfl, rfl⟩, List.nodup_nil, by simp, ⟨rfl, rfl, rfl, ?_, ?_⟩, fun _ h => h, fun b hb => ⟨.inl hb, ?_⟩⟩
      · simp [Sort.grow, World.drewN]
      · intro k' hk' _
        simp only [Sort.grow, World.drewN]
        exact Array.getElem?_append_left hk'
      · have := hlt b hb
        simp only [Sort.grow, World.drewN, Array.size_append]
        omega
    · rw [decide_eq_false hn] at hx'
      simp [ieq, chk] at hx'
  · have : ieq b 10 = false := by simp [ieq, hb]
    rw [this] at hx'
    cases hx'

end Go.Proofs.YtjkaapoklbhokaaDoor
