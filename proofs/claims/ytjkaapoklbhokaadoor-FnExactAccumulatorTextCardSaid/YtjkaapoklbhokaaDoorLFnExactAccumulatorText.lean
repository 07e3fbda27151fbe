/- The law FnExactAccumulatorText: the given statement, off its contract and its plain law. Conditions: the variables that the row lists hold what it lists. -/
import Derived.Test.YtjkaapoklbhokaaDoorRows
import Derived.Test.YtjkaapoklbhokaaDoorCards
import Derived.Test.YtjkaapoklbhokaaDoorTie
import Derived.Test.YtjkaapoklbhokaaDoorM1
import Derived.Test.YtjkaapoklbhokaaDoorPlUh
import Derived.ProofKit
import Derived.OpenShut
import Derived.Carry
import Derived.LaidMore
import Derived.SevenTiedAt
import Derived.Stop.Joined
import Derived.JoinedOf
import Derived.Lib.LaidTab
namespace Go.Proofs.YtjkaapoklbhokaaDoor
open Go Go.ChangeShapes Go.WideShapes Go.ChangeAt Go.RowKit Go.Eng Go.Prg
set_option linter.all false

theorem acc_own : ownKnob Tryd.prog.godebug = none := by kernel_rfl
theorem acc_laidOut : laidOutB Tryd.prog = true := by kernel_rfl
theorem acc_met (os : Os) (args : Array Value) : laidMetH Tryd.prog Rows.fnExactAccumulatorTextRow.laid ((World.doorLaid Tryd.prog 24 os).forCall (fun _ _ => 0) ⟨#[], args, []⟩).memory :=
  laidMetH_of_parts3 (fuel := 8) (laidMet_of_run' 8 (by kernel_rfl) (by kernel_rfl)) (by kernel_rfl) (by kernel_rfl)

theorem acc_data : (Rows.laid_internal_strconv_uint64pow10 : DataW Unit) = Lib.tabData .u64 Go.Lib.pow10Tab := by kernel_rfl
theorem acc_global : Tryd.prog.globalNamed "internal/strconv.uint64pow10" = some 0 := by kernel_rfl

theorem acc_tab {W : World} (h : laidMetH Tryd.prog Rows.fnExactAccumulatorTextRow.laid W) : Lib.TabIs Tryd.prog W "internal/strconv.uint64pow10" .u64 Go.Lib.pow10Tab := by
  have h' : laidMet Tryd.prog [("math/bits.deBruijn32tab", Rows.laid_math_bits_deBruijn32tab), ("math/bits.deBruijn64tab", Rows.laid_math_bits_deBruijn64tab), ("internal/strconv.uint64pow10", Rows.laid_internal_strconv_uint64pow10)] W := h
  obtain ⟨ps, ⟨g1, t1, c1, f1, p1, q1, _, _, _, _, ⟨g2, t2, c2, f2, p2, q2, _, _, _, _, hv, e2⟩, e1⟩, hnd, hrow⟩ := h'
  subst e1
  subst e2
  have hm : laidMet Tryd.prog [("internal/strconv.uint64pow10", Lib.tabData .u64 Go.Lib.pow10Tab)] W := by
    rw [← acc_data]
    exact ⟨q2, hv, (List.nodup_append.1 (List.nodup_append.1 hnd).2.1).2.1, fun b off hb => hrow b off (List.mem_append_right _ (List.mem_append_right _ hb))⟩
  exact Lib.tabIs_of_head (g := 0) (t := 58) (e := 51) (n := 20) acc_global (by kernel_rfl) (by kernel_rfl) (by kernel_rfl) (by kernel_rfl) (by kernel_rfl) hm

theorem acc_glob {W : World} (h : Lib.TabIs Tryd.prog W "internal/strconv.uint64pow10" .u64 Go.Lib.pow10Tab) : Glob W (there W) := by
  intro p hp
  have hp' : p = (0, (Go.Lib.pow10Tab.map fun z => Value.int .u64 z).toArray) := by simpa [globs] using hp
  subst hp'
  unfold Lib.TabIs World.var? at h
  rw [acc_global] at h
  simp only [Option.bind_some] at h
  cases hg : W.heap[0]? with
  | none => rw [hg] at h; cases h
  | some o =>
    rw [hg] at h
    cases o with
    | cells cs x y =>
      simp only [Option.some.injEq] at h
      subst h
      exact ⟨⟨x, y, rfl⟩, (Array.getElem?_eq_some_iff.1 hg).1⟩
    | _ => cases h

set_option maxRecDepth 100000 in
theorem acc_lifted (os : Os) (started : os.Started) (H : Type) (enc : TypeId × Value → H) :
    ReturnsInHanded {} Tryd.checked os 3 .any (fun w args => (Rows.fnExactAccumulatorTextSpec.pre enc Tryd.prog Tryd.f3 [] false w args ∧ laidMetH Tryd.prog Rows.fnExactAccumulatorTextRow.laid w) ∧ sizedMet enc Tryd.prog Tryd.f3 (OpenSpec.ofChange Rows.fnExactAccumulatorTextSpec) false w args)
      (Rows.fnExactAccumulatorTextSpec.post enc Tryd.prog Tryd.f3 false true false false) := by
  refine returnsInHanded_of_change_and (C := Tryd.checked) (X := fun w _ => laidMetH Tryd.prog Rows.fnExactAccumulatorTextRow.laid w) (fun _ _ _ hh h => h.of_heap hh) acc_own started (by kernel_rfl) Tryd.func3
    (ChangeSpec.witness_shaped (enc := enc) (C := Tryd.checked) (os := os) (X := fun w _ => laidMetH Tryd.prog Rows.fnExactAccumulatorTextRow.laid w) false (World.doorLaid Tryd.prog 24 os) #[.agg #[.int .i64 0, .slice none 0 0]] 8 rfl (World.shaped_of_RefB (by kernel_rfl) (by kernel_rfl)) (by kernel_rfl) (by kernel_rfl) (by kernel_rfl) (acc_met os _)) ?_
  intro W base args ds gs before hval0 hW _ _ hL _
  have hval : ∀ (j : Nat) t v, Tryd.f3.params[j]? = some t → args[j]? = some v → Value.okWide Tryd.prog W .any base t v := hval0
  have hW' := hW
  have hlt := DataW.Whole.lt hW
  obtain ⟨p, q, hA0, hV, rfl, hfz, hnd⟩ := hW
  have hA : DataW.TrodAll enc Tryd.prog W 0 (fun _ => true) true Tryd.f3.params.toList args.toList ds p := hA0
  have call := law_calls M_l_FnExactAccumulatorText (fun x hx => FnExactAccumulatorText_true x hx) (ts := Tryd.f3.params.toList) (by kernel_rfl) hA (fun j t v hj hv => hval j t v (by simpa using hj) (by simpa using hv)) (acc_glob (acc_tab hL))
  have keep := hA
  rw [Tryd.params3] at hA hval
  obtain ⟨v0, vs0, d0, ds0, p0, q0, hargs, rfl, rfl, h0, r0⟩ := trodAll_cons hA
  obtain ⟨rfl, rfl, rfl⟩ := trodAll_nil r0
  obtain rfl : args = #[v0] := by cases args; simp_all
  obtain ⟨rfl, rfl⟩ := trodVars_none hV
  clear hA0 hval0
  refine call.mono fun e W' ⟨he, bel⟩ => ?_
  subst he
  exact ⟨_, rfl, _, _, _, [], _, [], hW', trodAll_mk1 (shut_bool Tryd.underlying4 _), trodAll_below acc_laidOut bel (by kernel_rfl) keep (fun x hx => hlt x (by simpa using hx)), rfl, bel.frame _, fun h => by cases h⟩

/-- The row's statement. -/
theorem acc_holds : Rows.FnExactAccumulatorTextSaid :=
  OpenClaim.holds_of_wide 3 Tryd.f3 rfl rfl rfl rfl rfl rfl rfl ⟨rfl, rfl, rfl, rfl, rfl⟩ rfl rfl rfl rfl rfl (by kernel_rfl) Tryd.func3 (by kernel_rfl)
    (of_decide_eq_true (by kernel_rfl)) (by unfold Func.isWrapper; first | (rw [if_pos (by decide +kernel)]; kernel_rfl) | (rw [if_neg (by decide +kernel)]; exact ⟨rfl, rfl⟩))
    (fun os started H enc _ => acc_lifted os started H enc)

/-- The given statement: the tied card. -/
theorem FnExactAccumulatorText_proved : Rows.FnExactAccumulatorTextCardSaid :=
  Claim7.holds_tied_plain_at .later [] [.data, .data, .data] true (true, "8c3dac86c519d1dce424e8a1c49204f4594da0225aa0cb768c36f09fee045a80") false
    acc_holds (fun _ h => by cases h) (by kernel_rfl) (fun _ h => by cases h) fnExactAccumulatorText_row_tie rfl ⟨rfl, rfl⟩ (by kernel_rfl) rfl
    (fun f fn hf hfn => by
      obtain rfl : f = 3 := Option.some.inj ((show Tryd.prog.funcNamed "loop.example/g00930/laws.FnExactAccumulatorText" = some 3 by kernel_rfl).symm.trans hf) |>.symm
      obtain rfl : fn = Tryd.f3 := (Option.some.inj (Tryd.func3.symm.trans hfn)).symm
      exact ⟨by kernel_rfl, fun j t ht => by
        rw [Tryd.params3] at ht
        have hm : t ∈ [24] := by simpa using Array.mem_of_getElem? ht
        have hall : ([24].all fun u => !Tryd.prog.wantsStandIn u) = true := by kernel_rfl
        exact (show Tryd.prog.wantsStandIn t = false by simpa using List.all_eq_true.1 hall t hm)⟩)
    (by kernel_rfl)
#print axioms FnExactAccumulatorText_proved
end Go.Proofs.YtjkaapoklbhokaaDoor
