/- The engine, part 22: the end of a function; its contract from its run. Conditions as in part 17. -/
import Derived.Test.YtjkaapoklbhokaaDoorEng21
set_option linter.all false
namespace Go.Eng
open Go.RowKit

variable {P : Program} {C : Ctx} {ti : Nat → Option TI}
variable {n : Nat} {w w' : World} {R R' : Nat → Prop} {sl : Nat → AV} {bk : Nat → Blk} {ρ ρ' : Rho} {S S' : Nat → List Nat} {a : Act}

def resF (tmps : Array Value) : ResultVar → Sem Value
  | .tmp t => pure (tmps.getD t undef)
  | .cell ad t => do loadVar t (← asAddr (tmps.getD ad undef))

theorem run_mapM {f : ResultVar → Sem Value} : ∀ {l : List ResultVar} {us : List Value}, All2 (fun r u => (f r).run P w = .ok u w) l us → (l.mapM f).run P w = .ok us w
  | [], [], _ => by simp
  | r :: l, u :: us, h => by
    have ih := run_mapM h.2
    simp [List.mapM_cons, h.1, ih]
  | [], _ :: _, h => h.elim
  | _ :: _, [], h => h.elim

theorem run_results {fn : Func} {tmps : Array Value} {us : List Value} (h : All2 (fun r u => (resF tmps r).run P w = .ok u w) fn.results.toList us) : (results fn tmps).run P w = .ok (pack us) w := by
  have h1 : (fn.results.mapM (resF tmps)).run P w = .ok us.toArray w := by
    rw [Array.mapM_eq_mapM_toList]
    simp [run_mapM h]
  have h2 : results fn tmps = (fn.results.mapM (resF tmps) >>= fun vs => pure (if h : vs.size = 1 then vs[0] else .tuple vs)) := by
    unfold results
    have : (fun (r : ResultVar) => (match r with | .tmp t => pure (tmps.getD t undef) | .cell a t => do loadVar t (← asAddr (tmps.getD a undef)) : Sem Value)) = resF tmps := by
      funext r
      cases r <;> rfl
    rw [← this]
    rfl
  rw [h2, Sem.run_bind, h1]
  simp only [Result.andThen_ok, Sem.run_pure]
  match us with
  | [] => rfl
  | [u] => rfl
  | u :: v :: us => simp [pack]

theorem resVal_mono (hRR : ∀ b, R b → R' b) {k : RK} {t : Ty} {x : t.den} {v : Value} {T : List Nat} (h : resVal w R k t x v T) : resVal w R' k t x v T := by
  cases k with
  | val b => exact valRep_mono hRR h
  | box T0 =>
    obtain ⟨g, cs, U, h3, h4, h5, h6⟩ := h
    exact ⟨g, cs, U, h3, h4, h5, rep_keep (fun _ _ => rfl) hRR (fun _ _ => rfl) h6⟩

theorem resRep_mono (hRR : ∀ b, R b → R' b) : ∀ {rs : List (RK × Ty)} {tl : List Ty} {r : HL (resTys rs tl)} {us : List Value} {T : List Nat}, resRep w R rs tl r us T → resRep w R' rs tl r us T
  | [], _, _, _, _, h => h
  | _ :: _, _, _, _, _, ⟨v, vs', S1, S2, h1, h2, h3, h4⟩ => ⟨v, vs', S1, S2, h1, h2, resVal_mono hRR h3, resRep_mono hRR h4⟩

theorem outsRep_mono (hRR : ∀ b, R b → R' b) : ∀ {ps : List Par} {y : HL (outTys ps)} {vs : List Value} {T : List Nat}, outsRep w R ps y vs T → outsRep w R' ps y vs T
  | [], _, _, _, h => h
  | .val _ _ :: _, _, _, _, ⟨v, vs', h1, h2⟩ => ⟨v, vs', h1, outsRep_mono hRR h2⟩
  | .ref _ :: _, _, _, _, ⟨v, vs', h1, h2⟩ => ⟨v, vs', h1, outsRep_mono hRR h2⟩
  | .fn _ :: _, _, _, _, ⟨v, vs', h1, h2⟩ => ⟨v, vs', h1, outsRep_mono hRR h2⟩
  | .mut _ _ :: _, _, _, _, ⟨v, vs', S1, S2, h1, h2, h3, h4⟩ => ⟨v, vs', S1, S2, h1, h2, valRep_mono hRR h3, outsRep_mono hRR h4⟩
  | .refm _ _ _ :: _, _, _, _, ⟨v, vs', S1, S2, h1, h2, ⟨g, cs, U, h3, h4, h5, h6⟩, h7⟩ => ⟨v, vs', S1, S2, h1, h2, ⟨g, cs, U, h3, h4, h5, rep_keep (fun _ _ => rfl) hRR (fun _ _ => rfl) h6⟩, outsRep_mono hRR h7⟩

theorem resA_sound (hti : TIs P ti) (h : Inv n w R sl bk ρ S a) : ∀ {rs : List (RK × Ty)} {tl : List Ty} {rvs : List ResultVar} {r0 : Option (HL tl × List Nat × List Nat)} {z : HL (resTys rs tl)} {own ro : List Nat},
    resA ti sl bk rs tl rvs r0 = some (z, own, ro) → ∃ o1 ro1 o2 ro2 us, r0 = some (resRest rs tl z, o2, ro2) ∧ own = o1 ++ o2 ∧ ro = ro1 ++ ro2 ∧ resRep w (lent R S ro1) rs tl z us (o1.flatMap S) ∧
      All2 (fun r u => (resF a.tmps r).run P w = .ok u w) rvs us
  | [], tl, [], r0, z, own, ro, hr => by
    simp only [resA] at hr
    exact ⟨[], [], own, ro, [], hr, rfl, rfl, ⟨rfl, rfl⟩, trivial⟩
  | (.box T0, t) :: rs, tl, .tmp v :: rvs, r0, z, own, ro, hr => by
    simp only [resA] at hr
    split at hr
    · rename_i id hv
      split at hr
      · rename_i cs T1 hb
        split at hr
        · rename_i hT
          subst hT
          split at hr
          · rename_i x own1 ro1 h1
            split at hr
            · rename_i xs own' ro' h2
              simp only [Option.some.injEq, Prod.mk.injEq] at hr
              obtain ⟨rfl, rfl, rfl⟩ := hr
              obtain ⟨o1, r1, o2, r2, us, e1, e2, e3, e4, e5⟩ := resA_sound hti h h2
              have hs := h.slots v
              rw [hv] at hs
              obtain ⟨g, f1, f2⟩ := isAV_one (by simp) hs
              have hb' := h.blks id
              rw [hb] at hb'
              obtain ⟨g', vs, h3, hSi, h4, h5⟩ := hb'
              rw [f1] at h3
              simp only [Option.some.injEq, Value.pointer.injEq, Addr.mk.injEq, and_true] at h3
              subst h3
              refine ⟨id :: own1 ++ o1, ro1 ++ r1, o2, r2, a.tmps.getD v undef :: us, by rw [e1]; simp only [resRest, htail_hcons], by rw [e2]; simp, by rw [e3, List.append_assoc],
                ⟨_, us, g :: own1.flatMap S, o1.flatMap S, rfl, by simp [hSi], ?_, ?_⟩, ⟨by simp [resF], e5⟩⟩
              · rw [hhead_hcons]
                exact ⟨g, vs, own1.flatMap S, f2, rfl, h4, rep_keep (fun _ _ => rfl) (lent_mono fun i hi => List.mem_append_left _ hi) (fun _ _ => rfl) (reify_sound h.blks h1 h5)⟩
              · rw [htail_hcons]
                exact resRep_mono (lent_mono fun i hi => List.mem_append_right _ hi) e4
            · cases hr
          · cases hr
        · cases hr
      · cases hr
    · cases hr
  | (.box _, _) :: _, _, .cell _ _ :: _, _, _, _, _, hr => by simp [resA] at hr
  | (.val b, t) :: rs, tl, .tmp v :: rvs, r0, z, own, ro, hr => by
    simp only [resA] at hr
    split at hr
    · rename_i b' cs hv
      split at hr
      · rename_i hc
        split at hr
        · rename_i x own1 ro1 h1
          split at hr
          · rename_i xs own' ro' h2
            simp only [Option.some.injEq, Prod.mk.injEq] at hr
            obtain ⟨rfl, rfl, rfl⟩ := hr
            obtain ⟨o1, r1, o2, r2, us, e1, e2, e3, e4, e5⟩ := resA_sound hti h h2
            have hs := h.slots v
            rw [hv] at hs
            refine ⟨own1 ++ o1, ro1 ++ r1, o2, r2, a.tmps.getD v undef :: us, by rw [e1]; simp only [resRest, htail_hcons], by rw [e2, List.append_assoc], by rw [e3, List.append_assoc],
              ⟨_, us, own1.flatMap S, o1.flatMap S, rfl, by simp, ?_, ?_⟩, ⟨by simp [resF], e5⟩⟩
            · rw [hhead_hcons]
              exact valRep_mono (lent_mono fun i hi => List.mem_append_left _ hi) (val_of h.blks ⟨hc.1, by rw [hc.1]; exact hc.2.2⟩ h1 hs).2
            · rw [htail_hcons]
              exact resRep_mono (lent_mono fun i hi => List.mem_append_right _ hi) e4
          · cases hr
        · cases hr
      · cases hr
    · cases hr
  | (.val b, t) :: rs, tl, .cell ad T :: rvs, r0, z, own, ro, hr => by
    simp only [resA] at hr
    split at hr
    · rename_i id off i hv hi
      split at hr
      · rename_i cs T0 hb
        split at hr
        · rename_i hc
          split at hr
          · rename_i x own1 ro1 h1
            split at hr
            · rename_i xs own' ro' h2
              simp only [Option.some.injEq, Prod.mk.injEq] at hr
              obtain ⟨rfl, rfl, rfl⟩ := hr
              obtain ⟨o1, r1, o2, r2, us, e1, e2, e3, e4, e5⟩ := resA_sound hti h h2
              have hs := h.slots ad
              rw [hv] at hs
              obtain ⟨g, f1, f2⟩ := isAV_one (by simp) hs
              have hb' := h.blks id
              rw [hb] at hb'
              obtain ⟨g', vs, h3, _, h4, h5⟩ := hb'
              rw [f1] at h3
              simp only [Option.some.injEq, Value.pointer.injEq, Addr.mk.injEq, and_true] at h3
              subst h3
              have hlen := h5.length
              obtain ⟨hc1, hc2, hc3, hc4⟩ := hc
              obtain ⟨u, hrun, hu⟩ := run_loadVar (w := w) (hti _ _ hi) (ad := ⟨g, off, none⟩) (vs := (vs.drop off).take i.ty.size) (by rw [List.length_take, List.length_drop]; omega) (by
                intro j u hu
                rw [Addr.add_lit, cell_of_row w g _ _ _ _ h4]
                rw [List.getElem?_take] at hu
                split at hu
                · rw [List.getElem?_drop] at hu; simpa using hu
                · cases hu)
              have hav := hu ((h5.drop off).take i.ty.size)
              rw [hc1] at hav
              refine ⟨own1 ++ o1, ro1 ++ r1, o2, r2, u :: us, by rw [e1]; simp only [resRest, htail_hcons], by rw [e2, List.append_assoc], by rw [e3, List.append_assoc],
                ⟨_, us, own1.flatMap S, o1.flatMap S, rfl, by simp, ?_, ?_⟩, ⟨by simp [resF, f2, asAddr, hrun], e5⟩⟩
              · rw [hhead_hcons]
                exact valRep_mono (lent_mono fun i hi => List.mem_append_left _ hi) (val_of h.blks ⟨rfl, hc4⟩ h1 hav).2
              · rw [htail_hcons]
                exact resRep_mono (lent_mono fun i hi => List.mem_append_right _ hi) e4
            · cases hr
          · cases hr
        · cases hr
      · cases hr
    · cases hr
  | [], _, _ :: _, _, _, _, _, hr => by simp [resA] at hr
  | _ :: _, _, [], _, _, _, _, hr => by simp [resA] at hr

theorem outsA_sound (h : Inv n w R sl bk ρ S a) : ∀ {ps : List Par} {avs : List AV} {vs : List Value} {y : HL (outTys ps)} {own ro : List Nat}, vs.length = ps.length → outsA bk ps avs = some (y, own, ro) →
    (∀ j, isAV ρ (avs.getD j .unk) (vs.getD j undef)) → outsRep w (lent R S ro) ps y vs (own.flatMap S)
  | [], avs, vs, y, own, ro, _, hr, _ => by
    simp only [outsA, Option.some.injEq, Prod.mk.injEq] at hr
    obtain ⟨_, rfl, rfl⟩ := hr
    rfl
  | .val _ _ :: ps, avs, v :: vs, y, own, ro, hl, hr, hg =>
    ⟨v, vs, rfl, outsA_sound h (ps := ps) (by simpa using hl) hr fun j => by have := hg (j + 1); cases avs <;> simpa using this⟩
  | .ref _ :: ps, avs, v :: vs, y, own, ro, hl, hr, hg =>
    ⟨v, vs, rfl, outsA_sound h (ps := ps) (by simpa using hl) hr fun j => by have := hg (j + 1); cases avs <;> simpa using this⟩
  | .fn _ :: ps, avs, v :: vs, y, own, ro, hl, hr, hg =>
    ⟨v, vs, rfl, outsA_sound h (ps := ps) (by simpa using hl) hr fun j => by have := hg (j + 1); cases avs <;> simpa using this⟩
  | .mut agg t :: ps, avs, v :: vs, y, own, ro, hl, hr, hg => by
    simp only [outsA] at hr
    split at hr
    · rename_i b cs avs
      split at hr
      · rename_i hc
        split at hr
        · rename_i x own1 ro1 h1
          split at hr
          · rename_i xs own' ro' h2
            simp only [Option.some.injEq, Prod.mk.injEq] at hr
            obtain ⟨rfl, rfl, rfl⟩ := hr
            have ih := outsA_sound h (ps := ps) (avs := avs) (vs := vs) (by simpa using hl) h2 fun j => by have := hg (j + 1); simpa using this
            have h0 : isAV ρ (.comp b cs) v := by have := hg 0; simpa using this
            refine ⟨v, vs, own1.flatMap S, own'.flatMap S, rfl, by simp, ?_, ?_⟩
            · rw [hhead_hcons]
              exact valRep_mono (lent_mono fun i hi => List.mem_append_left _ hi) (val_of h.blks hc h1 h0).2
            · rw [htail_hcons]
              exact outsRep_mono (lent_mono fun i hi => List.mem_append_right _ hi) ih
          · cases hr
        · cases hr
      · cases hr
    · cases hr
  | .refm t T off :: ps, avs, v :: vs, y, own, ro, hl, hr, hg => by
    simp only [outsA] at hr
    split at hr
    · rename_i id o avs
      split at hr
      · rename_i cs T0 hb
        split at hr
        · rename_i hT
          obtain ⟨hT, ho⟩ := hT
          subst hT; subst ho
          split at hr
          · rename_i x own1 ro1 h1
            split at hr
            · rename_i xs own' ro' h2
              simp only [Option.some.injEq, Prod.mk.injEq] at hr
              obtain ⟨rfl, rfl, rfl⟩ := hr
              have ih := outsA_sound h (ps := ps) (avs := avs) (vs := vs) (by simpa using hl) h2 fun j => by have := hg (j + 1); simpa using this
              have h0 : isAV ρ (.comp false [.ptr id o]) v := by have := hg 0; simpa using this
              obtain ⟨g, f1, f2⟩ := isAV_one (by simp) h0
              have hb' := h.blks id
              rw [hb] at hb'
              obtain ⟨g', us, h3, hSi, h4, h5⟩ := hb'
              rw [f1] at h3
              simp only [Option.some.injEq, Value.pointer.injEq, Addr.mk.injEq, and_true] at h3
              subst h3
              refine ⟨v, vs, g :: own1.flatMap S, own'.flatMap S, rfl, by simp [hSi], ⟨g, us, own1.flatMap S, f2, rfl, h4, ?_⟩, ?_⟩
              · rw [hhead_hcons]
                exact rep_keep (fun _ _ => rfl) (lent_mono fun i hi => List.mem_append_left _ hi) (fun _ _ => rfl) (reify_sound h.blks h1 h5)
              · rw [htail_hcons]
                exact outsRep_mono (lent_mono fun i hi => List.mem_append_right _ hi) ih
            · cases hr
          · cases hr
        · cases hr
      · cases hr
    · cases hr
  | _ :: _, _, [], _, _, _, hl, _, _ => by simp at hl

theorem argsRep_len : ∀ {ps : List Par} {x : HL (argTys ps)} {vs : List Value} {T : List Nat}, argsRep w R ps x vs T → vs.length = ps.length
  | [], _, _, _, ⟨h, _⟩ => by rw [h]; rfl
  | .val _ _ :: _, _, _, _, ⟨v, vs', S1, S2, h1, h2, h3, h4⟩ => by rw [h1]; simp [argsRep_len h4]
  | .mut _ _ :: _, _, _, _, ⟨v, vs', S1, S2, h1, h2, h3, h4⟩ => by rw [h1]; simp [argsRep_len h4]
  | .ref _ :: _, _, _, _, ⟨v, vs', h1, h2, h3⟩ => by rw [h1]; simp [argsRep_len h3]
  | .refm _ _ _ :: _, _, _, _, ⟨v, vs', S1, S2, h1, h2, h3, h4⟩ => by rw [h1]; simp [argsRep_len h4]
  | .fn _ :: _, _, _, _, ⟨vs', h1, h2⟩ => by rw [h1]; simp [argsRep_len h2]

/-- The contract of a function of which 'runFn' says what it computes. -/
theorem meets_of (hC : CtxOk P C) {f : FuncId} {fn : Func} {c : Con} (hf : P.funcs[f]? = some fn) (he : (P.funcs[f]?).map (fun fn => (fn.name == "runtime.NumGoroutine", fn.body.isNone)) = some (false, false))
    (hrun : ∀ x r, c.F x = some r → runFn C fn c x = some r) : Meets P f c := by
  refine ⟨he, fun x r hx w R S vs hargs hnd hoff hlt hgl => ?_⟩
  have hr := hrun x r hx
  unfold runFn at hr
  split at hr
  · rename_i body hbody
    have hg := entry_good (fn := fn) hargs hnd hoff hlt hgl
    have hl := argsRep_len hargs
    refine calls_of_wp hf hbody (run_sound hC body _ _ r hr _ w _ (by simpa using hg) ?_)
    intro ex e s a w' hex hk ⟨ρ, Sx, R1, hg'⟩
    have fin : finish C fn c s = some r → bodyPost P fn (fun e w' => ∃ (us : List Value) (R' : Nat → Prop) (S1 S2 : List Nat), e = .returned (pack us) ∧ resRep w' R' c.rs (outTys c.ps) r us S1 ∧ outsRep w' R' c.ps (resRest c.rs _ r) vs S2 ∧
        (S1 ++ S2).Nodup ∧ (∀ b ∈ S1 ++ S2, (b ∈ S ∨ w.heap.size ≤ b) ∧ ¬ R' b) ∧ Keeps (· ∈ S) w w' ∧ (∀ b, R b → R' b) ∧ (∀ b, R' b → (R b ∨ b ∈ S ∨ w.heap.size ≤ b) ∧ b < w'.heap.size)) .normal a w' := by
      intro hfin
      unfold finish at hfin
      split at hfin
      · rename_i z taken ro hz
        split at hfin
        · rename_i hc
          simp only [Option.some.injEq] at hfin
          subst hfin
          obtain ⟨o1, r1, o2, r2, us, e1, e2, e3, e4, e5⟩ := resA_sound hC.ti hg'.inv hz
          have houts := outsA_sound hg'.inv (vs := vs) hl e1 hg'.ghost
          obtain ⟨hc1, hc2⟩ := hc
          have hnt := nodupB_sound hc1
          have hnd' := nodup_flat (S := Sx) hg'.inv.nodup hg'.inv.disj hnt
          have hro : ∀ i ∈ ro, i ∉ taken := fun i hi => by
            have := List.all_eq_true.1 hc2 i hi
            simpa using this
          subst e2; subst e3
          refine ⟨hg'.inv.defers, pack us, run_results e5, us, lent R1 Sx (r1 ++ r2), o1.flatMap Sx, o2.flatMap Sx, rfl, resRep_mono (lent_mono fun i hi => List.mem_append_left _ hi) e4,
            outsRep_mono (lent_mono fun i hi => List.mem_append_right _ hi) houts, by simpa using hnd', fun b hb => ?_, hg'.keep, fun b hb => .inl (hg'.RR b hb), fun b hb => ?_⟩
          · rw [← List.flatMap_append] at hb
            obtain ⟨i, hi, hib⟩ := List.mem_flatMap.1 hb
            refine ⟨hg'.own i b hib, ?_⟩
            rintro (h1 | ⟨j, hj, hjb⟩)
            · exact hg'.inv.offR i b hib h1
            · exact hg'.inv.disj i j (fun e => hro j hj (by rw [← e]; exact hi)) b hib hjb
          · rcases hb with h1 | ⟨j, hj, hjb⟩
            · exact ⟨hg'.Rn b h1, hg'.inv.Rlt b h1⟩
            · exact ⟨.inr (hg'.own j b hjb), hg'.inv.lt j b hjb⟩
        · cases hfin
      · cases hfin
    cases ex with
    | norm => cases hex; exact fin hk
    | ret => cases hex; exact fin hk
    | exit id => cases hk
  · cases hr

end Go.Eng
