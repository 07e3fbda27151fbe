/- The engine, part 15: a call of a function whose contract is known does in the model what part 12 says. Conditions: the contract holds. -/
import Derived.Test.YtjkaapoklbhokaaDoorEng14
set_option linter.all false
namespace Go.Eng
open Go.RowKit

variable {P : Program} {ti : Nat → Option TI}
variable {n : Nat} {w w' : World} {R R' : Nat → Prop} {sl : Nat → AV} {bk : Nat → Blk} {ρ ρ' : Rho} {S S' : Nat → List Nat} {a : Act} {e : Eff} {v : Value} {o : Oper} {nx : Nat}

theorem elems_own {t : Ty} (ih : ∀ {x : t.den} {cs : List Value} {T : List Nat}, rep w R t x cs T → rep w R' t x cs T) : ∀ {xs : List t.den} {cs : List Value} {T : List Nat}, elemsR (rep w R t) xs cs T → elemsR (rep w R' t) xs cs T
  | [], _, _, h => h
  | _ :: _, _, _, ⟨c1, c2, S1, S2, h1, h2, h3, h4⟩ => ⟨c1, c2, S1, S2, h1, h2, ih h3, elems_own ih h4⟩

theorem rep_own : ∀ {t : Ty} {x : t.den} {cs : List Value} {T : List Nat}, t.allOwn = true → rep w R t x cs T → rep w R' t x cs T
  | .int _, _, _, _, _, h => h
  | .bool, _, _, _, _, h => h
  | .str, _, _, _, _, h => h
  | .map _, _, _, _, ho, _ => by simp [Ty.allOwn] at ho
  | .pair a b, _, _, _, ho, ⟨c1, c2, S1, S2, h1, h2, h3, h4⟩ => by
    simp only [Ty.allOwn, Bool.and_eq_true] at ho
    exact ⟨c1, c2, S1, S2, h1, h2, rep_own ho.1 h3, rep_own ho.2 h4⟩
  | .row o e t, _, _, _, ho, ⟨v, flat, Se, h1, h2, h3⟩ => by
    simp only [Ty.allOwn, Bool.and_eq_true] at ho
    obtain ⟨rfl, ho⟩ := ho
    exact ⟨v, flat, Se, h1, elems_own (rep_own ho) h2, h3⟩

theorem valRep_own {b : Bool} {t : Ty} {x : t.den} {T : List Nat} (ho : t.allOwn = true) (h : valRep w R b t x v T) : valRep w R' b t x v T := by
  obtain ⟨cs, h1, h2⟩ := h
  exact ⟨cs, rep_own ho h1, h2⟩

theorem resVal_own {k : RK} {t : Ty} {x : t.den} {T : List Nat} (ho : t.allOwn = true) (h : resVal w R k t x v T) : resVal w R' k t x v T := by
  cases k with
  | val b => exact valRep_own ho h
  | box T0 =>
    obtain ⟨g, cs, U, h3, h4, h5, h6⟩ := h
    exact ⟨g, cs, U, h3, h4, h5, rep_own ho h6⟩

theorem resRep_own : ∀ {rs : List (RK × Ty)} {tl : List Ty} {r : HL (resTys rs tl)} {us : List Value} {T : List Nat}, rs.all (fun p => p.2.allOwn) = true → resRep w R rs tl r us T → resRep w R' rs tl r us T
  | [], _, _, _, _, _, h => h
  | (b, t) :: rs, tl, r, us, T, ho, ⟨v, vs', S1, S2, h1, h2, h3, h4⟩ => by
    simp only [List.all_cons, Bool.and_eq_true] at ho
    exact ⟨v, vs', S1, S2, h1, h2, resVal_own ho.1 h3, resRep_own ho.2 h4⟩

theorem outsRep_own : ∀ {ps : List Par} {y : HL (outTys ps)} {us : List Value} {T : List Nat}, (outTys ps).all Ty.allOwn = true → outsRep w R ps y us T → outsRep w R' ps y us T
  | [], _, _, _, _, h => h
  | .val _ _ :: ps, y, us, T, ho, ⟨v, vs', h1, h2⟩ => ⟨v, vs', h1, outsRep_own (ps := ps) ho h2⟩
  | .ref _ :: ps, y, us, T, ho, ⟨v, vs', h1, h2⟩ => ⟨v, vs', h1, outsRep_own (ps := ps) ho h2⟩
  | .fn _ :: ps, y, us, T, ho, ⟨v, vs', h1, h2⟩ => ⟨v, vs', h1, outsRep_own (ps := ps) ho h2⟩
  | .mut b t :: ps, y, us, T, ho, ⟨v, vs', S1, S2, h1, h2, h3, h4⟩ => by
    simp only [outTys, List.all_cons, Bool.and_eq_true] at ho
    exact ⟨v, vs', S1, S2, h1, h2, valRep_own ho.1 h3, outsRep_own ho.2 h4⟩
  | .refm t T0 off :: ps, y, us, T, ho, ⟨v, vs', S1, S2, h1, h2, ⟨g, cs, U, h3, h4, h5, h6⟩, h7⟩ => by
    simp only [outTys, List.all_cons, Bool.and_eq_true] at ho
    exact ⟨v, vs', S1, S2, h1, h2, ⟨g, cs, U, h3, h4, h5, rep_own ho.1 h6⟩, outsRep_own ho.2 h7⟩

theorem pack_sound : ∀ {comps : List Comp} {us : List Value}, All2 (isComp ρ) comps us → isAV ρ (packA comps) (pack us)
  | [], [], _ => ⟨[], rfl, trivial⟩
  | [_], [_], h => .inr h.1
  | _ :: _ :: _, u1 :: u2 :: us, h => ⟨u1 :: u2 :: us, rfl, h⟩
  | [], _ :: _, h => h.elim
  | _ :: _, [], h => h.elim
  | [_], _ :: _ :: _, h => h.2.elim
  | _ :: _ :: _, [_], h => h.2.elim

theorem safe_nil (h : Inv n w R sl bk ρ S a) {i : Nat} (hs : safeRo (bk i) = true) : S i = [] := by
  have hb := h.blks i
  cases hbk : bk i with
  | dead => rw [hbk] at hs; simp [safeRo] at hs
  | cells cs t => rw [hbk] at hs; simp [safeRo] at hs
  | mp nn own l => rw [hbk] at hs; simp [safeRo] at hs
  | hole e t xs ix j u c => rw [hbk] at hs; simp [safeRo] at hs
  | row own e t xs =>
    rw [hbk] at hs hb
    cases own
    · simp only [safeRo, decide_eq_true_eq] at hs
      obtain ⟨u, _, h2⟩ := hb
      exact rep_ro_nil (t := .row false e t) (by simp only [Ty.ro, hs]) h2
    · simp [safeRo] at hs

theorem filter_not {l : List Nat} {m : List Nat} : ∀ i ∈ l.filter (fun i => !m.contains i), i ∈ l ∧ i ∉ m := by
  intro i hi
  rw [List.mem_filter] at hi
  exact ⟨hi.1, by simpa using hi.2⟩

theorem run_enter {f : FuncId} (h : (P.funcs[f]?).map (fun fn => (fn.name == "runtime.NumGoroutine", fn.body.isNone)) = some (false, false)) (args : Array Value) (w : World) : (callFunc f args).run P w = .ok (.enter f args) w := by
  cases hf : P.funcs[f]? with
  | none => simp [hf] at h
  | some fn =>
    simp only [hf, Option.map_some, Option.some.injEq, Prod.mk.injEq] at h
    have n1 : ¬ fn.name = "runtime.NumGoroutine" := by simpa using h.1
    have n2 : ¬ fn.body = none := fun e => by rw [e] at h; simp at h
    simp [callFunc, hf, n1, n2]

/-- A row that was taken out of an element is put back behind what has been done to it. -/
theorem post_join (h : Inv n w R sl bk ρ S a) {v0 : AV} {upd l : List (Nat × Blk)} {i : Nat} (hj : joinAt bk upd i = some l) (p : Post w R ρ S bk ⟨v0, upd⟩ w' R' ρ' S' v) : ∃ S'', Post w R ρ S bk ⟨v0, l ++ upd⟩ w' R' ρ' S'' v := by
  classical
  unfold joinAt at hj
  split at hj
  · rename_i e t xs ix j u c hbi
    split at hj
    · cases hj
    · rename_i hi
      split at hj
      · rename_i hc
        split at hj
        · rename_i y c' hre
          split at hj
          · rename_i hcc
            subst hcc
            simp only [Option.some.injEq] at hj
            subst hj
            have hi' : i ∉ Eff.ids ⟨v0, upd⟩ := by simpa [Eff.ids] using hi
            have hc' : c' ∈ Eff.ids ⟨v0, upd⟩ := by simpa [Eff.ids] using hc
            have hic : i ≠ c' := fun e => hi' (e ▸ hc')
            have hb := h.blks i
            rw [hbi] at hb
            obtain ⟨vi, uv, h1, h2, h3, h4⟩ := hb
            have I' := h.step p none
            have hr := reify_sound I'.blks hre (vs := [uv]) ⟨p.ext _ _ h2, trivial⟩
            simp only [List.flatMap_cons, List.flatMap_nil, List.append_nil, lent_nil] at hr
            have hSk : ∀ k ∈ Eff.ids ⟨v0, upd⟩, ∀ b ∈ S' k, b ∉ S i := by
              intro k hk b hb hb'
              rcases p.own k hk b hb with ⟨q, hq, hqb⟩ | hge
              · exact h.disj q i (fun e => hi' (e ▸ hq)) b hqb hb'
              · have := h.lt i b hb'; omega
            obtain ⟨T, hT1, hT2⟩ := h4 w' R' (fun b hb => p.keeps.block b (h.lt i b hb) (fun ⟨k, hk, hkb⟩ => h.disj i k (fun e => hi' (e ▸ hk)) b hb hkb))
              (fun b hb => p.keeps.block b (h.Rlt b hb) (fun ⟨k, hk, hkb⟩ => h.offR k b hkb hb)) p.RR y (S' c') hr
            have hTm : ∀ b, b ∈ T ↔ b ∈ S i ∨ b ∈ S' c' := fun b => by rw [hT2.mem_iff, List.mem_append]
            have hids : ∀ k, k ∈ Eff.ids ⟨v0, [(i, Blk.row true e t (xset (α := t.den) xs ix (setDen t (xget (α := t.den) xs ix t.dflt) j u y))), (c', .dead)] ++ upd⟩ ↔ k = i ∨ k ∈ Eff.ids ⟨v0, upd⟩ := by
              intro k
              simp only [Eff.ids, List.map_append, List.map_cons, List.map_nil, List.cons_append, List.nil_append, List.mem_cons]
              constructor
              · rintro (h | h | h)
                · exact .inl h
                · exact .inr (by rw [h]; simpa [Eff.ids] using hc')
                · exact .inr h
              · rintro (h | h)
                · exact .inl h
                · exact .inr (.inr h)
            refine ⟨fun k => if k = i then T else if k = c' then [] else S' k, p.ext, fun k hk => p.sameρ k (fun hm => hk ((hids k).2 (.inr hm))), p.one, fun k hk => ?_, fun k hk => ?_, p.keeps.mono fun b _ ⟨k, hk, hkb⟩ => ⟨k, (hids k).2 (.inr hk), hkb⟩, fun k hk b hb => ?_, fun k hk => ?_, fun k hk m hm hkm b hb hb' => ?_, p.RR,
              fun b hb => ?_, p.Rlt, fun k hk b hb hR => ?_, p.val⟩
            · have n1 : k ≠ i := fun e => hk ((hids k).2 (.inl e))
              have n2 : k ∉ Eff.ids ⟨v0, upd⟩ := fun e => hk ((hids k).2 (.inr e))
              have n3 : k ≠ c' := fun e => n2 (e ▸ hc')
              simp only [if_neg n1, if_neg n3]
              exact p.sameS k n2
            · by_cases k1 : k = i
              · subst k1
                simp only [if_pos, List.cons_append, updBk]
                exact ⟨vi, by rw [p.sameρ _ hi']; exact h1, hT1⟩
              · by_cases k2 : k = c'
                · subst k2
                  simp only [if_neg k1, if_pos, List.cons_append, updBk]
                  rfl
                · simp only [if_neg k1, if_neg k2, List.cons_append, List.nil_append, updBk]
                  exact p.blk k (((hids k).1 hk).resolve_left k1)
            · by_cases k1 : k = i
              · simp only [if_pos k1] at hb
                rcases (hTm b).1 hb with hb | hb
                · exact .inl ⟨i, (hids i).2 (.inl rfl), hb⟩
                · exact (p.own c' hc' b hb).imp (fun ⟨q, hq, hqb⟩ => ⟨q, (hids q).2 (.inr hq), hqb⟩) id
              · by_cases k2 : k = c'
                · simp only [if_neg k1, if_pos k2] at hb; simp at hb
                · simp only [if_neg k1, if_neg k2] at hb
                  exact (p.own k (((hids k).1 hk).resolve_left k1) b hb).imp (fun ⟨q, hq, hqb⟩ => ⟨q, (hids q).2 (.inr hq), hqb⟩) id
            · by_cases k1 : k = i
              · simp only [if_pos k1]
                rw [hT2.nodup_iff, List.nodup_append]
                exact ⟨h.nodup i, p.nodup c' hc', fun b hb b' hb' e' => hSk c' hc' b' hb' (e' ▸ hb)⟩
              · by_cases k2 : k = c'
                · simp only [if_neg k1, if_pos k2]; exact List.nodup_nil
                · simp only [if_neg k1, if_neg k2]
                  exact p.nodup k (((hids k).1 hk).resolve_left k1)
            · by_cases k1 : k = i
              · simp only [if_pos k1] at hb
                have m1 : m ≠ i := fun e => hkm (k1.trans e.symm)
                have hm' := ((hids m).1 hm).resolve_left m1
                by_cases m2 : m = c'
                · simp only [if_neg m1, if_pos m2] at hb'; simp at hb'
                · simp only [if_neg m1, if_neg m2] at hb'
                  rcases (hTm b).1 hb with hb | hb
                  · exact hSk m hm' b hb' hb
                  · exact p.disj c' hc' m hm' (Ne.symm m2) b hb hb'
              · have hk' := ((hids k).1 hk).resolve_left k1
                by_cases k2 : k = c'
                · simp only [if_neg k1, if_pos k2] at hb; simp at hb
                · simp only [if_neg k1, if_neg k2] at hb
                  by_cases m1 : m = i
                  · simp only [if_pos m1] at hb'
                    rcases (hTm b).1 hb' with hb' | hb'
                    · exact hSk k hk' b hb hb'
                    · exact p.disj c' hc' k hk' (Ne.symm k2) b hb' hb
                  · have hm' := ((hids m).1 hm).resolve_left m1
                    by_cases m2 : m = c'
                    · simp only [if_neg m1, if_pos m2] at hb'; simp at hb'
                    · simp only [if_neg m1, if_neg m2] at hb'
                      exact p.disj k hk' m hm' hkm b hb hb'
            · rcases p.Rnew b hb with h1 | ⟨q, hq, hqb⟩ | h1
              · exact .inl h1
              · exact .inr (.inl ⟨q, (hids q).2 (.inr hq), hqb⟩)
              · exact .inr (.inr h1)
            · by_cases k1 : k = i
              · simp only [if_pos k1] at hb
                rcases (hTm b).1 hb with hb | hb
                · rcases p.Rnew b hR with h1 | ⟨q, hq, hqb⟩ | h1
                  · exact h.offR i b hb h1
                  · exact h.disj q i (fun e => hi' (e ▸ hq)) b hqb hb
                  · have := h.lt i b hb; omega
                · exact p.offR c' hc' b hb hR
              · by_cases k2 : k = c'
                · simp only [if_neg k1, if_pos k2] at hb; simp at hb
                · simp only [if_neg k1, if_neg k2] at hb
                  exact p.offR k (((hids k).1 hk).resolve_left k1) b hb hR
          · cases hj
        · cases hj
      · cases hj
  · cases hj

theorem join_ids {bk : Nat → Blk} {upd l : List (Nat × Blk)} {i : Nat} : ∀ k ∈ upd.map (·.1), k ∈ (l ++ upd).map (·.1) := fun k hk => by
  rw [List.map_append]; exact List.mem_append_right _ hk

theorem joinU_sound {v0 : AV} {upd : List (Nat × Blk)} (H : OpSound P o sl bk nx ⟨v0, upd⟩) : ∀ m, OpSound P o sl bk nx ⟨v0, joinU bk m upd⟩
  | 0 => H
  | m + 1 => by
    unfold joinU
    split
    · rename_i l hl
      intro n w R ρ S a next Q h hf hk
      refine H n w R ρ S a next Q h (fun i hi => hf i (join_ids (bk := bk) (i := 0) i hi)) fun w' R' ρ' S' v p => ?_
      obtain ⟨S'', p'⟩ := post_join h hl p
      exact hk _ _ _ _ _ p'
    · exact joinU_sound H m

theorem joinC_sound {v0 : AV} {upd : List (Nat × Blk)} {c : Con} (H : OpSound P o sl bk nx ⟨v0, upd⟩) : OpSound P o sl bk nx ⟨v0, joinC c bk nx upd⟩ := by
  unfold joinC
  split
  · exact joinU_sound H nx
  · exact H

theorem ent_fn {f : FuncId} {c : Con} {fo : Operand} {args : Array Operand} {tys : Array TypeId} (hm : Meets P f c) (ho : o.op = .call ⟨.value fo, args, tys⟩) (hf : evalA sl fo = .comp false [.fn f])
    (n : Nat) (w : World) (R : Nat → Prop) (ρ : Rho) (S : Nat → List Nat) (a : Act) (hI : Inv n w R sl bk ρ S a) : ∃ vs : List Value, All2 (isAV ρ) (args.toList.map (evalA sl)) vs ∧ (execOp a.eval o).run P w = .ok (.enter f vs.toArray) w := by
  refine ⟨args.toList.map a.eval, evs_sound hI _, ?_⟩
  have hfv : a.eval fo = .func (.func f) #[] #[] := ev_at hI hf (by simp)
  have e1 : (#[] : Array Value) ++ args.map a.eval ++ #[] = (args.toList.map a.eval).toArray := by
    apply Array.toList_inj.1; simp
  have := run_enter hm.enters ((args.toList.map a.eval).toArray) w
  simp only [execOp, ho, resolve, Sem.run_bind, Sem.run_pure, Deferred.ofValue, hfv, Result.andThen_ok, invoke, e1, this]

theorem caps_av {ρ : Rho} : ∀ {l : List (Nat × Nat)} {vs : List Value}, All2 (fun p u => ∃ g, ρ p.1 = some (.pointer (some ⟨g, 0, none⟩)) ∧ u = .pointer (some ⟨g, p.2, none⟩)) l vs → All2 (isAV ρ) (l.map fun p => .comp false [.ptr p.1 p.2]) vs
  | [], [], _ => trivial
  | _ :: _, _ :: _, h => ⟨isAV_of h.1, caps_av h.2⟩
  | [], _ :: _, h => h.elim
  | _ :: _, [], h => h.elim

theorem ent_clo {f : FuncId} {caps : List (Nat × Nat)} {c : Con} {fo : Operand} {args : Array Operand} {tys : Array TypeId} (hm : Meets P f c) (ho : o.op = .call ⟨.value fo, args, tys⟩) (hf : evalA sl fo = .comp false [.clo f caps])
    (n : Nat) (w : World) (R : Nat → Prop) (ρ : Rho) (S : Nat → List Nat) (a : Act) (hI : Inv n w R sl bk ρ S a) :
    ∃ vs : List Value, All2 (isAV ρ) (args.toList.map (evalA sl) ++ caps.map fun p => .comp false [.ptr p.1 p.2]) vs ∧ (execOp a.eval o).run P w = .ok (.enter f vs.toArray) w := by
  obtain ⟨us, hfv, hus⟩ := ev_at hI hf (by simp)
  refine ⟨args.toList.map a.eval ++ us, (evs_sound hI _).append (caps_av hus), ?_⟩
  have e1 : (#[] : Array Value) ++ args.map a.eval ++ List.toArray us = (args.toList.map a.eval ++ us).toArray := by
    apply Array.toList_inj.1; simp
  have := run_enter hm.enters ((args.toList.map a.eval ++ us).toArray) w
  simp only [execOp, ho, resolve, Sem.run_bind, Sem.run_pure, Deferred.ofValue, hfv, Result.andThen_ok, invoke, e1, this]

theorem callK_sound {X : Type} {c : Con} {f : FuncId} {avs : List AV} {k : Eff → Option X} {d : X} (hlt : ∀ i, nx ≤ i → bk i = .dead) (hm : Meets P f c)
    (hent : ∀ (n : Nat) (w : World) (R : Nat → Prop) (ρ : Rho) (S : Nat → List Nat) (a : Act), Inv n w R sl bk ρ S a → ∃ vs : List Value, All2 (isAV ρ) avs vs ∧ (execOp a.eval o).run P w = .ok (.enter f vs.toArray) w) (h : callK c nx bk avs k = some d) : ∃ e, k e = some d ∧ OpSound P o sl bk nx e := by
  unfold callK at h
  split at h
  · rename_i x taken ro ha
    split at h
    · rename_i hc
      obtain ⟨hc1, hc2, hc3⟩ := hc
      cases hr : c.F x with
      | none => rw [hr] at h; cases h
      | some r =>
        rw [hr] at h
        refine ⟨_, h, joinC_sound ?_⟩
        intro n w R ρ S a next Q hI hfr hk
        obtain ⟨vs, hvs, hrun⟩ := hent n w R ρ S a hI
        have hargs := argsA_sound hI ha hvs
        have hnt := nodupB_sound hc1
        have hnd := nodup_flat (S := S) hI.nodup hI.disj hnt
        have hro : ∀ i ∈ ro, i ∉ taken := fun i hi => by
          have := List.all_eq_true.1 hc2 i hi
          simpa using this
        have hoff : ∀ b ∈ taken.flatMap S, ¬ lent R S ro b := by
          intro b hb hl
          obtain ⟨i, hi, hib⟩ := List.mem_flatMap.1 hb
          rcases hl with hl | ⟨j, hj, hjb⟩
          · exact hI.offR i b hib hl
          · exact hI.disj i j (fun e => hro j hj (by rw [← e]; exact hi)) b hib hjb
        have hcall := hm.calls x r hr w (lent R S ro) (taken.flatMap S) vs hargs hnd hoff (fun b hb => by
          rcases hb with hb | ⟨j, _, hjb⟩
          · exact hI.Rlt b hb
          · exact hI.lt j b hjb) (hI.glob.keep (fun _ _ => rfl) (fun _ hb => .inl hb))
        unfold Oper.wp
        rw [hrun, Oper.upon_enter]
        refine hcall.mono ?_
        rintro en w' ⟨us, R'', S1, S2, rfl, hres, houts, hndS, hSb, hkeep, hRR, hRn⟩
        -- R behind the call
        obtain ⟨R', hres, houts, hRR', hRn', hoffR'⟩ : ∃ R' : Nat → Prop, resRep w' R' c.rs (outTys c.ps) r us S1 ∧ outsRep w' R' c.ps (resRest c.rs _ r) vs S2 ∧ (∀ b, R b → R' b) ∧
            (∀ b, R' b → (R b ∨ b ∈ taken.flatMap S ∨ w.heap.size ≤ b) ∧ b < w'.heap.size) ∧ ∀ b ∈ S1 ++ S2, ¬ R' b := by
          by_cases hown : allOwnB c.rs c.ps = true
          · simp only [allOwnB, Bool.and_eq_true] at hown
            exact ⟨R, resRep_own hown.1 hres, outsRep_own hown.2 houts, fun _ h => h, fun b hb => ⟨.inl hb, Nat.lt_of_lt_of_le (hI.Rlt b hb) hkeep.size⟩, fun b hb hR => (hSb b hb).2 (hRR b (.inl hR))⟩
          · have hsafe : ro.all (fun i => safeRo (bk i)) = true := by simpa [hown] using hc3
            refine ⟨R'', hres, houts, fun b hb => hRR b (.inl hb), fun b hb => ⟨?_, (hRn b hb).2⟩, fun b hb => (hSb b hb).2⟩
            rcases (hRn b hb).1 with h1 | h1
            · rcases h1 with h1 | ⟨j, hj, hjb⟩
              · exact .inl h1
              · rw [safe_nil hI (List.all_eq_true.1 hsafe j hj)] at hjb; simp at hjb
            · exact .inr h1
        obtain ⟨m1, r1⟩ := injRs_ids (rs := c.rs) (r := r) (n := nx)
        obtain ⟨_, r2, r3⟩ := injOuts_ids hlt (ps := c.ps) (y := resRest c.rs _ r) (n := (injRs c.rs _ r nx).2.2) ha (by omega)
        obtain ⟨q1, q2, lo⟩ := injOuts_sound (w' := w') (R' := R') hlt hI (ps := c.ps) (m := (injRs c.rs _ r nx).2.2) ha hvs houts hnt (by omega)
        have lr := injRs_sound (ρ := ρ) (n := nx) hres
        have hd : ∀ i ∈ (injOuts c.ps (resRest c.rs _ r) avs (injRs c.rs _ r nx).2.2).1.map (·.1), i ∉ (injRs c.rs _ r nx).2.1.map (·.1) := by
          intro i hi hi'
          rw [r1, List.mem_range'_1] at hi'
          rcases q1 i hi with h3 | h3
          · have := r3 i h3; omega
          · rw [r2, List.mem_range'_1] at h3; omega
        have lall := (lo.append lr hd q2 (fun _ hi => hi)).weak (Q' := fun ρ' => All2 (isComp ρ') (injRs c.rs _ r nx).1 us) fun _ _ hq => hq.2
        obtain ⟨vals, Sx, e1, o1, k1⟩ := lall.laid
        -- names
        generalize hO : (injOuts c.ps (resRest c.rs _ r) avs (injRs c.rs _ r nx).2.2).1 = O at *
        generalize hN : (injOuts c.ps (resRest c.rs _ r) avs (injRs c.rs _ r nx).2.2).2.1 = N at *
        have hupd : callUpd c nx avs taken r = (O ++ (injRs c.rs _ r nx).2.1) ++ deads (taken.filter fun i => !(O.map (·.1)).contains i) := by
          unfold callUpd; rw [hO]
        have hids : (Eff.ids ⟨packA (injRs c.rs _ r nx).1, callUpd c nx avs taken r⟩) = (O ++ (injRs c.rs _ r nx).2.1).map (·.1) ++ taken.filter fun i => !(O.map (·.1)).contains i := by
          unfold Eff.ids
          rw [hupd, List.map_append, deads_ids]
        have htk : ∀ i ∈ taken, i ∈ (Eff.ids ⟨packA (injRs c.rs _ r nx).1, callUpd c nx avs taken r⟩) := by
          intro i hi
          rw [hids, List.map_append, List.mem_append, List.mem_append]
          by_cases hiO : i ∈ O.map (·.1)
          · exact .inl (.inl hiO)
          · exact .inr (List.mem_filter.2 ⟨hi, by simpa using hiO⟩)
        have hnew : ∀ i ∈ N ++ (injRs c.rs _ r nx).2.1.map (·.1), i ∈ (Eff.ids ⟨packA (injRs c.rs _ r nx).1, callUpd c nx avs taken r⟩) ∧ nx ≤ i := by
          intro i hi
          rw [hids, List.map_append]
          rcases List.mem_append.1 hi with hi | hi
          · refine ⟨List.mem_append_left _ (List.mem_append_left _ (q2 i hi)), ?_⟩
            rw [r2, List.mem_range'_1] at hi; omega
          · refine ⟨List.mem_append_left _ (List.mem_append_right _ hi), ?_⟩
            rw [r1, List.mem_range'_1] at hi; omega
        have hfresh : ∀ i ∈ N ++ (injRs c.rs _ r nx).2.1.map (·.1), ρ i = none := fun i hi => hfr i (hnew i hi).1 (hnew i hi).2
        obtain ⟨p1, p2⟩ := k1 (ρ.add (N ++ (injRs c.rs _ r nx).2.1.map (·.1)) vals) (Rho.add_ext hfresh) (fun i hi => Rho.add_mem hi)
        have hrest : ∀ i ∈ taken.filter (fun i => !(O.map (·.1)).contains i), i ∉ (O ++ (injRs c.rs _ r nx).2.1).map (·.1) := by
          intro i hi hi'
          obtain ⟨h1, h2⟩ := filter_not i hi
          rw [List.map_append, List.mem_append] at hi'
          rcases hi' with hi' | hi'
          · exact h2 hi'
          · rw [r1, List.mem_range'_1] at hi'
            have := r3 i h1; omega
        have hSx : ∀ i ∈ (O ++ (injRs c.rs _ r nx).2.1).map (·.1), ∀ b ∈ Sx i, b ∈ S2 ++ S1 := by
          intro i hi b hb
          rw [e1]; exact List.mem_flatMap.2 ⟨i, hi, hb⟩
        have hsw : ∀ b, b ∈ S2 ++ S1 → b ∈ S1 ++ S2 := fun b hb => by
          rcases List.mem_append.1 hb with h' | h'
          · exact List.mem_append_right _ h'
          · exact List.mem_append_left _ h'
        have hin : ∀ b ∈ taken.flatMap S, ∃ j ∈ (Eff.ids ⟨packA (injRs c.rs _ r nx).1, callUpd c nx avs taken r⟩), b ∈ S j := by
          intro b hb
          obtain ⟨i, hi, hib⟩ := List.mem_flatMap.1 hb
          exact ⟨i, htk i hi, hib⟩
        obtain ⟨ρ', S', hp⟩ := Post.of (e := ⟨packA (injRs c.rs _ r nx).1, callUpd c nx avs taken r⟩) (w' := w') (R' := R') (v := pack us) hI (new := N ++ (injRs c.rs _ r nx).2.1.map (·.1)) (vals := vals)
          (Sx := fun i => if i ∈ (O ++ (injRs c.rs _ r nx).2.1).map (·.1) then Sx i else [])
          (fun i hi => (hnew i hi).1) hfresh o1 (hkeep.mono fun b _ hb => hin b hb)
          (fun i hi => by
            rw [hids, List.mem_append] at hi
            rcases hi with hi | hi
            · simp only [if_pos hi]
              rw [hupd, updBk_append]
              exact p2 _ i hi
            · simp only [if_neg (hrest i hi)]
              rw [hupd, updBk_append, updBk_not (hrest i hi), updBk_deads hi]
              rfl)
          (fun i hi b hb => by
            by_cases hi1 : i ∈ (O ++ (injRs c.rs _ r nx).2.1).map (·.1)
            · simp only [if_pos hi1] at hb
              rcases (hSb b (hsw b (hSx i hi1 b hb))).1 with h1 | h1
              · exact .inl (hin b h1)
              · exact .inr h1
            · simp only [if_neg hi1] at hb; simp at hb)
          (by
            rw [hids, List.flatMap_append]
            have e2 : (taken.filter fun i => !(O.map (·.1)).contains i).flatMap (fun i => if i ∈ (O ++ (injRs c.rs _ r nx).2.1).map (·.1) then Sx i else []) = [] := by
              rw [List.flatMap_eq_nil_iff]
              intro i hi
              rw [if_neg (hrest i hi)]
            have e3 : ((O ++ (injRs c.rs _ r nx).2.1).map (·.1)).flatMap (fun i => if i ∈ (O ++ (injRs c.rs _ r nx).2.1).map (·.1) then Sx i else []) = S2 ++ S1 := by
              rw [e1]; exact flatMap_eq fun i hi => by rw [if_pos hi]
            rw [e2, e3, List.append_nil]
            rw [List.nodup_append] at hndS ⊢
            exact ⟨hndS.2.1, hndS.1, fun x hx y hy e => hndS.2.2 y hy x hx e.symm⟩)
          hRR' (fun b hb => by
            rcases (hRn' b hb).1 with h1 | h1 | h1
            · exact .inl h1
            · exact .inr (.inl (hin b h1))
            · exact .inr (.inr h1))
          (fun b hb => (hRn' b hb).2)
          (fun i hi b hb hR => by
            by_cases hi1 : i ∈ (O ++ (injRs c.rs _ r nx).2.1).map (·.1)
            · simp only [if_pos hi1] at hb
              exact hoffR' b (hsw b (hSx i hi1 b hb)) hR
            · simp only [if_neg hi1] at hb; simp at hb)
          (pack_sound p1)
        exact hk _ _ _ _ _ hp
    · cases h
  · cases h

end Go.Eng
