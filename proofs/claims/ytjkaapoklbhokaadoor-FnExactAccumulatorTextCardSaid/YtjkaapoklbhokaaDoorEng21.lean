/- The engine, part 21: the entry of a function. Conditions: none. -/
import Derived.Test.YtjkaapoklbhokaaDoorEng20
set_option linter.all false
namespace Go.Eng
open Go.RowKit

variable {P : Program} {C : Ctx}
variable {n : Nat} {w w' : World} {R R' : Nat → Prop} {ρ ρ' : Rho} {S S' : Nat → List Nat}

theorem entryA_ids : ∀ {ps : List Par} {x : HL (argTys ps)} {n : Nat}, n ≤ (entryA ps x n).2.2 ∧ (entryA ps x n).2.1.map (·.1) = List.range' n ((entryA ps x n).2.2 - n)
  | [], _, n => by simp [entryA]
  | .val agg t :: ps, x, n => by
    obtain ⟨h1, h2⟩ := inject_ids (t := t) (x := hhead t _ x) (n := n)
    obtain ⟨h3, h4⟩ := entryA_ids (ps := ps) (x := htail t _ x) (n := (inject t (hhead t _ x) n).2.2)
    simp only [entryA, List.map_append, h2, h4]
    refine ⟨by omega, ?_⟩
    have e : (entryA ps (htail t _ x) (inject t (hhead t _ x) n).2.2).2.2 - n = ((inject t (hhead t _ x) n).2.2 - n) + ((entryA ps (htail t _ x) (inject t (hhead t _ x) n).2.2).2.2 - (inject t (hhead t _ x) n).2.2) := by omega
    rw [e, ← List.range'_append]
    congr 2
    omega
  | .mut agg t :: ps, x, n => by
    obtain ⟨h1, h2⟩ := inject_ids (t := t) (x := hhead t _ x) (n := n)
    obtain ⟨h3, h4⟩ := entryA_ids (ps := ps) (x := htail t _ x) (n := (inject t (hhead t _ x) n).2.2)
    simp only [entryA, List.map_append, h2, h4]
    refine ⟨by omega, ?_⟩
    have e : (entryA ps (htail t _ x) (inject t (hhead t _ x) n).2.2).2.2 - n = ((inject t (hhead t _ x) n).2.2 - n) + ((entryA ps (htail t _ x) (inject t (hhead t _ x) n).2.2).2.2 - (inject t (hhead t _ x) n).2.2) := by omega
    rw [e, ← List.range'_append]
    congr 2
    omega
  | .ref t :: ps, x, n => by
    obtain ⟨h3, h4⟩ := entryA_ids (ps := ps) (x := htail t _ x) (n := n + 1)
    simp only [entryA, List.map_cons, h4]
    refine ⟨by omega, ?_⟩
    rw [show (entryA ps (htail t _ x) (n + 1)).2.2 - n = ((entryA ps (htail t _ x) (n + 1)).2.2 - (n + 1)) + 1 from by omega, List.range'_succ]
  | .refm t T off :: ps, x, n => by
    obtain ⟨h1, h2⟩ := inject_ids (t := t) (x := hhead t _ x) (n := n + 1)
    obtain ⟨h3, h4⟩ := entryA_ids (ps := ps) (x := htail t _ x) (n := (inject t (hhead t _ x) (n + 1)).2.2)
    simp only [entryA, List.map_cons, List.cons_append, List.map_append, h2, h4]
    refine ⟨by omega, ?_⟩
    have e : (entryA ps (htail t _ x) (inject t (hhead t _ x) (n + 1)).2.2).2.2 - n = (((inject t (hhead t _ x) (n + 1)).2.2 - (n + 1)) + ((entryA ps (htail t _ x) (inject t (hhead t _ x) (n + 1)).2.2).2.2 - (inject t (hhead t _ x) (n + 1)).2.2)) + 1 := by omega
    rw [e, List.range'_succ, ← List.range'_append]
    congr 3
    omega
  | .fn f :: ps, x, n => entryA_ids (ps := ps) (x := x) (n := n)

theorem entryA_sound : ∀ {ps : List Par} {x : HL (argTys ps)} {m : Nat} {vs : List Value} {T : List Nat}, argsRep w R ps x vs T →
    Laid w R ρ (entryA ps x m).2.1 ((entryA ps x m).2.1.map (·.1)) T (fun ρ' => All2 (isAV ρ') (entryA ps x m).1 vs)
  | [], _, m, vs, T, ⟨h1, h2⟩ => by
    subst h1; subst h2
    exact Laid.nil fun _ _ => trivial
  | .val agg t :: ps, x, n, vs, T, ⟨v, vs', S1, S2, h1, h2, ⟨cs, h3, h4⟩, h5⟩ => by
    subst h1; subst h2
    have i1 := Laid.inject (ρ := ρ) (n := n) h3
    have i2 := entryA_sound (m := (inject t (hhead t _ x) n).2.2) h5
    obtain ⟨m1, r1⟩ := inject_ids (t := t) (x := hhead t _ x) (n := n)
    obtain ⟨m2, r2⟩ := entryA_ids (ps := ps) (x := htail t _ x) (n := (inject t (hhead t _ x) n).2.2)
    have := (i1.append i2 (fun i hi hi' => by rw [r1, List.mem_range'_1] at hi; rw [r2, List.mem_range'_1] at hi'; omega) (fun _ hi => hi) (fun _ hi => hi)).weak
      (Q' := fun ρ' => All2 (isAV ρ') (entryA (.val agg t :: ps) x n).1 (v :: vs')) (fun ρ' _ hq => ⟨.inr (comp_of hq.1 h4), hq.2⟩)
    simpa only [entryA, List.map_append] using this
  | .mut agg t :: ps, x, n, vs, T, ⟨v, vs', S1, S2, h1, h2, ⟨cs, h3, h4⟩, h5⟩ => by
    subst h1; subst h2
    have i1 := Laid.inject (ρ := ρ) (n := n) h3
    have i2 := entryA_sound (m := (inject t (hhead t _ x) n).2.2) h5
    obtain ⟨m1, r1⟩ := inject_ids (t := t) (x := hhead t _ x) (n := n)
    obtain ⟨m2, r2⟩ := entryA_ids (ps := ps) (x := htail t _ x) (n := (inject t (hhead t _ x) n).2.2)
    have := (i1.append i2 (fun i hi hi' => by rw [r1, List.mem_range'_1] at hi; rw [r2, List.mem_range'_1] at hi'; omega) (fun _ hi => hi) (fun _ hi => hi)).weak
      (Q' := fun ρ' => All2 (isAV ρ') (entryA (.mut agg t :: ps) x n).1 (v :: vs')) (fun ρ' _ hq => ⟨.inr (comp_of hq.1 h4), hq.2⟩)
    simpa only [entryA, List.map_append] using this
  | .ref t :: ps, x, n, vs, T, ⟨v, vs', h1, ⟨ad, cs, hv, hr, hR, hc⟩, h5⟩ => by
    subst h1
    have i1 : Laid w R ρ [(n, .row false 0 t [hhead t _ x])] [n] [] (fun ρ' => isAV ρ' (.comp false [.eptr n 0 t.size 0]) v) := by
      refine ⟨fun _ => .slice (some ad) 1 1, fun _ => [], rfl, fun _ _ => rfl, fun ρ' he hρ => ⟨.inr ⟨_, rfl, ad, 1, 1, hρ n (by simp), by omega, ?_⟩, fun bk i hi => ?_⟩⟩
      · rw [hv]
        simp only [Nat.zero_mul, Nat.add_zero]
        congr 2
      · simp only [List.map_cons, List.map_nil, List.mem_singleton] at hi
        subst hi
        simp only [updBk, ↓reduceIte]
        exact ⟨_, hρ i (by simp), .slice (some ad) 1 1, cs, [], rfl, elemsR_one.2 hr, ⟨_, _, rfl, fun _ => ⟨ad, rfl, ⟨hR, Nat.le_refl 1⟩, hc⟩⟩, rfl⟩
    have i2 := entryA_sound (m := n + 1) h5
    obtain ⟨m2, r2⟩ := entryA_ids (ps := ps) (x := htail t _ x) (n := n + 1)
    have := (i1.append i2 (fun i hi hi' => by
        simp only [List.map_cons, List.map_nil, List.mem_singleton] at hi
        rw [r2, List.mem_range'_1] at hi'; omega) (fun _ hi => by simpa using hi) (fun _ hi => hi)).weak
      (Q' := fun ρ' => All2 (isAV ρ') (entryA (.ref t :: ps) x n).1 (v :: vs')) (fun ρ' _ hq => ⟨hq.1, hq.2⟩)
    simpa only [entryA, List.map_cons, List.singleton_append, List.nil_append] using this
  | .refm t T0 off :: ps, x, n, vs, T, ⟨v, vs', S1, S2, h1, h2, ⟨g, cs, U1, hv, hU, hg, hr⟩, h5⟩ => by
    subst h1; subst h2
    have i1 := Laid.inject (ρ := ρ) (n := n + 1) hr
    obtain ⟨m1, r1⟩ := inject_ids (t := t) (x := hhead t _ x) (n := n + 1)
    have i0 : Laid w R ρ ((n, .cells (inject t (hhead t _ x) (n + 1)).1 T0) :: (inject t (hhead t _ x) (n + 1)).2.1) (n :: (inject t (hhead t _ x) (n + 1)).2.1.map (·.1)) (g :: U1) (fun ρ' => isAV ρ' (.comp false [.ptr n off]) v) := by
      obtain ⟨vals, Sx, e3, o1, k1⟩ := i1.laid
      refine ⟨fun i => if i = n then .pointer (some ⟨g, 0, none⟩) else vals i, fun i => if i = n then [g] else Sx i, ?_, fun i hi => ?_, fun ρ' he hρ => ?_⟩
      · simp only [List.map_cons, List.flatMap_cons, ↓reduceIte]
        rw [e3, List.singleton_append]
        congr 1
        exact flatMap_eq fun i hi => by rw [r1, List.mem_range'_1] at hi; rw [if_neg (by omega)]
      · simp only [List.mem_cons] at hi
        rcases hi with rfl | hi
        · simp [Value.oneCell']
        · have := hi
          rw [r1, List.mem_range'_1] at this
          simp only [if_neg (show ¬ i = n by omega)]
          exact o1 i hi
      · have hn0 : ρ' n = some (.pointer (some ⟨g, 0, none⟩)) := by
          have := hρ n (by simp)
          simpa using this
        obtain ⟨k2, k3⟩ := k1 ρ' he (fun i hi => by
          have h' := hi
          rw [r1, List.mem_range'_1] at h'
          have := hρ i (List.mem_cons_of_mem _ hi)
          simp only [if_neg (show ¬ i = n by omega)] at this
          exact this)
        refine ⟨.inr ⟨_, rfl, g, hn0, hv⟩, fun bk i hi => ?_⟩
        by_cases hi0 : i = n
        · subst hi0
          simp only [updBk, ↓reduceIte]
          exact ⟨g, cs, hn0, rfl, hg, k2⟩
        · simp only [if_neg hi0]
          rw [upd_tail hi0]
          simp only [List.map_cons, List.mem_cons] at hi
          exact k3 bk i (hi.resolve_left hi0)
    have i2 := entryA_sound (m := (inject t (hhead t _ x) (n + 1)).2.2) h5
    obtain ⟨m2, r2⟩ := entryA_ids (ps := ps) (x := htail t _ x) (n := (inject t (hhead t _ x) (n + 1)).2.2)
    have := (i0.append i2 (fun i hi hi' => by
        simp only [List.map_cons, List.mem_cons] at hi
        rw [r2, List.mem_range'_1] at hi'
        rcases hi with rfl | hi
        · omega
        · rw [r1, List.mem_range'_1] at hi; omega) (fun _ hi => by simpa using hi) (fun _ hi => hi)).weak
      (Q' := fun ρ' => All2 (isAV ρ') (entryA (.refm t T0 off :: ps) x n).1 (v :: vs')) (fun ρ' _ hq => ⟨hq.1, hq.2⟩)
    rw [hU]
    simpa only [entryA, List.map_cons, List.cons_append, List.map_append] using this
  | .fn f :: ps, x, n, vs, T, ⟨vs', h1, h5⟩ => by
    subst h1
    exact (entryA_sound (ps := ps) (m := n) h5).weak fun ρ' _ hq => ⟨.inr ⟨_, rfl, rfl⟩, hq⟩

theorem ghosts_get {ρ : Rho} : ∀ {ps : List Par} {avs : List AV} {vs : List Value}, All2 (isAV ρ) avs vs → ∀ j, isAV ρ ((ghosts ps avs).getD j .unk) (vs.getD j undef)
  | [], avs, vs, _, j => by simp only [ghosts, List.getD_nil]; exact unk_av
  | p :: ps, [], [], _, j => by
    have ih := ghosts_get (ρ := ρ) (ps := ps) (avs := []) (vs := []) trivial
    cases p <;> cases j <;> simp only [ghosts, List.tail_nil, List.headD_nil, List.getD_cons_zero, List.getD_cons_succ] <;> first | exact unk_av | simpa using ih _
  | p :: ps, av :: avs, v :: vs, h, j => by
    have ih := ghosts_get (ps := ps) h.2
    cases p <;> cases j <;> simp only [ghosts, List.tail_cons, List.headD_cons, List.getD_cons_zero, List.getD_cons_succ] <;> first | exact unk_av | exact ih _ | exact h.1
  | _ :: _, [], _ :: _, h, _ => h.elim
  | _ :: _, _ :: _, [], h, _ => h.elim

theorem entry_good {fn : Func} {ps : List Par} {x : HL (argTys ps)} {vs : List Value} {T : List Nat} (h : argsRep w R ps x vs T) (hn : T.Nodup) (hR : ∀ b ∈ T, ¬ R b) (hlt : ∀ b, R b → b < w.heap.size) (hgl : Glob w R) :
    GoodE (vs.length + (fn.ntmps - vs.length)) (fun j => vs.getD j undef) w T R (entrySt fn ps x) { tmps := vs.toArray ++ Array.replicate (fn.ntmps - vs.length) undef, defers := [] } w := by
  classical
  obtain ⟨vals, Sx, e1, o1, k1⟩ := (entryA_sound (ρ := fun _ => none) (m := 0) h).laid
  obtain ⟨_, hr⟩ := entryA_ids (ps := ps) (x := x) (n := 0)
  have hmem : ∀ i, i ∈ (entryA ps x 0).2.1.map (·.1) ↔ i < (entryA ps x 0).2.2 := by
    intro i; rw [hr, List.mem_range'_1]; omega
  have hk := k1 (fun i => if i ∈ (entryA ps x 0).2.1.map (·.1) then some (vals i) else none) (fun _ _ h => by cases h) (fun i hi => by rw [if_pos hi])
  obtain ⟨k2, k3⟩ := hk
  have hbk : ∀ i, (entrySt fn ps x).bkF i = updBk (entryA ps x 0).2.1 (fun _ => .dead) i := by
    intro i
    show (updHp (entryA ps x 0).2.1 []).getD i .dead = _
    rw [getD_updHp]
    congr 1
  have hlen := k2.length
  refine ⟨fun i => if i ∈ (entryA ps x 0).2.1.map (·.1) then some (vals i) else none, fun i => if i ∈ (entryA ps x 0).2.1.map (·.1) then Sx i else [], R, ⟨⟨by simp, rfl, fun t => ?_, fun i => ?_, fun i u hu => ?_, fun i => ?_, fun i j hij b hb hb' => ?_, fun i b hb => ?_, hlt, hgl⟩, ?_, fun i hi => ?_, fun j => ?_, Keeps.refl _ _, fun i b hb => ?_, fun b hb => hb, fun b hb => .inl hb⟩⟩
  · show isAV _ (((entryA ps x 0).1 ++ List.replicate (fn.ntmps - (entryA ps x 0).1.length) AV.unk).getD t .unk) ((vs.toArray ++ Array.replicate (fn.ntmps - vs.length) undef).getD t undef)
    rw [List.getD_eq_getElem?_getD, List.getElem?_append]
    split
    · rename_i ht
      obtain ⟨v, hv, hav⟩ := k2.get t _ (List.getElem?_eq_getElem ht)
      rw [List.getElem?_eq_getElem ht]
      simp only [Option.getD_some]
      rw [Array.getD_eq_getD_getElem?, Array.getElem?_append_left (by simp; omega)]
      simp only [List.getElem?_toArray, hv, Option.getD_some]
      exact hav
    · rw [List.getElem?_replicate]
      split <;> exact unk_av
  · rw [hbk]
    by_cases hi : i ∈ (entryA ps x 0).2.1.map (·.1)
    · simp only [if_pos hi]
      have := k3 (fun _ => .dead) i hi
      simpa only [if_pos hi] using this
    · simp only [if_neg hi]
      rw [updBk_not hi]; rfl
  · skip
    split at hu
    · rename_i hi
      cases hu
      exact o1 i hi
    · cases hu
  · skip
    split
    · rename_i hi
      rw [e1] at hn
      exact nodup_of_flatMap hn i hi
    · exact List.nodup_nil
  · skip
    split at hb
    · rename_i hi
      split at hb'
      · rename_i hj
        rw [e1] at hn
        exact disj_of_flatMap hn i hi j hj hij b hb hb'
      · simp at hb'
    · simp at hb
  · skip
    split at hb
    · rename_i hi
      exact hR b (by rw [e1]; exact List.mem_flatMap.2 ⟨i, hi, hb⟩)
    · simp at hb
  · simp only [entrySt, List.length_append, List.length_replicate, hlen]
  · skip
    rw [if_neg]
    intro hi'
    have := (len_updHp (entryA ps x 0).2.1 []).2 i hi'
    have hi2 : (updHp (entryA ps x 0).2.1 []).length ≤ i := hi
    omega
  · exact ghosts_get k2 j
  · skip
    split at hb
    · rename_i hi
      left
      rw [e1]; exact List.mem_flatMap.2 ⟨i, hi, hb⟩
    · simp at hb

end Go.Eng
