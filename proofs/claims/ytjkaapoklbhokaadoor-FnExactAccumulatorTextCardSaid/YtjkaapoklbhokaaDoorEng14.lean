/- The engine, part 14: what comes back from a call. Conditions: the contract holds. -/
import Derived.Test.YtjkaapoklbhokaaDoorEng13
set_option linter.all false
namespace Go.Eng
open Go.RowKit

variable {P : Program} {ti : Nat → Option TI}
variable {n : Nat} {w w' : World} {R R' : Nat → Prop} {sl : Nat → AV} {bk : Nat → Blk} {ρ ρ' : Rho} {S S' : Nat → List Nat} {a : Act} {e : Eff} {v : Value} {o : Oper} {nx : Nat}

/-- New and rewritten blocks of the abstract state that lie in memory: 'new' are the new ones. -/
structure Laid (w : World) (R : Nat → Prop) (ρ : Rho) (upd : List (Nat × Blk)) (new : List Nat) (T : List Nat) (Q : Rho → Prop) : Prop where
  laid : ∃ (vals : Nat → Value) (Sx : Nat → List Nat), T = (upd.map (·.1)).flatMap Sx ∧ (∀ i ∈ new, (vals i).oneCell' = true) ∧
    ∀ ρ' : Rho, ρ.ext ρ' → (∀ i ∈ new, ρ' i = some (vals i)) → Q ρ' ∧ ∀ bk : Nat → Blk, ∀ i ∈ upd.map (·.1), blkRep w R ρ' (ρ' i) (Sx i) (updBk upd bk i)

theorem Laid.nil {Q : Rho → Prop} (h : ∀ ρ', ρ.ext ρ' → Q ρ') : Laid w R ρ [] [] [] Q :=
  ⟨fun _ => undef, fun _ => [], rfl, by simp, fun ρ' he _ => ⟨h ρ' he, by simp⟩⟩

theorem Laid.append {u1 u2 : List (Nat × Blk)} {n1 n2 T1 T2 : List Nat} {Q1 Q2 : Rho → Prop} (h1 : Laid w R ρ u1 n1 T1 Q1) (h2 : Laid w R ρ u2 n2 T2 Q2) (hd : ∀ i ∈ u1.map (·.1), i ∉ u2.map (·.1)) (hn1 : ∀ i ∈ n1, i ∈ u1.map (·.1)) (hn2 : ∀ i ∈ n2, i ∈ u2.map (·.1)) :
    Laid w R ρ (u1 ++ u2) (n1 ++ n2) (T1 ++ T2) (fun ρ' => Q1 ρ' ∧ Q2 ρ') := by
  classical
  obtain ⟨v1, S1, e1, o1, k1⟩ := h1.laid
  obtain ⟨v2, S2, e2, o2, k2⟩ := h2.laid
  have hd2 : ∀ i ∈ u2.map (·.1), i ∉ u1.map (·.1) := fun i hi hi' => hd i hi' hi
  refine ⟨fun i => if i ∈ u1.map (·.1) then v1 i else v2 i, fun i => if i ∈ u1.map (·.1) then S1 i else S2 i, ?_, ?_, ?_⟩
  · rw [List.map_append, List.flatMap_append, e1, e2]
    congr 1
    · exact flatMap_eq fun i hi => by rw [if_pos hi]
    · exact flatMap_eq fun i hi => by rw [if_neg (hd2 i hi)]
  · intro i hi
    rcases List.mem_append.1 hi with hi | hi
    · simp only [if_pos (hn1 i hi)]; exact o1 i hi
    · simp only [if_neg (hd2 i (hn2 i hi))]; exact o2 i hi
  · intro ρ' he hρ
    obtain ⟨p1, q1⟩ := k1 ρ' he (fun i hi => by rw [hρ i (List.mem_append_left _ hi)]; simp only [if_pos (hn1 i hi)])
    obtain ⟨p2, q2⟩ := k2 ρ' he (fun i hi => by rw [hρ i (List.mem_append_right _ hi)]; simp only [if_neg (hd2 i (hn2 i hi))])
    refine ⟨⟨p1, p2⟩, fun bk i hi => ?_⟩
    rw [List.map_append] at hi
    rw [updBk_append]
    by_cases h1' : i ∈ u1.map (·.1)
    · simp only [if_pos h1']; exact q1 _ i h1'
    · simp only [if_neg h1']
      rw [updBk_not h1']
      exact q2 _ i ((List.mem_append.1 hi).resolve_left h1')

theorem Laid.inject {t : Ty} {x : t.den} {n : Nat} {cs : List Value} {T : List Nat} (h : rep w R t x cs T) :
    Laid w R ρ (inject t x n).2.1 ((inject t x n).2.1.map (·.1)) T (fun ρ' => All2 (isAt ρ') (inject t x n).1 cs) := by
  obtain ⟨vals, Sx, e1, o1, k1⟩ := inject_sound (n := n) h
  exact ⟨vals, Sx, e1, o1, fun ρ' _ hρ => ⟨(k1 ρ' hρ).1, (k1 ρ' hρ).2⟩⟩

theorem Laid.weak {upd : List (Nat × Blk)} {new T : List Nat} {Q Q' : Rho → Prop} (h : Laid w R ρ upd new T Q) (hq : ∀ ρ', ρ.ext ρ' → Q ρ' → Q' ρ') : Laid w R ρ upd new T Q' := by
  obtain ⟨vals, Sx, e1, o1, k1⟩ := h.laid
  exact ⟨vals, Sx, e1, o1, fun ρ' he hρ => ⟨hq _ he (k1 ρ' he hρ).1, (k1 ρ' he hρ).2⟩⟩

theorem comp_of {b : Bool} {cs : List At} {us : List Value} (h : All2 (isAt ρ) cs us) (hv : match b with | true => v = .agg (List.toArray us) | false => us = [v]) : isComp ρ (b, cs) v := by
  cases b
  · have hv' : us = [v] := hv
    subst hv'
    match cs, h with
    | [c], h => exact ⟨c, rfl, h.1⟩
  · exact ⟨us, hv, h⟩

/-- A variable of its own. -/
theorem laid_box {t : Ty} {x : t.den} {n : Nat} {cs : List Value} {U1 : List Nat} {g : Nat} {T0 : TypeId} (hg : w.heap[g]? = some (.cells (List.toArray cs) T0 (0, 0))) (hr : rep w R t x cs U1) :
    Laid w R ρ ((n, .cells (inject t x (n + 1)).1 T0) :: (inject t x (n + 1)).2.1) (n :: (inject t x (n + 1)).2.1.map (·.1)) (g :: U1) (fun ρ' => isComp ρ' (false, [.ptr n 0]) (.pointer (some ⟨g, 0, none⟩))) := by
  have i1 := Laid.inject (ρ := ρ) (n := n + 1) hr
  obtain ⟨m1, r1⟩ := inject_ids (t := t) (x := x) (n := n + 1)
  obtain ⟨vals, Sx, e3, o1, k1⟩ := i1.laid
  refine ⟨fun i => if i = n then .pointer (some ⟨g, 0, none⟩) else vals i, fun i => if i = n then [g] else Sx i, ?_, fun i hi => ?_, fun ρ' he hρ => ?_⟩
  · simp only [List.map_cons, List.flatMap_cons, ↓reduceIte]
    rw [e3, List.singleton_append]
    congr 1
    exact flatMap_eq fun i hi => by rw [r1, List.mem_range'_1] at hi; rw [if_neg (by omega)]
  · simp only [List.mem_cons] at hi
    rcases hi with rfl | hi
    · simp [Value.oneCell']
    · have := hi
      rw [r1, List.mem_range'_1] at this
      simp only [if_neg (show ¬ i = n by omega)]
      exact o1 i hi
  · have hn0 : ρ' n = some (.pointer (some ⟨g, 0, none⟩)) := by
      have := hρ n (by simp)
      simpa using this
    obtain ⟨k2, k3⟩ := k1 ρ' he (fun i hi => by
      have h' := hi
      rw [r1, List.mem_range'_1] at h'
      have := hρ i (List.mem_cons_of_mem _ hi)
      simp only [if_neg (show ¬ i = n by omega)] at this
      exact this)
    refine ⟨⟨_, rfl, g, hn0, rfl⟩, fun bk i hi => ?_⟩
    by_cases hi0 : i = n
    · subst hi0
      simp only [updBk, ↓reduceIte]
      exact ⟨g, cs, hn0, rfl, hg, k2⟩
    · simp only [if_neg hi0]
      rw [upd_tail hi0]
      simp only [List.map_cons, List.mem_cons] at hi
      exact k3 bk i (hi.resolve_left hi0)

theorem injRs_ids : ∀ {rs : List (RK × Ty)} {tl : List Ty} {r : HL (resTys rs tl)} {n : Nat}, n ≤ (injRs rs tl r n).2.2 ∧ (injRs rs tl r n).2.1.map (·.1) = List.range' n ((injRs rs tl r n).2.2 - n)
  | [], _, _, n => by simp [injRs]
  | (.box T, t) :: rs, tl, r, n => by
    obtain ⟨h1, h2⟩ := inject_ids (t := t) (x := hhead t _ r) (n := n + 1)
    obtain ⟨h3, h4⟩ := injRs_ids (rs := rs) (tl := tl) (r := htail t _ r) (n := (inject t (hhead t _ r) (n + 1)).2.2)
    simp only [injRs, List.map_cons, List.cons_append, List.map_append, h2, h4]
    refine ⟨by omega, ?_⟩
    have e : (injRs rs tl (htail t _ r) (inject t (hhead t _ r) (n + 1)).2.2).2.2 - n = (((inject t (hhead t _ r) (n + 1)).2.2 - (n + 1)) + ((injRs rs tl (htail t _ r) (inject t (hhead t _ r) (n + 1)).2.2).2.2 - (inject t (hhead t _ r) (n + 1)).2.2)) + 1 := by omega
    rw [e, List.range'_succ, ← List.range'_append]
    congr 3
    omega
  | (.val b, t) :: rs, tl, r, n => by
    obtain ⟨h1, h2⟩ := inject_ids (t := t) (x := hhead t _ r) (n := n)
    obtain ⟨h3, h4⟩ := injRs_ids (rs := rs) (tl := tl) (r := htail t _ r) (n := (inject t (hhead t _ r) n).2.2)
    simp only [injRs, List.map_append, h2, h4]
    refine ⟨by omega, ?_⟩
    have e : (injRs rs tl (htail t _ r) (inject t (hhead t _ r) n).2.2).2.2 - n = ((inject t (hhead t _ r) n).2.2 - n) + ((injRs rs tl (htail t _ r) (inject t (hhead t _ r) n).2.2).2.2 - (inject t (hhead t _ r) n).2.2) := by omega
    rw [e, ← List.range'_append]
    congr 2
    omega

theorem injRs_sound : ∀ {rs : List (RK × Ty)} {tl : List Ty} {r : HL (resTys rs tl)} {n : Nat} {us : List Value} {T : List Nat}, resRep w R rs tl r us T →
    Laid w R ρ (injRs rs tl r n).2.1 ((injRs rs tl r n).2.1.map (·.1)) T (fun ρ' => All2 (isComp ρ') (injRs rs tl r n).1 us)
  | [], _, _, n, us, T, ⟨h1, h2⟩ => by
    subst h1; subst h2
    exact Laid.nil fun _ _ => trivial
  | (.box T0, t) :: rs, tl, r, n, us, T, ⟨v, vs', S1, S2, h1, h2, ⟨g, cs, U1, hv, hU, hg, hr⟩, h5⟩ => by
    subst h1; subst h2; subst hv; subst hU
    have i1 := laid_box (ρ := ρ) (n := n) hg hr
    have i2 := injRs_sound (n := (inject t (hhead t _ r) (n + 1)).2.2) h5
    obtain ⟨m1, r1⟩ := inject_ids (t := t) (x := hhead t _ r) (n := n + 1)
    obtain ⟨m2, r2⟩ := injRs_ids (rs := rs) (tl := tl) (r := htail t _ r) (n := (inject t (hhead t _ r) (n + 1)).2.2)
    have := (i1.append i2 (fun i hi hi' => by
        simp only [List.map_cons, List.mem_cons] at hi
        rw [r2, List.mem_range'_1] at hi'
        rcases hi with rfl | hi
        · omega
        · rw [r1, List.mem_range'_1] at hi; omega) (fun _ hi => by simpa using hi) (fun _ hi => hi)).weak
      (Q' := fun ρ' => All2 (isComp ρ') (injRs ((.box T0, t) :: rs) tl r n).1 (Value.pointer (some ⟨g, 0, none⟩) :: vs')) (fun ρ' _ hq => ⟨hq.1, hq.2⟩)
    simpa only [injRs, List.map_cons, List.cons_append, List.map_append] using this
  | (.val b, t) :: rs, tl, r, n, us, T, ⟨v, vs', S1, S2, h1, h2, ⟨cs, h3, h4⟩, h5⟩ => by
    subst h1; subst h2
    have i1 := Laid.inject (ρ := ρ) (n := n) h3
    have i2 := injRs_sound (n := (inject t (hhead t _ r) n).2.2) h5
    obtain ⟨m1, r1⟩ := inject_ids (t := t) (x := hhead t _ r) (n := n)
    obtain ⟨m2, r2⟩ := injRs_ids (rs := rs) (tl := tl) (r := htail t _ r) (n := (inject t (hhead t _ r) n).2.2)
    have := (i1.append i2 (fun i hi hi' => by rw [r1, List.mem_range'_1] at hi; rw [r2, List.mem_range'_1] at hi'; omega) (fun _ hi => hi) (fun _ hi => hi)).weak
      (Q' := fun ρ' => All2 (isComp ρ') (injRs ((.val b, t) :: rs) tl r n).1 (v :: vs')) (fun ρ' _ hq => ⟨comp_of hq.1 h4, hq.2⟩)
    simpa only [injRs, List.map_append] using this

theorem putBack_sound (hb : ∀ i, blkRep w R ρ (ρ i) (S i) (bk i)) : ∀ {t : Ty} {cs : List At} {us : List Value} {x y : t.den} {own ro T : List Nat}, t.allOwn = true → reify bk t cs = some (x, own, ro) → All2 (isAt ρ) cs us → rep w' R' t y us T → own.Nodup →
    (putBack t cs y).map (·.1) = own ∧ Laid w' R' ρ (putBack t cs y) [] T (fun _ => True)
  | .int _, cs, us, x, y, own, ro, T, _, hr, hv, hy, _ => by
    have : own = [] := by
      simp only [reify] at hr
      split at hr
      · split at hr
        · simp only [Option.some.injEq, Prod.mk.injEq] at hr; exact hr.2.1.symm
        · cases hr
      · cases hr
    rw [this, hy.2]
    exact ⟨rfl, Laid.nil fun _ _ => trivial⟩
  | .bool, cs, us, x, y, own, ro, T, _, hr, hv, hy, _ => by
    have : own = [] := by
      simp only [reify] at hr
      split at hr
      · simp only [Option.some.injEq, Prod.mk.injEq] at hr; exact hr.2.1.symm
      · cases hr
    rw [this, hy.2]
    exact ⟨rfl, Laid.nil fun _ _ => trivial⟩
  | .str, cs, us, x, y, own, ro, T, _, hr, hv, hy, _ => by
    have : own = [] := by
      simp only [reify] at hr
      split at hr
      · simp only [Option.some.injEq, Prod.mk.injEq] at hr; exact hr.2.1.symm
      · cases hr
    rw [this, hy.2]
    exact ⟨rfl, Laid.nil fun _ _ => trivial⟩
  | .pair p q, cs, us, x, y, own, ro, T, ho, hr, hv, hy, hn => by
    simp only [Ty.allOwn, Bool.and_eq_true] at ho
    simp only [reify] at hr
    split at hr
    · rename_i x1 i j h1
      split at hr
      · rename_i y1 i' j' h2
        simp only [Option.some.injEq, Prod.mk.injEq] at hr
        obtain ⟨rfl, rfl, rfl⟩ := hr
        obtain ⟨c1, c2, T1, T2, hc, hT, q1, q2⟩ := hy
        have hl1 := rep_len q1
        have e1 : us.take p.size = c1 := by rw [hc, ← hl1, List.take_left]
        have e2 : us.drop p.size = c2 := by rw [hc, ← hl1, List.drop_left]
        rw [List.nodup_append] at hn
        obtain ⟨m1, l1⟩ := putBack_sound hb ho.1 h1 (hv.take p.size) (by rw [e1]; exact q1) hn.1
        obtain ⟨m2, l2⟩ := putBack_sound hb ho.2 h2 (hv.drop p.size) (by rw [e2]; exact q2) hn.2.1
        refine ⟨by simp only [putBack, List.map_append, m1, m2], ?_⟩
        rw [hT]
        exact (l1.append l2 (fun k hk hk' => by rw [m1] at hk; rw [m2] at hk'; exact hn.2.2 k hk k hk' rfl) (by simp) (by simp)).weak fun _ _ _ => trivial
      · cases hr
    · cases hr
  | .row o e t, cs, us, x, y, own, ro, T, ho, hr, hv, hy, _ => by
    simp only [Ty.allOwn, Bool.and_eq_true] at ho
    obtain ⟨rfl, _⟩ := ho
    simp only [reify] at hr
    split at hr
    · rename_i id
      split at hr
      · split at hr
        · simp only [Option.some.injEq, Prod.mk.injEq] at hr
          obtain ⟨_, rfl, _⟩ := hr
          match us, hv with
          | [u], hv =>
            refine ⟨rfl, fun _ => u, fun _ => T, by simp [putBack], by simp, fun ρ' he _ => ⟨trivial, fun bk i hi => ?_⟩⟩
            simp only [putBack, List.map_cons, List.map_nil, List.mem_singleton] at hi
            subst hi
            simp only [putBack, updBk, ↓reduceIte]
            exact ⟨u, he _ _ hv.1, hy⟩
        · cases hr
      · cases hr
    · simp only [Option.some.injEq, Prod.mk.injEq] at hr
      obtain ⟨_, rfl, _⟩ := hr
      match us, hv with
      | [u], hv =>
        obtain ⟨v', flat, Se, h1, h2, h3, h4⟩ := hy
        simp only [List.cons.injEq, and_true] at h1
        subst h1
        obtain ⟨rfl, _⟩ := hv.1
        have hn0 : List.length (α := t.den) y = 0 := by
          rcases h3.2 with ⟨_, h0⟩ | ⟨g, cap, cur, hcon, _⟩
          · exact h0
          · simp at hcon
        have hy0 : y = [] := List.eq_nil_of_length_eq_zero hn0
        subst hy0
        rw [h4, h2.2]
        exact ⟨rfl, Laid.nil fun _ _ => trivial⟩
    · cases hr

theorem injOuts_ids (hlt : ∀ i, nx ≤ i → bk i = .dead) : ∀ {ps : List Par} {avs : List AV} {x : HL (argTys ps)} {taken ro : List Nat} {y : HL (outTys ps)} {n : Nat}, argsA bk ps avs = some (x, taken, ro) → nx ≤ n →
    n ≤ (injOuts ps y avs n).2.2 ∧ (injOuts ps y avs n).2.1 = List.range' n ((injOuts ps y avs n).2.2 - n) ∧ ∀ i ∈ taken, i < nx
  | [], [], x, taken, ro, y, n, ha, hn => by
    simp only [argsA, Option.some.injEq, Prod.mk.injEq] at ha
    obtain ⟨_, rfl, _⟩ := ha
    simp [injOuts]
  | .val agg t :: ps, .comp b cs :: avs, x, taken, ro, y, n, ha, hn => by
    simp only [argsA] at ha
    split at ha
    · split at ha
      · rename_i h1
        split at ha
        · rename_i h2
          simp only [Option.some.injEq, Prod.mk.injEq] at ha
          obtain ⟨_, rfl, _⟩ := ha
          obtain ⟨q1, q2, q3⟩ := injOuts_ids hlt (ps := ps) (y := y) (n := n) h2 hn
          exact ⟨q1, q2, fun i hi => (List.mem_append.1 hi).elim ((reify_lt hlt h1).1 i) (q3 i)⟩
        · cases ha
      · cases ha
    · cases ha
  | .mut agg t :: ps, .comp b cs :: avs, x, taken, ro, y, n, ha, hn => by
    simp only [argsA] at ha
    split at ha
    · split at ha
      · rename_i h1
        split at ha
        · rename_i h2
          simp only [Option.some.injEq, Prod.mk.injEq] at ha
          obtain ⟨_, rfl, _⟩ := ha
          obtain ⟨q1, q2, q3⟩ := injOuts_ids hlt (ps := ps) (y := htail t _ y) (n := n) h2 hn
          exact ⟨q1, q2, fun i hi => (List.mem_append.1 hi).elim ((reify_lt hlt h1).1 i) (q3 i)⟩
        · cases ha
      · cases ha
    · cases ha
  | .ref t :: ps, .comp false [.ptr id off] :: avs, x, taken, ro, y, n, ha, hn => by
    simp only [argsA] at ha
    split at ha
    · split at ha
      · split at ha
        · split at ha
          · rename_i h2
            simp only [Option.some.injEq, Prod.mk.injEq] at ha
            obtain ⟨_, rfl, _⟩ := ha
            exact injOuts_ids hlt (ps := ps) (y := y) (n := n) h2 hn
          · cases ha
        · cases ha
      · cases ha
    · cases ha
  | .ref t :: ps, .comp false [.eptr id i sz j] :: avs, x, taken, ro, y, n, ha, hn => by
    simp only [argsA] at ha
    split at ha
    · split at ha
      · split at ha
        · split at ha
          · rename_i h2
            simp only [Option.some.injEq, Prod.mk.injEq] at ha
            obtain ⟨_, rfl, _⟩ := ha
            exact injOuts_ids hlt (ps := ps) (y := y) (n := n) h2 hn
          · cases ha
        · cases ha
      · cases ha
    · cases ha
  | .refm t T off :: ps, .comp false [.ptr id o] :: avs, x, taken, ro, y, n, ha, hn => by
    simp only [argsA] at ha
    split at ha
    · rename_i cs T0 hb
      split at ha
      · split at ha
        · rename_i h1
          split at ha
          · rename_i h2
            simp only [Option.some.injEq, Prod.mk.injEq] at ha
            obtain ⟨_, rfl, _⟩ := ha
            obtain ⟨m1, m2⟩ := inject_ids (t := t) (x := hhead t _ y) (n := n)
            obtain ⟨q1, q2, q3⟩ := injOuts_ids hlt (ps := ps) (y := htail t _ y) (n := (inject t (hhead t _ y) n).2.2) h2 (by omega)
            refine ⟨by simp only [injOuts, List.tail_cons]; omega, ?_, fun i hi => ?_⟩
            · simp only [injOuts, List.tail_cons, q2, m2]
              have e : (injOuts ps (htail t _ y) avs (inject t (hhead t _ y) n).2.2).2.2 - n = ((inject t (hhead t _ y) n).2.2 - n) + ((injOuts ps (htail t _ y) avs (inject t (hhead t _ y) n).2.2).2.2 - (inject t (hhead t _ y) n).2.2) := by omega
              rw [e, ← List.range'_append]
              congr 2
              omega
            · rcases List.mem_cons.1 hi with rfl | hi
              · rcases Nat.lt_or_ge i nx with h' | h'
                · exact h'
                · rw [hlt i h'] at hb; cases hb
              · exact (List.mem_append.1 hi).elim ((reify_lt hlt h1).1 i) (q3 i)
          · cases ha
        · cases ha
      · cases ha
    · cases ha
  | .fn f :: ps, .comp false [.fn g] :: avs, x, taken, ro, y, n, ha, hn => by
    simp only [argsA] at ha
    split at ha
    · exact injOuts_ids hlt (ps := ps) (y := y) (n := n) ha hn
    · cases ha

theorem injOuts_sound (hlt : ∀ i, nx ≤ i → bk i = .dead) (h : Inv n w R sl bk ρ S a) : ∀ {ps : List Par} {avs : List AV} {vs : List Value} {x : HL (argTys ps)} {taken ro T : List Nat} {y : HL (outTys ps)} {m : Nat}, argsA bk ps avs = some (x, taken, ro) → All2 (isAV ρ) avs vs →
    outsRep w' R' ps y vs T → taken.Nodup → nx ≤ m →
    (∀ i ∈ (injOuts ps y avs m).1.map (·.1), i ∈ taken ∨ i ∈ (injOuts ps y avs m).2.1) ∧ (∀ i ∈ (injOuts ps y avs m).2.1, i ∈ (injOuts ps y avs m).1.map (·.1)) ∧
    Laid w' R' ρ (injOuts ps y avs m).1 (injOuts ps y avs m).2.1 T (fun _ => True)
  | [], [], vs, x, taken, ro, T, y, m, ha, hv, ho, hn, hm => by
    have ho' : T = [] := ho
    subst ho'
    exact ⟨by simp [injOuts], by simp [injOuts], Laid.nil fun _ _ => trivial⟩
  | .val agg t :: ps, .comp b cs :: avs, vs, x, taken, ro, T, y, m, ha, hv, ho, hn, hm => by
    match vs, hv with
    | v :: vs, hv =>
      obtain ⟨v', vs', e1, ho⟩ := ho
      simp only [List.cons.injEq] at e1
      obtain ⟨rfl, rfl⟩ := e1
      simp only [argsA] at ha
      split at ha
      · split at ha
        · split at ha
          · rename_i h2
            simp only [Option.some.injEq, Prod.mk.injEq] at ha
            obtain ⟨_, rfl, _⟩ := ha
            rw [List.nodup_append] at hn
            obtain ⟨q1, q2, q3⟩ := injOuts_sound hlt h (ps := ps) (m := m) h2 hv.2 ho hn.2.1 hm
            exact ⟨fun i hi => (q1 i hi).imp (fun h => List.mem_append_right _ h) id, q2, q3⟩
          · cases ha
        · cases ha
      · cases ha
  | .mut agg t :: ps, .comp b cs :: avs, vs, x, taken, ro, T, y, m, ha, hv, ho, hn, hm => by
    match vs, hv with
    | v :: vs, hv =>
      obtain ⟨v', vs', T1, T2, e1, e2, ⟨us, hr, hvv⟩, ho⟩ := ho
      simp only [List.cons.injEq] at e1
      obtain ⟨rfl, rfl⟩ := e1
      simp only [argsA] at ha
      split at ha
      · rename_i hc
        split at ha
        · rename_i z own ro1 h1
          split at ha
          · rename_i h2
            simp only [Option.some.injEq, Prod.mk.injEq] at ha
            obtain ⟨_, rfl, _⟩ := ha
            rw [List.nodup_append] at hn
            obtain ⟨q1, q2, q3⟩ := injOuts_sound hlt h (ps := ps) (m := m) h2 hv.2 ho hn.2.1 hm
            obtain ⟨⟨us', k1, k2⟩, _⟩ := val_of h.blks ⟨hc.1, hc.2.2.1⟩ h1 hv.1
            have hus : us' = us := by
              cases agg
              · simp only at k2 hvv; rw [k2, hvv]
              · simp only at k2 hvv
                rw [k2] at hvv
                simpa using hvv
            subst hus
            obtain ⟨p1, p2⟩ := putBack_sound h.blks (w' := w') (R' := R') hc.2.2.2 h1 k1 hr hn.1
            obtain ⟨_, r2, r3⟩ := injOuts_ids hlt (ps := ps) (y := htail t _ y) h2 hm
            have hown := (reify_lt hlt h1).1
            have hd : ∀ i ∈ (putBack t cs (hhead t _ y)).map (·.1), i ∉ (injOuts ps (htail t _ y) avs m).1.map (·.1) := by
              intro i hi hi'
              rw [p1] at hi
              rcases q1 i hi' with hi2 | hi2
              · exact hn.2.2 i hi i hi2 rfl
              · rw [r2, List.mem_range'_1] at hi2
                have := hown i hi; omega
            refine ⟨fun i hi => ?_, fun i hi => ?_, ?_⟩
            · simp only [injOuts, List.tail_cons, List.map_append, List.mem_append] at hi ⊢
              rcases hi with hi | hi
              · rw [p1] at hi; exact .inl (.inl hi)
              · exact (q1 i hi).imp .inr id
            · simp only [injOuts, List.tail_cons, List.map_append, List.mem_append] at hi ⊢
              exact .inr (q2 i hi)
            · rw [e2]
              have := (p2.append q3 hd (by simp) q2).weak (Q' := fun _ => True) fun _ _ _ => trivial
              simpa only [injOuts, List.tail_cons, List.nil_append] using this
          · cases ha
        · cases ha
      · cases ha
  | .ref t :: ps, .comp false [.ptr id off] :: avs, vs, x, taken, ro, T, y, m, ha, hv, ho, hn, hm => by
    match vs, hv with
    | v :: vs, hv =>
      obtain ⟨v', vs', e1, ho⟩ := ho
      simp only [List.cons.injEq] at e1
      obtain ⟨rfl, rfl⟩ := e1
      simp only [argsA] at ha
      split at ha
      · split at ha
        · split at ha
          · split at ha
            · rename_i h2
              simp only [Option.some.injEq, Prod.mk.injEq] at ha
              obtain ⟨_, rfl, _⟩ := ha
              exact injOuts_sound hlt h (ps := ps) (m := m) h2 hv.2 ho hn hm
            · cases ha
          · cases ha
        · cases ha
      · cases ha
  | .ref t :: ps, .comp false [.eptr id i sz j] :: avs, vs, x, taken, ro, T, y, m, ha, hv, ho, hn, hm => by
    match vs, hv with
    | v :: vs, hv =>
      obtain ⟨v', vs', e1, ho⟩ := ho
      simp only [List.cons.injEq] at e1
      obtain ⟨rfl, rfl⟩ := e1
      simp only [argsA] at ha
      split at ha
      · split at ha
        · split at ha
          · split at ha
            · rename_i h2
              simp only [Option.some.injEq, Prod.mk.injEq] at ha
              obtain ⟨_, rfl, _⟩ := ha
              exact injOuts_sound hlt h (ps := ps) (m := m) h2 hv.2 ho hn hm
            · cases ha
          · cases ha
        · cases ha
      · cases ha
  | .refm t T0 off :: ps, .comp false [.ptr id o] :: avs, vs, x, taken, ro, T, y, m, ha, hv, ho, hn, hm => by
    match vs, hv with
    | v :: vs, hv =>
      obtain ⟨v', vs', T1, T2, e1, e2, ⟨g, us, U1, hvv, hU, hg, hr⟩, ho⟩ := ho
      simp only [List.cons.injEq] at e1
      obtain ⟨rfl, rfl⟩ := e1
      simp only [argsA] at ha
      split at ha
      · rename_i cs T1' hb
        split at ha
        · split at ha
          · rename_i z own ro1 h1
            split at ha
            · rename_i h2
              simp only [Option.some.injEq, Prod.mk.injEq] at ha
              obtain ⟨_, rfl, _⟩ := ha
              obtain ⟨m1, m2⟩ := inject_ids (t := t) (x := hhead t _ y) (n := m)
              rw [List.cons_append, List.nodup_cons] at hn
              obtain ⟨hid, hn⟩ := hn
              rw [List.nodup_append] at hn
              obtain ⟨q1, q2, q3⟩ := injOuts_sound hlt h (ps := ps) (m := (inject t (hhead t _ y) m).2.2) h2 hv.2 ho hn.2.1 (by omega)
              obtain ⟨_, r2, r3⟩ := injOuts_ids hlt (ps := ps) (y := htail t _ y) (n := (inject t (hhead t _ y) m).2.2) h2 (by omega)
              obtain ⟨g', f1, f2⟩ := isAV_one (by simp) hv.1
              rw [hvv] at f2
              simp only [Value.pointer.injEq, Option.some.injEq, Addr.mk.injEq, and_true] at f2
              obtain ⟨f2, -⟩ := f2
              subst f2
              have hidlt : id < nx := by
                rcases Nat.lt_or_ge id nx with h' | h'
                · exact h'
                · rw [hlt id h'] at hb; cases hb
              have i1 := Laid.inject (ρ := ρ) (n := m) hr
              have i0 : Laid w' R' ρ ((id, .cells (inject t (hhead t _ y) m).1 T0) :: (inject t (hhead t _ y) m).2.1) ((inject t (hhead t _ y) m).2.1.map (·.1)) (g :: U1) (fun _ => True) := by
                obtain ⟨vals, Sx, e3, o1, k1⟩ := i1.laid
                refine ⟨vals, fun i => if i = id then [g] else Sx i, ?_, o1, fun ρ' he hρ => ⟨trivial, fun bk i hi => ?_⟩⟩
                · simp only [List.map_cons, List.flatMap_cons, ↓reduceIte]
                  rw [e3, List.singleton_append]
                  congr 1
                  exact flatMap_eq fun i hi => by rw [m2, List.mem_range'_1] at hi; rw [if_neg (by omega)]
                · obtain ⟨k2, k3⟩ := k1 ρ' he hρ
                  by_cases hi0 : i = id
                  · subst hi0
                    simp only [updBk, ↓reduceIte]
                    exact ⟨g, us, he _ _ f1, rfl, hg, k2⟩
                  · simp only [if_neg hi0]
                    rw [upd_tail hi0]
                    simp only [List.map_cons, List.mem_cons] at hi
                    exact k3 bk i (hi.resolve_left hi0)
              have hd : ∀ i ∈ ((id, Blk.cells (inject t (hhead t _ y) m).1 T0) :: (inject t (hhead t _ y) m).2.1).map (·.1), i ∉ (injOuts ps (htail t _ y) avs (inject t (hhead t _ y) m).2.2).1.map (·.1) := by
                intro i hi hi'
                simp only [List.map_cons, List.mem_cons] at hi
                rcases hi with rfl | hi
                · rcases q1 i hi' with h3 | h3
                  · exact hid (List.mem_append_right _ h3)
                  · rw [r2, List.mem_range'_1] at h3; omega
                · rw [m2, List.mem_range'_1] at hi
                  rcases q1 i hi' with h3 | h3
                  · have := r3 i h3; omega
                  · rw [r2, List.mem_range'_1] at h3; omega
              refine ⟨fun i hi => ?_, fun i hi => ?_, ?_⟩
              · simp only [injOuts, List.tail_cons, List.cons_append, List.map_cons, List.map_append, List.mem_cons, List.mem_append] at hi ⊢
                rcases hi with hi | hi | hi
                · exact .inl (.inl hi)
                · exact .inr (.inl hi)
                · rcases q1 i hi with h3 | h3
                  · exact .inl (.inr (.inr h3))
                  · exact .inr (.inr h3)
              · simp only [injOuts, List.tail_cons, List.cons_append, List.map_cons, List.map_append, List.mem_cons, List.mem_append] at hi ⊢
                rcases hi with hi | hi
                · exact .inr (.inl hi)
                · exact .inr (.inr (q2 i hi))
              · rw [e2, hU]
                have := (i0.append q3 hd (fun i hi => by simp only [List.map_cons, List.mem_cons]; exact .inr hi) q2).weak (Q' := fun _ => True) fun _ _ _ => trivial
                simpa only [injOuts, List.tail_cons] using this
            · cases ha
          · cases ha
        · cases ha
      · cases ha
  | .fn f :: ps, .comp false [.fn g] :: avs, vs, x, taken, ro, T, y, m, ha, hv, ho, hn, hm => by
    match vs, hv with
    | v :: vs, hv =>
      obtain ⟨v', vs', e1, ho⟩ := ho
      simp only [List.cons.injEq] at e1
      obtain ⟨rfl, rfl⟩ := e1
      simp only [argsA] at ha
      split at ha
      · exact injOuts_sound hlt h (ps := ps) (m := m) ha hv.2 ho hn hm
      · cases ha

end Go.Eng
