/- The engine, part 3: data taken out of abstract cells (reify), data put into them (inject), nil slices made rows. Conditions: none. -/
import Derived.Test.YtjkaapoklbhokaaDoorEng2
set_option linter.all false
namespace Go.Eng
open Go.RowKit

/-- The content of a row, as a row of another type asks for it: own rows as they are; what is only read, without ownership. -/
def rowCast (own : Bool) (t : Ty) : Blk → Option (List t.den)
  | .row own' _ t' xs =>
    match own with
    | true => if h : t' = t ∧ own' = true then some (h.1 ▸ xs) else none
    | false => if h : t'.ro = t then some (cast (by rw [← h, Ty.ro_den]) xs) else none
  | _ => none

def elemOf : Blk → Option TypeId
  | .row _ e _ _ => some e
  | _ => none

/-- Data read out of abstract cells, the rows that it takes over, the rows that it reads. -/
def reify (bk : Nat → Blk) : (t : Ty) → List At → Option (t.den × List Nat × List Nat)
  | .int k, cs => match cs with
    | [.sc (.int k' n)] => if k' = k then some (n, [], []) else none
    | _ => none
  | .bool, cs => match cs with
    | [.sc (.bool b)] => some (b, [], [])
    | _ => none
  | .str, cs => match cs with
    | [.sc (.string s)] => some (s, [], [])
    | _ => none
  | .pair a b, cs => match reify bk a (cs.take a.size) with
    | some (x, i, j) => match reify bk b (cs.drop a.size) with
      | some (y, i', j') => some ((x, y), i ++ i', j ++ j')
      | none => none
    | none => none
  | .row own e t, cs => match cs with
    | [.sl id] => if elemOf (bk id) = some e then
        match rowCast own t (bk id) with
        | some xs => some (xs, (match own with | true => [id] | false => []), (match own with | true => [] | false => [id]))
        | none => none
      else none
    | [.sc (.slice none 0 0)] => some ([], [], [])
    | _ => none
  | .map own, cs => match cs with
    | [.sl id] => match bk id with
      | .mp _ own' l => match own with
        | true => match own' with
          | true => some (l, [id], [])
          | false => none
        | false => some (l, [], [id])
      | _ => none
    | [.sc (.map none)] => some ([], [], [])
    | _ => none

def inject : (t : Ty) → t.den → Nat → List At × List (Nat × Blk) × Nat
  | .int k, x, n => ([.sc (.int k x)], [], n)
  | .bool, x, n => ([.sc (.bool x)], [], n)
  | .str, x, n => ([.sc (.string x)], [], n)
  | .pair a b, x, n =>
    ((inject a x.1 n).1 ++ (inject b x.2 (inject a x.1 n).2.2).1, (inject a x.1 n).2.1 ++ (inject b x.2 (inject a x.1 n).2.2).2.1, (inject b x.2 (inject a x.1 n).2.2).2.2)
  | .row own e t, xs, n => ([.sl n], [(n, .row own e t xs)], n + 1)
  | .map own, l, n => ([.sl n], [(n, .mp false own l)], n + 1)

variable {n : Nat} {w w' : World} {R R' : Nat → Prop} {sl : Nat → AV} {bk : Nat → Blk} {ρ ρ' : Rho} {S S' : Nat → List Nat} {a : Act} {e : Eff} {v : Value}

/-- What is read beside R: the rows that are lent. -/
def lent (R : Nat → Prop) (S : Nat → List Nat) (ro : List Nat) (b : Nat) : Prop := R b ∨ ∃ i ∈ ro, b ∈ S i

theorem isAt_one {ρ : Rho} (hone : ∀ i u, ρ i = some u → u.oneCell' = true) : ∀ {a : At} {v : Value}, a ≠ .unk → isAt ρ a v → v.oneCell' = true
  | .unk, _, h, _ => absurd rfl h
  | .sc _, _, _, h => by rw [h.1]; exact h.2
  | .ptr _ _, _, _, ⟨_, _, h⟩ => by rw [h]; rfl
  | .eptr _ _ _ _, _, _, ⟨_, _, _, _, _, h⟩ => by rw [h]; rfl
  | .sl _, _, _, h => hone _ _ h
  | .fn _, _, _, h => by rw [show _ = _ from h]; rfl
  | .clo _ _, _, _, ⟨_, h, _⟩ => by rw [h]; rfl

theorem rowCast_own {t : Ty} {b : Blk} {xs : List t.den} (h : rowCast true t b = some xs) : ∃ e, b = .row true e t xs := by
  cases b with
  | dead => simp [rowCast] at h
  | cells => simp [rowCast] at h
  | mp => simp [rowCast] at h
  | hole => simp [rowCast] at h
  | row own e t' ys =>
    simp only [rowCast] at h
    split at h
    · rename_i hh
      obtain ⟨h1, h2⟩ := hh
      subst h1; subst h2
      simp only [Option.some.injEq] at h
      exact ⟨e, by rw [h]⟩
    · cases h

theorem rowCast_ro {t : Ty} {b : Blk} {xs : List t.den} (h : rowCast false t b = some xs) : ∃ own e t' ys, b = .row own e t' ys ∧ ∃ hh : t'.ro = t, xs = cast (by rw [← hh, Ty.ro_den]) ys := by
  cases b with
  | dead => simp [rowCast] at h
  | cells => simp [rowCast] at h
  | mp => simp [rowCast] at h
  | hole => simp [rowCast] at h
  | row own e t' ys =>
    simp only [rowCast] at h
    split at h
    · rename_i hh
      simp only [Option.some.injEq] at h
      exact ⟨own, e, t', ys, rfl, hh, h.symm⟩
    · cases h

theorem rep_nil_row (own : Bool) (e : TypeId) (t : Ty) : rep w R (.row own e t) [] [.slice none 0 0] [] := by
  refine ⟨.slice none 0 0, [], [], rfl, ⟨rfl, rfl⟩, ?_⟩
  cases own
  · exact ⟨⟨none, 0, rfl, fun h => absurd h (by simp)⟩, rfl⟩
  · exact ⟨World.ownsRow_nil w 0 e t.size, rfl⟩

theorem reify_sound (hb : ∀ i, blkRep w R ρ (ρ i) (S i) (bk i)) : ∀ {t : Ty} {cs : List At} {vs : List Value} {x : t.den} {own ro : List Nat}, reify bk t cs = some (x, own, ro) → All2 (isAt ρ) cs vs →
    rep w (lent R S ro) t x vs (own.flatMap S)
  | .int k, cs, vs, x, own, ro, h, hv => by
    simp only [reify] at h
    split at h
    · split at h
      · rename_i k' m hk
        subst hk
        simp only [Option.some.injEq, Prod.mk.injEq] at h
        obtain ⟨rfl, rfl, rfl⟩ := h
        match vs, hv with
        | [u], hv => exact ⟨by rw [hv.1.1], rfl⟩
      · cases h
    · cases h
  | .bool, cs, vs, x, own, ro, h, hv => by
    simp only [reify] at h
    split at h
    · simp only [Option.some.injEq, Prod.mk.injEq] at h
      obtain ⟨rfl, rfl, rfl⟩ := h
      match vs, hv with
      | [u], hv => exact ⟨by rw [hv.1.1], rfl⟩
    · cases h
  | .str, cs, vs, x, own, ro, h, hv => by
    simp only [reify] at h
    split at h
    · simp only [Option.some.injEq, Prod.mk.injEq] at h
      obtain ⟨rfl, rfl, rfl⟩ := h
      match vs, hv with
      | [u], hv => exact ⟨by rw [hv.1.1], rfl⟩
    · cases h
  | .pair p q, cs, vs, x, own, ro, h, hv => by
    simp only [reify] at h
    split at h
    · rename_i x1 i j h1
      split at h
      · rename_i y1 i' j' h2
        simp only [Option.some.injEq, Prod.mk.injEq] at h
        obtain ⟨rfl, rfl, rfl⟩ := h
        have r1 := reify_sound hb h1 (hv.take p.size)
        have r2 := reify_sound hb h2 (hv.drop p.size)
        refine ⟨vs.take p.size, vs.drop p.size, i.flatMap S, i'.flatMap S, (List.take_append_drop _ _).symm, List.flatMap_append, ?_, ?_⟩
        · exact rep_keep (fun _ _ => rfl) (fun b hb => hb.imp id (fun ⟨k, hk, hk'⟩ => ⟨k, List.mem_append_left _ hk, hk'⟩)) (fun _ _ => rfl) r1
        · exact rep_keep (fun _ _ => rfl) (fun b hb => hb.imp id (fun ⟨k, hk, hk'⟩ => ⟨k, List.mem_append_right _ hk, hk'⟩)) (fun _ _ => rfl) r2
      · cases h
    · cases h
  | .row o e t, cs, vs, x, own, ro, h, hv => by
    simp only [reify] at h
    split at h
    · rename_i id
      split at h
      · rename_i he
        split at h
        · rename_i xs hxs
          simp only [Option.some.injEq, Prod.mk.injEq] at h
          obtain ⟨rfl, rfl, rfl⟩ := h
          match vs, hv with
          | [u], hv =>
            have hu : ρ id = some u := hv.1
            cases o
            · obtain ⟨own', e', t', ys, hbk, hh, rfl⟩ := rowCast_ro hxs
              subst hh
              have hr := hb id
              rw [hbk] at hr he
              simp only [elemOf, Option.some.injEq] at he
              subst he
              obtain ⟨v', h1, h2⟩ := hr
              rw [hu] at h1
              simp only [Option.some.injEq] at h1
              subst h1
              exact rep_ro (R' := lent R S [id]) (fun b hb => .inl hb) (fun b hb => .inr ⟨id, by simp, hb⟩) h2
            · obtain ⟨e', hbk⟩ := rowCast_own hxs
              have hr := hb id
              rw [hbk] at hr he
              simp only [elemOf, Option.some.injEq] at he
              subst he
              obtain ⟨v', h1, h2⟩ := hr
              rw [hu] at h1
              simp only [Option.some.injEq] at h1
              subst h1
              simp only [List.flatMap_cons, List.flatMap_nil, List.append_nil]
              exact rep_keep (fun _ _ => rfl) (fun b hb => .inl hb) (fun _ _ => rfl) h2
        · cases h
      · cases h
    · simp only [Option.some.injEq, Prod.mk.injEq] at h
      obtain ⟨rfl, rfl, rfl⟩ := h
      match vs, hv with
      | [u], hv =>
        rw [hv.1.1]
        exact rep_nil_row o e t
    · cases h
  | .map o, cs, vs, x, own, ro, h, hv => by
    simp only [reify] at h
    split at h
    · rename_i id
      split at h
      · rename_i nn own' l hbk
        match vs, hv with
        | [u], hv =>
          have hu : ρ id = some u := hv.1
          have hr := hb id
          rw [hbk] at hr
          obtain ⟨v', h1, h2, _⟩ := hr
          rw [hu] at h1
          simp only [Option.some.injEq] at h1
          subst h1
          cases o
          · simp only [Option.some.injEq, Prod.mk.injEq] at h
            obtain ⟨rfl, rfl, rfl⟩ := h
            exact rep_ro (t := .map own') (R' := lent R S [id]) (fun b hb => .inl hb) (fun b hb => .inr ⟨id, by simp, hb⟩) h2
          · cases own'
            · cases h
            · simp only [Option.some.injEq, Prod.mk.injEq] at h
              obtain ⟨rfl, rfl, rfl⟩ := h
              simp only [List.flatMap_cons, List.flatMap_nil, List.append_nil]
              exact rep_keep (fun _ _ => rfl) (fun b hb => .inl hb) (fun _ _ => rfl) h2
      · cases h
    · simp only [Option.some.injEq, Prod.mk.injEq] at h
      obtain ⟨rfl, rfl, rfl⟩ := h
      match vs, hv with
      | [u], hv =>
        rw [hv.1.1]
        exact .inl ⟨rfl, rfl, rfl⟩
    · cases h

theorem flatMap_eq {α β : Type} {f g : α → List β} : ∀ {l : List α}, (∀ i ∈ l, f i = g i) → l.flatMap f = l.flatMap g
  | [], _ => rfl
  | x :: l, h => by rw [List.flatMap_cons, List.flatMap_cons, h x (by simp), flatMap_eq fun i hi => h i (by simp [hi])]

theorem nodup_of_flatMap {f : Nat → List Nat} : ∀ {l : List Nat}, (l.flatMap f).Nodup → ∀ i ∈ l, (f i).Nodup
  | [], _, _, hi => by simp at hi
  | x :: l, h, i, hi => by
    rw [List.flatMap_cons, List.nodup_append] at h
    rcases List.mem_cons.1 hi with rfl | hi
    · exact h.1
    · exact nodup_of_flatMap h.2.1 i hi

theorem disj_of_flatMap {f : Nat → List Nat} : ∀ {l : List Nat}, (l.flatMap f).Nodup → ∀ i ∈ l, ∀ j ∈ l, i ≠ j → ∀ b ∈ f i, b ∉ f j
  | [], _, _, hi, _, _, _, _, _ => by simp at hi
  | x :: l, h, i, hi, j, hj, hij, b, hb => by
    rw [List.flatMap_cons, List.nodup_append] at h
    intro hb'
    rcases List.mem_cons.1 hi with hi2 | hi2
    · rcases List.mem_cons.1 hj with hj2 | hj2
      · exact hij (hi2.trans hj2.symm)
      · subst hi2; exact h.2.2 b hb b (List.mem_flatMap.2 ⟨j, hj2, hb'⟩) rfl
    · rcases List.mem_cons.1 hj with hj2 | hj2
      · subst hj2; exact h.2.2 b hb' b (List.mem_flatMap.2 ⟨i, hi2, hb⟩) rfl
      · exact disj_of_flatMap h.2.1 i hi2 j hj2 hij b hb hb'

theorem updBk_append {l1 l2 : List (Nat × Blk)} {bk : Nat → Blk} : updBk (l1 ++ l2) bk = updBk l1 (updBk l2 bk) := by
  induction l1 with
  | nil => rfl
  | cons p r ih => funext j; simp only [List.cons_append, updBk, ih]

theorem updBk_mem {l : List (Nat × Blk)} {bk bk' : Nat → Blk} {j : Nat} (h : j ∈ l.map (·.1)) : updBk l bk j = updBk l bk' j := by
  induction l with
  | nil => simp at h
  | cons p r ih =>
    simp only [updBk]
    split
    · rfl
    · rename_i hne
      simp only [List.map_cons, List.mem_cons] at h
      exact ih (h.resolve_left hne)

theorem inject_ids : ∀ {t : Ty} {x : t.den} {n : Nat}, n ≤ (inject t x n).2.2 ∧ (inject t x n).2.1.map (·.1) = List.range' n ((inject t x n).2.2 - n)
  | .int _, _, n => by simp [inject]
  | .bool, _, n => by simp [inject]
  | .str, _, n => by simp [inject]
  | .pair a b, x, n => by
    obtain ⟨h1, h2⟩ := inject_ids (t := a) (x := x.1) (n := n)
    obtain ⟨h3, h4⟩ := inject_ids (t := b) (x := x.2) (n := (inject a x.1 n).2.2)
    simp only [inject, List.map_append, h2, h4]
    refine ⟨by omega, ?_⟩
    have e : (inject b x.2 (inject a x.1 n).2.2).2.2 - n = ((inject a x.1 n).2.2 - n) + ((inject b x.2 (inject a x.1 n).2.2).2.2 - (inject a x.1 n).2.2) := by omega
    rw [e, ← List.range'_append]
    congr 2
    omega
  | .row _ _ _, _, n => by simp [inject]
  | .map _, _, n => by simp [inject]

/-- Data that lie in memory, as new rows of the abstract state: their values, the blocks that they own. -/
theorem inject_sound : ∀ {t : Ty} {x : t.den} {n : Nat} {cs : List Value} {T : List Nat}, rep w R t x cs T →
    ∃ (vals : Nat → Value) (Sx : Nat → List Nat), T = ((inject t x n).2.1.map (·.1)).flatMap Sx ∧
      (∀ i ∈ (inject t x n).2.1.map (·.1), (vals i).oneCell' = true) ∧
      ∀ (ρ' : Rho), (∀ i ∈ (inject t x n).2.1.map (·.1), ρ' i = some (vals i)) →
        All2 (isAt ρ') (inject t x n).1 cs ∧ ∀ (bk : Nat → Blk), ∀ i ∈ (inject t x n).2.1.map (·.1), blkRep w R ρ' (ρ' i) (Sx i) (updBk (inject t x n).2.1 bk i)
  | .int k, x, n, cs, T, h => ⟨fun _ => undef, fun _ => [], by simpa [inject] using h.2, by simp [inject], fun ρ' _ => ⟨by rw [h.1]; exact ⟨⟨rfl, rfl⟩, trivial⟩, by simp [inject]⟩⟩
  | .bool, x, n, cs, T, h => ⟨fun _ => undef, fun _ => [], by simpa [inject] using h.2, by simp [inject], fun ρ' _ => ⟨by rw [h.1]; exact ⟨⟨rfl, rfl⟩, trivial⟩, by simp [inject]⟩⟩
  | .str, x, n, cs, T, h => ⟨fun _ => undef, fun _ => [], by simpa [inject] using h.2, by simp [inject], fun ρ' _ => ⟨by rw [h.1]; exact ⟨⟨rfl, rfl⟩, trivial⟩, by simp [inject]⟩⟩
  | .pair a b, x, n, cs, T, ⟨c1, c2, T1, T2, h1, h2, h3, h4⟩ => by
    obtain ⟨v1, S1, e1, o1, k1⟩ := inject_sound (n := n) h3
    obtain ⟨v2, S2, e2, o2, k2⟩ := inject_sound (n := (inject a x.1 n).2.2) h4
    obtain ⟨m1, r1⟩ := inject_ids (t := a) (x := x.1) (n := n)
    obtain ⟨m2, r2⟩ := inject_ids (t := b) (x := x.2) (n := (inject a x.1 n).2.2)
    have lt1 : ∀ i ∈ (inject a x.1 n).2.1.map (·.1), i < (inject a x.1 n).2.2 := fun i hi => by rw [r1, List.mem_range'_1] at hi; omega
    have ge2 : ∀ i ∈ (inject b x.2 (inject a x.1 n).2.2).2.1.map (·.1), ¬ i < (inject a x.1 n).2.2 := fun i hi => by rw [r2, List.mem_range'_1] at hi; omega
    refine ⟨fun i => if i < (inject a x.1 n).2.2 then v1 i else v2 i, fun i => if i < (inject a x.1 n).2.2 then S1 i else S2 i, ?_, ?_, ?_⟩
    · simp only [inject, List.map_append, List.flatMap_append]
      rw [h2, e1, e2]
      congr 1
      · exact flatMap_eq fun i hi => by rw [if_pos (lt1 i hi)]
      · exact flatMap_eq fun i hi => by rw [if_neg (ge2 i hi)]
    · intro i hi
      simp only [inject, List.map_append, List.mem_append] at hi
      rcases hi with hi | hi
      · simp only [if_pos (lt1 i hi)]; exact o1 i hi
      · simp only [if_neg (ge2 i hi)]; exact o2 i hi
    · intro ρ' hρ
      simp only [inject, List.map_append, List.mem_append] at hρ
      obtain ⟨p1, q1⟩ := k1 ρ' (fun i hi => by rw [hρ i (.inl hi), if_pos (lt1 i hi)])
      obtain ⟨p2, q2⟩ := k2 ρ' (fun i hi => by rw [hρ i (.inr hi), if_neg (ge2 i hi)])
      refine ⟨by rw [h1]; exact p1.append p2, fun bk i hi => ?_⟩
      simp only [inject, List.map_append, List.mem_append] at hi
      simp only [inject, updBk_append]
      rcases hi with hi | hi
      · simp only [if_pos (lt1 i hi)]; exact q1 _ i hi
      · simp only [if_neg (ge2 i hi)]
        rw [updBk_not (fun h => ge2 i hi (lt1 i h))]
        exact q2 _ i hi
  | .row own e t, xs, n, cs, T, h => by
    obtain ⟨v, flat, Se, h1, h2, h3⟩ := h
    have h1' : cs = [v] := h1
    subst h1'
    refine ⟨fun _ => v, fun _ => T, by simp [inject], fun i hi => ?_, fun ρ' hρ => ⟨⟨?_, trivial⟩, fun bk i hi => ?_⟩⟩
    · cases own
      · obtain ⟨⟨A, c, rfl, _⟩, _⟩ := h3; rfl
      · rcases h3.1.2 with ⟨rfl, _⟩ | ⟨g, cap, cur, rfl, _⟩ <;> rfl
    · exact hρ n (by simp [inject])
    · simp only [inject, List.map_cons, List.map_nil, List.mem_singleton] at hi
      subst hi
      simp only [inject, updBk, ↓reduceIte]
      exact ⟨v, hρ i (by simp [inject]), v, flat, Se, rfl, h2, h3⟩
  | .map own, l, n, cs, T, h => by
    obtain ⟨v, rfl, hone⟩ : ∃ v, cs = [v] ∧ v.oneCell' = true := by
      rcases h with ⟨h1, _⟩ | ⟨g, h1, _⟩
      · exact ⟨_, h1, rfl⟩
      · exact ⟨_, h1, rfl⟩
    refine ⟨fun _ => v, fun _ => T, by simp [inject], fun i hi => hone, fun ρ' hρ => ⟨⟨?_, trivial⟩, fun bk i hi => ?_⟩⟩
    · exact hρ n (by simp [inject])
    · simp only [inject, List.map_cons, List.map_nil, List.mem_singleton] at hi
      subst hi
      simp only [inject, updBk, ↓reduceIte]
      exact ⟨v, hρ i (by simp [inject]), h, fun h => by cases h⟩

end Go.Eng
