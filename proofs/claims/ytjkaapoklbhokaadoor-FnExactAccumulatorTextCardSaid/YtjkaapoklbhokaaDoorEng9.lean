/- The engine, part 9: structs and slices built, make, append. Conditions as in part 5. -/
import Derived.Test.YtjkaapoklbhokaaDoorEng8
import Derived.Maps.AppendAt
set_option linter.all false
namespace Go.Eng
open Go.RowKit

variable {P : Program} {ti : Nat → Option TI}
variable {n : Nat} {w w' : World} {R R' : Nat → Prop} {sl : Nat → AV} {bk : Nat → Blk} {ρ ρ' : Rho} {S S' : Nat → List Nat} {a : Act} {e : Eff} {v : Value} {o : Oper} {nx : Nat}

theorem fold_fill (l : List Value) : ∀ (k off : Nat) (cs : Array Value), off + k + l.length ≤ cs.size →
    ((l.zipIdx k).foldl (fun cs (p : Value × Nat) => cs.setIfInBounds (off + p.2) p.1) cs).toList = cs.toList.take (off + k) ++ l ++ cs.toList.drop (off + k + l.length) := by
  induction l with
  | nil => intro k off cs _; simp
  | cons u l ih =>
    intro k off cs h
    simp only [List.length_cons] at h
    simp only [List.zipIdx_cons, List.foldl_cons]
    rw [ih (k + 1) off _ (by simp; omega)]
    simp only [Array.toList_setIfInBounds, List.length_cons]
    have e1 : (cs.toList.set (off + k) u).take (off + (k + 1)) = cs.toList.take (off + k) ++ [u] := by
      rw [List.set_eq_take_append_cons_drop, if_pos (by simp; omega), List.take_append]
      simp only [List.length_take, Array.length_toList]
      rw [Nat.min_eq_left (by omega), List.take_of_length_le (by simp; omega), show off + (k + 1) - (off + k) = 1 from by omega]
      rfl
    have e2 : (cs.toList.set (off + k) u).drop (off + (k + 1) + l.length) = cs.toList.drop (off + k + (l.length + 1)) := by
      rw [List.drop_set]
      rw [if_pos (by omega)]
      congr 1
      omega
    rw [e1, e2]
    simp

theorem fill_cons {place : Nat → Option (Nat × Nat)} {cells : Array Value} {i off size : Nat} {v : Value} {r : List (Nat × Value)} (hp : place i = some (off, size)) (hs : v.cells.size = size) (hl : off + size ≤ cells.size) :
    ∃ cells' : Array Value, cells'.toList = cells.toList.take off ++ v.cells.toList ++ cells.toList.drop (off + size) ∧ Instr.fill place cells ((i, v) :: r) = Instr.fill place cells' r := by
  refine ⟨v.cells.zipIdx.foldl (fun cs (p : Value × Nat) => cs.setIfInBounds (off + p.2) p.1) cells, ?_, ?_⟩
  · have := fold_fill v.cells.toList 0 off cells (by rw [Array.length_toList]; omega)
    rw [Array.length_toList, hs] at this
    simp only [Nat.add_zero] at this
    rw [← this, ← Array.foldl_toList, Array.toList_zipIdx]
  · simp only [Instr.fill, hp]
    rw [if_neg (by simp [hs, hl])]

theorem fillA_sound (h : Inv n w R sl bk ρ S a) {flds : List (Nat × Nat)} : ∀ {parts : List (Nat × Operand)} {cs cs' : List At} {cells : Array Value}, fillA flds sl parts cs = some cs' → All2 (isAt ρ) cs cells.toList →
    ∃ cells' : Array Value, Instr.fill (flds.toArray[·]?) cells (parts.map fun p => (p.1, a.eval p.2)) = some cells' ∧ All2 (isAt ρ) cs' cells'.toList
  | [], cs, cs', cells, hf, hc => by
    simp only [fillA, Option.some.injEq] at hf
    subst hf
    exact ⟨cells, rfl, hc⟩
  | (i, x) :: r, cs, cs', cells, hf, hc => by
    simp only [fillA] at hf
    split at hf
    · rename_i off size ats h1 h2
      split at hf
      · rename_i hh
        have hat := atoms_sound h h2 (evalA_sound h x)
        have hvl : (a.eval x).cells.size = size := by rw [← Array.length_toList, ← hat.length]; exact hh.1
        have hcl : cs.length = cells.size := by rw [hc.length, Array.length_toList]
        have h2' := hh.2
        obtain ⟨c1, e1, e2⟩ := fill_cons (place := (flds.toArray[·]?)) (cells := cells) (i := i) (r := r.map fun p => (p.1, a.eval p.2)) (by simpa using h1) hvl (by omega)
        obtain ⟨c2, e3, e4⟩ := fillA_sound h (cells := c1) hf (by
          rw [e1]
          exact ((hc.take off).append hat).append (hc.drop (off + size)))
        exact ⟨c2, by rw [List.map_cons, e2]; exact e3, e4⟩
      · cases hf
    · cases hf

theorem places_of {fs : List Field} (h : (fs.map fun f => (f.offset, P.cellsOf f.type)).all (fun p => p.2 != 0) = true) :
    fs.mapM (fun f => (P.info? f.type).map fun i => (f.offset, i.size)) = some (fs.map fun f => (f.offset, P.cellsOf f.type)) := by
  induction fs with
  | nil => rfl
  | cons f fs ih =>
    simp only [List.map_cons, List.all_cons, Bool.and_eq_true] at h
    have h1 := h.1
    cases hi : P.info? f.type with
    | none => simp [Program.cellsOf, hi] at h1
    | some i => simp [List.mapM_cons, hi, ih h.2, Program.cellsOf]

theorem sound_build {T : TypeId} {parts : Array (Nat × Operand)} {ty : Ty} {flds : List (Nat × Nat)} {bytes : Nat} {cs : List At} (ho : o.op = .build T parts) (hT : TIok P T ⟨ty, .struct flds, bytes⟩)
    (hfl : flds.all (fun p => p.2 != 0) = true) (hf : fillA flds sl parts.toList ((zeroCs ty).map .sc) = some cs) : OpSound P o sl bk nx ⟨.comp true cs, []⟩ :=
  sound_pure fun n w R ρ S a h => by
    obtain ⟨d, hd, hsh⟩ := hT.under
    obtain ⟨fs, rfl, hl⟩ := shape_struct hsh
    have hz := hT.zero
    cases hj : P.info? T with
    | none => simp [hj] at hz
    | some j =>
      simp only [hj, Option.bind_some] at hz
      cases hzz : j.zero with
      | none => simp [hzz] at hz
      | some z =>
        simp only [hzz, Option.map_some, Option.some.injEq] at hz
        obtain ⟨cells', h1, h2⟩ := fillA_sound h (cells := z.cells) hf (by rw [hz]; exact zero_at (zeroCs_one ty))
        have hb : P.built T (parts.map fun (i, x) => (i, a.eval x)).toList = some cells' := by
          unfold Program.built
          rw [hl] at hfl h1
          simp only [hj, hd, hzz, places_of hfl]
          rw [Array.toList_map]
          exact h1
        exact ⟨.agg cells', by simp [execOp, ho, run_build w T _ cells' hb], .inr ⟨cells'.toList, by simp, h2⟩⟩

theorem reifyL_sound (h : Inv n w R sl bk ρ S a) {t : Ty} : ∀ {vs : List AV} {us : List Value} {xs : List t.den} {own : List Nat}, reifyL bk t vs = some (xs, own) → All2 (isAV ρ) vs us →
    elemsR (rep w (lent R S []) t) xs (us.flatMap fun u => u.cells.toList) (own.flatMap S) ∧ (∀ u ∈ us, u.cells.size = t.size) ∧ List.length (α := t.den) xs = vs.length
  | [], [], xs, own, hr, _ => by
    simp only [reifyL, Option.some.injEq, Prod.mk.injEq] at hr
    obtain ⟨rfl, rfl⟩ := hr
    exact ⟨⟨rfl, rfl⟩, by simp, rfl⟩
  | v :: vs, u :: us, xs, own, hr, hv => by
    simp only [reifyL] at hr
    split at hr
    · rename_i cs hcs
      split at hr
      · rename_i hlen
        split at hr
        · rename_i x o1 h1
          split at hr
          · rename_i ys o2 h2
            simp only [Option.some.injEq, Prod.mk.injEq] at hr
            obtain ⟨rfl, rfl⟩ := hr
            have hat := atoms_sound h hcs hv.1
            obtain ⟨p1, p2, p3⟩ := reifyL_sound h h2 hv.2
            refine ⟨⟨u.cells.toList, _, o1.flatMap S, o2.flatMap S, by simp, by simp, reify_sound h.blks h1 hat, p1⟩, fun q hq => ?_, by simp [p3]⟩
            rcases List.mem_cons.1 hq with rfl | hq
            · rw [← Array.length_toList, ← hat.length]; exact hlen
            · exact p2 q hq
          · cases hr
        · cases hr
      · cases hr
    · cases hr
  | [], _ :: _, _, _, _, hv => hv.elim
  | _ :: _, [], _, _, _, hv => hv.elim

theorem partsFrom_sound (h : Inv n w R sl bk ρ S a) : ∀ {parts : List (Nat × Operand)} {k : Nat} {vs : List AV}, partsFrom sl parts k = some vs →
    All2 (isAV ρ) vs (parts.map fun p => a.eval p.2) ∧ (parts.map fun p => (p.1, a.eval p.2)) = ((parts.map fun p => a.eval p.2).zipIdx k).map fun p => (p.2, p.1)
  | [], k, vs, hp => by
    simp only [partsFrom, Option.some.injEq] at hp
    subst hp
    exact ⟨trivial, rfl⟩
  | (i, x) :: r, k, vs, hp => by
    simp only [partsFrom] at hp
    split at hp
    · rename_i hi
      subst hi
      split at hp
      · rename_i us hus
        simp only [Option.some.injEq] at hp
        subst hp
        obtain ⟨p1, p2⟩ := partsFrom_sound h hus
        exact ⟨⟨evalA_sound h x, p1⟩, by simp only [List.map_cons, List.zipIdx_cons, p2]⟩
      · cases hp
    · cases hp

theorem fill_seq {size : Nat} : ∀ (us : List Value) (k : Nat) (cells : Array Value), (∀ u ∈ us, u.cells.size = size) → (k + us.length) * size ≤ cells.size →
    ∃ cells' : Array Value, Instr.fill (fun i => some (i * size, size)) cells ((us.zipIdx k).map fun p => (p.2, p.1)) = some cells' ∧
      cells'.toList = cells.toList.take (k * size) ++ (us.flatMap fun u => u.cells.toList) ++ cells.toList.drop ((k + us.length) * size)
  | [], k, cells, _, _ => ⟨cells, rfl, by simp⟩
  | u :: us, k, cells, hs, hl => by
    have hu := hs u (by simp)
    have hl' : k * size + size ≤ cells.size := by
      have : (k + 1) * size ≤ (k + (u :: us).length) * size := Nat.mul_le_mul_right _ (by simp)
      rw [Nat.add_mul, Nat.one_mul] at this
      omega
    obtain ⟨c1, e1, e2⟩ := fill_cons (place := fun i => some (i * size, size)) (cells := cells) (i := k) (v := u) (r := (us.zipIdx (k + 1)).map fun p => (p.2, p.1)) rfl hu hl'
    have hc1 : c1.size = cells.size := by
      rw [← Array.length_toList, e1]
      simp only [List.length_append, List.length_take, List.length_drop, Array.length_toList, hu]; omega
    obtain ⟨c2, e3, e4⟩ := fill_seq us (k + 1) c1 (fun q hq => hs q (by simp [hq])) (by rw [hc1]; rw [List.length_cons] at hl; rw [show k + 1 + us.length = k + (us.length + 1) from by omega]; exact hl)
    refine ⟨c2, by rw [List.zipIdx_cons, List.map_cons, e2]; exact e3, ?_⟩
    rw [e4, e1]
    have hul : u.cells.toList.length = size := by rw [Array.length_toList]; exact hu
    have t1 : ((cells.toList.take (k * size) ++ u.cells.toList ++ cells.toList.drop (k * size + size))).take ((k + 1) * size) = cells.toList.take (k * size) ++ u.cells.toList := by
      rw [List.take_append, List.take_of_length_le (by simp only [List.length_append, List.length_take, Array.length_toList, hu, Nat.add_mul]; omega)]
      have : (k + 1) * size - (cells.toList.take (k * size) ++ u.cells.toList).length = 0 := by
        simp only [List.length_append, List.length_take, Array.length_toList, hu, Nat.add_mul]; omega
      rw [this, List.take_zero, List.append_nil]
    have t2 : ((cells.toList.take (k * size) ++ u.cells.toList ++ cells.toList.drop (k * size + size))).drop ((k + 1 + us.length) * size) = cells.toList.drop ((k + (u :: us).length) * size) := by
      have hlen : (cells.toList.take (k * size) ++ u.cells.toList).length = k * size + size := by
        simp only [List.length_append, List.length_take, Array.length_toList, hu]; omega
      rw [List.drop_append, List.drop_eq_nil_of_le (by rw [hlen, Nat.add_mul, Nat.add_mul]; omega), List.nil_append, List.drop_drop, hlen]
      congr 1
      simp only [List.length_cons, Nat.add_mul]; omega
    rw [t1, t2, List.flatMap_cons]
    simp

/-- A new row of the call's own. -/
theorem sound_newRow {e : TypeId} {t : Ty} {xs : List t.den} {own : List Nat} (hlt : ∀ k ∈ own, k < nx)
    (H : ∀ (n : Nat) (w : World) (R : Nat → Prop) (ρ : Rho) (S : Nat → List Nat) (a : Act), Inv n w R sl bk ρ S a → ∃ v w', (execOp a.eval o).run P w = .ok (.value v) w' ∧ v.oneCell' = true ∧
      Keeps (fun b => ∃ i ∈ own, b ∈ S i) w w' ∧ ∃ T, rep w' R (.row true e t) xs [v] T ∧ T.Nodup ∧ ∀ b ∈ T, (∃ i ∈ own, b ∈ S i) ∨ w.heap.size ≤ b) :
    OpSound P o sl bk nx ⟨one (.sl nx), (nx, .row true e t xs) :: deads own⟩ := by
  intro n w R ρ S a next Q h hf hk
  obtain ⟨v, w', hr, hone, hkeep, T, hrep, hTn, hTb⟩ := H n w R ρ S a h
  have hmem : nx ∈ (Eff.ids ⟨one (.sl nx), (nx, .row true e t xs) :: deads own⟩) := by simp [Eff.ids]
  have hin : ∀ k ∈ own, k ∈ (Eff.ids ⟨one (.sl nx), (nx, .row true e t xs) :: deads own⟩) := fun k hk' => by simp only [Eff.ids, List.map_cons, deads_ids, List.mem_cons]; exact .inr hk'
  have hids : ∀ k ∈ (Eff.ids ⟨one (.sl nx), (nx, .row true e t xs) :: deads own⟩), k = nx ∨ (k ≠ nx ∧ k ∈ own) := by
    intro k hk'
    simp only [Eff.ids, List.map_cons, deads_ids, List.mem_cons] at hk'
    rcases hk' with hk' | hk'
    · exact .inl hk'
    · exact .inr ⟨by have := hlt k hk'; omega, hk'⟩
  have hnew : ∀ i ∈ [nx], ρ i = none := fun i hi => by
    rw [List.mem_singleton] at hi; subst hi
    exact hf i hmem (Nat.le_refl _)
  unfold Oper.wp
  rw [hr]
  obtain ⟨ρ', S', hp⟩ := Post.of (e := ⟨one (.sl nx), (nx, .row true e t xs) :: deads own⟩) (w' := w') (R' := R) (v := v) h (new := [nx]) (vals := fun _ => v) (Sx := fun k => if k = nx then T else [])
    (fun i hi => by rw [List.mem_singleton] at hi; rw [hi]; exact hmem) hnew (fun _ _ => hone)
    (hkeep.mono fun b _ ⟨i, hi, hib⟩ => ⟨i, hin i hi, hib⟩)
    (fun k hk' => by
      rcases hids k hk' with hk1 | ⟨hk1, hk2⟩
      · subst hk1
        simp only [updBk, ↓reduceIte]
        exact ⟨v, Rho.add_mem (by simp), hrep⟩
      · simp only [if_neg hk1]
        rw [upd_tail hk1, updBk_deads hk2]
        rfl)
    (fun k hk' b hb => by
      by_cases hk1 : k = nx
      · simp only [if_pos hk1] at hb
        rcases hTb b hb with ⟨i, hi, hib⟩ | hge
        · exact .inl ⟨i, hin i hi, hib⟩
        · exact .inr hge
      · simp only [if_neg hk1] at hb; simp at hb)
    (by
      simp only [Eff.ids, List.map_cons, deads_ids, List.flatMap_cons, ↓reduceIte]
      have : own.flatMap (fun k => if k = nx then T else []) = [] := by
        rw [List.flatMap_eq_nil_iff]
        intro k hk'
        rw [if_neg (by have := hlt k hk'; omega)]
      rw [this, List.append_nil]; exact hTn)
    (fun _ hb => hb) (fun _ hb => .inl hb) (fun b hb => Nat.lt_of_lt_of_le (h.Rlt b hb) hkeep.size)
    (fun k hk' b hb hR => by
      by_cases hk1 : k = nx
      · simp only [if_pos hk1] at hb
        rcases hTb b hb with ⟨i, hi, hib⟩ | hge
        · exact h.offR i b hib hR
        · have := h.Rlt b hR; omega
      · simp only [if_neg hk1] at hb; simp at hb)
    (isAV_of (Rho.add_mem (by simp)))
  exact hk _ _ _ _ _ hp

theorem lent_nil : lent R S [] = R := by
  funext b
  simp [lent]

theorem reifyR_sound (h : Inv n w R sl bk ρ S a) {t : Ty} : ∀ {vs : List AV} {us : List Value} {xs : List t.den}, reifyR bk t vs = some xs → All2 (isAV ρ) vs us →
    elemsR (rep w R t) xs (us.flatMap fun u => u.cells.toList) [] ∧ (∀ u ∈ us, u.cells.size = t.size) ∧ List.length (α := t.den) xs = vs.length
  | [], [], xs, hr, _ => by
    simp only [reifyR, Option.some.injEq] at hr
    subst hr
    exact ⟨⟨rfl, rfl⟩, by simp, rfl⟩
  | v :: vs, u :: us, xs, hr, hv => by
    simp only [reifyR] at hr
    split at hr
    · rename_i cs hcs
      split at hr
      · rename_i hlen
        split at hr
        · rename_i x ro h1
          split at hr
          · rename_i hro
            split at hr
            · rename_i ys h2
              simp only [Option.some.injEq] at hr
              subst hr
              have hat := atoms_sound h hcs hv.1
              obtain ⟨p1, p2, p3⟩ := reifyR_sound h h2 hv.2
              have hnil : ∀ i ∈ ro, S i = [] := fun i hi => by
                have hs := List.all_eq_true.1 hro i hi
                have hb := h.blks i
                cases hbk : bk i with
                | row own e t' ys =>
                  rw [hbk] at hs hb
                  cases own with
                  | true => simp [safeRo] at hs
                  | false =>
                    have ht : t'.ro = t' := by simpa [safeRo] using hs
                    obtain ⟨v', _, hr'⟩ := hb
                    exact rep_ro_nil (t := .row false e t') (by simp only [Ty.ro, ht]) hr'
                | _ => rw [hbk] at hs; simp [safeRo] at hs
              have r0 := reify_sound h.blks h1 hat
              have r1 : rep w R t x u.cells.toList [] := rep_keep (fun _ _ => rfl) (fun b hb => by
                rcases hb with hb | ⟨i, hi, hib⟩
                · exact hb
                · rw [hnil i hi] at hib; simp at hib) (fun _ _ => rfl) r0
              refine ⟨⟨u.cells.toList, _, [], [], by simp, rfl, r1, p1⟩, fun q hq => ?_, by simp [p3]⟩
              rcases List.mem_cons.1 hq with rfl | hq
              · rw [← Array.length_toList, ← hat.length]; exact hlen
              · exact p2 q hq
            · cases hr
          · cases hr
        · cases hr
      · cases hr
    · cases hr
  | [], _ :: _, _, _, hv => hv.elim
  | _ :: _, [], _, _, hv => hv.elim

theorem size_zero_cells {z : Array Value} {m : Nat} : ((Array.range m).map (z[· % z.size]!)).size = m := by simp

theorem sound_buildSlice {T : TypeId} {len : Nat} {parts : Array (Nat × Operand)} {ty : Ty} {bytes : Nat} {e : TypeId} {i : TI} {t : Ty} {vs : List AV} {xs : List t.den} {own : List Nat} (ho : o.op = .buildSlice T len parts)
    (hT : TIok P T ⟨ty, .slice e, bytes⟩) (he : TIok P e i) (hts : t.size = i.ty.size) (hlen : parts.toList.length = len) (hbig : len * i.ty.size ≤ 16777216) (hp : partsFrom sl parts.toList 0 = some vs)
    (hr : ∀ (n : Nat) (w : World) (R : Nat → Prop) (ρ : Rho) (S : Nat → List Nat) (a : Act) (us : List Value), Inv n w R sl bk ρ S a → All2 (isAV ρ) vs us → elemsR (rep w R t) xs (us.flatMap fun u => u.cells.toList) (own.flatMap S) ∧ (∀ u ∈ us, u.cells.size = t.size) ∧ List.length (α := t.den) xs = vs.length)
    (hnd : nodupB own = true) (hlt : ∀ k ∈ own, k < nx) : OpSound P o sl bk nx ⟨one (.sl nx), (nx, .row true e t xs) :: deads own⟩ := by
  refine sound_newRow hlt fun n w R ρ S a h => ?_
  obtain ⟨d, hd, hsh⟩ := hT.under
  have := shape_slice hsh
  subst this
  obtain ⟨p1, p2⟩ := partsFrom_sound h hp
  obtain ⟨q1, q2, q3⟩ := hr n w R ρ S a _ h p1
  rw [hts] at q2
  obtain ⟨z, hz, hzc⟩ := he.zeros w
  have hvs : vs.length = len := by rw [p1.length, List.length_map, hlen]
  have hus : (parts.toList.map fun p => a.eval p.2).length = len := by rw [List.length_map, hlen]
  have H : ∀ c0 : Array Value, c0.size = len * i.ty.size → Instr.fill (fun k => some (k * i.ty.size, i.ty.size)) c0 (parts.toList.map fun p => (p.1, a.eval p.2)) = some ((parts.toList.map fun p => a.eval p.2).flatMap fun u => u.cells.toList).toArray := by
    intro c0 hc0
    obtain ⟨cells, f1, f2⟩ := fill_seq (size := i.ty.size) (parts.toList.map fun p => a.eval p.2) 0 c0 q2 (by rw [hus, hc0]; simp)
    rw [p2, f1]
    congr 1
    apply Array.toList_inj.1
    rw [f2, hus]
    simp [hc0]
  obtain ⟨cells, hcells'⟩ : ∃ cells : Array Value, cells = ((parts.toList.map fun p => a.eval p.2).flatMap fun u => u.cells.toList).toArray := ⟨_, rfl⟩
  rw [← hcells'] at H
  have hcells : cells.toList = (parts.toList.map fun p => a.eval p.2).flatMap fun u => u.cells.toList := by rw [hcells']
  have hrun : (execOp a.eval o).run P w = .ok (.value (.slice (some ⟨w.heap.size, 0, none⟩) len len)) (w.alloc (.cells cells e)) := by
    have hb' : ¬ (16777216 < len * i.ty.size) := by omega
    by_cases h0 : len * i.ty.size = 0
    · have H0 := H (Array.map (fun _ => default) (Array.range 0)) (by simp [h0])
      simp [execOp, ho, Instr.buildSlice, run_underlying hd, run_size he, h0, newRow, H0]
    · have H0 := H (Array.map (fun x => z.cells[x % z.cells.size]!) (Array.range (len * i.ty.size))) (by simp)
      simp [execOp, ho, Instr.buildSlice, run_underlying hd, run_size he, h0, hz, hb', newRow, H0]
  have hsz : cells.size = len * i.ty.size := by
    rw [← Array.length_toList, hcells, flat_len q1, q3, hvs, hts]
  have hR' : ∀ b, R b → (w.alloc (.cells cells e)).heap[b]? = w.heap[b]? := fun b hb => Below.heap_alloc w _ b (h.Rlt b hb)
  refine ⟨_, _, hrun, rfl, Keeps.alloc _ _ _, w.heap.size :: own.flatMap S, ?_, ?_, ?_⟩
  · refine ⟨_, cells.toList, own.flatMap S, rfl, ?_, ?_, rfl⟩
    · rw [hcells]
      exact elemsR_mono (fun y c T' hT' hy => rep_keep hR' (fun _ hb => hb) (fun b hb => Below.heap_alloc w _ b (by
        obtain ⟨k, _, hkb⟩ := List.mem_flatMap.1 (hT' b hb)
        exact h.lt k b hkb)) hy) q1
    · have hl : List.length (α := t.den) xs = len := by rw [q3, hvs]
      rw [hl, hts]
      have h63 : len ≤ maxLen := by
        have := Nat.le_mul_of_pos_right len i.ty.size_pos
        unfold maxLen; omega
      exact World.ownsRow_lit w cells len (Nat.zero_le _) h63 hsz
  · rw [List.nodup_cons]
    refine ⟨fun hb => ?_, nodup_flat h.nodup h.disj (nodupB_sound hnd)⟩
    obtain ⟨k, _, hkb⟩ := List.mem_flatMap.1 hb
    have := h.lt k _ hkb; omega
  · intro b hb
    rcases List.mem_cons.1 hb with rfl | hb
    · exact .inr (Nat.le_refl _)
    · obtain ⟨k, hk, hkb⟩ := List.mem_flatMap.1 hb
      exact .inl ⟨k, hk, hkb⟩

end Go.Eng
