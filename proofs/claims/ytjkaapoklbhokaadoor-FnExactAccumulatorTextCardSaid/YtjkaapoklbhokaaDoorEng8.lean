/- The engine, part 8: stores. Conditions as in part 5. -/
import Derived.Test.YtjkaapoklbhokaaDoorEng7
set_option linter.all false
namespace Go.Eng
open Go.RowKit

variable {P : Program} {ti : Nat → Option TI}
variable {n : Nat} {w w' : World} {R R' : Nat → Prop} {sl : Nat → AV} {bk : Nat → Blk} {ρ ρ' : Rho} {S S' : Nat → List Nat} {a : Act} {e : Eff} {v : Value} {o : Oper} {nx : Nat}

theorem heap_setRow {g : Nat} {cur new : Array Value} {t : TypeId} {fr : Nat × Nat} (hg : w.heap[g]? = some (.cells cur t fr)) : (w.setRow g new).heap[g]? = some (.cells new t fr) := by
  simp [World.setRow, Array.getElem?_modify, hg]

theorem heap_setRow_ne {g k : Nat} {new : Array Value} (h : k ≠ g) : (w.setRow g new).heap[k]? = w.heap[k]? := by
  simp [World.setRow, Array.getElem?_modify, Ne.symm h]

theorem Keeps.setRow {S : Nat → Prop} {g : Nat} {new : Array Value} (hg : S g) : Keeps S w (w.setRow g new) :=
  ⟨rfl, rfl, rfl, by simp [World.setRow], fun k _ hn => heap_setRow_ne (fun e => hn (e ▸ hg))⟩

theorem size_setRow {g : Nat} {new : Array Value} : (w.setRow g new).heap.size = w.heap.size := by simp [World.setRow]

theorem known_one (hone : ∀ i u, ρ i = some u → u.oneCell' = true) : ∀ {cs : List At} {vs : List Value}, cs.all At.known = true → All2 (isAt ρ) cs vs → ∀ u ∈ vs, u.oneCell' = true
  | [], [], _, _, u, hu => by simp at hu
  | c :: cs, v :: vs, hk, h, u, hu => by
    simp only [List.all_cons, Bool.and_eq_true] at hk
    rcases List.mem_cons.1 hu with rfl | hu
    · exact isAt_one hone (fun e => by rw [e] at hk; simp [At.known] at hk) h.1
    · exact known_one hone hk.2 h.2 u hu
  | [], _ :: _, _, h, _, _ => h.elim
  | _ :: _, [], _, h, _, _ => h.elim

theorem run_storeVar {T : TypeId} {i : TI} (hT : TIok P T i) {v : Value} (hl : v.cells.toList.length = i.ty.size) (ad : Addr) (w : World) :
    (storeVar T ad v).run P w = (storeCells ad v.cells.toList).run P w := by
  rw [Array.length_toList] at hl
  simp [storeVar, run_size hT, hl]

theorem undef_tup : isAV ρ (.tup []) undef := ⟨[], rfl, trivial⟩

theorem sound_storePtr {T : TypeId} {i : TI} {ad x : Operand} {id off : Nat} {cs ats : List At} {T0 : TypeId} (ho : o.op = .store T ad x) (hT : TIok P T i) (hx : evalA sl ad = .comp false [.ptr id off]) (hb : bk id = .cells cs T0)
    (ha : atoms (evalA sl x) = some ats) (hal : ats.length = i.ty.size) (hl : off + i.ty.size ≤ cs.length) (hk : ats.all At.known = true) (hlt : ∀ i, nx ≤ i → bk i = .dead) :
    OpSound P o sl bk nx ⟨.tup [], (id, .cells (cs.take off ++ (fixNil i.ty ats nx).1 ++ cs.drop (off + i.ty.size)) T0) :: (fixNil i.ty ats nx).2.1⟩ := by
  intro n w R ρ S a next Q h hf hkk
  obtain ⟨g, h1, h2⟩ := ev_at h hx (by simp)
  have hb' := h.blks id
  rw [hb] at hb'
  obtain ⟨g', vs, h3, h4, h5, h6⟩ := hb'
  rw [h1] at h3
  simp only [Option.some.injEq, Value.pointer.injEq, Addr.mk.injEq, and_true] at h3
  subst h3
  have hat := atoms_sound h ha (evalA_sound h x)
  have hone := known_one h.one hk hat
  have hvl : (a.eval x).cells.toList.length = i.ty.size := by rw [← hat.length, hal]
  have hlen := h6.length
  have hidnx : id < nx := by
    rcases Nat.lt_or_ge id nx with h' | h'
    · exact h'
    · rw [hlt id h'] at hb; cases hb
  have hrange : ∀ j ∈ (fixNil i.ty ats nx).2.1.map (·.1), nx ≤ j := fun j hj => by rw [fixNil_ids.2, List.mem_range'_1] at hj; omega
  have hst := run_storeCells_at P g off T0 (a.eval x).cells.toList 0 (List.toArray vs) w h5 (by simp only [List.size_toArray]; omega) hone
  have hrun : (execOp a.eval o).run P w = .ok .skip (w.setRow g (vs.take off ++ (a.eval x).cells.toList ++ vs.drop (off + i.ty.size)).toArray) := by
    have hvl' := hvl
    rw [Array.length_toList] at hvl'
    simp only [Nat.add_zero, Array.length_toList, hvl'] at hst
    simp [execOp, ho, Instr.storeAt, h2, Instr.sureAddr, run_storeVar hT hvl, hst]
  unfold Oper.wp
  rw [hrun]
  have hnew : ∀ j ∈ (fixNil i.ty ats nx).2.1.map (·.1), ρ j = none := fun j hj => hf j (by simp only [Eff.ids, List.map_cons, List.mem_cons]; exact .inr hj) (hrange j hj)
  obtain ⟨p1, p2⟩ := fixNil_sound (n := nx) (t := i.ty) hat (Rho.add_ext hnew) (fun j hj => Rho.add_mem (ρ := ρ) (vals := fun _ => .slice none 0 0) hj)
  have hids : ∀ j ∈ (Eff.ids ⟨.tup [], (id, .cells (cs.take off ++ (fixNil i.ty ats nx).1 ++ cs.drop (off + i.ty.size)) T0) :: (fixNil i.ty ats nx).2.1⟩), j = id ∨ (j ≠ id ∧ j ∈ (fixNil i.ty ats nx).2.1.map (·.1)) := by
    intro j hj
    simp only [Eff.ids, List.map_cons, List.mem_cons] at hj
    rcases hj with hj | hj
    · exact .inl hj
    · exact .inr ⟨by have := hrange j hj; omega, hj⟩
  have hid : id ∈ (Eff.ids ⟨.tup [], (id, .cells (cs.take off ++ (fixNil i.ty ats nx).1 ++ cs.drop (off + i.ty.size)) T0) :: (fixNil i.ty ats nx).2.1⟩) := by simp [Eff.ids]
  have hρid : ρ.add ((fixNil i.ty ats nx).2.1.map (·.1)) (fun _ => .slice none 0 0) id = ρ id := Rho.add_not (fun hm => by have := hrange id hm; omega)
  obtain ⟨ρ', S', hp⟩ := Post.of (e := ⟨.tup [], (id, .cells (cs.take off ++ (fixNil i.ty ats nx).1 ++ cs.drop (off + i.ty.size)) T0) :: (fixNil i.ty ats nx).2.1⟩)
    (w' := w.setRow g (vs.take off ++ (a.eval x).cells.toList ++ vs.drop (off + i.ty.size)).toArray) (R' := R) (v := undef) h (new := (fixNil i.ty ats nx).2.1.map (·.1))
    (vals := fun _ => .slice none 0 0) (Sx := fun j => if j = id then [g] else [])
    (fun j hj => by simp only [Eff.ids, List.map_cons, List.mem_cons]; exact .inr hj) hnew (fun _ _ => rfl)
    (Keeps.setRow ⟨id, hid, by rw [h4]; simp⟩)
    (fun j hj => by
      rcases hids j hj with hj1 | ⟨hj1, hj2⟩
      · subst hj1
        simp only [updBk, ↓reduceIte]
        refine ⟨g, _, by rw [hρid]; exact h1, rfl, heap_setRow h5, ?_⟩
        exact ((h6.mono (fun _ _ h' => isAt.ext (Rho.add_ext hnew) h')).take off |>.append p1).append ((h6.mono (fun _ _ h' => isAt.ext (Rho.add_ext hnew) h')).drop (off + i.ty.size))
      · simp only [if_neg hj1]
        rw [upd_tail hj1]
        exact p2 _ _ _ j hj2)
    (fun j hj b hbm => by
      by_cases hj1 : j = id
      · simp only [if_pos hj1, List.mem_singleton] at hbm
        exact .inl ⟨id, hid, by rw [h4, hbm]; simp⟩
      · simp only [if_neg hj1] at hbm; simp at hbm)
    (by
      simp only [Eff.ids, List.map_cons, List.flatMap_cons, ↓reduceIte]
      have : ((fixNil i.ty ats nx).2.1.map (·.1)).flatMap (fun j => if j = id then [g] else []) = [] := by
        rw [List.flatMap_eq_nil_iff]
        intro j hj
        rw [if_neg (by have := hrange j hj; omega)]
      rw [this]; simp)
    (fun _ hb => hb) (fun _ hb => .inl hb) (fun b hb => by rw [size_setRow]; exact h.Rlt b hb)
    (fun j hj b hbm hR => by
      by_cases hj1 : j = id
      · simp only [if_pos hj1, List.mem_singleton] at hbm
        exact h.offR id b (by rw [h4, hbm]; simp) hR
      · simp only [if_neg hj1] at hbm; simp at hbm)
    undef_tup
  exact hkk _ _ _ _ _ hp

theorem nodupB_sound : ∀ {l : List Nat}, nodupB l = true → l.Nodup
  | [], _ => List.nodup_nil
  | x :: l, h => by
    simp only [nodupB, Bool.and_eq_true, Bool.not_eq_true', List.contains_eq_mem, decide_eq_false_iff_not] at h
    exact List.nodup_cons.2 ⟨h.1, nodupB_sound h.2⟩

theorem nodup_flat (hn : ∀ i, (S i).Nodup) (hd : ∀ i j, i ≠ j → ∀ b ∈ S i, b ∉ S j) : ∀ {l : List Nat}, l.Nodup → (l.flatMap S).Nodup
  | [], _ => List.nodup_nil
  | x :: l, h => by
    rw [List.nodup_cons] at h
    rw [List.flatMap_cons, List.nodup_append]
    refine ⟨hn x, nodup_flat hn hd h.2, fun b hb c hc hbc => ?_⟩
    subst hbc
    obtain ⟨j, hj, hj'⟩ := List.mem_flatMap.1 hc
    exact hd x j (fun e => h.1 (e ▸ hj)) b hb hj'

theorem deads_ids {l : List Nat} : (deads l).map (·.1) = l := by
  simp [deads, Function.comp_def]

theorem updBk_deads {l : List Nat} {bk : Nat → Blk} {i : Nat} (h : i ∈ l) : updBk (deads l) bk i = .dead := by
  induction l with
  | nil => simp at h
  | cons x l ih =>
    simp only [deads, List.map_cons, updBk]
    split
    · rfl
    · rename_i hne
      exact ih ((List.mem_cons.1 h).resolve_left hne)

theorem sound_storeGen {T : TypeId} {i : TI} {ad x : Operand} {id ix sz j : Nat} {ats : List At} {e0 : TypeId} {t : Ty} {xs : List t.den} {x' : t.den} {own : List Nat} (ho : o.op = .store T ad x) (hT : TIok P T i)
    (hx : evalA sl ad = .comp false [.eptr id ix sz j]) (hb : bk id = .row true e0 t xs) (ha : atoms (evalA sl x) = some ats) (hal : ats.length = i.ty.size) (hsz : sz = t.size) (hl : j + i.ty.size ≤ t.size) (hk : ats.all At.known = true)
    (hnd : nodupB (id :: own) = true) (hfr : ∀ k ∈ id :: own, k < nx)
    (hgen : ∀ (n : Nat) (w : World) (R : Nat → Prop) (ρ : Rho) (S : Nat → List Nat) (a : Act), Inv n w R sl bk ρ S a → ∀ (c vs : List Value) (Ti : List Nat), rep w R t (List.getD (α := t.den) xs ix t.dflt) c Ti → All2 (isAt ρ) ats vs → ∀ (w' : World),
      (∀ b ∈ Ti, w'.heap[b]? = w.heap[b]?) → (∀ b, R b → w'.heap[b]? = w.heap[b]?) → (∀ k ∈ own, ∀ b ∈ S k, w'.heap[b]? = w.heap[b]?) → Ti.Nodup → (∀ b ∈ Ti, ∀ k ∈ own, b ∉ S k) →
      ∃ Tn, rep w' R t x' (c.take j ++ vs ++ c.drop (j + i.ty.size)) Tn ∧ Tn.Nodup ∧ ∀ b ∈ Tn, b ∈ Ti ∨ ∃ k ∈ own, b ∈ S k) :
    OpSound P o sl bk nx ⟨.tup [], (id, .row true e0 t (List.set xs ix x')) :: deads own⟩ := by
  intro n w R ρ S a next Q h hf hkk
  obtain ⟨ad0, m, c0, h1, h2, h3⟩ := ev_at h hx (by simp)
  have hb' := h.blks id
  rw [hb] at hb'
  obtain ⟨u, h4, u', flat, Se, hu, hel, hown, hS⟩ := hb'
  simp only [List.cons.injEq, and_true] at hu
  subst hu
  rw [h1, Option.some.injEq] at h4
  subst h4
  rcases hown.2 with ⟨hcon, _⟩ | ⟨g, cap, cur, hv, _, hg, hncap, hcapm, hcs, htake⟩
  · simp at hcon
  simp only [Value.slice.injEq, Option.some.injEq] at hv
  obtain ⟨rfl, hm, rfl⟩ := hv
  have hmx : ix < List.length (α := t.den) xs := by omega
  have hxs : (xs : List t.den)[ix]? = some (List.getD (α := t.den) xs ix t.dflt) := by
    rw [List.getD_eq_getElem?_getD, List.getElem?_eq_getElem hmx]; rfl
  obtain ⟨c1, c, c2, S1, Si, S2, hflat, hSe, e1, e2, e3⟩ := elemsR_split hel hxs
  have hl1 : c1.length = ix * t.size := by
    have := flat_len e1
    rw [List.length_take, Nat.min_eq_left (Nat.le_of_lt hmx)] at this
    exact this
  have hcl := rep_len e2
  have hat := atoms_sound h ha (evalA_sound h x)
  have hone := known_one h.one hk hat
  have hvl : (a.eval x).cells.toList.length = i.ty.size := by rw [← hat.length, hal]
  have hndl := nodupB_sound hnd
  rw [List.nodup_cons] at hndl
  have hflen : flat.length = List.length (α := t.den) xs * t.size := flat_len hel
  have hix : ix * t.size + t.size ≤ List.length (α := t.den) xs * t.size := by
    have : (ix + 1) * t.size ≤ List.length (α := t.den) xs * t.size := Nat.mul_le_mul_right _ hmx
    rw [Nat.add_mul, Nat.one_mul] at this; exact this
  have hcapsz : List.length (α := t.den) xs * t.size ≤ c0 * t.size := Nat.mul_le_mul_right _ hncap
  have hst := run_storeCells_at P g (ix * sz + j) e0 (a.eval x).cells.toList 0 cur w hg (by rw [hsz]; omega) hone
  have hrun : (execOp a.eval o).run P w = .ok .skip (w.setRow g (cur.toList.take (ix * sz + j) ++ (a.eval x).cells.toList ++ cur.toList.drop (ix * sz + j + i.ty.size)).toArray) := by
    have hvl' := hvl
    rw [Array.length_toList] at hvl'
    simp only [Nat.add_zero, Array.length_toList, hvl'] at hst
    simp only [Addr.add_lit, Nat.zero_add] at h3
    simp [execOp, ho, Instr.storeAt, h3, Instr.sureAddr, run_storeVar hT hvl, hst]
  unfold Oper.wp
  rw [hrun]
  have hgS : g ∈ S id := by rw [hS]; simp [Value.ownBlock]
  have hids : ∀ k ∈ (Eff.ids ⟨.tup [], (id, .row true e0 t (List.set xs ix x')) :: deads own⟩), k = id ∨ (k ≠ id ∧ k ∈ own) := by
    intro k hk'
    simp only [Eff.ids, List.map_cons, deads_ids, List.mem_cons] at hk'
    rcases hk' with hk' | hk'
    · exact .inl hk'
    · exact .inr ⟨fun e => hndl.1 (by rw [← e]; exact hk'), hk'⟩
  have hid : id ∈ (Eff.ids ⟨.tup [], (id, .row true e0 t (List.set xs ix x')) :: deads own⟩) := by simp [Eff.ids]
  have hinown : ∀ k ∈ own, k ∈ (Eff.ids ⟨.tup [], (id, .row true e0 t (List.set xs ix x')) :: deads own⟩) := fun k hk' => by simp only [Eff.ids, List.map_cons, deads_ids, List.mem_cons]; exact .inr hk'
  -- the reading of the new element
  have hSiS : ∀ b ∈ Si, b ∈ S id := fun b hb => by rw [hS, hSe]; simp [hb]
  have hgNot : g ∉ Se := fun hb => by
    have := h.nodup id
    rw [hS, List.nodup_append] at this
    exact this.2.2 g (by simp [Value.ownBlock]) g hb rfl
  have hSiN : Si.Nodup := by
    have := h.nodup id
    rw [hS, hSe, List.nodup_append, List.nodup_append, List.nodup_append] at this
    exact this.2.1.2.1.1
  obtain ⟨Tn, hr1, hTn, hTb⟩ := hgen n w R ρ S a h c _ Si e2 hat (w.setRow g (cur.toList.take (ix * sz + j) ++ (a.eval x).cells.toList ++ cur.toList.drop (ix * sz + j + i.ty.size)).toArray)
    (fun b hb => heap_setRow_ne (fun e => hgNot (by rw [← e, hSe]; simp [hb])))
    (fun b hb => heap_setRow_ne (fun e => h.offR id g hgS (by rw [← e]; exact hb)))
    (fun k hk' b hkb => heap_setRow_ne (fun e => h.disj k id (fun e' => hndl.1 (by rw [← e']; exact hk')) b hkb (by rw [e]; exact hgS)))
    hSiN (fun b hb k hk' hkb => h.disj k id (fun e' => hndl.1 (by rw [← e']; exact hk')) b hkb (hSiS b hb))
  have hkeepEl : ∀ {l : List t.den} {cs : List Value} {T : List Nat}, (∀ b ∈ T, b ∈ Se) → elemsR (rep w R t) l cs T → elemsR (rep (w.setRow g (cur.toList.take (ix * sz + j) ++ (a.eval x).cells.toList ++ cur.toList.drop (ix * sz + j + i.ty.size)).toArray) R t) l cs T := by
    intro l cs T hT' hE
    refine elemsR_mono (fun y cy Ty' hTy hry => rep_keep (fun b hb => heap_setRow_ne (fun e => h.offR id g hgS (by rw [← e]; exact hb))) (fun _ hb => hb) (fun b hb => heap_setRow_ne (fun e => ?_)) hry) hE
    have hbS : b ∈ Se := hT' b (hTy b hb)
    have := h.nodup id
    rw [hS, List.nodup_append] at this
    exact this.2.2 g (by simp [Value.ownBlock]) b hbS e.symm
  have hSeS : ∀ b ∈ Se, b ∈ S id := fun b hb => by rw [hS]; exact List.mem_append_right _ hb
  have hflat' : flat.take (ix * sz + j) ++ (a.eval x).cells.toList ++ flat.drop (ix * sz + j + i.ty.size) = c1 ++ ((c.take j ++ (a.eval x).cells.toList ++ c.drop (j + i.ty.size)) ++ c2) := by
    rw [hflat, hsz, ← hl1]
    rw [List.take_append, List.drop_append]
    rw [List.take_of_length_le (by omega : c1.length ≤ c1.length + j), show c1.length + j - c1.length = j from by omega, List.drop_eq_nil_of_le (by omega : c1.length ≤ c1.length + j + i.ty.size), show c1.length + j + i.ty.size - c1.length = j + i.ty.size from by omega]
    rw [List.take_append_of_le_length (by omega), List.drop_append_of_le_length (by omega)]
    simp [List.append_assoc]
  have hlen2 : (c.take j ++ (a.eval x).cells.toList ++ c.drop (j + i.ty.size)).length = t.size := by
    simp only [List.length_append, List.length_take, List.length_drop, hvl]; omega
  obtain ⟨ρ', S', hp⟩ := Post.of (e := ⟨.tup [], (id, .row true e0 t (List.set xs ix x')) :: deads own⟩)
    (w' := w.setRow g (cur.toList.take (ix * sz + j) ++ (a.eval x).cells.toList ++ cur.toList.drop (ix * sz + j + i.ty.size)).toArray) (R' := R) (v := undef) h (new := [])
    (vals := fun _ => undef) (Sx := fun k => if k = id then g :: (S1 ++ (Tn ++ S2)) else [])
    (fun k hk' => by simp at hk') (fun k hk' => by simp at hk') (fun k hk' => by simp at hk')
    (Keeps.setRow ⟨id, hid, hgS⟩)
    (fun k hk' => by
      have hadd : ρ.add [] (fun _ => undef) = ρ := by funext q; simp [Rho.add]
      rw [hadd]
      rcases hids k hk' with hk1 | ⟨hk1, hk2⟩
      · subst hk1
        simp only [updBk, ↓reduceIte]
        refine ⟨_, h1, _, c1 ++ ((c.take j ++ (a.eval x).cells.toList ++ c.drop (j + i.ty.size)) ++ c2), S1 ++ (Tn ++ S2), rfl, ?_, ?_, ?_⟩
        · exact elemsR_join hmx (hkeepEl (fun b hb => by rw [hSe]; simp [hb]) e1) hr1 (hkeepEl (fun b hb => by rw [hSe]; simp [hb]) e3)
        · rw [List.length_set]
          refine ⟨?_, .inr ⟨g, c0, _, by rw [hm], Nat.zero_le _, heap_setRow hg, hncap, hcapm, ?_, ?_⟩⟩
          · rw [← hflat', List.length_append, List.length_append, List.length_take, List.length_drop, hvl, hflen, hsz]; omega
          · simp only [List.size_toArray, List.length_append, List.length_take, List.length_drop, hvl, Array.length_toList, hcs, hsz]; omega
          · rw [← hflat']
            have hcur : cur.toList.take (List.length (α := t.den) xs * t.size) = flat := htake
            rw [← hcur, List.take_take, List.drop_take, Nat.min_eq_left (by rw [hsz]; omega)]
            rw [List.take_append, List.take_of_length_le (by simp only [List.length_append, List.length_take, hvl, Array.length_toList, hcs, hsz]; omega)]
            congr 2
            simp only [List.length_append, List.length_take, hvl, Array.length_toList, hcs, hsz]; omega
        · simp [Value.ownBlock]
      · simp only [if_neg hk1]
        rw [upd_tail hk1, updBk_deads hk2]
        rfl)
    (fun k hk' b hbm => by
      by_cases hk1 : k = id
      · simp only [if_pos hk1, List.mem_cons, List.mem_append] at hbm
        rcases hbm with rfl | hbm | hbm | hbm
        · exact .inl ⟨id, hid, hgS⟩
        · exact .inl ⟨id, hid, hSeS b (by rw [hSe]; simp [hbm])⟩
        · rcases hTb b hbm with hbm | ⟨q, hq, hqb⟩
          · exact .inl ⟨id, hid, hSeS b (by rw [hSe]; simp [hbm])⟩
          · exact .inl ⟨q, hinown q hq, hqb⟩
        · exact .inl ⟨id, hid, hSeS b (by rw [hSe]; simp [hbm])⟩
      · simp only [if_neg hk1] at hbm; simp at hbm)
    (by
      simp only [Eff.ids, List.map_cons, deads_ids, List.flatMap_cons, ↓reduceIte]
      have : own.flatMap (fun k => if k = id then g :: (S1 ++ (Tn ++ S2)) else []) = [] := by
        rw [List.flatMap_eq_nil_iff]
        intro k hk'
        rw [if_neg (fun e => hndl.1 (by rw [← e]; exact hk'))]
      rw [this, List.append_nil]
      have hN := h.nodup id
      rw [hS, hSe] at hN
      simp only [Value.ownBlock, Option.toList_some, List.singleton_append, List.nodup_cons, List.nodup_append, List.mem_append, not_or] at hN
      obtain ⟨⟨hg1, hg3, hg2⟩, n1, ⟨_, n2, dS⟩, d1⟩ := hN
      have hXd : ∀ k ∈ own, ∀ b ∈ S k, b ∉ S id := fun q hq b hqb => h.disj q id (fun e' => hndl.1 (by rw [← e']; exact hq)) b hqb
      simp only [List.nodup_cons, List.nodup_append, List.mem_append, not_or]
      refine ⟨⟨hg1, fun hb => ?_, hg2⟩, n1, ⟨hTn, n2, fun b hb c' hc' e' => ?_⟩, fun b hb c' hc' e' => ?_⟩
      · rcases hTb g hb with hb | ⟨q, hq, hqb⟩
        · exact hg3 hb
        · exact hXd q hq g hqb hgS
      · rcases hTb b hb with hb | ⟨q, hq, hqb⟩
        · exact dS b hb c' hc' e'
        · exact hXd q hq b hqb (hSeS b (by rw [hSe, e']; simp [hc']))
      · rcases hc' with hc' | hc'
        · rcases hTb c' hc' with hc' | ⟨q, hq, hqb⟩
          · exact d1 b hb c' (.inl hc') e'
          · exact hXd q hq c' hqb (hSeS c' (by rw [hSe, ← e']; simp [hb]))
        · exact d1 b hb c' (.inr hc') e')
    (fun _ hb => hb) (fun _ hb => .inl hb) (fun b hb => by rw [size_setRow]; exact h.Rlt b hb)
    (fun k hk' b hbm hR => by
      by_cases hk1 : k = id
      · simp only [if_pos hk1, List.mem_cons, List.mem_append] at hbm
        rcases hbm with rfl | hbm | hbm | hbm
        · exact h.offR id _ hgS hR
        · exact h.offR id b (hSeS b (by rw [hSe]; simp [hbm])) hR
        · rcases hTb b hbm with hbm | ⟨q, hq, hqb⟩
          · exact h.offR id b (hSiS b hbm) hR
          · exact h.offR q b hqb hR
        · exact h.offR id b (hSeS b (by rw [hSe]; simp [hbm])) hR
      · simp only [if_neg hk1] at hbm; simp at hbm)
    undef_tup
  exact hkk _ _ _ _ _ hp

theorem sound_storeElem {T : TypeId} {i : TI} {ad x : Operand} {id ix sz j : Nat} {ats new : List At} {e0 : TypeId} {t : Ty} {xs : List t.den} {x' : t.den} {own : List Nat} (ho : o.op = .store T ad x) (hT : TIok P T i)
    (hx : evalA sl ad = .comp false [.eptr id ix sz j]) (hb : bk id = .row true e0 t xs) (ha : atoms (evalA sl x) = some ats) (hal : ats.length = i.ty.size) (hsz : sz = t.size) (hl : j + i.ty.size ≤ t.size) (hk : ats.all At.known = true)
    (hre : reify bk t new = some (x', own, [])) (hnd : nodupB (id :: own) = true) (hfr : ∀ k ∈ id :: own, k < nx)
    (hnew : ∀ (w : World) (R : Nat → Prop) (ρ : Rho) (c vs : List Value) (Ti : List Nat), rep w R t (List.getD (α := t.den) xs ix t.dflt) c Ti → All2 (isAt ρ) ats vs → All2 (isAt ρ) new (c.take j ++ vs ++ c.drop (j + i.ty.size))) :
    OpSound P o sl bk nx ⟨.tup [], (id, .row true e0 t (List.set xs ix x')) :: deads own⟩ := by
  refine sound_storeGen ho hT hx hb ha hal hsz hl hk hnd hfr fun n w R ρ S a h c vs Ti hr hv w' _ hR hS _ _ => ?_
  have hr0 := reify_sound h.blks hre (hnew w R ρ c vs Ti hr hv)
  have hndl := nodupB_sound hnd
  rw [List.nodup_cons] at hndl
  refine ⟨own.flatMap S, rep_keep (fun b hb => ?_) (fun b hb => ?_) (fun b hb => ?_) hr0, nodup_flat h.nodup h.disj hndl.2, fun b hb => ?_⟩
  · rcases hb with hb | ⟨k, hk', _⟩
    · exact hR b hb
    · simp at hk'
  · rcases hb with hb | ⟨k, hk', _⟩
    · exact hb
    · simp at hk'
  · obtain ⟨k, hk', hkb⟩ := List.mem_flatMap.1 hb
    exact hS k hk' b hkb
  · obtain ⟨k, hk', hkb⟩ := List.mem_flatMap.1 hb
    exact .inr ⟨k, hk', hkb⟩

/-- A part of an element, its own rows with it. -/
theorem sound_storePart {T : TypeId} {i : TI} {ad x : Operand} {id ix sz j : Nat} {ats : List At} {e0 : TypeId} {t : Ty} {xs : List t.den} {y0 y : i.ty.den} {own : List Nat} (ho : o.op = .store T ad x) (hT : TIok P T i)
    (hx : evalA sl ad = .comp false [.eptr id ix sz j]) (hb : bk id = .row true e0 t xs) (ha : atoms (evalA sl x) = some ats) (hal : ats.length = i.ty.size) (hsz : sz = t.size) (hl : j + i.ty.size ≤ t.size) (hk : ats.all At.known = true)
    (hsub : subDen t (List.getD (α := t.den) xs ix t.dflt) j i.ty = some y0) (hre : reify bk i.ty ats = some (y, own, [])) (hnd : nodupB (id :: own) = true) (hfr : ∀ k ∈ id :: own, k < nx) :
    OpSound P o sl bk nx ⟨.tup [], (id, .row true e0 t (List.set xs ix (setDen t (List.getD (α := t.den) xs ix t.dflt) j i.ty y))) :: deads own⟩ := by
  refine sound_storeGen ho hT hx hb ha hal hsz hl hk hnd hfr fun n w R ρ S a h c vs Ti hr hv w' hTi hR hS hN hD => ?_
  have hr0 := reify_sound h.blks hre hv
  have hndl := nodupB_sound hnd
  rw [List.nodup_cons] at hndl
  have hX := nodup_flat (S := S) h.nodup h.disj hndl.2
  have hr1 : rep w' R i.ty y vs (own.flatMap S) := by
    refine rep_keep (fun b hb => ?_) (fun b hb => ?_) (fun b hb => ?_) hr0
    · rcases hb with hb | ⟨k, hk', _⟩
      · exact hR b hb
      · simp at hk'
    · rcases hb with hb | ⟨k, hk', _⟩
      · exact hb
      · simp at hk'
    · obtain ⟨k, hk', hkb⟩ := List.mem_flatMap.1 hb
      exact hS k hk' b hkb
  obtain ⟨c1, cu, c2, A, B, C, rfl, h5, rfl, h6, h7⟩ := focus hsub hr
  have hul := rep_len h6
  have hnew := h7 w' R y vs (own.flatMap S) (fun b hb => hTi b (by
    rcases List.mem_append.1 hb with hb | hb
    · simp [hb]
    · simp [hb])) hR (fun _ hb => hb) hr1
  have e1 : (c1 ++ (cu ++ c2)).take j ++ vs ++ (c1 ++ (cu ++ c2)).drop (j + i.ty.size) = c1 ++ (vs ++ c2) := by
    rw [← h5, ← hul, List.take_left', ← List.append_assoc c1 cu c2, List.drop_left' (by simp), List.append_assoc]
    rfl
  rw [e1]
  refine ⟨_, hnew, ?_, fun b hb => ?_⟩
  · simp only [List.nodup_append, List.mem_append] at hN ⊢
    obtain ⟨nA, ⟨_, nC, _⟩, dA⟩ := hN
    refine ⟨nA, ⟨hX, nC, fun b hb c' hc' e' => ?_⟩, fun b hb c' hc' e' => ?_⟩
    · obtain ⟨k, hk', hkb⟩ := List.mem_flatMap.1 hb
      exact hD c' (by simp [hc']) k hk' (e' ▸ hkb)
    · rcases hc' with hc' | hc'
      · obtain ⟨k, hk', hkb⟩ := List.mem_flatMap.1 hc'
        exact hD b (by simp [hb]) k hk' (e' ▸ hkb)
      · exact dA b hb c' (.inr hc') e'
  · simp only [List.mem_append] at hb
    rcases hb with hb | hb | hb
    · exact .inl (by simp [hb])
    · obtain ⟨k, hk', hkb⟩ := List.mem_flatMap.1 hb
      exact .inr ⟨k, hk', hkb⟩
    · exact .inl (by simp [hb])

/-- A row taken out of an element of a row. -/
theorem sound_loadHole {T : TypeId} {i : TI} {x : Operand} {id ix sz j : Nat} {e0 e' : TypeId} {t t' : Ty} {xs : List t.den} {ys : List t'.den} (ho : o.op = .load T x) (hT : TIok P T i) (hx : evalA sl x = .comp false [.eptr id ix sz j])
    (hb : bk id = .row true e0 t xs) (hsz : sz = t.size) (hag : i.sd.agg = false) (hty : i.ty = .row true e' t') (hsub : subDen t (List.getD (α := t.den) xs ix t.dflt) j (.row true e' t') = some ys) (hid : id < nx) :
    OpSound P o sl bk nx ⟨one (.sl nx), [(id, .hole e0 t xs ix j (.row true e' t') nx), (nx, .row true e' t' ys)]⟩ := by
  intro n w R ρ S a next Q h hf hk
  obtain ⟨ad, m, c, h1, h2, h3⟩ := ev_at h hx (by simp)
  have hb' := h.blks id
  rw [hb] at hb'
  obtain ⟨u, h4, u', flat, Se, hu, hel, hown, hS⟩ := hb'
  simp only [List.cons.injEq, and_true] at hu
  subst hu
  rw [h1, Option.some.injEq] at h4
  subst h4
  rcases hown.2 with ⟨hcon, _⟩ | ⟨g, cap, cur, hv, _⟩
  · simp at hcon
  have hown' := hown
  simp only [Value.slice.injEq, Option.some.injEq] at hv
  obtain ⟨rfl, hm, rfl⟩ := hv
  have hmx : ix < List.length (α := t.den) xs := by omega
  have hxs : (xs : List t.den)[ix]? = some (List.getD (α := t.den) xs ix t.dflt) := by
    rw [List.getD_eq_getElem?_getD, List.getElem?_eq_getElem hmx]; rfl
  obtain ⟨c1, cc, c2, S1, Si, S2, hflat, hSe, e1, e2, e3⟩ := elemsR_split hel hxs
  have hl1 : c1.length = ix * t.size := by
    have := flat_len e1
    rw [List.length_take, Nat.min_eq_left (Nat.le_of_lt hmx)] at this
    exact this
  obtain ⟨d1, cu, d2, A, B, C, hcc, h5, hSi, h6, h7⟩ := focus hsub e2
  have h6' := h6
  obtain ⟨uv, flat', Se', hcu, _⟩ := h6
  have hcu' : cu = [uv] := hcu
  subst hcu'
  have hone : uv.oneCell' = true := by
    obtain ⟨A', c', hh⟩ := row_form h6'
    rw [hh]; rfl
  have hcell : w.cell? ((⟨g, 0, none⟩ : Addr).add (ix * sz + j)) = some uv := by
    refine hown'.cells (g := g) rfl _ uv ?_
    rw [hflat, hcc, hsz, ← hl1, ← h5, List.getElem?_append_right (by omega), Nat.add_sub_cancel_left, List.getElem?_append_left (by simp), List.getElem?_append_right (by omega), Nat.sub_self]
    rfl
  obtain ⟨v, hrun, hvv⟩ := run_loadVar (w := w) hT (ad := (⟨g, 0, none⟩ : Addr).add (ix * sz + j)) (vs := [uv]) (by rw [hty]; rfl) (by
    intro k u' hu'
    cases k with
    | zero =>
      simp only [List.getElem?_cons_zero, Option.some.injEq] at hu'
      subst hu'
      rw [Go.Deep.add_add, Nat.add_zero]
      exact hcell
    | succ k => simp at hu')
  have hrun' : (execOp a.eval o).run P w = .ok (.value v) w := by
    simp [execOp, ho, Instr.loadAt, h3, Instr.sureAddr, hrun]
  unfold Oper.wp
  rw [hrun']
  have hne : id ≠ nx := by omega
  have hids : ∀ k, k ∈ (Eff.ids ⟨one (.sl nx), [(id, .hole e0 t xs ix j (.row true e' t') nx), (nx, .row true e' t' ys)]⟩) ↔ k = id ∨ k = nx := by
    intro k; simp [Eff.ids]
  have hnew : ∀ k ∈ [nx], ρ k = none := fun k hk' => by
    rw [List.mem_singleton] at hk'; subst hk'
    exact hf k ((hids k).2 (.inr rfl)) (Nat.le_refl _)
  have hSid : ∀ b, (b = g ∨ b ∈ S1 ∨ (b ∈ A ∨ b ∈ C) ∨ b ∈ S2) ∨ b ∈ B → b ∈ S id := by
    intro b hb
    rw [hS, hSe, hSi]
    simp only [Value.ownBlock, Option.toList_some, List.mem_append, List.mem_singleton]
    rcases hb with (hb | hb | (hb | hb) | hb) | hb <;> simp [hb]
  have hN := h.nodup id
  rw [hS, hSe, hSi] at hN
  have hperm : ((g :: (S1 ++ ((A ++ C) ++ S2))) ++ B).Perm ((Value.slice (some ⟨g, 0, none⟩) m c).ownBlock.toList ++ (S1 ++ ((A ++ (B ++ C)) ++ S2))) := by
    rw [List.perm_iff_count]
    intro b
    simp only [Value.ownBlock, Option.toList_some, List.cons_append, List.nil_append, List.count_cons, List.count_append]
    omega
  have hN2 := (hperm.nodup_iff).2 hN
  rw [List.nodup_append] at hN2
  obtain ⟨ρ', S', hp⟩ := Post.of (e := ⟨one (.sl nx), [(id, .hole e0 t xs ix j (.row true e' t') nx), (nx, .row true e' t' ys)]⟩) (w' := w) (R' := R) (v := v) h (new := [nx]) (vals := fun _ => uv)
    (Sx := fun k => if k = id then g :: (S1 ++ ((A ++ C) ++ S2)) else if k = nx then B else [])
    (fun k hk' => by rw [List.mem_singleton] at hk'; exact (hids k).2 (.inr hk')) hnew (fun _ _ => hone) (Keeps.refl _ _)
    (fun k hk' => by
      rcases (hids k).1 hk' with rfl | rfl
      · simp only [updBk, ↓reduceIte]
        refine ⟨_, uv, by rw [Rho.add_not (by simpa using hne)]; exact h1, Rho.add_mem (by simp), fun b hb => h.lt _ b (hSid b (.inl (by simpa [or_assoc] using hb))), fun w' R' hk1 hk2 hk3 y T' hy => ?_⟩
        have hkeep : ∀ {l : List t.den} {cs : List Value} {U : List Nat}, (∀ b ∈ U, b ∈ g :: (S1 ++ ((A ++ C) ++ S2))) → elemsR (rep w R t) l cs U → elemsR (rep w' R' t) l cs U := fun hU hE =>
          elemsR_mono (fun y cy Ty' hTy hry => rep_keep hk2 hk3 (fun b hb => hk1 b (hU b (hTy b hb))) hry) hE
        have hel' := h7 w' R' y [uv] T' (fun b hb => hk1 b (by
          rcases List.mem_append.1 hb with hb | hb
          · simp [hb]
          · simp [hb])) hk2 hk3 hy
        refine ⟨(Value.slice (some ⟨g, 0, none⟩) m c).ownBlock.toList ++ (S1 ++ ((A ++ (T' ++ C)) ++ S2)), ⟨_, flat, S1 ++ ((A ++ (T' ++ C)) ++ S2), rfl, ?_, ?_, rfl⟩, ?_⟩
        · rw [hflat, hcc]
          exact elemsR_join hmx (hkeep (fun b hb => by simp [hb]) e1) hel' (hkeep (fun b hb => by simp [hb]) e3)
        · rw [List.length_set]
          exact ownsRow_keep hown' (fun b hb => hk1 b (by
            simp only [Value.ownBlock, Option.toList_some, List.mem_singleton] at hb
            simp [hb]))
        · rw [List.perm_iff_count]
          intro b
          simp only [Value.ownBlock, Option.toList_some, List.cons_append, List.nil_append, List.count_cons, List.count_append]
          omega
      · simp only [updBk, if_neg (Ne.symm hne), ↓reduceIte]
        exact ⟨uv, Rho.add_mem (by simp), h6'⟩)
    (fun k hk' b hbm => by
      rcases (hids k).1 hk' with rfl | rfl
      · simp only [↓reduceIte] at hbm
        exact .inl ⟨_, hk', hSid b (.inl (by simpa [or_assoc] using hbm))⟩
      · simp only [if_neg (Ne.symm hne), ↓reduceIte] at hbm
        exact .inl ⟨id, (hids id).2 (.inl rfl), hSid b (.inr hbm)⟩)
    (by
      simp only [Eff.ids, List.map_cons, List.map_nil, List.flatMap_cons, List.flatMap_nil, ↓reduceIte, if_neg (Ne.symm hne), List.append_nil]
      exact (hperm.nodup_iff).2 hN)
    (fun _ hb => hb) (fun _ hb => .inl hb) (fun b hb => h.Rlt b hb)
    (fun k hk' b hbm hR => by
      rcases (hids k).1 hk' with rfl | rfl
      · simp only [↓reduceIte] at hbm
        exact h.offR _ b (hSid b (.inl (by simpa [or_assoc] using hbm))) hR
      · simp only [if_neg (Ne.symm hne), ↓reduceIte] at hbm
        exact h.offR id b (hSid b (.inr hbm)) hR)
    (by
      have := hvv (ρ := ρ.add [nx] fun _ => uv) (cs := [.sl nx]) ⟨Rho.add_mem (by simp), trivial⟩
      rw [hag] at this
      exact this)
  exact hk _ _ _ _ _ hp

end Go.Eng
