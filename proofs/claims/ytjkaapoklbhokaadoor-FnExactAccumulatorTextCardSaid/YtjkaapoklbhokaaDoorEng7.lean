/- The engine, part 7: new variables and loads. Conditions as in part 5. -/
import Derived.Test.YtjkaapoklbhokaaDoorEng6
import Derived.Deep.Slices
set_option linter.all false
namespace Go.Eng
open Go.RowKit

variable {P : Program} {ti : Nat → Option TI}
variable {n : Nat} {w w' : World} {R R' : Nat → Prop} {sl : Nat → AV} {bk : Nat → Blk} {ρ ρ' : Rho} {S S' : Nat → List Nat} {a : Act} {e : Eff} {v : Value} {o : Oper} {nx : Nat}

theorem rep_zero : ∀ t : Ty, rep w R t t.dflt (zeroCs t) []
  | .int _ => ⟨rfl, rfl⟩
  | .bool => ⟨rfl, rfl⟩
  | .str => ⟨rfl, rfl⟩
  | .map _ => .inl ⟨rfl, rfl, rfl⟩
  | .pair a b => ⟨zeroCs a, zeroCs b, [], [], rfl, rfl, rep_zero a, rep_zero b⟩
  | .row own e t => rep_nil_row own e t

theorem rep_ro_nil : ∀ {t : Ty} {x : t.den} {cs : List Value} {T : List Nat}, t.ro = t → rep w R t x cs T → T = []
  | .int _, _, _, _, _, h => h.2
  | .bool, _, _, _, _, h => h.2
  | .str, _, _, _, _, h => h.2
  | .map own, _, _, _, ht, h => by
    simp only [Ty.ro, Ty.map.injEq] at ht
    subst ht
    rcases h with ⟨_, _, h⟩ | ⟨_, _, _, h, _⟩ <;> exact h
  | .pair a b, x, cs, T, ht, ⟨c1, c2, S1, S2, _, h2, h3, h4⟩ => by
    simp only [Ty.ro, Ty.pair.injEq] at ht
    rw [h2, rep_ro_nil ht.1 h3, rep_ro_nil ht.2 h4]; rfl
  | .row own e t, xs, cs, T, ht, ⟨v, flat, Se, h1, h2, h3⟩ => by
    simp only [Ty.ro, Ty.row.injEq, true_and] at ht
    obtain ⟨rfl, ht⟩ := ht
    rw [h3.2]
    have : ∀ b ∈ Se, False := elemsR_all (p := fun _ => False) (fun x c T hr b hb => by rw [rep_ro_nil ht hr] at hb; simp at hb) h2
    exact List.eq_nil_iff_forall_not_mem.2 fun b hb => this b hb

theorem fixNil_ids : ∀ {t : Ty} {cs : List At} {n : Nat}, n ≤ (fixNil t cs n).2.2 ∧ (fixNil t cs n).2.1.map (·.1) = List.range' n ((fixNil t cs n).2.2 - n)
  | .int _, _, n => by simp [fixNil]
  | .bool, _, n => by simp [fixNil]
  | .str, _, n => by simp [fixNil]
  | .map _, _, n => by simp [fixNil]
  | .pair a b, cs, n => by
    obtain ⟨h1, h2⟩ := fixNil_ids (t := a) (cs := cs.take a.size) (n := n)
    obtain ⟨h3, h4⟩ := fixNil_ids (t := b) (cs := cs.drop a.size) (n := (fixNil a (cs.take a.size) n).2.2)
    simp only [fixNil, List.map_append, h2, h4]
    refine ⟨by omega, ?_⟩
    have e : (fixNil b (cs.drop a.size) (fixNil a (cs.take a.size) n).2.2).2.2 - n = ((fixNil a (cs.take a.size) n).2.2 - n) + ((fixNil b (cs.drop a.size) (fixNil a (cs.take a.size) n).2.2).2.2 - (fixNil a (cs.take a.size) n).2.2) := by omega
    rw [e, ← List.range'_append]
    congr 2
    omega
  | .row _ _ _, cs, n => by
    simp only [fixNil]
    split <;> simp

theorem fixNil_sound : ∀ {t : Ty} {cs : List At} {vs : List Value} {n : Nat}, All2 (isAt ρ) cs vs → ∀ {ρ' : Rho}, ρ.ext ρ' → (∀ i ∈ (fixNil t cs n).2.1.map (·.1), ρ' i = some (.slice none 0 0)) →
    All2 (isAt ρ') (fixNil t cs n).1 vs ∧ ∀ (w : World) (R : Nat → Prop) (bk : Nat → Blk), ∀ i ∈ (fixNil t cs n).2.1.map (·.1), blkRep w R ρ' (ρ' i) [] (updBk (fixNil t cs n).2.1 bk i)
  | .int _, cs, vs, n, h, ρ', he, _ => ⟨h.mono fun _ _ h' => isAt.ext he h', fun _ _ _ i hi => by simp [fixNil] at hi⟩
  | .bool, cs, vs, n, h, ρ', he, _ => ⟨h.mono fun _ _ h' => isAt.ext he h', fun _ _ _ i hi => by simp [fixNil] at hi⟩
  | .str, cs, vs, n, h, ρ', he, _ => ⟨h.mono fun _ _ h' => isAt.ext he h', fun _ _ _ i hi => by simp [fixNil] at hi⟩
  | .map _, cs, vs, n, h, ρ', he, _ => ⟨h.mono fun _ _ h' => isAt.ext he h', fun _ _ _ i hi => by simp [fixNil] at hi⟩
  | .pair a b, cs, vs, n, h, ρ', he, hv => by
    simp only [fixNil, List.map_append, List.mem_append] at hv
    obtain ⟨p1, q1⟩ := fixNil_sound (t := a) (n := n) (h.take a.size) he (fun i hi => hv i (.inl hi))
    obtain ⟨p2, q2⟩ := fixNil_sound (t := b) (n := (fixNil a (cs.take a.size) n).2.2) (h.drop a.size) he (fun i hi => hv i (.inr hi))
    refine ⟨?_, fun w R bk i hi => ?_⟩
    · have := p1.append p2
      rw [List.take_append_drop] at this
      exact this
    · simp only [fixNil, List.map_append, List.mem_append] at hi
      simp only [fixNil, updBk_append]
      by_cases h1 : i ∈ (fixNil a (cs.take a.size) n).2.1.map (·.1)
      · exact q1 w R _ i h1
      · rw [updBk_not h1]
        exact q2 w R bk i (hi.resolve_left h1)
  | .row own e t, cs, vs, n, h, ρ', he, hv => by
    by_cases hc : cs = [.sc (.slice none 0 0)]
    · subst hc
      simp only [fixNil] at hv ⊢
      have hn := hv n (by simp)
      refine ⟨?_, fun w R bk i hi => ?_⟩
      · match vs, h with
        | [u], h => exact ⟨by rw [h.1.1]; exact hn, trivial⟩
      · simp only [List.map_cons, List.map_nil, List.mem_singleton] at hi
        subst hi
        simp only [updBk, ↓reduceIte]
        exact ⟨_, hn, rep_nil_row own e t⟩
    · have e1 : fixNil (.row own e t) cs n = (cs, [], n) := by
        simp only [fixNil]
      rw [e1]
      exact ⟨h.mono fun _ _ h' => isAt.ext he h', fun _ _ _ i hi => by simp at hi⟩

theorem upd_tail {i nx : Nat} {b : Blk} {l : List (Nat × Blk)} {bk : Nat → Blk} (h : i ≠ nx) : updBk ((nx, b) :: l) bk i = updBk l bk i := by
  simp only [updBk, if_neg h]

/-- A new variable. -/
theorem sound_new {T : TypeId} {ats : List At} {blks : List (Nat × Blk)} (hids : ∀ i ∈ blks.map (·.1), nx < i)
    (H : ∀ (n : Nat) (w : World) (R : Nat → Prop) (ρ : Rho) (S : Nat → List Nat) (a : Act), Inv n w R sl bk ρ S a → ∃ vs, (execOp a.eval o).run P w = .ok (.value (.pointer (some ⟨w.heap.size, 0, none⟩))) (w.alloc (.cells (List.toArray vs) T)) ∧
      ∃ vals : Nat → Value, (∀ i ∈ blks.map (·.1), (vals i).oneCell' = true) ∧ ∀ ρ' : Rho, ρ.ext ρ' → (∀ i ∈ blks.map (·.1), ρ' i = some (vals i)) →
        All2 (isAt ρ') ats vs ∧ ∀ (w : World) (R : Nat → Prop) (bk : Nat → Blk), ∀ i ∈ blks.map (·.1), blkRep w R ρ' (ρ' i) [] (updBk blks bk i)) :
    OpSound P o sl bk nx ⟨one (.ptr nx 0), (nx, .cells ats T) :: blks⟩ := by
  intro n w R ρ S a next Q h hf hk
  obtain ⟨vs, hr, vals, hone, hv⟩ := H n w R ρ S a h
  have hids' : ∀ i ∈ (Eff.ids ⟨one (.ptr nx 0), (nx, .cells ats T) :: blks⟩), i = nx ∨ (i ≠ nx ∧ i ∈ blks.map (·.1)) := by
    intro i hi
    simp only [Eff.ids, List.map_cons, List.mem_cons] at hi
    rcases hi with hi | hi
    · exact .inl hi
    · exact .inr ⟨by have := hids i hi; omega, hi⟩
  have hfr : ∀ i ∈ (Eff.ids ⟨one (.ptr nx 0), (nx, .cells ats T) :: blks⟩), ρ i = none := fun i hi => hf i hi (by
    rcases hids' i hi with h1 | ⟨_, h1⟩
    · omega
    · have := hids i h1; omega)
  unfold Oper.wp
  rw [hr]
  have hext := Rho.add_ext (ρ := ρ) (new := (Eff.ids ⟨one (.ptr nx 0), (nx, .cells ats T) :: blks⟩)) (vals := fun i => if i = nx then .pointer (some ⟨w.heap.size, 0, none⟩) else vals i) hfr
  have hmem : nx ∈ (Eff.ids ⟨one (.ptr nx 0), (nx, .cells ats T) :: blks⟩) := by simp [Eff.ids]
  have hin : ∀ i ∈ blks.map (·.1), i ∈ (Eff.ids ⟨one (.ptr nx 0), (nx, .cells ats T) :: blks⟩) := fun i hi => by simp only [Eff.ids, List.map_cons, List.mem_cons]; exact .inr hi
  obtain ⟨hat, hbl⟩ := hv _ hext (fun i hi => by rw [Rho.add_mem (hin i hi), if_neg (by have := hids i hi; omega)])
  obtain ⟨ρ', S', hp⟩ := Post.of (e := ⟨one (.ptr nx 0), (nx, .cells ats T) :: blks⟩) (w' := w.alloc (.cells (List.toArray vs) T)) (R' := R) (v := .pointer (some ⟨w.heap.size, 0, none⟩)) h (new := (Eff.ids ⟨one (.ptr nx 0), (nx, .cells ats T) :: blks⟩))
    (vals := fun i => if i = nx then .pointer (some ⟨w.heap.size, 0, none⟩) else vals i) (Sx := fun i => if i = nx then [w.heap.size] else [])
    (fun i hi => hi) hfr (fun i hi => by
      by_cases h1 : i = nx
      · simp only [if_pos h1]; rfl
      · simp only [if_neg h1]
        rcases hids' i hi with h2 | ⟨_, h2⟩
        · exact absurd h2 h1
        · exact hone i h2)
    (Keeps.alloc _ _ _)
    (fun i hi => by
      rcases hids' i hi with h1 | ⟨h1, h2⟩
      · subst h1
        simp only [updBk, ↓reduceIte]
        exact ⟨w.heap.size, vs, by rw [Rho.add_mem hmem]; simp, rfl, heap_alloc_new w _, hat⟩
      · simp only [if_neg h1]
        rw [upd_tail h1]
        exact hbl _ _ _ i h2)
    (fun i hi b hb => .inr (by
      by_cases h1 : i = nx
      · simp only [if_pos h1, List.mem_singleton] at hb; omega
      · simp only [if_neg h1] at hb; simp at hb))
    (by
      simp only [Eff.ids, List.map_cons, List.flatMap_cons, ↓reduceIte]
      have : (blks.map (·.1)).flatMap (fun i => if i = nx then [w.heap.size] else []) = [] := by
        rw [List.flatMap_eq_nil_iff]
        intro i hi
        rw [if_neg (by have := hids i hi; omega)]
      rw [this]; simp)
    (fun _ hb => hb) (fun _ hb => .inl hb) (fun b hb => by have := h.Rlt b hb; simp; omega)
    (fun i hi b hb hR => by
      by_cases h1 : i = nx
      · simp only [if_pos h1, List.mem_singleton] at hb; have := h.Rlt b hR; omega
      · simp only [if_neg h1] at hb; simp at hb)
    (isAV_of ⟨w.heap.size, by rw [Rho.add_mem hmem]; simp, rfl⟩)
  exact hk _ _ _ _ _ hp

theorem TIok.zeros {T : TypeId} {i : TI} (h : TIok P T i) (w : World) : ∃ z, (zeroValue T).run P w = .ok z w ∧ z.cells = (zeroCs i.ty).toArray := by
  have hz := h.zero
  cases hj : P.info? T with
  | none => simp [hj] at hz
  | some j =>
    simp only [hj, Option.bind_some] at hz
    cases hzz : j.zero with
    | none => simp [hzz] at hz
    | some z =>
      simp only [hzz, Option.map_some, Option.some.injEq] at hz
      exact ⟨z, by simp [zeroValue, typeInfo, hj, hzz], hz⟩

theorem zero_at : ∀ {l : List Value}, (∀ v ∈ l, v.oneCell' = true) → All2 (isAt ρ) (l.map .sc) l
  | [], _ => trivial
  | v :: l, h => ⟨⟨rfl, h v (by simp)⟩, zero_at fun u hu => h u (by simp [hu])⟩

theorem zeroCs_one : ∀ (t : Ty), ∀ v ∈ zeroCs t, v.oneCell' = true
  | .int _, v, h => by simp only [zeroCs, List.mem_singleton] at h; rw [h]; rfl
  | .bool, v, h => by simp only [zeroCs, List.mem_singleton] at h; rw [h]; rfl
  | .str, v, h => by simp only [zeroCs, List.mem_singleton] at h; rw [h]; rfl
  | .map _, v, h => by simp only [zeroCs, List.mem_singleton] at h; rw [h]; rfl
  | .pair a b, v, h => by
    simp only [zeroCs, List.mem_append] at h
    rcases h with h | h
    · exact zeroCs_one a v h
    · exact zeroCs_one b v h
  | .row .., v, h => by simp only [zeroCs, List.mem_singleton] at h; rw [h]; rfl

theorem sound_alloc {T : TypeId} {i : TI} (ho : o.op = .alloc T) (hT : TIok P T i) :
    OpSound P o sl bk nx ⟨one (.ptr nx 0), (nx, .cells (fixNil i.ty ((zeroCs i.ty).map .sc) (nx + 1)).1 T) :: (fixNil i.ty ((zeroCs i.ty).map .sc) (nx + 1)).2.1⟩ := by
  refine sound_new (fun j hj => by rw [fixNil_ids.2, List.mem_range'_1] at hj; omega) fun n w R ρ S a h => ?_
  obtain ⟨z, hz, hzc⟩ := hT.zeros w
  refine ⟨zeroCs i.ty, ?_, fun _ => .slice none 0 0, fun _ _ => rfl, fun ρ' he hρ => fixNil_sound (zero_at (zeroCs_one i.ty)) he hρ⟩
  simp [execOp, ho, Instr.alloc, hz, newVar, newRow, hzc]

theorem sound_box {T : TypeId} {i : TI} {x : Operand} {cs : List At} (ho : o.op = .box T x) (hc : atoms (evalA sl x) = some cs) :
    OpSound P o sl bk nx ⟨one (.ptr nx 0), (nx, .cells (fixNil i.ty cs (nx + 1)).1 T) :: (fixNil i.ty cs (nx + 1)).2.1⟩ := by
  refine sound_new (fun j hj => by rw [fixNil_ids.2, List.mem_range'_1] at hj; omega) fun n w R ρ S a h => ?_
  have hat := atoms_sound h hc (evalA_sound h x)
  refine ⟨(a.eval x).cells.toList, ?_, fun _ => .slice none 0 0, fun _ _ => rfl, fun ρ' he hρ => fixNil_sound hat he hρ⟩
  simp [execOp, ho, Instr.box, newVar, newRow]

theorem run_loadVar {T : TypeId} {i : TI} (hT : TIok P T i) {ad : Addr} {vs : List Value} (hl : vs.length = i.ty.size) (hc : ∀ (j : Nat) (u : Value), vs[j]? = some u → w.cell? (ad.add j) = some u) :
    ∃ v, (loadVar T ad).run P w = .ok v w ∧ ∀ {ρ : Rho} {cs : List At}, All2 (isAt ρ) cs vs → isAV ρ (.comp i.sd.agg cs) v := by
  cases hg : i.sd.agg
  · have h1 := hT.one hg
    rw [h1] at hl
    match vs, hl with
    | [u], _ =>
      have hu := hc 0 u rfl
      rw [Addr.add_zero'] at hu
      refine ⟨u, by simp [loadVar, run_agg hT, hg, hu], fun {ρ cs} hcs => ?_⟩
      match cs, hcs with
      | [c], hcs => exact .inr ⟨c, rfl, hcs.1⟩
  · refine ⟨.agg vs.toArray, ?_, fun {ρ cs} hcs => .inr ⟨vs, rfl, hcs⟩⟩
    simp only [loadVar, Sem.run_bind, run_agg hT, hg, Result.andThen_ok, ↓reduceIte, run_size hT, ← hl, run_loadCells_list w ad vs hc, Sem.run_pure]

theorem sound_loadPtr {T : TypeId} {i : TI} {x : Operand} {id off : Nat} {cs : List At} {T0 : TypeId} (ho : o.op = .load T x) (hT : TIok P T i) (hx : evalA sl x = .comp false [.ptr id off]) (hb : bk id = .cells cs T0)
    (hl : off + i.ty.size ≤ cs.length) : OpSound P o sl bk nx ⟨.comp i.sd.agg ((cs.drop off).take i.ty.size), []⟩ :=
  sound_pure fun n w R ρ S a h => by
    obtain ⟨g, h1, h2⟩ := ev_at h hx (by simp)
    have hb' := h.blks id
    rw [hb] at hb'
    obtain ⟨g', vs, h3, _, h4, h5⟩ := hb'
    rw [h1] at h3
    simp only [Option.some.injEq, Value.pointer.injEq, Addr.mk.injEq, and_true] at h3
    subst h3
    have hlen := h5.length
    obtain ⟨v, hr, hv⟩ := run_loadVar (w := w) hT (ad := ⟨g, off, none⟩) (vs := (vs.drop off).take i.ty.size) (by rw [List.length_take, List.length_drop]; omega) (by
      intro j u hu
      rw [Addr.add_lit, cell_of_row w g _ _ _ _ h4]
      rw [List.getElem?_take] at hu
      split at hu
      · rw [List.getElem?_drop] at hu; simpa using hu
      · cases hu)
    exact ⟨v, by simp [execOp, ho, Instr.loadAt, h2, Instr.sureAddr, hr], hv ((h5.drop off).take i.ty.size)⟩

/-- An effect in which only new rows come, the world as it is. -/
theorem sound_rows {x : AV} {blks : List (Nat × Blk)} (hids : ∀ i ∈ blks.map (·.1), nx ≤ i)
    (H : ∀ (n : Nat) (w : World) (R : Nat → Prop) (ρ : Rho) (S : Nat → List Nat) (a : Act), Inv n w R sl bk ρ S a → ∃ v, (execOp a.eval o).run P w = .ok (.value v) w ∧
      ∃ vals : Nat → Value, (∀ i ∈ blks.map (·.1), (vals i).oneCell' = true) ∧ ∀ ρ' : Rho, ρ.ext ρ' → (∀ i ∈ blks.map (·.1), ρ' i = some (vals i)) →
        isAV ρ' x v ∧ ∀ i ∈ blks.map (·.1), blkRep w R ρ' (ρ' i) [] (updBk blks bk i)) : OpSound P o sl bk nx ⟨x, blks⟩ := by
  intro n w R ρ S a next Q h hf hk
  obtain ⟨v, hr, vals, hone, hv⟩ := H n w R ρ S a h
  have hfr : ∀ i ∈ (Eff.ids ⟨x, blks⟩), ρ i = none := fun i hi => hf i hi (hids i hi)
  unfold Oper.wp
  rw [hr]
  obtain ⟨hat, hbl⟩ := hv _ (Rho.add_ext hfr) (fun i hi => Rho.add_mem (ρ := ρ) (new := (Eff.ids ⟨x, blks⟩)) (vals := vals) hi)
  obtain ⟨ρ', S', hp⟩ := Post.of (e := ⟨x, blks⟩) (w' := w) (R' := R) (v := v) h (new := (Eff.ids ⟨x, blks⟩)) (vals := vals) (Sx := fun _ => []) (fun i hi => hi) hfr hone (Keeps.refl _ _) hbl
    (fun i hi b hb => by simp at hb) (by rw [show (Eff.ids ⟨x, blks⟩).flatMap (fun _ => ([] : List Nat)) = [] from List.flatMap_eq_nil_iff.2 fun _ _ => rfl]; exact List.nodup_nil)
    (fun _ hb => hb) (fun _ hb => .inl hb) h.Rlt (fun i hi b hb => by simp at hb) hat
  exact hk _ _ _ _ _ hp

theorem sound_assignNil {x : Operand} {own : Bool} {e : TypeId} {t : Ty} (ho : o.op = .assign x) (hx : evalA sl x = .comp false [.sc (.slice none 0 0)]) :
    OpSound P o sl bk nx ⟨one (.sl nx), [(nx, .row own e t [])]⟩ := by
  refine sound_rows (by simp) fun n w R ρ S a h => ⟨.slice none 0 0, by simp [execOp, ho, ev_sc h hx], fun _ => .slice none 0 0, fun _ _ => rfl, fun ρ' _ hρ => ⟨isAV_of (hρ nx (by simp)), fun i hi => ?_⟩⟩
  simp only [List.map_cons, List.map_nil, List.mem_singleton] at hi
  subst hi
  simp only [updBk, ↓reduceIte]
  exact ⟨_, hρ i (by simp), rep_nil_row own e t⟩

theorem sound_loadElem {T : TypeId} {i : TI} {x : Operand} {id ix sz j : Nat} {own : Bool} {e : TypeId} {t : Ty} {xs : List t.den} (ho : o.op = .load T x) (hT : TIok P T i) (hx : evalA sl x = .comp false [.eptr id ix sz j])
    (hb : bk id = .row own e t xs) (htr : t.ro = t) (hsz : sz = t.size) (hl : j + i.ty.size ≤ t.size) :
    OpSound P o sl bk nx ⟨.comp i.sd.agg (((inject t (List.getD (α := t.den) xs ix t.dflt) nx).1.drop j).take i.ty.size), (inject t (List.getD (α := t.den) xs ix t.dflt) nx).2.1⟩ := by
  refine sound_rows (fun i hi => by rw [inject_ids.2, List.mem_range'_1] at hi; omega) fun n w R ρ S a h => ?_
  obtain ⟨ad, m, c, h1, h2, h3⟩ := ev_at h hx (by simp)
  have hb' := h.blks id
  rw [hb] at hb'
  obtain ⟨u, h4, h5⟩ := hb'
  rw [h1, Option.some.injEq] at h4
  obtain ⟨A, c', hu⟩ := row_form h5
  rw [← h4] at hu
  simp only [Value.slice.injEq] at hu
  obtain ⟨ad', c'', cs, Ti, hu2, hr, _, hcell⟩ := row_elem h5 (i := ix) (by rw [← hu.2.1]; exact h2)
  rw [← h4] at hu2
  simp only [Value.slice.injEq, Option.some.injEq] at hu2
  obtain ⟨rfl, -, -⟩ := hu2
  have hcl := rep_len hr
  obtain ⟨v, hrun, hv⟩ := run_loadVar (w := w) hT (ad := ad.add (ix * sz + j)) (vs := (cs.drop j).take i.ty.size) (by rw [List.length_take, List.length_drop]; omega) (by
    intro k u' hu'
    rw [List.getElem?_take] at hu'
    split at hu'
    · rw [List.getElem?_drop] at hu'
      have := hcell (j + k) u' hu'
      rw [hsz, Go.Deep.add_add, Nat.add_assoc]
      exact this
    · cases hu')
  obtain ⟨vals, Sx, hT0, hone, hv2⟩ := inject_sound (n := nx) hr
  have hTi : Ti = [] := rep_ro_nil htr hr
  refine ⟨v, by simp [execOp, ho, Instr.loadAt, h3, Instr.sureAddr, hrun], vals, hone, fun ρ' _ hρ => ?_⟩
  obtain ⟨k1, k2⟩ := hv2 ρ' hρ
  refine ⟨hv ((k1.drop j).take i.ty.size), fun i hi => ?_⟩
  have := k2 bk i hi
  have hS : Sx i = [] := by
    rw [hTi] at hT0
    exact (List.flatMap_eq_nil_iff.1 hT0.symm) i hi
  rw [hS] at this
  exact this

end Go.Eng
