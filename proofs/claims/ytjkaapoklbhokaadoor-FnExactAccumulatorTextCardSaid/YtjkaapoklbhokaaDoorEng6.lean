/- The engine, part 6: reading and making memory: slices' lengths and places, strings, new variables, loads. Conditions as in part 5. -/
import Derived.Test.YtjkaapoklbhokaaDoorEng5
set_option linter.all false
namespace Go.Eng
open Go.RowKit

variable {P : Program} {ti : Nat → Option TI}
variable {n : Nat} {w w' : World} {R R' : Nat → Prop} {sl : Nat → AV} {bk : Nat → Blk} {ρ ρ' : Rho} {S S' : Nat → List Nat} {a : Act} {e : Eff} {v : Value} {o : Oper} {nx : Nat}

def Rho.add (ρ : Rho) (new : List Nat) (vals : Nat → Value) : Rho := fun i => if i ∈ new then some (vals i) else ρ i

theorem Rho.add_ext {new : List Nat} {vals : Nat → Value} (h : ∀ i ∈ new, ρ i = none) : ρ.ext (ρ.add new vals) := by
  intro i u hu
  unfold Rho.add
  by_cases hi : i ∈ new
  · rw [h i hi] at hu; cases hu
  · rw [if_neg hi]; exact hu

theorem Rho.add_mem {new : List Nat} {vals : Nat → Value} {i : Nat} (h : i ∈ new) : ρ.add new vals i = some (vals i) := by
  unfold Rho.add; rw [if_pos h]
theorem Rho.add_not {new : List Nat} {vals : Nat → Value} {i : Nat} (h : i ∉ new) : ρ.add new vals i = ρ i := by
  unfold Rho.add; rw [if_neg h]

/-- The effect of an operation that makes the blocks 'new' and rewrites the other ones of e. -/
theorem Post.of (h : Inv n w R sl bk ρ S a) {new : List Nat} {vals : Nat → Value} {Sx : Nat → List Nat} (hn : ∀ i ∈ new, i ∈ e.ids) (hf : ∀ i ∈ new, ρ i = none) (hone : ∀ i ∈ new, (vals i).oneCell' = true)
    (hk : Keeps (fun b => ∃ i ∈ e.ids, b ∈ S i) w w')
    (hb : ∀ i ∈ e.ids, blkRep w' R' (ρ.add new vals) (ρ.add new vals i) (Sx i) (updBk e.upd bk i))
    (hown : ∀ i ∈ e.ids, ∀ b ∈ Sx i, (∃ j ∈ e.ids, b ∈ S j) ∨ w.heap.size ≤ b)
    (hnd : (e.ids.flatMap Sx).Nodup) (hRR : ∀ b, R b → R' b) (hRnew : ∀ b, R' b → R b ∨ ((∃ j ∈ e.ids, b ∈ S j) ∨ w.heap.size ≤ b)) (hRlt : ∀ b, R' b → b < w'.heap.size)
    (hoff : ∀ i ∈ e.ids, ∀ b ∈ Sx i, ¬ R' b) (hval : isAV (ρ.add new vals) e.val v) :
    ∃ ρ' S', Post w R ρ S bk e w' R' ρ' S' v := by
  classical
  refine ⟨ρ.add new vals, fun i => if i ∈ e.ids then Sx i else S i, Rho.add_ext hf, fun i hi => Rho.add_not (fun h => hi (hn i h)), ?_, fun i hi => by rw [if_neg hi], fun i hi => by rw [if_pos hi]; exact hb i hi, hk,
    fun i hi => by rw [if_pos hi]; exact hown i hi, fun i hi => by rw [if_pos hi]; exact nodup_of_flatMap hnd i hi, fun i hi j hj hij => by rw [if_pos hi, if_pos hj]; exact disj_of_flatMap hnd i hi j hj hij,
    hRR, hRnew, hRlt, fun i hi => by rw [if_pos hi]; exact hoff i hi, hval⟩
  intro i u hu
  unfold Rho.add at hu
  split at hu
  · rename_i hi
    simp only [Option.some.injEq] at hu
    rw [← hu]; exact hone i hi
  · exact h.one i u hu

/-- A fresh place is dead and owns nothing. -/
theorem Inv.fresh (h : Inv n w R sl bk ρ S a) {i : Nat} (hi : ρ i = none) : bk i = .dead ∧ S i = [] := by
  have hb := h.blks i
  cases hbk : bk i with
  | dead => rw [hbk] at hb; exact ⟨rfl, hb⟩
  | cells cs t => rw [hbk] at hb; obtain ⟨g, vs, h1, _⟩ := hb; rw [hi] at h1; cases h1
  | row own e t xs => rw [hbk] at hb; obtain ⟨u, h1, _⟩ := hb; rw [hi] at h1; cases h1
  | mp nn own l => rw [hbk] at hb; obtain ⟨u, h1, _⟩ := hb; rw [hi] at h1; cases h1
  | hole e t xs ix j u c => rw [hbk] at hb; obtain ⟨u, uv, h1, _⟩ := hb; rw [hi] at h1; cases h1

/-- The cells of an element of a row, read. -/
theorem row_elem {own : Bool} {e : TypeId} {t : Ty} {xs : List t.den} {u : Value} {T : List Nat} (h : rep w R (.row own e t) xs [u] T) {i : Nat} (hi : i < List.length (α := t.den) xs) :
    ∃ ad c cs Ti, u = .slice (some ad) (List.length (α := t.den) xs) c ∧ rep w R t (List.getD (α := t.den) xs i t.dflt) cs Ti ∧ (∀ b ∈ Ti, b ∈ T) ∧
      ∀ (j : Nat) (x : Value), cs[j]? = some x → w.cell? (ad.add (i * t.size + j)) = some x := by
  obtain ⟨v', flat, Se, h1, h2, h3⟩ := h
  simp only [List.cons.injEq, and_true] at h1
  subst h1
  have hx : (xs : List t.den)[i]? = some (List.getD (α := t.den) xs i t.dflt) := by
    rw [List.getD_eq_getElem?_getD, List.getElem?_eq_getElem hi]; rfl
  obtain ⟨c1, c, c2, S1, S', S2, rfl, rfl, e1, e2, e3⟩ := elemsR_split h2 hx
  have hl1 : c1.length = i * t.size := by
    have := flat_len e1
    rw [List.length_take, Nat.min_eq_left (Nat.le_of_lt hi)] at this
    exact this
  have hcell : ∀ (ad : Addr), (∀ (j : Nat) (x : Value), (c1 ++ (c ++ c2))[j]? = some x → w.cell? (ad.add j) = some x) → ∀ (j : Nat) (x : Value), c[j]? = some x → w.cell? (ad.add (i * t.size + j)) = some x := by
    intro ad H j x hj
    refine H _ x ?_
    have hjl : j < c.length := (List.getElem?_eq_some_iff.1 hj).1
    rw [List.getElem?_append_right (by omega), hl1, Nat.add_sub_cancel_left, List.getElem?_append_left hjl]
    exact hj
  cases own
  · obtain ⟨⟨A, c0, rfl, hr⟩, hS⟩ := h3
    obtain ⟨ad, rfl, _, hc⟩ := hr (by omega)
    exact ⟨ad, c0, c, S', rfl, e2, fun b hb => by rw [hS]; simp [hb], hcell ad hc⟩
  · obtain ⟨ho, hS⟩ := h3
    have hroww : ∃ g cap, u = Value.slice (some ⟨g, 0, none⟩) (List.length (α := t.den) xs) cap := by
      rcases ho.2 with ⟨_, h0⟩ | ⟨g, cap, cur, hv, _⟩
      · omega
      · exact ⟨g, cap, hv⟩
    obtain ⟨g, cap, rfl⟩ := hroww
    exact ⟨_, cap, c, S', rfl, e2, fun b hb => by rw [hS]; simp [hb], hcell _ (ho.cells (g := g) rfl)⟩

theorem row_form {own : Bool} {e : TypeId} {t : Ty} {xs : List t.den} {u : Value} {T : List Nat} (h : rep w R (.row own e t) xs [u] T) : ∃ A c, u = .slice A (List.length (α := t.den) xs) c := by
  obtain ⟨v', flat, Se, h1, h2, h3⟩ := h
  simp only [List.cons.injEq, and_true] at h1
  subst h1
  cases own
  · obtain ⟨⟨A, c, rfl, _⟩, _⟩ := h3; exact ⟨A, c, rfl⟩
  · rcases h3.1.2 with ⟨rfl, h0⟩ | ⟨g, cap, cur, rfl, _⟩
    · exact ⟨none, 0, by rw [h0]⟩
    · exact ⟨_, cap, rfl⟩

theorem ev_row (h : Inv n w R sl bk ρ S a) {x : Operand} {id : Nat} {own : Bool} {e : TypeId} {t : Ty} {xs : List t.den} (hx : evalA sl x = .comp false [.sl id]) (hb : bk id = .row own e t xs) :
    ρ id = some (a.eval x) ∧ rep w R (.row own e t) xs [a.eval x] (S id) := by
  have h1 : ρ id = some (a.eval x) := ev_at h hx (by simp)
  have hb' := h.blks id
  rw [hb] at hb'
  obtain ⟨u, h2, h3⟩ := hb'
  rw [h1, Option.some.injEq] at h2
  exact ⟨h1, by rw [h2]; exact h3⟩

theorem min_sound {args : Array Operand} {tys : Array TypeId} {x y : Operand} {ka kb : IntKind} {m m' : Int} (ho : o.op = .call ⟨.builtin .min, args, tys⟩) (hargs : args.toList = [x, y]) (hx : evalA sl x = .comp false [.sc (.int ka m)])
    (hy : evalA sl y = .comp false [.sc (.int kb m')]) : OpSound P o sl bk nx ⟨scI ka (imin m m'), []⟩ := by
  have ha : args = #[x, y] := by rw [← Array.toArray_toList (xs := args), hargs]
  subst ha
  exact sound_pure fun n w R ρ S a h => ⟨.int ka (imin m m'), by simp [execOp, ho, resolve, invoke, builtin, ev_sc h hx, ev_sc h hy, Builtin.min_, Builtin.min2], isAV_of ⟨rfl, rfl⟩⟩

theorem max_sound {args : Array Operand} {tys : Array TypeId} {x y : Operand} {ka kb : IntKind} {m m' : Int} (ho : o.op = .call ⟨.builtin .max, args, tys⟩) (hargs : args.toList = [x, y]) (hx : evalA sl x = .comp false [.sc (.int ka m)])
    (hy : evalA sl y = .comp false [.sc (.int kb m')]) : OpSound P o sl bk nx ⟨scI ka (imax m m'), []⟩ := by
  have ha : args = #[x, y] := by rw [← Array.toArray_toList (xs := args), hargs]
  subst ha
  exact sound_pure fun n w R ρ S a h => ⟨.int ka (imax m m'), by simp [execOp, ho, resolve, invoke, builtin, ev_sc h hx, ev_sc h hy, Builtin.max_, Builtin.max2], isAV_of ⟨rfl, rfl⟩⟩

theorem lenA_sound {args : Array Operand} {tys : Array TypeId} {x : Operand} {m : Int} {T : TypeId} {i : TI} (ho : o.op = .call ⟨.builtin .len, args, tys⟩) (hargs : args.toList = [x]) (hx : lenA bk i.sd (evalA sl x) = some m)
    (htys : tys.toList = [T]) (hT : TIok P T i) : OpSound P o sl bk nx ⟨scI .i64 m, []⟩ := by
  have ha : args = #[x] := by rw [← Array.toArray_toList (xs := args), hargs]
  have ht : tys = #[T] := by rw [← Array.toArray_toList (xs := tys), htys]
  subst ha; subst ht
  refine sound_pure fun n w R ρ S a h => ⟨.int .i64 m, ?_, isAV_of ⟨rfl, rfl⟩⟩
  obtain ⟨d, hd, hsh⟩ := hT.under
  have key : ∀ u : Value, a.eval x = u → (∃ s, u = .string s ∧ d = .string ∧ m = s.size) ∨ (∃ A l c e, u = .slice A l c ∧ d = .slice e ∧ m = (l : Int)) → (execOp a.eval o).run P w = .ok (.value (.int .i64 m)) w := by
    intro u hu hh
    rcases hh with ⟨s, rfl, rfl, rfl⟩ | ⟨A, l, c, e, rfl, rfl, rfl⟩ <;>
      simp [execOp, ho, resolve, invoke, builtin, hu, Builtin.len_, run_underlying hd, goInt]
  unfold lenA at hx
  split at hx
  · rename_i e' id hsd hev
    rw [hsd] at hsh
    split at hx
    · rename_i own e t xs hbk
      simp only [Option.some.injEq] at hx
      obtain ⟨A, c, hu⟩ := row_form (ev_row h hev hbk).2
      exact key _ rfl (.inr ⟨A, _, c, e', hu, shape_slice hsh, hx.symm⟩)
    · cases hx
  · rename_i e' hsd hev
    rw [hsd] at hsh
    simp only [Option.some.injEq] at hx
    exact key _ (ev_sc h hev) (.inr ⟨none, 0, 0, e', rfl, shape_slice hsh, hx.symm⟩)
  · rename_i s hsd hev
    rw [hsd] at hsh
    simp only [Option.some.injEq] at hx
    exact key _ (ev_sc h hev) (.inl ⟨s, rfl, shape_string hsh, hx.symm⟩)
  · cases hx

theorem sound_index {T : TypeId} {x ix : Operand} {ty : Ty} {bytes : Nat} {s : ByteArray} {k : IntKind} {i : Int} (ho : o.op = .index T x ix) (hT : TIok P T ⟨ty, .string, bytes⟩) (hx : evalA sl x = .comp false [.sc (.string s)])
    (hix : evalA sl ix = .comp false [.sc (.int k i)]) (hi : 0 ≤ i ∧ i < (s.size : Nat)) : OpSound P o sl bk nx ⟨scI .u8 (byteAt s i.toNat), []⟩ :=
  sound_pure fun n w R ρ S a h => by
    obtain ⟨d, hd, hsh⟩ := hT.under
    have := shape_string hsh
    subst this
    have hl : i.toNat < s.size := by omega
    refine ⟨.int .u8 (byteAt s i.toNat), ?_, isAV_of ⟨rfl, rfl⟩⟩
    simp [execOp, ho, ev_sc h hx, ev_sc h hix, Instr.index, asIntOf, run_underlying hd, hi.1, byteAt, hl]

theorem sound_indexAddr {T : TypeId} {x ix : Operand} {ty : Ty} {e e' : TypeId} {bytes id : Nat} {k : IntKind} {i : Int} {own : Bool} {t : Ty} {xs : List t.den} {j : TI} (ho : o.op = .indexAddr T x ix) (hT : TIok P T ⟨ty, .slice e, bytes⟩)
    (hx : evalA sl x = .comp false [.sl id]) (hix : evalA sl ix = .comp false [.sc (.int k i)]) (hb : bk id = .row own e' t xs) (hj : TIok P e j) (hjs : j.ty.size = t.size)
    (hi : 0 ≤ i ∧ i < (List.length (α := t.den) xs : Nat)) : OpSound P o sl bk nx ⟨one (.eptr id i.toNat t.size 0), []⟩ :=
  sound_pure fun n w R ρ S a h => by
    obtain ⟨d, hd, hsh⟩ := hT.under
    have := shape_slice hsh
    subst this
    have hl : i.toNat < List.length (α := t.den) xs := by omega
    obtain ⟨h1, h2⟩ := ev_row h hx hb
    obtain ⟨ad, c, cs, Ti, hu, _⟩ := row_elem h2 hl
    refine ⟨.pointer (some (ad.add (i.toNat * t.size))), ?_, isAV_of ⟨ad, _, c, by rw [h1, hu], hl, rfl⟩⟩
    simp [execOp, ho, ev_sc h hix, hu, Instr.indexAt, asIntOf, run_underlying hd, run_size hj, hi.1, hi.2, hjs]

theorem sliceBound_ok (i : Int) (k : IntKind) (y : Nat) (c : BoundsCode) (w : World) (h : 0 ≤ i ∧ i ≤ y) : (Instr.sliceBound (.int k i) y c).run P w = .ok i.toNat w := by
  simp [Instr.sliceBound, asIntOf, h.1, h.2]

theorem sound_sliceHi {T : TypeId} {x hi : Operand} {ty : Ty} {bytes : Nat} {s : ByteArray} {k : IntKind} {i : Int} (ho : o.op = .slice T x none (some hi) none) (hT : TIok P T ⟨ty, .string, bytes⟩)
    (hx : evalA sl x = .comp false [.sc (.string s)]) (hh : evalA sl hi = .comp false [.sc (.int k i)]) (hi : 0 ≤ i ∧ i ≤ s.size) : OpSound P o sl bk nx ⟨scS (s.extract 0 i.toNat), []⟩ :=
  sound_pure fun n w R ρ S a h => by
    obtain ⟨d, hd, hsh⟩ := hT.under
    have := shape_string hsh
    subst this
    refine ⟨.string (s.extract 0 i.toNat), ?_, isAV_of ⟨rfl, rfl⟩⟩
    simp [execOp, ho, ev_sc h hx, ev_sc h hh, Instr.sliceAt, Instr.slice, Instr.sliceBounds, run_underlying hd, sliceBound_ok i k s.size _ _ hi]

theorem sound_sliceLo {T : TypeId} {x lo : Operand} {ty : Ty} {bytes : Nat} {s : ByteArray} {k : IntKind} {i : Int} (ho : o.op = .slice T x (some lo) none none) (hT : TIok P T ⟨ty, .string, bytes⟩)
    (hx : evalA sl x = .comp false [.sc (.string s)]) (hl : evalA sl lo = .comp false [.sc (.int k i)]) (hi : 0 ≤ i ∧ i ≤ s.size) : OpSound P o sl bk nx ⟨scS (s.extract i.toNat s.size), []⟩ :=
  sound_pure fun n w R ρ S a h => by
    obtain ⟨d, hd, hsh⟩ := hT.under
    have := shape_string hsh
    subst this
    refine ⟨.string (s.extract i.toNat s.size), ?_, isAV_of ⟨rfl, rfl⟩⟩
    simp [execOp, ho, ev_sc h hx, ev_sc h hl, Instr.sliceAt, Instr.slice, Instr.sliceBounds, run_underlying hd, sliceBound_ok i k s.size _ _ hi]

theorem sound_sliceBoth {T : TypeId} {x lo hi : Operand} {ty : Ty} {bytes : Nat} {s : ByteArray} {k k' : IntKind} {i j : Int} (ho : o.op = .slice T x (some lo) (some hi) none) (hT : TIok P T ⟨ty, .string, bytes⟩)
    (hx : evalA sl x = .comp false [.sc (.string s)]) (hl : evalA sl lo = .comp false [.sc (.int k i)]) (hh : evalA sl hi = .comp false [.sc (.int k' j)]) (hj : 0 ≤ j ∧ j ≤ s.size) (hi : 0 ≤ i ∧ i ≤ j.toNat) :
    OpSound P o sl bk nx ⟨scS (s.extract i.toNat j.toNat), []⟩ :=
  sound_pure fun n w R ρ S a h => by
    obtain ⟨d, hd, hsh⟩ := hT.under
    have := shape_string hsh
    subst this
    refine ⟨.string (s.extract i.toNat j.toNat), ?_, isAV_of ⟨rfl, rfl⟩⟩
    simp [execOp, ho, ev_sc h hx, ev_sc h hl, ev_sc h hh, Instr.sliceAt, Instr.slice, Instr.sliceBounds, run_underlying hd, sliceBound_ok j k' s.size _ _ hj, sliceBound_ok i k j.toNat _ _ hi]

end Go.Eng
