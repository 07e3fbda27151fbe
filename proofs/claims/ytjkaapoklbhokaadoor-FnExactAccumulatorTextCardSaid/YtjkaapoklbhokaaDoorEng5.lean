/- The engine, part 5: that the operations which only yield a value do in the model what part 4 says. Conditions: what the engine is told of the types is true of the program. -/
import Derived.Test.YtjkaapoklbhokaaDoorEng4
set_option linter.all false
namespace Go.Eng
open Go.RowKit

variable {P : Program} {ti : Nat → Option TI}

def OpSound (P : Program) (o : Oper) (sl : Nat → AV) (bk : Nat → Blk) (nx : Nat) (e : Eff) : Prop :=
  ∀ (n : Nat) (w : World) (R : Nat → Prop) (ρ : Rho) (S : Nat → List Nat) (a : Act) (next : Act → World → Prop) (Q : Exit → Act → World → Prop),
    Inv n w R sl bk ρ S a → (∀ i ∈ e.ids, nx ≤ i → ρ i = none) → (∀ w' R' ρ' S' v, Post w R ρ S bk e w' R' ρ' S' v → next (a.put o.dst v) w') → o.wp P a w next Q

variable {n : Nat} {w w' : World} {R R' : Nat → Prop} {sl : Nat → AV} {bk : Nat → Blk} {ρ ρ' : Rho} {S S' : Nat → List Nat} {a : Act} {e : Eff} {v : Value} {o : Oper} {nx : Nat}

theorem chk_some {X : Type} {c : Bool} {k : Option X} {d : X} (h : chk c k = some d) : c = true ∧ k = some d := by
  cases c
  · simp [chk] at h
  · exact ⟨rfl, h⟩

theorem constAV_sound (x : Value) : isAV ρ (constAV x) x := by
  cases x with
  | agg cs =>
    simp only [constAV]
    split
    · rename_i h
      refine .inr ⟨cs.toList, by simp, ?_⟩
      rw [List.all_eq_true] at h
      generalize cs.toList = l at h
      induction l with
      | nil => trivial
      | cons c l ih => exact ⟨⟨rfl, h c (by simp)⟩, ih fun x hx => h x (by simp [hx])⟩
    · exact .inl ⟨rfl, rfl⟩
  | tuple cs => exact .inl ⟨rfl, rfl⟩
  | _ => exact .inr ⟨_, rfl, rfl, rfl⟩

theorem evalA_sound (h : Inv n w R sl bk ρ S a) (x : Operand) : isAV ρ (evalA sl x) (a.eval x) := by
  cases x with
  | tmp t => exact h.slots t
  | const v => exact constAV_sound v
  | global g => exact .inl ⟨rfl, rfl⟩
  | func f => exact .inr ⟨_, rfl, rfl⟩

theorem isAV_one {x : At} (hx : x ≠ .unk) (h : isAV ρ (.comp false [x]) v) : isAt ρ x v := by
  rcases h with ⟨_, h⟩ | ⟨b, h1, h2⟩
  · simp only [List.cons.injEq, and_true] at h; exact absurd h hx
  · simp only [List.cons.injEq, and_true] at h1; rw [h1]; exact h2

theorem isAV_of {x : At} (h : isAt ρ x v) : isAV ρ (.comp false [x]) v := .inr ⟨x, rfl, h⟩

theorem ev_sc (h : Inv n w R sl bk ρ S a) {x : Operand} {u : Value} (hx : evalA sl x = .comp false [.sc u]) : a.eval x = u := by
  have := evalA_sound h x
  rw [hx] at this
  exact (isAV_one (by simp) this).1

theorem ev_at (h : Inv n w R sl bk ρ S a) {x : Operand} {u : At} (hx : evalA sl x = .comp false [u]) (hu : u ≠ .unk) : isAt ρ u (a.eval x) := by
  have := evalA_sound h x
  rw [hx] at this
  exact isAV_one hu this

theorem cells_one {v : Value} (h : v.oneCell' = true) : v.cells = #[v] := by
  cases v <;> first | rfl | (simp [Value.oneCell'] at h)

theorem atoms_sound (h : Inv n w R sl bk ρ S a) {x : AV} {cs : List At} (hx : atoms x = some cs) (hv : isAV ρ x v) : All2 (isAt ρ) cs v.cells.toList := by
  unfold atoms at hx
  split at hx
  · simp only [Option.some.injEq] at hx
    subst hx
    rcases hv with ⟨h1, _⟩ | ⟨vs, h1, h2⟩
    · cases h1
    · rw [h1]; simpa [Value.cells] using h2
  · cases hx
  · rename_i b hb
    simp only [Option.some.injEq] at hx
    subst hx
    have h1 := isAV_one (fun e => hb e) hv
    rw [cells_one (isAt_one h.one (fun e => hb e) h1)]
    exact ⟨h1, trivial⟩
  · cases hx
  · cases hx

/-- An operation that yields a value and leaves the world alone. -/
theorem sound_pure {x : AV} (H : ∀ (n : Nat) (w : World) (R : Nat → Prop) (ρ : Rho) (S : Nat → List Nat) (a : Act), Inv n w R sl bk ρ S a → ∃ v, (execOp a.eval o).run P w = .ok (.value v) w ∧ isAV ρ x v) :
    OpSound P o sl bk nx ⟨x, []⟩ := by
  intro n w R ρ S a next Q h _ hk
  obtain ⟨v, hr, hv⟩ := H n w R ρ S a h
  unfold Oper.wp
  rw [hr]
  exact hk w R ρ S v (Post.pure h hv)

theorem TIok.size {T : TypeId} {i : TI} (h : TIok P T i) : ∃ j, P.info? T = some j ∧ j.size = i.ty.size ∧ j.bytes = i.bytes := by
  have := h.info
  cases hj : P.info? T with
  | none => simp [hj] at this
  | some j => simp [hj] at this; exact ⟨j, rfl, this.1, this.2⟩

theorem run_size {T : TypeId} {i : TI} (h : TIok P T i) (w : World) : (sizeOf T).run P w = .ok i.ty.size w := by
  obtain ⟨j, h1, h2, _⟩ := h.size
  simp [sizeOf, typeInfo, h1, h2]

theorem TIok.under {T : TypeId} {i : TI} (h : TIok P T i) : ∃ d, P.underlying T = some d ∧ shapeD P d = i.sd := by
  have := h.desc
  cases hd : P.underlying T with
  | none => simp [hd] at this
  | some d => simp [hd] at this; exact ⟨d, rfl, this⟩

theorem shape_int {d : TypeDesc} {k : IntKind} (h : shapeD P d = .int k) : d = .int k := by
  cases d <;> simp [shapeD] at h
  rw [h]
theorem shape_bool {d : TypeDesc} (h : shapeD P d = .bool) : d = .bool := by
  cases d <;> simp [shapeD] at h
  rfl
theorem shape_string {d : TypeDesc} (h : shapeD P d = .string) : d = .string := by
  cases d <;> simp [shapeD] at h
  rfl
theorem shape_slice {d : TypeDesc} {e : TypeId} (h : shapeD P d = .slice e) : d = .slice e := by
  cases d <;> simp [shapeD] at h
  rw [h]
theorem shape_struct {d : TypeDesc} {l : List (Nat × Nat)} (h : shapeD P d = .struct l) : ∃ fs, d = .struct fs ∧ l = fs.toList.map fun f => (f.offset, P.cellsOf f.type) := by
  cases d <;> simp [shapeD] at h
  exact ⟨_, rfl, h.symm⟩

theorem run_agg {T : TypeId} {i : TI} (h : TIok P T i) (w : World) : (isAgg T).run P w = .ok i.sd.agg w := by
  obtain ⟨d, h1, h2⟩ := h.under
  rw [← h2]
  cases d <;> simp [isAgg, run_underlying h1, shapeD, SD.agg]

theorem sound_move {x : Operand} (ho : o.op = .move x) : OpSound P o sl bk nx ⟨evalA sl x, []⟩ :=
  sound_pure fun n w R ρ S a h => ⟨a.eval x, by simp [execOp, ho], evalA_sound h x⟩

theorem sound_assign {x : Operand} (ho : o.op = .assign x) : OpSound P o sl bk nx ⟨evalA sl x, []⟩ :=
  sound_pure fun n w R ρ S a h => ⟨a.eval x, by simp [execOp, ho], evalA_sound h x⟩

theorem sound_pick {c x y : Operand} {b : Bool} (ho : o.op = .pick c x y) (hc : evalA sl c = .comp false [.sc (.bool b)]) : OpSound P o sl bk nx ⟨cond b (evalA sl x) (evalA sl y), []⟩ :=
  sound_pure fun n w R ρ S a h => ⟨if b then a.eval x else a.eval y, by simp [execOp, ho, ev_sc h hc, asBool], by cases b <;> exact evalA_sound h _⟩

theorem sound_nil {x : Operand} {u : At} (hu : u ≠ .unk) (ho : o.op = .nilCheck x) (hx : evalA sl x = .comp false [u]) (hp : ∀ ρ v, isAt ρ u v → ∃ ad, v = .pointer (some ad)) : OpSound P o sl bk nx ⟨one u, []⟩ :=
  sound_pure fun n w R ρ S a h => by
    have h1 := ev_at h hx hu
    obtain ⟨ad, h2⟩ := hp _ _ h1
    exact ⟨a.eval x, by simp [execOp, ho, h2], isAV_of h1⟩

theorem sound_extract {t : Operand} {i : Nat} {vs : List Comp} {c : Comp} (ho : o.op = .extract t i) (ht : evalA sl t = .tup vs) (hc : vs[i]? = some c) : OpSound P o sl bk nx ⟨.comp c.1 c.2, []⟩ :=
  sound_pure fun n w R ρ S a h => by
    have h1 := evalA_sound h t
    rw [ht] at h1
    obtain ⟨l, h2, h3⟩ := h1
    obtain ⟨u, h4, h5⟩ := h3.get i c hc
    exact ⟨u, by simp [execOp, ho, h2, Instr.extract, h4], .inr h5⟩

theorem sound_field {T : TypeId} {x : Operand} {f : Nat} {ty : Ty} {flds : List (Nat × Nat)} {bytes off s : Nat} {u u' : At} (hu : u ≠ .unk) (ho : o.op = .fieldAddr T x f) (hi : TIok P T ⟨ty, .struct flds, bytes⟩)
    (hx : evalA sl x = .comp false [u]) (hf : flds[f]? = some (off, s)) (hs : s ≠ 0) (hp : ∀ ρ v, isAt ρ u v → ∃ ad, v = .pointer (some ad) ∧ isAt ρ u' (.pointer (some (ad.add off)))) : OpSound P o sl bk nx ⟨one u', []⟩ :=
  sound_pure fun n w R ρ S a h => by
    have h1 := ev_at h hx hu
    obtain ⟨ad, h2, h3⟩ := hp _ _ h1
    obtain ⟨d, hd, hsd⟩ := hi.under
    obtain ⟨fs, rfl, hl⟩ := shape_struct hsd
    rw [hl, List.getElem?_map] at hf
    cases hff : fs[f]? with
    | none => simp [hff] at hf
    | some fl =>
      simp only [Array.getElem?_toList, hff, Option.map_some, Option.some.injEq, Prod.mk.injEq] at hf
      obtain ⟨rfl, hsz⟩ := hf
      cases hinfo : P.info? fl.type with
      | none => simp [Program.cellsOf, hinfo] at hsz; exact absurd hsz.symm hs
      | some j =>
        simp [Program.cellsOf, hinfo] at hsz
        refine ⟨.pointer (some (ad.add fl.offset)), ?_, isAV_of h3⟩
        simp [execOp, ho, Instr.fieldAt, run_underlying hd, hff, h2, Instr.sureAddr, fieldPlace, sizeOf, typeInfo, hinfo, hsz, hs]

theorem sound_convert {src dst : TypeId} {x : Operand} {i : TI} {ty : Ty} {kd k : IntKind} {bytes : Nat} {m : Int} (ho : o.op = .convert src dst x) (hs : TIok P src i) (hd : TIok P dst ⟨ty, .int kd, bytes⟩)
    (hx : evalA sl x = .comp false [.sc (.int k m)]) : OpSound P o sl bk nx ⟨scI kd (kd.wrap m), []⟩ :=
  sound_pure fun n w R ρ S a h => by
    obtain ⟨d1, h1, _⟩ := hs.under
    obtain ⟨d2, h2, h3⟩ := hd.under
    have h4 := shape_int h3
    subst h4
    exact ⟨.int kd (kd.wrap m), by simp [execOp, ho, ev_sc h hx, convert, run_underlying h1, run_underlying h2, Conv.intToInt], isAV_of ⟨rfl, rfl⟩⟩

theorem binK_sound {X : Type} {op : BinOp} {T yT : TypeId} {x y : Operand} {k : AV → Option X} {d : X} (hti : TIs P ti) (ho : o.op = .binOp op T x y yT) (h : binK ((ti T).map TI.sd) op (evalA sl x) (evalA sl y) k = some d) :
    ∃ v, k v = some d ∧ OpSound P o sl bk nx ⟨v, []⟩ := by
  unfold binK at h
  split at h
  · rename_i kx a1 ky b1 hx hy
    have fin : ∀ (u : Value), u.oneCell' = true → (∀ w, ((do eqGuard op T x y (.int kx a1) (.int ky b1); binOp op T (.int kx a1) (.int ky b1) : Sem Value)).run P w = .ok u w) → OpSound P o sl bk nx ⟨.comp false [.sc u], []⟩ := by
      intro u hu hr
      refine sound_pure fun n w R ρ S a h => ⟨u, ?_, isAV_of ⟨rfl, hu⟩⟩
      have := hr w
      simp only [execOp, ho, ev_sc h hx, ev_sc h hy]
      simp only [Sem.run_bind] at this ⊢
      rw [this]
      rfl
    split at h
    · obtain ⟨hc, h⟩ := chk_some h
      simp only [decide_eq_true_eq] at hc
      exact ⟨_, h, fin _ rfl fun w => by simp [eqGuard_at_int, binOp_shr, shift_shr kx ky a1 b1 hc.1 hc.2]⟩
    · obtain ⟨hc, h⟩ := chk_some h
      simp only [decide_eq_true_eq] at hc
      exact ⟨_, h, fin _ rfl fun w => by simp [eqGuard_at_int, binOp_shl, shift_shl kx ky a1 b1 hc.1 hc.2]⟩
    · split at h
      · rename_i hk
        subst hk
        split at h
        · exact ⟨_, h, fin _ rfl fun w => by simp [eqGuard_at_int, binOp_add, Op.intArith]⟩
        · exact ⟨_, h, fin _ rfl fun w => by simp [eqGuard_at_int, binOp_sub, Op.intArith]⟩
        · exact ⟨_, h, fin _ rfl fun w => by simp [eqGuard_at_int, binOp_mul, Op.intArith]⟩
        · obtain ⟨hc, h⟩ := chk_some h
          exact ⟨_, h, fin _ rfl fun w => by simp at hc; simp [eqGuard_at_int, binOp_quo, Op.intDiv, hc]⟩
        · obtain ⟨hc, h⟩ := chk_some h
          exact ⟨_, h, fin _ rfl fun w => by simp at hc; simp [eqGuard_at_int, binOp_rem, Op.intDiv, hc]⟩
        · exact ⟨_, h, fin _ rfl fun w => by simp [eqGuard_at_int, binOp_and, intBits_and]⟩
        · exact ⟨_, h, fin _ rfl fun w => by simp [eqGuard_at_int, binOp_or, intBits_or]⟩
        · exact ⟨_, h, fin _ rfl fun w => by simp [eqGuard_at_int, binOp_xor, intBits_xor]⟩
        · exact ⟨_, h, fin _ rfl fun w => by simp [eqGuard_at_int, binOp_eql]⟩
        · exact ⟨_, h, fin _ rfl fun w => by simp [eqGuard_at_int, binOp_neq]⟩
        · exact ⟨_, h, fin _ rfl fun w => by simp [eqGuard_at_int, binOp_lss]⟩
        · exact ⟨_, h, fin _ rfl fun w => by simp [eqGuard_at_int, binOp_leq]⟩
        · exact ⟨_, h, fin _ rfl fun w => by simp [eqGuard_at_int, binOp_gtr]⟩
        · exact ⟨_, h, fin _ rfl fun w => by simp [eqGuard_at_int, binOp_geq]⟩
        · cases h
      · cases h
  · rename_i a1 b1 hx hy
    have fin : ∀ (u : Value), u.oneCell' = true → (∀ w, ((do eqGuard op T x y (.bool a1) (.bool b1); binOp op T (.bool a1) (.bool b1) : Sem Value)).run P w = .ok u w) → OpSound P o sl bk nx ⟨.comp false [.sc u], []⟩ := by
      intro u hu hr
      refine sound_pure fun n w R ρ S a h => ⟨u, ?_, isAV_of ⟨rfl, hu⟩⟩
      have := hr w
      simp only [execOp, ho, ev_sc h hx, ev_sc h hy]
      simp only [Sem.run_bind] at this ⊢
      rw [this]
      rfl
    split at h
    · rename_i hsd
      cases hT : ti T with
      | none => simp [hT] at hsd
      | some i =>
        simp [hT] at hsd
        obtain ⟨dd, h1, h2⟩ := (hti T i hT).under
        rw [hsd] at h2
        have h3 := shape_bool h2
        subst h3
        split at h
        · exact ⟨_, h, fin _ rfl fun w => by simp [eqGuard_at_bool, run_eql_bool w T a1 b1 h1]⟩
        · refine ⟨_, h, fin _ rfl fun w => ?_⟩
          have he := run_eql_bool w T a1 b1 h1
          simp only [binOp, Sem.run_bind] at he
          simp only [eqGuard_at_bool, binOp, Sem.run_bind, Sem.run_pure, Result.andThen_ok]
          cases hq : (Op.equal T (.bool a1) (.bool b1)).run P w with
          | ok z w1 =>
            rw [hq] at he
            simp only [Result.andThen_ok, Sem.run_pure, Result.ok.injEq, Value.bool.injEq] at he
            obtain ⟨rfl, rfl⟩ := he
            simp [bne]
          | halt z w1 => rw [hq] at he; simp at he
        · cases h
    · cases h
  · rename_i a1 b1 hx hy
    have fin : ∀ (u : Value), u.oneCell' = true → (∀ w, ((do eqGuard op T x y (.string a1) (.string b1); binOp op T (.string a1) (.string b1) : Sem Value)).run P w = .ok u w) → OpSound P o sl bk nx ⟨.comp false [.sc u], []⟩ := by
      intro u hu hr
      refine sound_pure fun n w R ρ S a h => ⟨u, ?_, isAV_of ⟨rfl, hu⟩⟩
      have := hr w
      simp only [execOp, ho, ev_sc h hx, ev_sc h hy]
      simp only [Sem.run_bind] at this ⊢
      rw [this]
      rfl
    split at h
    · exact ⟨_, h, fin _ rfl fun w => by simp [eqGuard_at_string, binOp, Op.stringOp]⟩
    · exact ⟨_, h, fin _ rfl fun w => by simp [eqGuard_at_string, binOp, Op.stringOp]⟩
    · exact ⟨_, h, fin _ rfl fun w => by simp [eqGuard_at_string, binOp, Op.stringOp]⟩
    · exact ⟨_, h, fin _ rfl fun w => by simp [eqGuard_at_string, binOp, Op.stringOp]⟩
    · exact ⟨_, h, fin _ rfl fun w => by simp [eqGuard_at_string, binOp, Op.stringOp]⟩
    · exact ⟨_, h, fin _ rfl fun w => by simp [eqGuard_at_string, binOp, Op.stringOp]⟩
    · obtain ⟨hc, h⟩ := chk_some h
      simp only [decide_eq_true_eq] at hc
      exact ⟨_, h, fin _ rfl fun w => by simp [eqGuard_at_string, binOp_string_add, run_string_add_sum w a1 b1 hc]⟩
    · cases h
  · cases h

theorem unK_sound {X : Type} {op : UnOp} {T : TypeId} {x : Operand} {k : AV → Option X} {d : X} (ho : o.op = .unOp op T x) (h : unK op (evalA sl x) k = some d) :
    ∃ v, k v = some d ∧ OpSound P o sl bk nx ⟨v, []⟩ := by
  unfold unK at h
  split at h
  · rename_i b hx
    exact ⟨_, h, sound_pure fun n w R ρ S a h => ⟨.bool (!b), by simp [execOp, ho, ev_sc h hx, Op.unary], isAV_of ⟨rfl, rfl⟩⟩⟩
  · rename_i kx m hx
    exact ⟨_, h, sound_pure fun n w R ρ S a h => ⟨.int kx (kx.wrap (0 - m)), by simp [execOp, ho, ev_sc h hx, Op.unary, Op.intArith], isAV_of ⟨rfl, rfl⟩⟩⟩
  · cases h

end Go.Eng
