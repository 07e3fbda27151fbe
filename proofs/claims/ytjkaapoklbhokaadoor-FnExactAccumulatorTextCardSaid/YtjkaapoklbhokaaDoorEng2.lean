/- The engine, part 2: abstract values, blocks and states; that a state describes a world; what one operation may change. Conditions: none. -/
import Derived.Test.YtjkaapoklbhokaaDoorEng1
import Derived.Lib.ItoaNum
set_option linter.all false
namespace Go.Eng
open Go.RowKit

inductive At where
  | unk
  | sc (v : Value)
  | ptr (id off : Nat)
  | eptr (id i sz j : Nat)
  | sl (id : Nat)
  | fn (f : FuncId)
  | clo (f : FuncId) (caps : List (Nat × Nat))

abbrev Comp := Bool × List At

inductive AV where
  | comp (b : Bool) (cs : List At)
  | tup (vs : List Comp)

def AV.unk : AV := .comp false [.unk]

inductive Blk where
  | dead
  | cells (cs : List At) (t : TypeId)
  | row (own : Bool) (e : TypeId) (t : Ty) (xs : List t.den)
  | mp (nn own : Bool) (l : List (Int × Int))
  | hole (e : TypeId) (t : Ty) (xs : List t.den) (ix j : Nat) (u : Ty) (c : Nat)

abbrev Rho := Nat → Option Value

def isAt (ρ : Rho) : At → Value → Prop
  | .unk, _ => True
  | .sc x, v => v = x ∧ x.oneCell' = true
  | .ptr id off, v => ∃ g, ρ id = some (.pointer (some ⟨g, 0, none⟩)) ∧ v = .pointer (some ⟨g, off, none⟩)
  | .eptr id i sz j, v => ∃ ad n c, ρ id = some (.slice (some ad) n c) ∧ i < n ∧ v = .pointer (some (ad.add (i * sz + j)))
  | .sl id, v => ρ id = some v
  | .fn f, v => v = .func (.func f) #[] #[]
  | .clo f caps, v => ∃ vs : List Value, v = .func (.func f) #[] (List.toArray vs) ∧ All2 (fun p u => ∃ g, ρ p.1 = some (.pointer (some ⟨g, 0, none⟩)) ∧ u = .pointer (some ⟨g, p.2, none⟩)) caps vs

def isComp (ρ : Rho) (c : Comp) (v : Value) : Prop :=
  match c.1 with
  | true => ∃ vs, v = .agg (List.toArray vs) ∧ All2 (isAt ρ) c.2 vs
  | false => ∃ a, c.2 = [a] ∧ isAt ρ a v

def isAV (ρ : Rho) : AV → Value → Prop
  | .comp b cs, v => (b = false ∧ cs = [.unk]) ∨ isComp ρ (b, cs) v
  | .tup vs, v => ∃ l, v = .tuple (List.toArray l) ∧ All2 (isComp ρ) vs l

def Rho.ext (ρ ρ' : Rho) : Prop := ∀ i u, ρ i = some u → ρ' i = some u

theorem isAt.ext {ρ ρ' : Rho} (h : ρ.ext ρ') : ∀ {a : At} {v : Value}, isAt ρ a v → isAt ρ' a v
  | .unk, _, _ => trivial
  | .sc _, _, h' => h'
  | .ptr _ _, _, ⟨g, h1, h2⟩ => ⟨g, h _ _ h1, h2⟩
  | .eptr _ _ _ _, _, ⟨ad, n, c, h1, h2⟩ => ⟨ad, n, c, h _ _ h1, h2⟩
  | .sl _, _, h' => h _ _ h'
  | .fn _, _, h' => h'
  | .clo _ _, _, ⟨vs, h1, h2⟩ => ⟨vs, h1, h2.mono fun _ _ ⟨g, h3, h4⟩ => ⟨g, h _ _ h3, h4⟩⟩

theorem isComp.ext {ρ ρ' : Rho} (h : ρ.ext ρ') {c : Comp} {v : Value} (hc : isComp ρ c v) : isComp ρ' c v := by
  obtain ⟨b, cs⟩ := c
  cases b
  · obtain ⟨a, h1, h2⟩ := hc; exact ⟨a, h1, h2.ext h⟩
  · obtain ⟨vs, h1, h2⟩ := hc; exact ⟨vs, h1, h2.mono fun _ _ h' => isAt.ext h h'⟩

theorem isAV.ext {ρ ρ' : Rho} (h : ρ.ext ρ') : ∀ {a : AV} {v : Value}, isAV ρ a v → isAV ρ' a v
  | .comp _ _, _, h' => h'.imp id (isComp.ext h)
  | .tup _, _, ⟨l, h1, h2⟩ => ⟨l, h1, h2.mono fun _ _ h' => isComp.ext h h'⟩

def blkRep (w : World) (R : Nat → Prop) (ρ : Rho) (o : Option Value) (S : List Nat) : Blk → Prop
  | .dead => S = []
  | .cells cs t => ∃ g vs, o = some (.pointer (some ⟨g, 0, none⟩)) ∧ S = [g] ∧ w.heap[g]? = some (.cells (List.toArray vs) t (0, 0)) ∧ All2 (isAt ρ) cs vs
  | .row own e t xs => ∃ v, o = some v ∧ rep w R (.row own e t) xs [v] S
  | .mp nn own l => ∃ v, o = some v ∧ rep w R (.map own) l [v] S ∧ (nn = true → ∃ g, v = .map (some g))
  | .hole e t xs ix j u c => ∃ v uv, o = some v ∧ ρ c = some uv ∧ (∀ b ∈ S, b < w.heap.size) ∧ ∀ (w' : World) (R' : Nat → Prop), (∀ b ∈ S, w'.heap[b]? = w.heap[b]?) → (∀ b, R b → w'.heap[b]? = w.heap[b]?) → (∀ b, R b → R' b) →
      ∀ (y : u.den) (T' : List Nat), rep w' R' u y [uv] T' → ∃ T'', rep w' R' (.row true e t) (List.set xs ix (setDen t (List.getD xs ix t.dflt) j u y)) [v] T'' ∧ T''.Perm (S ++ T')

theorem blkRep_keep {w w' : World} {R R' : Nat → Prop} {ρ ρ' : Rho} {o : Option Value} {S : List Nat} (hR : ∀ b, R b → w'.heap[b]? = w.heap[b]?) (hRR : ∀ b, R b → R' b) (hρ : ρ.ext ρ')
    (hsz : w.heap.size ≤ w'.heap.size) (hS : ∀ b ∈ S, w'.heap[b]? = w.heap[b]?) : ∀ {b : Blk}, blkRep w R ρ o S b → blkRep w' R' ρ' o S b
  | .dead, h => h
  | .cells _ _, ⟨g, vs, h1, h2, h3, h4⟩ => ⟨g, vs, h1, h2, by rw [hS g (by rw [h2]; simp)]; exact h3, h4.mono fun _ _ h' => isAt.ext hρ h'⟩
  | .row _ _ _ _, ⟨v, h1, h2⟩ => ⟨v, h1, rep_keep hR hRR hS h2⟩
  | .mp _ _ _, ⟨v, h1, h2, h3⟩ => ⟨v, h1, rep_keep hR hRR hS h2, h3⟩
  | .hole _ _ _ _ _ _ _, ⟨v, uv, h1, h2, h3, h4⟩ => ⟨v, uv, h1, hρ _ _ h2, fun b hb => Nat.lt_of_lt_of_le (h3 b hb) hsz, fun w'' R'' a1 a2 a3 => h4 w'' R'' (fun b hb => (a1 b hb).trans (hS b hb)) (fun b hb => (a2 b (hRR b hb)).trans (hR b hb)) (fun b hb => a3 b (hRR b hb))⟩

theorem blkRep_lt {w : World} {R : Nat → Prop} {ρ : Rho} {o : Option Value} {S : List Nat} : ∀ {b : Blk}, blkRep w R ρ o S b → ∀ i ∈ S, i < w.heap.size
  | .dead, h, i, hi => by rw [show S = [] from h] at hi; simp at hi
  | .cells _ _, ⟨g, vs, _, h2, h3, _⟩, i, hi => by
    rw [h2] at hi
    simp only [List.mem_singleton] at hi
    subst hi
    exact (Array.getElem?_eq_some_iff.1 h3).1
  | .row _ _ _ _, ⟨v, _, h2⟩, i, hi => rep_lt h2 i hi
  | .mp _ _ _, ⟨v, _, h2, _⟩, i, hi => rep_lt h2 i hi
  | .hole _ _ _ _ _ _ _, ⟨v, uv, _, _, h3, _⟩, i, hi => h3 i hi

/-- Blocks of the program's variables of which it is known what they hold. -/
def globs : List (Nat × Array Value) := [(0, (Go.Lib.pow10Tab.map fun z => Value.int .u64 z).toArray)]
def Glob (w : World) (R : Nat → Prop) : Prop := ∀ p ∈ globs, (∃ x y, w.heap[p.1]? = some (.cells p.2 x y)) ∧ R p.1
theorem Glob.keep {w w' : World} {R R' : Nat → Prop} (h : Glob w R) (hk : ∀ b, R b → w'.heap[b]? = w.heap[b]?) (hR : ∀ b, R b → R' b) : Glob w' R' := fun p hp => by
  obtain ⟨⟨x, y, h1⟩, h2⟩ := h p hp
  exact ⟨⟨x, y, by rw [hk _ h2]; exact h1⟩, hR _ h2⟩

/-- The abstract state (sl, bk) describes the frame a and the world w: ρ says where the blocks lie, S which of the world's blocks each owns, R which are only read. -/
structure Inv (n : Nat) (w : World) (R : Nat → Prop) (sl : Nat → AV) (bk : Nat → Blk) (ρ : Rho) (S : Nat → List Nat) (a : Act) : Prop where
  size : a.tmps.size = n
  defers : a.defers = []
  slots : ∀ t, isAV ρ (sl t) (a.tmps.getD t undef)
  blks : ∀ i, blkRep w R ρ (ρ i) (S i) (bk i)
  one : ∀ i u, ρ i = some u → u.oneCell' = true
  nodup : ∀ i, (S i).Nodup
  disj : ∀ i j, i ≠ j → ∀ b ∈ S i, b ∉ S j
  offR : ∀ i, ∀ b ∈ S i, ¬ R b
  Rlt : ∀ b, R b → b < w.heap.size
  glob : Glob w R

structure Eff where
  val : AV
  upd : List (Nat × Blk)

def Eff.ids (e : Eff) : List Nat := e.upd.map (·.1)

def updBk : List (Nat × Blk) → (Nat → Blk) → Nat → Blk
  | [], bk, j => bk j
  | (i, b) :: r, bk, j => if j = i then b else updBk r bk j

def updSl (n : Nat) (dst : Option Nat) (v : AV) (sl : Nat → AV) (t : Nat) : AV :=
  match dst with
  | some d => if t = d ∧ d < n then v else sl t
  | none => sl t

theorem updBk_not {l : List (Nat × Blk)} {bk : Nat → Blk} {j : Nat} (h : j ∉ l.map (·.1)) : updBk l bk j = bk j := by
  induction l with
  | nil => rfl
  | cons p r ih =>
    simp only [List.map_cons, List.mem_cons, not_or] at h
    simp only [updBk, if_neg h.1, ih h.2]

/-- What one operation may have changed: its effect e, in the world w', with the value v. -/
structure Post (w : World) (R : Nat → Prop) (ρ : Rho) (S : Nat → List Nat) (bk : Nat → Blk) (e : Eff) (w' : World) (R' : Nat → Prop) (ρ' : Rho) (S' : Nat → List Nat) (v : Value) : Prop where
  ext : ρ.ext ρ'
  sameρ : ∀ i, i ∉ e.ids → ρ' i = ρ i
  one : ∀ i u, ρ' i = some u → u.oneCell' = true
  sameS : ∀ i, i ∉ e.ids → S' i = S i
  blk : ∀ i ∈ e.ids, blkRep w' R' ρ' (ρ' i) (S' i) (updBk e.upd bk i)
  keeps : Keeps (fun b => ∃ i ∈ e.ids, b ∈ S i) w w'
  own : ∀ i ∈ e.ids, ∀ b ∈ S' i, (∃ j ∈ e.ids, b ∈ S j) ∨ w.heap.size ≤ b
  nodup : ∀ i ∈ e.ids, (S' i).Nodup
  disj : ∀ i ∈ e.ids, ∀ j ∈ e.ids, i ≠ j → ∀ b ∈ S' i, b ∉ S' j
  RR : ∀ b, R b → R' b
  Rnew : ∀ b, R' b → R b ∨ ((∃ j ∈ e.ids, b ∈ S j) ∨ w.heap.size ≤ b)
  Rlt : ∀ b, R' b → b < w'.heap.size
  offR : ∀ i ∈ e.ids, ∀ b ∈ S' i, ¬ R' b
  val : isAV ρ' e.val v

variable {n : Nat} {w w' : World} {R R' : Nat → Prop} {sl : Nat → AV} {bk : Nat → Blk} {ρ ρ' : Rho} {S S' : Nat → List Nat} {a : Act} {e : Eff} {v : Value}

theorem Inv.lt (h : Inv n w R sl bk ρ S a) (i : Nat) : ∀ b ∈ S i, b < w.heap.size := blkRep_lt (h.blks i)

theorem getD_put {a : Act} {dst : Option Nat} {v : Value} {t : Nat} : (a.put dst v).tmps.getD t undef = match dst with | some d => if t = d ∧ d < a.tmps.size then v else a.tmps.getD t undef | none => a.tmps.getD t undef := by
  cases dst with
  | none => rfl
  | some d =>
    simp only [Act.put, Array.getD_eq_getD_getElem?, Array.getElem?_setIfInBounds]
    by_cases h : t = d
    · subst h
      by_cases hl : t < a.tmps.size
      · simp [hl]
      · simp [hl]
    · simp [h, Ne.symm h]

theorem size_put {a : Act} {dst : Option Nat} {v : Value} : (a.put dst v).tmps.size = a.tmps.size := by
  cases dst <;> simp [Act.put]
theorem defers_put {a : Act} {dst : Option Nat} {v : Value} : (a.put dst v).defers = a.defers := by
  cases dst <;> rfl

theorem Inv.step (h : Inv n w R sl bk ρ S a) (p : Post w R ρ S bk e w' R' ρ' S' v) (dst : Option Nat) :
    Inv n w' R' (updSl n dst e.val sl) (updBk e.upd bk) ρ' S' (a.put dst v) := by
  have hR : ∀ b, R b → w'.heap[b]? = w.heap[b]? := fun b hb => p.keeps.block b (h.Rlt b hb) (fun ⟨i, _, hi⟩ => h.offR i b hi hb)
  refine ⟨by rw [size_put]; exact h.size, by rw [defers_put]; exact h.defers, ?_, ?_, p.one, ?_, ?_, ?_, p.Rlt, h.glob.keep hR p.RR⟩
  · intro t
    rw [getD_put]
    cases dst with
    | none => exact (h.slots t).ext p.ext
    | some d =>
      simp only [updSl]
      by_cases hd : t = d ∧ d < n
      · rw [if_pos hd, if_pos ⟨hd.1, by rw [h.size]; exact hd.2⟩]; exact p.val
      · rw [if_neg hd, if_neg (by rw [h.size]; exact hd)]; exact (h.slots t).ext p.ext
  · intro i
    by_cases hi : i ∈ e.ids
    · exact p.blk i hi
    · rw [updBk_not hi, p.sameρ i hi, p.sameS i hi]
      exact blkRep_keep hR p.RR p.ext p.keeps.size (fun b hb => p.keeps.block b (h.lt i b hb) (fun ⟨j, hj, hj'⟩ => h.disj i j (fun e => hi (e ▸ hj)) b hb hj')) (h.blks i)
  · intro i
    by_cases hi : i ∈ e.ids
    · exact p.nodup i hi
    · rw [p.sameS i hi]; exact h.nodup i
  · intro i j hij b hb hb'
    by_cases hi : i ∈ e.ids
    · by_cases hj : j ∈ e.ids
      · exact p.disj i hi j hj hij b hb hb'
      · rw [p.sameS j hj] at hb'
        rcases p.own i hi b hb with ⟨k, hk, hkb⟩ | hge
        · exact h.disj k j (fun e => hj (e ▸ hk)) b hkb hb'
        · have := h.lt j b hb'; omega
    · rw [p.sameS i hi] at hb
      by_cases hj : j ∈ e.ids
      · rcases p.own j hj b hb' with ⟨k, hk, hkb⟩ | hge
        · exact h.disj i k (fun e => hi (e ▸ hk)) b hb hkb
        · have := h.lt i b hb; omega
      · rw [p.sameS j hj] at hb'
        exact h.disj i j hij b hb hb'
  · intro i b hb hb'
    by_cases hi : i ∈ e.ids
    · exact p.offR i hi b hb hb'
    · rw [p.sameS i hi] at hb
      rcases p.Rnew b hb' with h1 | ⟨k, hk, hkb⟩ | hge
      · exact h.offR i b hb h1
      · exact h.disj i k (fun e => hi (e ▸ hk)) b hb hkb
      · have := h.lt i b hb; omega

/-- An effect that only yields a value. -/
theorem Post.pure (h : Inv n w R sl bk ρ S a) {x : AV} {v : Value} (hv : isAV ρ x v) : Post w R ρ S bk ⟨x, []⟩ w R ρ S v :=
  ⟨fun _ _ h => h, fun _ _ => rfl, h.one, fun _ _ => rfl, fun _ hi => by simp [Eff.ids] at hi, Keeps.refl _ _, fun _ hi => by simp [Eff.ids] at hi, fun _ hi => by simp [Eff.ids] at hi,
    fun _ hi => by simp [Eff.ids] at hi, fun _ h => h, fun _ h => .inl h, h.Rlt, fun _ hi => by simp [Eff.ids] at hi, hv⟩

/-- Some of what is known is forgotten. -/
structure Less (sl' : Nat → AV) (bk' : Nat → Blk) (sl : Nat → AV) (bk : Nat → Blk) : Prop where
  sl : ∀ t, sl' t = sl t ∨ sl' t = .unk
  bk : ∀ i, bk' i = bk i ∨ bk' i = .dead

theorem Inv.less {sl' : Nat → AV} {bk' : Nat → Blk} (h : Inv n w R sl bk ρ S a) (hl : Less sl' bk' sl bk) :
    ∃ S', Inv n w R sl' bk' ρ S' a ∧ (∀ i, S' i = S i ∨ S' i = []) ∧ (∀ i, bk' i = bk i → S' i = S i) := by
  classical
  refine ⟨fun i => if bk' i = bk i then S i else [], ⟨h.size, h.defers, ?_, ?_, h.one, ?_, ?_, ?_, h.Rlt, h.glob⟩, ?_, ?_⟩
  · intro t
    rcases hl.sl t with h' | h'
    · rw [h']; exact h.slots t
    · rw [h']; exact .inl ⟨rfl, rfl⟩
  · intro i
    by_cases hi : bk' i = bk i
    · simp only [if_pos hi]; rw [hi]; exact h.blks i
    · simp only [if_neg hi]
      rw [(hl.bk i).resolve_left hi]; rfl
  · intro i
    by_cases hi : bk' i = bk i
    · simp only [if_pos hi]; exact h.nodup i
    · simp only [if_neg hi]; exact List.nodup_nil
  · intro i j hij b hb hb'
    by_cases hi : bk' i = bk i
    · by_cases hj : bk' j = bk j
      · simp only [if_pos hi] at hb; simp only [if_pos hj] at hb'; exact h.disj i j hij b hb hb'
      · simp only [if_neg hj] at hb'; simp at hb'
    · simp only [if_neg hi] at hb; simp at hb
  · intro i b hb
    by_cases hi : bk' i = bk i
    · simp only [if_pos hi] at hb; exact h.offR i b hb
    · simp only [if_neg hi] at hb; simp at hb
  · intro i
    by_cases hi : bk' i = bk i
    · simp only [if_pos hi]; exact .inl trivial
    · simp only [if_neg hi]; exact .inr trivial
  · intro i hi
    simp only [if_pos hi]

end Go.Eng
