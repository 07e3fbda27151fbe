/- The engine, part 1: the data that a function computes with (types, their readings in memory), the abstract values and blocks, and what it means that an abstract state describes a world. Conditions: none; it speaks of every program. -/
import Derived.WalkKit
import Derived.Orders
import Derived.LoopN
set_option linter.all false
namespace Go.Eng
open Go.RowKit

/-- The types of data. -/
inductive Ty where
  | int (k : IntKind)
  | bool
  | str
  | pair (a b : Ty)
  | row (own : Bool) (e : TypeId) (t : Ty)
  | map (own : Bool)
  deriving DecidableEq

@[reducible] def Ty.den : Ty → Type
  | .int _ => Int
  | .bool => Bool
  | .str => ByteArray
  | .pair a b => a.den × b.den
  | .row _ _ t => List t.den
  | .map _ => List (Int × Int)

def Ty.size : Ty → Nat
  | .pair a b => a.size + b.size
  | _ => 1

theorem Ty.size_pos : ∀ t : Ty, 0 < t.size
  | .int _ | .bool | .str | .row .. | .map _ => by simp [Ty.size]
  | .pair a b => by have := Ty.size_pos a; simp [Ty.size]; omega

def Ty.dflt : (t : Ty) → t.den
  | .int _ => (0 : Int)
  | .bool => false
  | .str => ByteArray.empty
  | .pair a b => (a.dflt, b.dflt)
  | .row .. => []
  | .map _ => []

/-- The same data, nothing of it owned. -/
def Ty.ro : Ty → Ty
  | .pair a b => .pair a.ro b.ro
  | .row _ e t => .row false e t.ro
  | .map _ => .map false
  | t => t

theorem Ty.ro_den : ∀ t : Ty, t.ro.den = t.den
  | .int _ => rfl
  | .bool => rfl
  | .str => rfl
  | .pair a b => by simp only [Ty.ro, Ty.den, Ty.ro_den a, Ty.ro_den b]
  | .row _ _ t => by simp only [Ty.ro, Ty.den, Ty.ro_den t]
  | .map _ => rfl

theorem Ty.ro_size : ∀ t : Ty, t.ro.size = t.size
  | .int _ | .bool | .str | .row .. | .map _ => rfl
  | .pair a b => by simp only [Ty.ro, Ty.size, Ty.ro_size a, Ty.ro_size b]

def Ty.toRo (t : Ty) (x : t.den) : t.ro.den := cast (Ty.ro_den t).symm x

section lists
/-- Two lists of one length, related place by place. -/
def All2 {α β : Type} (R : α → β → Prop) : List α → List β → Prop
  | [], [] => True
  | a :: as, b :: bs => R a b ∧ All2 R as bs
  | _, _ => False

theorem All2.length {α β : Type} {R : α → β → Prop} : ∀ {as : List α} {bs : List β}, All2 R as bs → as.length = bs.length
  | [], [], _ => rfl
  | _ :: _, _ :: _, h => by simp [All2.length h.2]
  | [], _ :: _, h => h.elim
  | _ :: _, [], h => h.elim

theorem All2.mono {α β : Type} {R R' : α → β → Prop} (hR : ∀ a b, R a b → R' a b) : ∀ {as : List α} {bs : List β}, All2 R as bs → All2 R' as bs
  | [], [], _ => trivial
  | _ :: _, _ :: _, h => ⟨hR _ _ h.1, All2.mono hR h.2⟩
  | [], _ :: _, h => h.elim
  | _ :: _, [], h => h.elim

theorem All2.get {α β : Type} {R : α → β → Prop} : ∀ {as : List α} {bs : List β}, All2 R as bs → ∀ (i : Nat) (a : α), as[i]? = some a → ∃ b, bs[i]? = some b ∧ R a b
  | [], [], _, i, a, h => by simp at h
  | a :: as, b :: bs, h, 0, x, hx => by simp at hx; subst hx; exact ⟨b, rfl, h.1⟩
  | a :: as, b :: bs, h, i + 1, x, hx => by simpa using All2.get h.2 i x (by simpa using hx)
  | [], _ :: _, h, _, _, _ => h.elim
  | _ :: _, [], h, _, _, _ => h.elim

theorem All2.append {α β : Type} {R : α → β → Prop} : ∀ {as : List α} {bs : List β} {as' : List α} {bs' : List β}, All2 R as bs → All2 R as' bs' → All2 R (as ++ as') (bs ++ bs')
  | [], [], _, _, _, h => h
  | _ :: _, _ :: _, _, _, h, h' => ⟨h.1, All2.append h.2 h'⟩
  | [], _ :: _, _, _, h, _ => h.elim
  | _ :: _, [], _, _, h, _ => h.elim

theorem All2.take {α β : Type} {R : α → β → Prop} : ∀ {as : List α} {bs : List β} (n : Nat), All2 R as bs → All2 R (as.take n) (bs.take n)
  | [], [], n, _ => by simp [All2]
  | _ :: _, _ :: _, 0, _ => by simp [All2]
  | _ :: _, _ :: _, n + 1, h => ⟨h.1, All2.take n h.2⟩
  | [], _ :: _, _, h => h.elim
  | _ :: _, [], _, h => h.elim

theorem All2.drop {α β : Type} {R : α → β → Prop} : ∀ {as : List α} {bs : List β} (n : Nat), All2 R as bs → All2 R (as.drop n) (bs.drop n)
  | [], [], n, _ => by simp [All2]
  | _ :: _, _ :: _, 0, h => h
  | _ :: _, _ :: _, n + 1, h => All2.drop n h.2
  | [], _ :: _, _, h => h.elim
  | _ :: _, [], _, h => h.elim

theorem All2.set {α β : Type} {R : α → β → Prop} {x : α} {y : β} (hxy : R x y) : ∀ {as : List α} {bs : List β} (n : Nat), All2 R as bs → All2 R (as.set n x) (bs.set n y)
  | [], [], n, _ => by simp [All2]
  | _ :: _, _ :: _, 0, h => ⟨hxy, h.2⟩
  | _ :: _, _ :: _, n + 1, h => ⟨h.1, All2.set hxy n h.2⟩
  | [], _ :: _, _, h => h.elim
  | _ :: _, [], _, h => h.elim

/-- Elements, each read from cells of its own, with the blocks that they own. -/
def elemsR {α : Type} (R : α → List Value → List Nat → Prop) : List α → List Value → List Nat → Prop
  | [], cs, S => cs = [] ∧ S = []
  | x :: xs, cs, S => ∃ c1 c2 S1 S2, cs = c1 ++ c2 ∧ S = S1 ++ S2 ∧ R x c1 S1 ∧ elemsR R xs c2 S2

variable {α : Type} {R R' : α → List Value → List Nat → Prop}

theorem elemsR_app : ∀ {xs ys : List α} {cs : List Value} {S : List Nat}, elemsR R (xs ++ ys) cs S ↔ ∃ c1 c2 S1 S2, cs = c1 ++ c2 ∧ S = S1 ++ S2 ∧ elemsR R xs c1 S1 ∧ elemsR R ys c2 S2
  | [], ys, cs, S => by
    constructor
    · intro h; exact ⟨[], cs, [], S, rfl, rfl, ⟨rfl, rfl⟩, h⟩
    · rintro ⟨c1, c2, S1, S2, rfl, rfl, ⟨rfl, rfl⟩, h⟩; exact h
  | x :: xs, ys, cs, S => by
    constructor
    · rintro ⟨c1, c2, S1, S2, rfl, rfl, h1, h2⟩
      obtain ⟨d1, d2, T1, T2, rfl, rfl, h3, h4⟩ := elemsR_app.1 h2
      exact ⟨c1 ++ d1, d2, S1 ++ T1, T2, by simp, by simp, ⟨c1, d1, S1, T1, rfl, rfl, h1, h3⟩, h4⟩
    · rintro ⟨c1, c2, S1, S2, rfl, rfl, ⟨d1, d2, T1, T2, rfl, rfl, h1, h3⟩, h4⟩
      exact ⟨d1, d2 ++ c2, T1, T2 ++ S2, by simp, by simp, h1, elemsR_app.2 ⟨d2, c2, T2, S2, rfl, rfl, h3, h4⟩⟩

theorem elemsR_one {x : α} {cs : List Value} {S : List Nat} : elemsR R [x] cs S ↔ R x cs S := by
  constructor
  · rintro ⟨c1, c2, S1, S2, rfl, rfl, h, rfl, rfl⟩; simpa using h
  · intro h; exact ⟨cs, [], S, [], by simp, by simp, h, rfl, rfl⟩

theorem elemsR_mono : ∀ {xs : List α} {cs : List Value} {S : List Nat}, (∀ x c T, (∀ b ∈ T, b ∈ S) → R x c T → R' x c T) → elemsR R xs cs S → elemsR R' xs cs S
  | [], _, _, _, h => h
  | x :: xs, cs, S, hR, ⟨c1, c2, S1, S2, h1, h2, h3, h4⟩ => by
    subst h2
    exact ⟨c1, c2, S1, S2, h1, rfl, hR _ _ _ (fun b hb => List.mem_append_left _ hb) h3, elemsR_mono (fun x c T hT => hR x c T (fun b hb => List.mem_append_right _ (hT b hb))) h4⟩

theorem elemsR_len {sz : Nat} (hsz : ∀ x c S, R x c S → c.length = sz) : ∀ {xs : List α} {cs : List Value} {S : List Nat}, elemsR R xs cs S → cs.length = xs.length * sz
  | [], _, _, h => by simp [h.1]
  | x :: xs, cs, S, ⟨c1, c2, S1, S2, h1, h2, h3, h4⟩ => by
    subst h1
    rw [List.length_append, hsz _ _ _ h3, elemsR_len hsz h4, List.length_cons, Nat.add_mul]; omega

/-- One element taken out. -/
theorem elemsR_split {xs : List α} {cs : List Value} {S : List Nat} {i : Nat} {x : α} (h : elemsR R xs cs S) (hx : xs[i]? = some x) :
    ∃ c1 c c2 S1 S' S2, cs = c1 ++ (c ++ c2) ∧ S = S1 ++ (S' ++ S2) ∧ elemsR R (xs.take i) c1 S1 ∧ R x c S' ∧ elemsR R (xs.drop (i + 1)) c2 S2 := by
  obtain ⟨hi, rfl⟩ := List.getElem?_eq_some_iff.1 hx
  have e : xs = xs.take i ++ (xs[i] :: xs.drop (i + 1)) := by rw [← List.drop_eq_getElem_cons hi, List.take_append_drop]
  rw [e] at h
  obtain ⟨c1, c2, S1, S2, rfl, rfl, h1, d1, d2, T1, T2, rfl, rfl, h2, h3⟩ := elemsR_app.1 h
  refine ⟨c1, d1, d2, S1, T1, T2, rfl, rfl, ?_, ?_, ?_⟩
  · exact h1
  · exact h2
  · exact h3

theorem elemsR_join {xs : List α} {i : Nat} {x : α} {c1 c c2 : List Value} {S1 S' S2 : List Nat} (hi : i < xs.length) (h1 : elemsR R (xs.take i) c1 S1) (h : R x c S') (h2 : elemsR R (xs.drop (i + 1)) c2 S2) :
    elemsR R (xs.set i x) (c1 ++ (c ++ c2)) (S1 ++ (S' ++ S2)) := by
  rw [List.set_eq_take_append_cons_drop, if_pos hi]
  exact elemsR_app.2 ⟨c1, c ++ c2, S1, S' ++ S2, rfl, rfl, h1, c, c2, S', S2, rfl, rfl, h, h2⟩
end lists

/-- Blocks outside S are as they were; no block has gone. -/
structure Keeps (S : Nat → Prop) (w w' : World) : Prop where
  os : w'.os = w.os
  tape : w'.tape = w.tape
  output : w'.output = w.output
  size : w.heap.size ≤ w'.heap.size
  block : ∀ k, k < w.heap.size → ¬ S k → w'.heap[k]? = w.heap[k]?

theorem Keeps.refl (S : Nat → Prop) (w : World) : Keeps S w w := ⟨rfl, rfl, rfl, Nat.le_refl _, fun _ _ _ => rfl⟩
theorem Keeps.mono {S S' : Nat → Prop} {w w' : World} (h : Keeps S w w') (hS : ∀ k, k < w.heap.size → S k → S' k) : Keeps S' w w' :=
  ⟨h.os, h.tape, h.output, h.size, fun k hk hn => h.block k hk (fun hs => hn (hS k hk hs))⟩
theorem Keeps.trans {S S' : Nat → Prop} {a b c : World} (h : Keeps S a b) (k : Keeps S' b c) (hS : ∀ i, i < a.heap.size → S' i → S i) : Keeps S a c :=
  ⟨k.os.trans h.os, k.tape.trans h.tape, k.output.trans h.output, Nat.le_trans h.size k.size,
    fun i hi hn => (k.block i (Nat.lt_of_lt_of_le hi h.size) (fun hs => hn (hS i hi hs))).trans (h.block i hi hn)⟩
theorem Keeps.alloc (S : Nat → Prop) (w : World) (o : Obj) : Keeps S w (w.alloc o) := ⟨rfl, rfl, rfl, by simp, fun k hk _ => Below.heap_alloc w o k hk⟩
theorem Keeps.drew (S : Nat → Prop) (w : World) : Keeps S w w.drew := ⟨rfl, rfl, rfl, Nat.le_refl _, fun _ _ _ => rfl⟩
theorem Keeps.setCell {S : Nat → Prop} (w : World) {p : Addr} (hp : S p.block) (u : Value) : Keeps S w (w.setCell p u) :=
  ⟨rfl, rfl, rfl, by simp [World.setCell], fun k _ hn => Below.heap_setCell w p u k (fun e => hn (e ▸ hp))⟩
theorem Keeps.of_grown {S : Nat → Prop} {w w' : World} {row : Option Nat} (h : w.grownBy w' row) (hS : ∀ k, row = some k → S k) : Keeps S w w' :=
  ⟨h.os, h.tape, h.output, h.size, fun k hk hn => h.block k hk (fun e => hn (hS k e.symm))⟩

/-- A slice that can be read, in blocks of R. -/
def roRow (w : World) (R : Nat → Prop) (v : Value) (n : Nat) (flat : List Value) : Prop :=
  ∃ A c, v = .slice A n c ∧ (0 < n → ∃ ad, A = some ad ∧ (R ad.block ∧ n ≤ c) ∧ ∀ (j : Nat) (u : Value), flat[j]? = some u → w.cell? (ad.add j) = some u)

/-- A part of a datum. -/
def subDen : (t : Ty) → t.den → Nat → (u : Ty) → Option u.den
  | t, x, 0, u => if h : t = u then some (h ▸ x) else match t, x with
    | .pair a _, x => subDen a x.1 0 u
    | _, _ => none
  | .pair a b, x, j + 1, u => if j + 1 < a.size then subDen a x.1 (j + 1) u else subDen b x.2 (j + 1 - a.size) u
  | _, _, _ + 1, _ => none

/-- A datum, a part of it replaced. -/
def setDen : (t : Ty) → t.den → Nat → (u : Ty) → u.den → t.den
  | t, x, 0, u, y => if h : u = t then h ▸ y else match t, x with
    | .pair a _, x => (setDen a x.1 0 u y, x.2)
    | _, x => x
  | .pair a b, x, j + 1, u, y => if j + 1 < a.size then (setDen a x.1 (j + 1) u y, x.2) else (x.1, setDen b x.2 (j + 1 - a.size) u y)
  | _, x, _ + 1, _, _ => x

/-- A map's entries, put and read. -/
def mputA : List (Int × Int) → Int → Int → List (Int × Int)
  | [], a, b => [(a, b)]
  | p :: r, a, b => if p.1 = a then (a, b) :: r else p :: mputA r a b
/-- The same, at the key's place: two keys may be put in either order. -/
def mputR : List (Int × Int) → Int → Int → List (Int × Int)
  | [], a, b => [(a, b)]
  | p :: r, a, b => if a < p.1 then (a, b) :: p :: r else if p.1 = a then (a, b) :: r else p :: mputR r a b
def mgetR : List (Int × Int) → Int → Int
  | [], _ => 0
  | p :: r, a => if p.1 = a then p.2 else mgetR r a

/-- A map of numbers to numbers in the block g. -/
def mapRep (w : World) (l : List (Int × Int)) (g : Nat) : Prop :=
  ∃ es clock, w.heap[g]? = some (.map es clock) ∧ ∃ l0 : List (Int × Int), es.toList.map (fun e => (e.key, e.val)) = l0.map (fun p => (Value.int .i64 p.1, Value.int .i64 p.2)) ∧ ∀ k, mgetR l0 k = mgetR l k

/-- The cells cs read as x; the blocks that x owns are S; what x only reads lies in R. -/
def rep (w : World) (R : Nat → Prop) : (t : Ty) → t.den → List Value → List Nat → Prop
  | .int k, x, cs, S => cs = [.int k x] ∧ S = []
  | .bool, x, cs, S => cs = [.bool x] ∧ S = []
  | .str, x, cs, S => cs = [.string x] ∧ S = []
  | .pair a b, x, cs, S => ∃ c1 c2 S1 S2, cs = c1 ++ c2 ∧ S = S1 ++ S2 ∧ rep w R a x.1 c1 S1 ∧ rep w R b x.2 c2 S2
  | .row own e t, xs, cs, S => ∃ v flat Se, cs = [v] ∧ elemsR (rep w R t) xs flat Se ∧
      match own with
      | true => w.ownsRow 0 e t.size v xs.length flat ∧ S = v.ownBlock.toList ++ Se
      | false => roRow w R v xs.length flat ∧ S = Se
  | .map own, l, cs, S => (cs = [.map none] ∧ l = [] ∧ S = []) ∨ ∃ g, cs = [.map (some g)] ∧ mapRep w l g ∧ match own with
      | true => S = [g]
      | false => S = [] ∧ R g

variable {w w' : World} {R R' : Nat → Prop}

theorem rep_len : ∀ {t : Ty} {x : t.den} {cs : List Value} {S : List Nat}, rep w R t x cs S → cs.length = t.size
  | .int _, _, _, _, h => by rw [h.1]; rfl
  | .bool, _, _, _, h => by rw [h.1]; rfl
  | .str, _, _, _, h => by rw [h.1]; rfl
  | .pair a b, x, cs, S, ⟨c1, c2, S1, S2, h1, _, h3, h4⟩ => by rw [h1, List.length_append, rep_len h3, rep_len h4]; rfl
  | .row _ _ _, _, _, _, ⟨v, flat, Se, h1, _⟩ => by rw [h1]; rfl
  | .map _, _, _, _, h => by rcases h with ⟨h1, _⟩ | ⟨g, h1, _⟩ <;> rw [h1] <;> rfl

theorem flat_len {t : Ty} {xs : List t.den} {flat : List Value} {S : List Nat} (h : elemsR (rep w R t) xs flat S) : flat.length = xs.length * t.size :=
  elemsR_len (fun _ _ _ h => rep_len h) h

theorem ownsRow_keep {e : TypeId} {sz n : Nat} {v : Value} {xs : List Value} (h : w.ownsRow 0 e sz v n xs) (hb : ∀ b ∈ v.ownBlock.toList, w'.heap[b]? = w.heap[b]?) : w'.ownsRow 0 e sz v n xs := by
  refine ⟨h.1, ?_⟩
  rcases h.2 with hn | ⟨g, cap, cur, rfl, hb0, hg, rest⟩
  · exact .inl hn
  · exact .inr ⟨g, cap, cur, rfl, hb0, by rw [hb g (by simp [Value.ownBlock])]; exact hg, rest⟩

theorem roRow_keep {v : Value} {n : Nat} {flat : List Value} (h : roRow w R v n flat) (hR : ∀ b, R b → w'.heap[b]? = w.heap[b]?) (hRR : ∀ b, R b → R' b) : roRow w' R' v n flat := by
  obtain ⟨A, c, rfl, hr⟩ := h
  refine ⟨A, c, rfl, fun hn => ?_⟩
  obtain ⟨ad, rfl, ⟨hb, hnc⟩, hc⟩ := hr hn
  refine ⟨ad, rfl, ⟨hRR _ hb, hnc⟩, fun j u hu => ?_⟩
  rw [← hc j u hu]
  exact World.cell?_of_block (by
    have : (ad.add j).block = ad.block := by unfold Addr.add; split <;> rfl
    rw [this]; exact hR _ hb)

/-- A reading stays while its own blocks and those of R stay. -/
theorem rep_keep (hR : ∀ b, R b → w'.heap[b]? = w.heap[b]?) (hRR : ∀ b, R b → R' b) : ∀ {t : Ty} {x : t.den} {cs : List Value} {S : List Nat},
    (∀ b ∈ S, w'.heap[b]? = w.heap[b]?) → rep w R t x cs S → rep w' R' t x cs S
  | .int _, _, _, _, _, h => h
  | .bool, _, _, _, _, h => h
  | .str, _, _, _, _, h => h
  | .pair a b, x, cs, S, hS, ⟨c1, c2, S1, S2, h1, h2, h3, h4⟩ => by
    subst h2
    exact ⟨c1, c2, S1, S2, h1, rfl, rep_keep hR hRR (fun b hb => hS b (List.mem_append_left _ hb)) h3, rep_keep hR hRR (fun b hb => hS b (List.mem_append_right _ hb)) h4⟩
  | .row own e t, xs, cs, S, hS, ⟨v, flat, Se, h1, h2, h3⟩ => by
    refine ⟨v, flat, Se, h1, elemsR_mono (fun x c T hT h => rep_keep hR hRR (fun b hb => hS b ?_) h) h2, ?_⟩
    · cases own
      · rw [h3.2]; exact hT b hb
      · rw [h3.2]; exact List.mem_append_right _ (hT b hb)
    · cases own
      · exact ⟨roRow_keep h3.1 hR hRR, h3.2⟩
      · exact ⟨ownsRow_keep h3.1 (fun b hb => hS b (by rw [h3.2]; exact List.mem_append_left _ hb)), h3.2⟩
  | .map own, l, cs, S, hS, h => by
    rcases h with h | ⟨g, h1, ⟨es, clock, h2, h3⟩, h4⟩
    · exact .inl h
    · refine .inr ⟨g, h1, ⟨es, clock, ?_, h3⟩, ?_⟩
      · cases own
        · rw [hR g h4.2]; exact h2
        · have h4' : S = [g] := h4
          rw [hS g (by rw [h4']; simp)]; exact h2
      · cases own
        · exact ⟨h4.1, hRR _ h4.2⟩
        · exact h4

theorem ownBlock_lt {e : TypeId} {sz n : Nat} {v : Value} {xs : List Value} (h : w.ownsRow 0 e sz v n xs) : ∀ b ∈ v.ownBlock.toList, b < w.heap.size := by
  intro b hb
  exact (h.lt b (by simpa using hb)).2

theorem elemsR_all {α : Type} {Q : α → List Value → List Nat → Prop} {p : Nat → Prop} (hp : ∀ x c S, Q x c S → ∀ b ∈ S, p b) : ∀ {xs : List α} {cs : List Value} {S : List Nat}, elemsR Q xs cs S → ∀ b ∈ S, p b
  | [], _, _, h, b, hb => by rw [h.2] at hb; simp at hb
  | x :: xs, _, _, ⟨c1, c2, S1, S2, _, h2, h3, h4⟩, b, hb => by
    subst h2
    rcases List.mem_append.1 hb with h | h
    · exact hp _ _ _ h3 b h
    · exact elemsR_all hp h4 b h

/-- What is owned is there. -/
theorem rep_lt : ∀ {t : Ty} {x : t.den} {cs : List Value} {S : List Nat}, rep w R t x cs S → ∀ b ∈ S, b < w.heap.size
  | .int _, _, _, _, h, b, hb => by rw [h.2] at hb; simp at hb
  | .bool, _, _, _, h, b, hb => by rw [h.2] at hb; simp at hb
  | .str, _, _, _, h, b, hb => by rw [h.2] at hb; simp at hb
  | .pair a b', x, cs, S, ⟨c1, c2, S1, S2, _, h2, h3, h4⟩, b, hb => by
    subst h2
    rcases List.mem_append.1 hb with h | h
    · exact rep_lt h3 b h
    · exact rep_lt h4 b h
  | .row own e t, xs, cs, S, ⟨v, flat, Se, _, h2, h3⟩, b, hb => by
    have hall := elemsR_all (p := fun b => b < w.heap.size) (fun x c T h => rep_lt h) h2
    cases own
    · rw [h3.2] at hb; exact hall b hb
    · rw [h3.2] at hb
      rcases List.mem_append.1 hb with h | h
      · exact ownBlock_lt h3.1 b h
      · exact hall b h
  | .map own, l, cs, S, h, b, hb => by
    rcases h with ⟨_, _, h⟩ | ⟨g, h1, ⟨es, clock, h2, _⟩, h4⟩
    · rw [h] at hb; simp at hb
    · cases own
      · rw [h4.1] at hb; simp at hb
      · have h4' : S = [g] := h4
        rw [h4', List.mem_singleton] at hb
        subst hb
        exact (Array.getElem?_eq_some_iff.1 h2).1

/-- An owned row, read. -/
theorem roRow_of_own {e : TypeId} {sz n : Nat} {v : Value} {flat : List Value} (h : w.ownsRow 0 e sz v n flat) (hR : ∀ b ∈ v.ownBlock.toList, R b) : roRow w R v n flat := by
  rcases h.2 with ⟨rfl, rfl⟩ | ⟨g, cap, cur, rfl, _, _, hnc, _⟩
  · exact ⟨none, 0, rfl, fun h => absurd h (by omega)⟩
  · exact ⟨some ⟨g, 0, none⟩, cap, rfl, fun _ => ⟨_, rfl, ⟨hR g (by simp [Value.ownBlock]), hnc⟩, h.cells (g := g) rfl⟩⟩

theorem toRo_pair (a b : Ty) (x : (Ty.pair a b).den) : Ty.toRo (.pair a b) x = (Ty.toRo a x.1, Ty.toRo b x.2) := by
  have key : ∀ (A B A' B' : Type) (h1 : A = A') (h2 : B = B') (h : (A × B) = (A' × B')) (x : A × B), cast h x = (cast h1 x.1, cast h2 x.2) := by
    intro A B A' B' h1 h2 h x
    subst h1; subst h2; rfl
  exact key _ _ _ _ _ _ _ x

theorem toRo_row (own : Bool) (e : TypeId) (t : Ty) (xs : (Ty.row own e t).den) : Ty.toRo (.row own e t) xs = List.map (Ty.toRo t) xs := by
  have key : ∀ (A A' : Type) (h1 : A = A') (h : List A = List A') (x : List A), cast h x = List.map (cast h1) x := by
    intro A A' h1 h x
    subst h1
    exact (List.map_id _).symm
  exact key _ _ _ _ xs

theorem toRo_length (own : Bool) (e : TypeId) (t : Ty) (xs : (Ty.row own e t).den) : List.length (α := t.ro.den) (Ty.toRo (.row own e t) xs) = List.length (α := t.den) xs := by
  rw [toRo_row]; exact List.length_map _

theorem elemsR_map' {α β : Type} {Q : α → List Value → List Nat → Prop} {Q' : β → List Value → List Nat → Prop} {f : α → β} : ∀ {xs : List α} {cs : List Value} {S : List Nat}, (∀ x c T, (∀ b ∈ T, b ∈ S) → Q x c T → Q' (f x) c []) → elemsR Q xs cs S → elemsR Q' (xs.map f) cs []
  | [], _, _, _, h => ⟨h.1, rfl⟩
  | x :: xs, _, _, hf, ⟨c1, c2, S1, S2, h1, h2, h3, h4⟩ => by
    subst h2
    exact ⟨c1, c2, [], [], h1, rfl, hf _ _ _ (fun b hb => List.mem_append_left _ hb) h3, elemsR_map' (fun x c T hT => hf x c T (fun b hb => List.mem_append_right _ (hT b hb))) h4⟩

/-- What is owned can be read, if its blocks are counted to R. -/
theorem rep_ro (hRR : ∀ b, R b → R' b) : ∀ {t : Ty} {x : t.den} {cs : List Value} {S : List Nat}, (∀ b ∈ S, R' b) → rep w R t x cs S → rep w R' t.ro (t.toRo x) cs []
  | .int _, _, _, _, _, h => ⟨h.1, rfl⟩
  | .bool, _, _, _, _, h => ⟨h.1, rfl⟩
  | .str, _, _, _, _, h => ⟨h.1, rfl⟩
  | .pair a b, x, cs, S, hS, ⟨c1, c2, S1, S2, h1, h2, h3, h4⟩ => by
    subst h2
    rw [toRo_pair]
    exact ⟨c1, c2, [], [], h1, rfl, rep_ro hRR (fun b hb => hS b (List.mem_append_left _ hb)) h3, rep_ro hRR (fun b hb => hS b (List.mem_append_right _ hb)) h4⟩
  | .row own e t, xs, cs, S, hS, ⟨v, flat, Se, h1, h2, h3⟩ => by
    refine ⟨v, flat, [], h1, ?_, ?_, rfl⟩
    · rw [toRo_row]
      refine elemsR_map' (fun x c T hT h => rep_ro hRR (fun b hb => hS b ?_) h) h2
      cases own
      · rw [h3.2]; exact hT b hb
      · rw [h3.2]; exact List.mem_append_right _ (hT b hb)
    · rw [toRo_length]
      cases own
      · exact roRow_keep h3.1 (fun _ _ => rfl) hRR
      · exact roRow_of_own h3.1 (fun b hb => hS b (by rw [h3.2]; exact List.mem_append_left _ hb))
  | .map own, l, cs, S, hS, h => by
    rcases h with ⟨h1, h2, _⟩ | ⟨g, h1, h2, h4⟩
    · exact .inl ⟨h1, h2, rfl⟩
    · refine .inr ⟨g, h1, h2, rfl, ?_⟩
      cases own
      · exact hRR _ h4.2
      · have h4' : S = [g] := h4
        exact hS g (by rw [h4']; simp)

/-- A part of a datum that lies in memory; another one put in its place. -/
theorem focus : ∀ {t : Ty} {x : t.den} {cs : List Value} {T : List Nat} {j : Nat} {u : Ty} {y0 : u.den}, subDen t x j u = some y0 → rep w R t x cs T →
    ∃ c1 cu c2 A B C, cs = c1 ++ (cu ++ c2) ∧ c1.length = j ∧ T = A ++ (B ++ C) ∧ rep w R u y0 cu B ∧
      ∀ (w' : World) (R' : Nat → Prop) (y : u.den) (cu' : List Value) (B' : List Nat), (∀ b ∈ A ++ C, w'.heap[b]? = w.heap[b]?) → (∀ b, R b → w'.heap[b]? = w.heap[b]?) → (∀ b, R b → R' b) → rep w' R' u y cu' B' →
        rep w' R' t (setDen t x j u y) (c1 ++ (cu' ++ c2)) (A ++ (B' ++ C))
  | t, x, cs, T, 0, u, y0, h, hr => by
    unfold subDen at h
    split at h
    · rename_i htu
      subst htu
      simp only [Option.some.injEq] at h
      subst h
      refine ⟨[], cs, [], [], T, [], by simp, rfl, by simp, hr, fun w' R' y cu' B' _ _ _ hy => ?_⟩
      have e : setDen t x 0 t y = y := by unfold setDen; rw [dif_pos rfl]
      rw [e]
      simpa using hy
    · rename_i htu
      split at h
      · rename_i a b x' htu'
        obtain ⟨d1, d2, S1, S2, rfl, rfl, h3, h4⟩ := hr
        obtain ⟨c1, cu, c2, A, B, C, rfl, h5, rfl, h6, h7⟩ := focus h h3
        refine ⟨c1, cu, c2 ++ d2, A, B, C ++ S2, by simp, h5, by simp, h6, fun w' R' y cu' B' hA hR hRR hy => ?_⟩
        have e : setDen (.pair a b) x' 0 u y = (setDen a x'.1 0 u y, x'.2) := by
          rw [setDen]; rw [dif_neg (fun e => htu' e.symm)]
        rw [e]
        refine ⟨c1 ++ (cu' ++ c2), d2, A ++ (B' ++ C), S2, by simp, by simp, h7 w' R' y cu' B' (fun b hb => hA b ?_) hR hRR hy, rep_keep hR hRR (fun b hb => hA b (by simp [hb])) h4⟩
        rcases List.mem_append.1 hb with hb | hb
        · exact List.mem_append_left _ hb
        · simp [hb]
      · cases h
  | .pair a b, x, cs, T, j + 1, u, y0, h, hr => by
    obtain ⟨d1, d2, S1, S2, rfl, rfl, h3, h4⟩ := hr
    have hl1 := rep_len h3
    unfold subDen at h
    split at h
    · rename_i hj
      obtain ⟨c1, cu, c2, A, B, C, rfl, h5, rfl, h6, h7⟩ := focus h h3
      refine ⟨c1, cu, c2 ++ d2, A, B, C ++ S2, by simp, h5, by simp, h6, fun w' R' y cu' B' hA hR hRR hy => ?_⟩
      have e : setDen (.pair a b) x (j + 1) u y = (setDen a x.1 (j + 1) u y, x.2) := by
        rw [setDen]; rw [if_pos hj]
      rw [e]
      refine ⟨c1 ++ (cu' ++ c2), d2, A ++ (B' ++ C), S2, by simp, by simp, h7 w' R' y cu' B' (fun b hb => hA b ?_) hR hRR hy, rep_keep hR hRR (fun b hb => hA b (by simp [hb])) h4⟩
      rcases List.mem_append.1 hb with hb | hb
      · exact List.mem_append_left _ hb
      · simp [hb]
    · rename_i hj
      obtain ⟨c1, cu, c2, A, B, C, rfl, h5, rfl, h6, h7⟩ := focus h h4
      refine ⟨d1 ++ c1, cu, c2, S1 ++ A, B, C, by simp, by rw [List.length_append]; omega, by simp, h6, fun w' R' y cu' B' hA hR hRR hy => ?_⟩
      have e : setDen (.pair a b) x (j + 1) u y = (x.1, setDen b x.2 (j + 1 - a.size) u y) := by
        rw [setDen]; rw [if_neg hj]
      rw [e]
      refine ⟨d1, c1 ++ (cu' ++ c2), S1, A ++ (B' ++ C), by simp, by simp, rep_keep hR hRR (fun b hb => hA b (by simp [hb])) h3, h7 w' R' y cu' B' (fun b hb => hA b ?_) hR hRR hy⟩
      rcases List.mem_append.1 hb with hb | hb
      · simp [hb]
      · simp [hb]
  | .int _, _, _, _, _ + 1, _, _, h, _ => by simp [subDen] at h
  | .bool, _, _, _, _ + 1, _, _, h, _ => by simp [subDen] at h
  | .str, _, _, _, _ + 1, _, _, h, _ => by simp [subDen] at h
  | .map _, _, _, _, _ + 1, _, _, h, _ => by simp [subDen] at h
  | .row _ _ _, _, _, _, _ + 1, _, _, h, _ => by simp [subDen] at h

end Go.Eng
