/- The engine, part 12: contracts of functions, and what a call does to an abstract state. Conditions: none. -/
import Derived.Test.YtjkaapoklbhokaaDoorEng11
set_option linter.all false
namespace Go.Eng
open Go.RowKit

/-- Several data; none: Unit; one: itself. -/
@[reducible] def HL : List Ty → Type
  | [] => Unit
  | [t] => t.den
  | t :: u :: ts => t.den × HL (u :: ts)

def hcons : (t : Ty) → (ts : List Ty) → t.den → HL ts → HL (t :: ts)
  | _, [], x, _ => x
  | _, _ :: _, x, r => (x, r)
def hhead : (t : Ty) → (ts : List Ty) → HL (t :: ts) → t.den
  | _, [], x => x
  | _, _ :: _, x => x.1
def htail : (t : Ty) → (ts : List Ty) → HL (t :: ts) → HL ts
  | _, [], _ => ()
  | _, _ :: _, x => x.2

@[simp] theorem hhead_hcons : ∀ (t : Ty) (ts : List Ty) (x : t.den) (r : HL ts), hhead t ts (hcons t ts x r) = x
  | _, [], _, _ => rfl
  | _, _ :: _, _, _ => rfl
@[simp] theorem htail_hcons : ∀ (t : Ty) (ts : List Ty) (x : t.den) (r : HL ts), htail t ts (hcons t ts x r) = r
  | _, [], _, () => rfl
  | _, _ :: _, _, _ => rfl

/-- A result: a value; or a pointer to a variable of its own. -/
inductive RK where
  | val (agg : Bool)
  | box (T : TypeId)

/-- How a parameter is handed over: by value; by value, its own rows rewritten in place; a pointer that is read; a pointer to a variable that is rewritten; one fixed function. -/
inductive Par where
  | val (agg : Bool) (t : Ty)
  | mut (agg : Bool) (t : Ty)
  | ref (t : Ty)
  | refm (t : Ty) (T : TypeId) (off : Nat)
  | fn (f : FuncId)

@[reducible] def argTys : List Par → List Ty
  | [] => []
  | .val _ t :: ps => t :: argTys ps
  | .mut _ t :: ps => t :: argTys ps
  | .ref t :: ps => t :: argTys ps
  | .refm t _ _ :: ps => t :: argTys ps
  | .fn _ :: ps => argTys ps

@[reducible] def outTys : List Par → List Ty
  | [] => []
  | .val _ _ :: ps => outTys ps
  | .mut _ t :: ps => t :: outTys ps
  | .ref _ :: ps => outTys ps
  | .refm t _ _ :: ps => t :: outTys ps
  | .fn _ :: ps => outTys ps

@[reducible] def resTys : List (RK × Ty) → List Ty → List Ty
  | [], tl => tl
  | (_, t) :: rs, tl => t :: resTys rs tl

structure Con where
  ps : List Par
  rs : List (RK × Ty)
  F : HL (argTys ps) → Option (HL (resTys rs (outTys ps)))

/-- A value, read. -/
def valRep (w : World) (R : Nat → Prop) (agg : Bool) (t : Ty) (x : t.den) (v : Value) (T : List Nat) : Prop :=
  ∃ cs, rep w R t x cs T ∧ match agg with
    | true => v = .agg (List.toArray cs)
    | false => cs = [v]

def refRep (w : World) (R : Nat → Prop) (t : Ty) (x : t.den) (v : Value) : Prop :=
  ∃ ad cs, v = .pointer (some ad) ∧ rep w R t x cs [] ∧ R ad.block ∧ ∀ (j : Nat) (u : Value), cs[j]? = some u → w.cell? (ad.add j) = some u

def varRep (w : World) (R : Nat → Prop) (t : Ty) (T : TypeId) (off : Nat) (x : t.den) (v : Value) (S : List Nat) : Prop :=
  ∃ g cs S1, v = .pointer (some ⟨g, off, none⟩) ∧ S = g :: S1 ∧ w.heap[g]? = some (.cells (List.toArray cs) T (0, 0)) ∧ rep w R t x cs S1

def resVal (w : World) (R : Nat → Prop) (k : RK) (t : Ty) (x : t.den) (v : Value) (S : List Nat) : Prop :=
  match k with
  | .val agg => valRep w R agg t x v S
  | .box T => varRep w R t T 0 x v S

def argsRep (w : World) (R : Nat → Prop) : (ps : List Par) → HL (argTys ps) → List Value → List Nat → Prop
  | [], _, vs, S => vs = [] ∧ S = []
  | .val agg t :: ps, x, vs, S => ∃ v vs' S1 S2, vs = v :: vs' ∧ S = S1 ++ S2 ∧ valRep w R agg t (hhead t _ x) v S1 ∧ argsRep w R ps (htail t _ x) vs' S2
  | .mut agg t :: ps, x, vs, S => ∃ v vs' S1 S2, vs = v :: vs' ∧ S = S1 ++ S2 ∧ valRep w R agg t (hhead t _ x) v S1 ∧ argsRep w R ps (htail t _ x) vs' S2
  | .ref t :: ps, x, vs, S => ∃ v vs', vs = v :: vs' ∧ refRep w R t (hhead t _ x) v ∧ argsRep w R ps (htail t _ x) vs' S
  | .refm t T off :: ps, x, vs, S => ∃ v vs' S1 S2, vs = v :: vs' ∧ S = S1 ++ S2 ∧ varRep w R t T off (hhead t _ x) v S1 ∧ argsRep w R ps (htail t _ x) vs' S2
  | .fn f :: ps, x, vs, S => ∃ vs', vs = .func (.func f) #[] #[] :: vs' ∧ argsRep w R ps x vs' S

def outsRep (w : World) (R : Nat → Prop) : (ps : List Par) → HL (outTys ps) → List Value → List Nat → Prop
  | [], _, _, S => S = []
  | .val _ _ :: ps, y, vs, S => ∃ v vs', vs = v :: vs' ∧ outsRep w R ps y vs' S
  | .mut agg t :: ps, y, vs, S => ∃ v vs' S1 S2, vs = v :: vs' ∧ S = S1 ++ S2 ∧ valRep w R agg t (hhead t _ y) v S1 ∧ outsRep w R ps (htail t _ y) vs' S2
  | .ref _ :: ps, y, vs, S => ∃ v vs', vs = v :: vs' ∧ outsRep w R ps y vs' S
  | .refm t T off :: ps, y, vs, S => ∃ v vs' S1 S2, vs = v :: vs' ∧ S = S1 ++ S2 ∧ varRep w R t T off (hhead t _ y) v S1 ∧ outsRep w R ps (htail t _ y) vs' S2
  | .fn _ :: ps, y, vs, S => ∃ v vs', vs = v :: vs' ∧ outsRep w R ps y vs' S

/-- The results' values, one by one. -/
def resRep (w : World) (R : Nat → Prop) : (rs : List (RK × Ty)) → (tl : List Ty) → HL (resTys rs tl) → List Value → List Nat → Prop
  | [], _, _, vs, S => vs = [] ∧ S = []
  | (b, t) :: rs, tl, y, vs, S => ∃ v vs' S1 S2, vs = v :: vs' ∧ S = S1 ++ S2 ∧ resVal w R b t (hhead t _ y) v S1 ∧ resRep w R rs tl (htail t _ y) vs' S2

def resRest : (rs : List (RK × Ty)) → (tl : List Ty) → HL (resTys rs tl) → HL tl
  | [], _, y => y
  | (_, t) :: rs, tl, y => resRest rs tl (htail t _ y)

/-- One result is the value itself, else a tuple. -/
def pack (vs : List Value) : Value :=
  match vs with
  | [v] => v
  | vs => .tuple vs.toArray

/-- What the function f does, whatever the world. -/
structure Meets (P : Program) (f : FuncId) (c : Con) : Prop where
  enters : (P.funcs[f]?).map (fun fn => (fn.name == "runtime.NumGoroutine", fn.body.isNone)) = some (false, false)
  calls : ∀ (x : HL (argTys c.ps)) r, c.F x = some r → ∀ (w : World) (R : Nat → Prop) (S : List Nat) (vs : List Value), argsRep w R c.ps x vs S → S.Nodup → (∀ b ∈ S, ¬ R b) → (∀ b, R b → b < w.heap.size) → Glob w R →
    Calls P f vs.toArray w fun e w' => ∃ (us : List Value) (R' : Nat → Prop) (S1 S2 : List Nat), e = .returned (pack us) ∧ resRep w' R' c.rs (outTys c.ps) r us S1 ∧ outsRep w' R' c.ps (resRest c.rs _ r) vs S2 ∧
      (S1 ++ S2).Nodup ∧ (∀ b ∈ S1 ++ S2, (b ∈ S ∨ w.heap.size ≤ b) ∧ ¬ R' b) ∧ Keeps (· ∈ S) w w' ∧ (∀ b, R b → R' b) ∧ (∀ b, R' b → (R b ∨ b ∈ S ∨ w.heap.size ≤ b) ∧ b < w'.heap.size)

/-- A part of an element, lent. -/
def elDen (t' : Ty) (x : t'.den) (j : Nat) (t : Ty) : Option t.den :=
  if t'.ro = t' then subDen t' x j t else subDen t'.ro (t'.toRo x) j t

def Ty.allOwn : Ty → Bool
  | .pair a b => a.allOwn && b.allOwn
  | .row own _ t => own && t.allOwn
  | .map _ => false
  | _ => true

/-- The data that a call is handed, the blocks that it takes over, the blocks that it reads. -/
def argsA (bk : Nat → Blk) : (ps : List Par) → List AV → Option (HL (argTys ps) × List Nat × List Nat)
  | [], [] => some ((), [], [])
  | .val agg t :: ps, .comp b cs :: avs => if b = agg ∧ cs.length = t.size ∧ (b = true ∨ cs.all At.known = true) then match reify bk t cs with
    | some (x, own, ro) => match argsA bk ps avs with
      | some (xs, own', ro') => some (hcons t _ x xs, own ++ own', ro ++ ro')
      | none => none
    | none => none
    else none
  | .mut agg t :: ps, .comp b cs :: avs => if b = agg ∧ cs.length = t.size ∧ (b = true ∨ cs.all At.known = true) ∧ t.allOwn = true then match reify bk t cs with
    | some (x, own, ro) => match argsA bk ps avs with
      | some (xs, own', ro') => some (hcons t _ x xs, own ++ own', ro ++ ro')
      | none => none
    | none => none
    else none
  | .ref t :: ps, .comp false [.ptr id off] :: avs => match bk id with
    | .cells cs _ => if off + t.size ≤ cs.length then match reify bk t ((cs.drop off).take t.size) with
      | some (x, [], ro) => match argsA bk ps avs with
        | some (xs, own', ro') => some (hcons t _ x xs, own', id :: ro ++ ro')
        | none => none
      | _ => none
      else none
    | _ => none
  | .ref t :: ps, .comp false [.eptr id i sz j] :: avs => match bk id with
    | .row _ _ t' xs' => if sz = t'.size then match elDen t' (xget (α := t'.den) xs' i t'.dflt) j t with
      | some x => match argsA bk ps avs with
        | some (xs, own', ro') => some (hcons t _ x xs, own', id :: ro')
        | none => none
      | none => none
      else none
    | _ => none
  | .refm t T off :: ps, .comp false [.ptr id o] :: avs => match bk id with
    | .cells cs T0 => if T0 = T ∧ o = off then match reify bk t cs with
      | some (x, own, ro) => match argsA bk ps avs with
        | some (xs, own', ro') => some (hcons t _ x xs, id :: own ++ own', ro ++ ro')
        | none => none
      | none => none
      else none
    | _ => none
  | .fn f :: ps, .comp false [.fn g] :: avs => if f = g then argsA bk ps avs else none
  | _, _ => none

def injRs : (rs : List (RK × Ty)) → (tl : List Ty) → HL (resTys rs tl) → Nat → List Comp × List (Nat × Blk) × Nat
  | [], _, _, n => ([], [], n)
  | (.box T, t) :: rs, tl, r, n => ((false, [.ptr n 0]) :: (injRs rs tl (htail t _ r) (inject t (hhead t _ r) (n + 1)).2.2).1,
    (n, .cells (inject t (hhead t _ r) (n + 1)).1 T) :: (inject t (hhead t _ r) (n + 1)).2.1 ++ (injRs rs tl (htail t _ r) (inject t (hhead t _ r) (n + 1)).2.2).2.1, (injRs rs tl (htail t _ r) (inject t (hhead t _ r) (n + 1)).2.2).2.2)
  | (.val b, t) :: rs, tl, r, n => ((b, (inject t (hhead t _ r) n).1) :: (injRs rs tl (htail t _ r) (inject t (hhead t _ r) n).2.2).1,
    (inject t (hhead t _ r) n).2.1 ++ (injRs rs tl (htail t _ r) (inject t (hhead t _ r) n).2.2).2.1, (injRs rs tl (htail t _ r) (inject t (hhead t _ r) n).2.2).2.2)

/-- Rows that have been rewritten in place. -/
def putBack : (t : Ty) → List At → t.den → List (Nat × Blk)
  | .pair a b, cs, y => putBack a (cs.take a.size) y.1 ++ putBack b (cs.drop a.size) y.2
  | .row true e t, cs, y => match cs with
    | [.sl id] => [(id, .row true e t y)]
    | _ => []
  | _, _, _ => []

def injOuts : (ps : List Par) → HL (outTys ps) → List AV → Nat → List (Nat × Blk) × List Nat × Nat
  | [], _, _, n => ([], [], n)
  | .val _ _ :: ps, y, avs, n => injOuts ps y avs.tail n
  | .ref _ :: ps, y, avs, n => injOuts ps y avs.tail n
  | .fn _ :: ps, y, avs, n => injOuts ps y avs.tail n
  | .mut _ t :: ps, y, avs, n => match avs with
    | .comp _ cs :: _ => (putBack t cs (hhead t _ y) ++ (injOuts ps (htail t _ y) avs.tail n).1, (injOuts ps (htail t _ y) avs.tail n).2.1, (injOuts ps (htail t _ y) avs.tail n).2.2)
    | _ => ([], [], n)
  | .refm t T _ :: ps, y, avs, n => match avs with
    | .comp false [.ptr id _] :: _ => ((id, .cells (inject t (hhead t _ y) n).1 T) :: (inject t (hhead t _ y) n).2.1 ++ (injOuts ps (htail t _ y) avs.tail (inject t (hhead t _ y) n).2.2).1,
        (inject t (hhead t _ y) n).2.1.map (·.1) ++ (injOuts ps (htail t _ y) avs.tail (inject t (hhead t _ y) n).2.2).2.1, (injOuts ps (htail t _ y) avs.tail (inject t (hhead t _ y) n).2.2).2.2)
    | _ => ([], [], n)

def allOwnB (rs : List (RK × Ty)) (ps : List Par) : Bool := rs.all (fun p => p.2.allOwn) && (outTys ps).all Ty.allOwn

def packA : List Comp → AV
  | [(b, cs)] => .comp b cs
  | l => .tup l

def callUpd (c : Con) (nx : Nat) (avs : List AV) (taken : List Nat) (r : HL (resTys c.rs (outTys c.ps))) : List (Nat × Blk) :=
  (injOuts c.ps (resRest c.rs _ r) avs (injRs c.rs _ r nx).2.2).1 ++ (injRs c.rs _ r nx).2.1 ++
    deads (taken.filter fun i => !((injOuts c.ps (resRest c.rs _ r) avs (injRs c.rs _ r nx).2.2).1.map (·.1)).contains i)

/-- A row that was taken out of an element of another row is put back there. -/
def joinAt (bk : Nat → Blk) (upd : List (Nat × Blk)) (i : Nat) : Option (List (Nat × Blk)) :=
  match bk i with
  | .hole e t xs ix j u c => if (upd.map (·.1)).contains i then none else if (upd.map (·.1)).contains c then match reify (updBk upd bk) u [.sl c] with
      | some (y, [c'], []) => if c' = c then some [(i, .row true e t (xset (α := t.den) xs ix (setDen t (xget (α := t.den) xs ix t.dflt) j u y))), (c, .dead)] else none
      | _ => none
    else none
  | _ => none

def joinU (bk : Nat → Blk) : Nat → List (Nat × Blk) → List (Nat × Blk)
  | 0, upd => upd
  | n + 1, upd => match joinAt bk upd n with
    | some l => l ++ upd
    | none => joinU bk n upd

def Par.mutRow : Par → Bool
  | .mut false _ => true
  | _ => false

def joinC (c : Con) (bk : Nat → Blk) (nx : Nat) (upd : List (Nat × Blk)) : List (Nat × Blk) :=
  match c.ps.any Par.mutRow with
  | true => joinU bk nx upd
  | false => upd

def callK {X : Type} (c : Con) (nx : Nat) (bk : Nat → Blk) (avs : List AV) (k : Eff → Option X) : Option X :=
  match argsA bk c.ps avs with
  | some (x, taken, ro) => if nodupB taken = true ∧ ro.all (fun i => !taken.contains i) = true ∧ (allOwnB c.rs c.ps || ro.all fun i => safeRo (bk i)) = true then
      (c.F x).bind fun r => k ⟨packA (injRs c.rs _ r nx).1, joinC c bk nx (callUpd c nx avs taken r)⟩
    else none
  | none => none

/-- The first contract that fits what is handed over. -/
def callL {X : Type} : List Con → Nat → (Nat → Blk) → List AV → (Eff → Option X) → Option X
  | [], _, _, _, _ => none
  | c :: cs, nx, bk, avs, k => match argsA bk c.ps avs with
    | some _ => callK c nx bk avs k
    | none => callL cs nx bk avs k

end Go.Eng
