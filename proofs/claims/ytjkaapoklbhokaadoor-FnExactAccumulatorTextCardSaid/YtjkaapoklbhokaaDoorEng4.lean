/- The engine, part 4: what each operation does to an abstract state (no calls of functions yet). Definitions alone. -/
import Derived.Test.YtjkaapoklbhokaaDoorEng3
set_option linter.all false
namespace Go.Eng
open Go.RowKit

inductive SD where
  | struct (l : List (Nat × Nat))
  | slice (e : TypeId)
  | int (k : IntKind)
  | bool
  | string
  | pointer (e : TypeId)
  | array (n : Nat) (e : TypeId)
  | map (k e : TypeId)
  | other

def shapeD (P : Program) : TypeDesc → SD
  | .struct fs => .struct (fs.toList.map fun f => (f.offset, P.cellsOf f.type))
  | .slice e => .slice e
  | .int k => .int k
  | .bool => .bool
  | .string => .string
  | .pointer e => .pointer e
  | .array n e => .array n e
  | .map k e => .map k e
  | _ => .other

/-- What the engine knows of a type: the data, the type's shape, the bytes of a value. -/
structure TI where
  ty : Ty
  sd : SD
  bytes : Nat

def SD.agg : SD → Bool
  | .struct _ => true
  | .array .. => true
  | _ => false

def zeroCs : Ty → List Value
  | .int k => [.int k 0]
  | .bool => [.bool false]
  | .str => [.string ByteArray.empty]
  | .pair a b => zeroCs a ++ zeroCs b
  | .row .. => [.slice none 0 0]
  | .map _ => [.map none]

structure TIok (P : Program) (T : TypeId) (i : TI) : Prop where
  info : (P.info? T).map (fun j => (j.size, j.bytes)) = some (i.ty.size, i.bytes)
  zero : ((P.info? T).bind (·.zero)).map Value.cells = some (zeroCs i.ty).toArray
  desc : (P.underlying T).map (shapeD P) = some i.sd
  one : i.sd.agg = false → i.ty.size = 1
  zint : match i.sd with
    | .int k => (P.info? T).bind (·.zero) = some (.int k 0)
    | _ => True

def TIs (P : Program) (ti : Nat → Option TI) : Prop := ∀ T i, ti T = some i → TIok P T i

/- What is reckoned with data, under names of its own. -/
abbrev iadd (k : IntKind) (a b : Int) : Int := k.wrap (a + b)
abbrev isub (k : IntKind) (a b : Int) : Int := k.wrap (a - b)
abbrev imul (k : IntKind) (a b : Int) : Int := k.wrap (a * b)
abbrev iquo (k : IntKind) (a b : Int) : Int := k.wrap (a.tdiv b)
abbrev irem (a b : Int) : Int := a.tmod b
abbrev ishr (a b : Int) : Int := a / 2 ^ b.toNat
abbrev ishl (k : IntKind) (a b : Int) : Int := k.wrap (a * 2 ^ b.toNat)
abbrev ibit (op : BinOp) (k : IntKind) (a b : Int) : Int := bits op k a b
abbrev iwrap (k : IntKind) (a : Int) : Int := k.wrap a
abbrev imin (a b : Int) : Int := if b < a then b else a
abbrev imax (a b : Int) : Int := if b > a then b else a
abbrev ieq (a b : Int) : Bool := a == b
abbrev ine (a b : Int) : Bool := a != b
abbrev ilt (a b : Int) : Bool := decide (a < b)
abbrev ile (a b : Int) : Bool := decide (a ≤ b)
abbrev igt (a b : Int) : Bool := decide (a > b)
abbrev ige (a b : Int) : Bool := decide (a ≥ b)
abbrev bnot (a : Bool) : Bool := !a
abbrev beqv (a b : Bool) : Bool := a == b
abbrev bnev (a b : Bool) : Bool := a != b
abbrev seq (a b : ByteArray) : Bool := a.toList == b.toList
abbrev sne (a b : ByteArray) : Bool := !(a.toList == b.toList)
abbrev slt (a b : ByteArray) : Bool := Op.bytesLess a.toList b.toList
abbrev sle (a b : ByteArray) : Bool := Op.bytesLess a.toList b.toList || a.toList == b.toList
abbrev sgt (a b : ByteArray) : Bool := !(Op.bytesLess a.toList b.toList || a.toList == b.toList)
abbrev sge (a b : ByteArray) : Bool := !(Op.bytesLess a.toList b.toList)
abbrev sadd (a b : ByteArray) : ByteArray := a ++ b
abbrev ssub (a : ByteArray) (i j : Nat) : ByteArray := a.extract i j
abbrev slen (a : ByteArray) : Nat := a.size
abbrev i2n (a : Int) : Nat := a.toNat
abbrev n2i (a : Nat) : Int := (a : Int)
abbrev xlen {α : Type} (l : List α) : Nat := List.length l
abbrev xget {α : Type} (l : List α) (i : Nat) (d : α) : α := List.getD l i d
abbrev xset {α : Type} (l : List α) (i : Nat) (x : α) : List α := List.set l i x
abbrev xapp {α : Type} (l m : List α) : List α := l ++ m
abbrev xrep {α : Type} (n : Nat) (x : α) : List α := List.replicate n x
/-- a map's entries -/
abbrev mput (l : List (Int × Int)) (a b : Int) : List (Int × Int) := mputR l a b
abbrev mget (l : List (Int × Int)) (a : Int) : Int := mgetR l a
/-- a part of a row -/
abbrev xsub {α : Type} (l : List α) (i j : Nat) : List α := (l.take j).drop i
/-- the text of bytes -/
abbrev b2s (l : List Int) : ByteArray := l.foldl (fun r n => r.push (UInt8.ofNat n.toNat)) ByteArray.empty
abbrev band (a b : Bool) : Bool := a && b
/-- the bits of a shift fit -/
abbrev okShift (k : IntKind) (b : Int) : Bool := decide (0 ≤ b ∧ b ≤ k.bits)
abbrev okDiv (b : Int) : Bool := b != 0
abbrev okCat (a b : Nat) : Bool := decide (a + b ≤ 9223372036854775807)
/-- an index into n places -/
abbrev okIx (i : Int) (n : Nat) : Bool := decide (0 ≤ i ∧ i < (n : Nat))
/-- a bound of a slice -/
abbrev okTo (i : Int) (n : Nat) : Bool := decide (0 ≤ i ∧ i ≤ n)
/-- an append's room -/
abbrev okRoom (a b bytes : Nat) : Bool := decide ((a + b) * bytes ≤ 140737488355328)
/-- a make's room -/
abbrev okMake (m : Int) (bytes : Nat) : Bool := decide (0 ≤ m ∧ m ≤ 9223372036854775807 ∧ (bytes : Int) * m ≤ 281474976710656)

/-- A test that must hold. -/
def chk {X : Type} (c : Bool) (k : Option X) : Option X := cond c k none

/-- A datum that is named once. -/
def share {α X : Type} (x : α) (k : α → Option X) : Option X := k x

def one (a : At) : AV := .comp false [a]
def scI (k : IntKind) (n : Int) : AV := .comp false [.sc (.int k n)]
def scB (b : Bool) : AV := .comp false [.sc (.bool b)]
def scS (s : ByteArray) : AV := .comp false [.sc (.string s)]

def constAV : Value → AV
  | .agg cs => if cs.toList.all Value.oneCell' then .comp true (cs.toList.map .sc) else .unk
  | .tuple _ => .unk
  | v => .comp false [.sc v]

def evalA (sl : Nat → AV) : Operand → AV
  | .tmp t => sl t
  | .const v => constAV v
  | .func f => .comp false [.fn f]
  | .global _ => .unk

/-- The cells of a value. -/
def atoms : AV → Option (List At)
  | .comp true cs => some cs
  | .comp false [.unk] => none
  | .comp false [a] => some [a]
  | .comp false _ => none
  | .tup _ => none

def At.known : At → Bool
  | .unk => false
  | _ => true

/-- Nil slices become rows without elements. -/
def fixNil : Ty → List At → Nat → List At × List (Nat × Blk) × Nat
  | .pair a b, cs, n =>
    ((fixNil a (cs.take a.size) n).1 ++ (fixNil b (cs.drop a.size) (fixNil a (cs.take a.size) n).2.2).1,
     (fixNil a (cs.take a.size) n).2.1 ++ (fixNil b (cs.drop a.size) (fixNil a (cs.take a.size) n).2.2).2.1, (fixNil b (cs.drop a.size) (fixNil a (cs.take a.size) n).2.2).2.2)
  | .row own e t, cs, n => match cs with
    | [.sc (.slice none 0 0)] => ([.sl n], [(n, .row own e t [])], n + 1)
    | _ => (cs, [], n)
  | .int _, cs, n => (cs, [], n)
  | .bool, cs, n => (cs, [], n)
  | .str, cs, n => (cs, [], n)
  | .map _, cs, n => (cs, [], n)

def binK {X : Type} (sd : Option SD) (op : BinOp) (x y : AV) (k : AV → Option X) : Option X :=
  match x, y with
  | .comp false [.sc (.int kx a)], .comp false [.sc (.int ky b)] =>
    match op with
    | .shr => chk (okShift kx b) (k (scI kx (ishr a b)))
    | .shl => chk (okShift kx b) (k (scI kx (ishl kx a b)))
    | _ =>
      if kx = ky then
        match op with
        | .add => k (scI kx (iadd kx a b))
        | .sub => k (scI kx (isub kx a b))
        | .mul => k (scI kx (imul kx a b))
        | .quo => chk (okDiv b) (k (scI kx (iquo kx a b)))
        | .rem => chk (okDiv b) (k (scI kx (irem a b)))
        | .and => k (scI kx (ibit .and kx a b))
        | .or => k (scI kx (ibit .or kx a b))
        | .xor => k (scI kx (ibit .xor kx a b))
        | .eql => k (scB (ieq a b))
        | .neq => k (scB (ine a b))
        | .lss => k (scB (ilt a b))
        | .leq => k (scB (ile a b))
        | .gtr => k (scB (igt a b))
        | .geq => k (scB (ige a b))
        | _ => none
      else none
  | .comp false [.sc (.bool a)], .comp false [.sc (.bool b)] =>
    match sd with
    | some .bool => match op with
      | .eql => k (scB (beqv a b))
      | .neq => k (scB (bnev a b))
      | _ => none
    | _ => none
  | .comp false [.sc (.string a)], .comp false [.sc (.string b)] =>
    match op with
    | .eql => k (scB (seq a b))
    | .neq => k (scB (sne a b))
    | .lss => k (scB (slt a b))
    | .leq => k (scB (sle a b))
    | .gtr => k (scB (sgt a b))
    | .geq => k (scB (sge a b))
    | .add => chk (okCat (slen a) (slen b)) (k (scS (sadd a b)))
    | _ => none
  | _, _ => none

def unK {X : Type} (op : UnOp) (x : AV) (k : AV → Option X) : Option X :=
  match op, x with
  | .not, .comp false [.sc (.bool b)] => k (scB (bnot b))
  | .neg, .comp false [.sc (.int kx n)] => k (scI kx (isub kx 0 n))
  | _, _ => none

/-- The cell of a byte. -/
def byteAt (s : ByteArray) (i : Nat) : Int := ((s[i]?).getD 0).toNat

/-- The elements that are given one by one. -/
def reifyL (bk : Nat → Blk) (t : Ty) : List AV → Option (List t.den × List Nat)
  | [] => some ([], [])
  | v :: vs => match atoms v with
    | some cs => if cs.length = t.size then match reify bk t cs with
      | some (x, own, []) => match reifyL bk t vs with
        | some (xs, own') => some (x :: xs, own ++ own')
        | none => none
      | _ => none
      else none
    | none => none

/-- A row that nobody owns. -/
def safeRo : Blk → Bool
  | .row false _ t _ => decide (t.ro = t)
  | _ => false

/-- The same, read alone: their rows are lent. -/
def reifyR (bk : Nat → Blk) (t : Ty) : List AV → Option (List t.den)
  | [] => some []
  | v :: vs => match atoms v with
    | some cs => if cs.length = t.size then match reify bk t cs with
      | some (x, [], ro) => if ro.all (fun i => safeRo (bk i)) = true then match reifyR bk t vs with
        | some xs => some (x :: xs)
        | none => none
        else none
      | _ => none
      else none
    | none => none

/-- The pointers that a function literal has taken in. -/
def capsA : List AV → Option (List (Nat × Nat))
  | [] => some []
  | .comp false [.ptr id off] :: r => match capsA r with
    | some l => some ((id, off) :: l)
    | none => none
  | _ => none

def partsFrom (sl : Nat → AV) : List (Nat × Operand) → Nat → Option (List AV)
  | [], _ => some []
  | (i, x) :: r, n => if i = n then match partsFrom sl r (n + 1) with
    | some vs => some (evalA sl x :: vs)
    | none => none
    else none

/-- The parts of a struct, filled into cells. -/
def fillA (flds : List (Nat × Nat)) (sl : Nat → AV) : List (Nat × Operand) → List At → Option (List At)
  | [], cs => some cs
  | (i, x) :: r, cs => match flds[i]?, atoms (evalA sl x) with
    | some (off, size), some ats => if ats.length = size ∧ off + size ≤ cs.length then fillA flds sl r (cs.take off ++ ats ++ cs.drop (off + size)) else none
    | _, _ => none

def deads (l : List Nat) : List (Nat × Blk) := l.map fun i => (i, Blk.dead)

/-- The row that a slice's atom stands for, as the engine's own. -/
def asRow (bk : Nat → Blk) (e : TypeId) (t : Ty) : At → Option (List t.den × List Nat)
  | .sl id => if elemOf (bk id) = some e then match rowCast true t (bk id) with
    | some xs => some (xs, [id])
    | none => none
    else none
  | .sc (.slice none 0 0) => some ([], [])
  | _ => none

/-- The same, where its elements' rows are only read: a row without elements is such a row too. -/
def asRowR (bk : Nat → Blk) (e : TypeId) (t : Ty) (sa : At) : Option (List t.ro.den × List Nat) :=
  match asRow bk e t.ro sa with
  | some r => some r
  | none => match asRow bk e t sa with
    | some ([], own) => some ([], own)
    | _ => none

/-- The elements that append copies; rows with rows in them are taken over. -/
def asSrc (bk : Nat → Blk) (t : Ty) : At → Option (List t.den × List Nat)
  | .sl id => match bk id with
    | .row own _ t' ys => if h : t' = t then
        if t.ro = t then some (h ▸ ys, []) else match own with
          | true => some (h ▸ ys, [id])
          | false => none
      else none
    | _ => none
  | .sc (.slice none 0 0) => some ([], [])
  | _ => none

def lenA (bk : Nat → Blk) (sd : SD) (x : AV) : Option Int :=
  match sd, x with
  | .slice _, .comp false [.sl id] => match bk id with
    | .row _ _ t xs => some (n2i (xlen (α := t.den) xs))
    | _ => none
  | .slice _, .comp false [.sc (.slice none 0 0)] => some 0
  | .string, .comp false [.sc (.string s)] => some (n2i (slen s))
  | _, _ => none

/-- Nodup, reckoned. -/
def nodupB : List Nat → Bool
  | [] => true
  | x :: l => !l.contains x && nodupB l

/-- A part of a row: it is only read from now on, and so is the row. -/
def subUpd (nx id : Nat) (own : Bool) (e : TypeId) (t : Ty) (xs : List t.den) (i j : Nat) : List (Nat × Blk) :=
  match own with
  | false => [(nx, .row false e t (xsub (α := t.den) xs i j))]
  | true => [(id, .row false e t xs), (nx, .row false e t (xsub (α := t.den) xs i j))]

inductive SK where
  | int
  | bool
  | str
  deriving DecidableEq

/-- Two cells of one kind, compared. -/
def eqAt : SK → At → At → Option Bool
  | .int, .sc (.int k a), .sc (.int k' b) => if k = k' then some (ieq a b) else none
  | .bool, .sc (.bool a), .sc (.bool b) => some (beqv a b)
  | .str, .sc (.string a), .sc (.string b) => some (seq a b)
  | _, _, _ => none

/-- Cells, compared. -/
def eqCs : List SK → List At → List At → Option Bool
  | [], [], [] => some true
  | k :: ks, c :: cs, d :: ds => match eqAt k c d with
    | some q => match eqCs ks cs ds with
      | some r => some (band q r)
      | none => none
    | none => none
  | _, _, _ => none

/-- One operation: its effect is handed to k. -/
def aop {X : Type} (ti : Nat → Option TI) (nx : Nat) (sl : Nat → AV) (bk : Nat → Blk) (o : Oper) (k : Eff → Option X) : Option X :=
  match o.op with
  | .move x => k ⟨evalA sl x, []⟩
  | .assign x =>
    match evalA sl x, ti o.type with
    | .comp false [.sc (.slice none 0 0)], some ⟨.row own e t, _, _⟩ => k ⟨one (.sl nx), [(nx, .row own e t [])]⟩
    | v, _ => k ⟨v, []⟩
  | .pick c x y => match evalA sl c with
    | .comp false [.sc (.bool b)] => cond b (k ⟨evalA sl x, []⟩) (k ⟨evalA sl y, []⟩)
    | _ => none
  | .alloc T => match ti T with
    | some i => k ⟨one (.ptr nx 0), (nx, .cells (fixNil i.ty ((zeroCs i.ty).map .sc) (nx + 1)).1 T) :: (fixNil i.ty ((zeroCs i.ty).map .sc) (nx + 1)).2.1⟩
    | none => none
  | .box T x => match ti T, atoms (evalA sl x) with
    | some i, some cs => k ⟨one (.ptr nx 0), (nx, .cells (fixNil i.ty cs (nx + 1)).1 T) :: (fixNil i.ty cs (nx + 1)).2.1⟩
    | _, _ => none
  | .build T parts => match ti T with
    | some ⟨ty, .struct flds, _⟩ => if flds.all (fun p => p.2 != 0) = true then match fillA flds sl parts.toList ((zeroCs ty).map .sc) with
      | some cs => k ⟨.comp true cs, []⟩
      | none => none
      else none
    | some ⟨ty, .array m e, _⟩ => match ti e with
      | some i => match fillA ((List.range m).map fun q => (q * i.ty.size, i.ty.size)) sl parts.toList ((zeroCs ty).map .sc) with
        | some cs => k ⟨.comp true cs, []⟩
        | none => none
      | none => none
    | _ => none
  | .buildSlice T len parts => match ti T with
    | some ⟨_, .slice e, _⟩ => match ti e with
      | some i => if parts.toList.length = len ∧ len * i.ty.size ≤ 16777216 then match partsFrom sl parts.toList 0 with
        | some vs => match reifyL bk i.ty vs with
          | some (xs, own) => if nodupB own then k ⟨one (.sl nx), (nx, .row true e i.ty xs) :: deads own⟩ else none
          | none => match reifyR bk i.ty.ro vs with
            | some xs => k ⟨one (.sl nx), [(nx, .row true e i.ty.ro xs)]⟩
            | none => none
        | none => none
        else none
      | none => none
    | _ => none
  | .load T ad => match ti T, evalA sl ad with
    | some i, .comp false [.ptr id off] => match bk id with
      | .cells cs _ => if off + i.ty.size ≤ cs.length then k ⟨.comp i.sd.agg ((cs.drop off).take i.ty.size), []⟩ else none
      | _ => none
    | some i, .comp false [.eptr id ix sz j] => match bk id with
      | .row own e t xs => if t.ro = t ∧ sz = t.size ∧ j + i.ty.size ≤ t.size then
          k ⟨.comp i.sd.agg (((inject t (xget (α := t.den) xs ix t.dflt) nx).1.drop j).take i.ty.size), (inject t (xget (α := t.den) xs ix t.dflt) nx).2.1⟩
        else if own = true ∧ sz = t.size ∧ i.sd.agg = false then match i.ty with
          | .row true e' t' => match subDen t (xget (α := t.den) xs ix t.dflt) j (.row true e' t') with
            | some ys => k ⟨one (.sl nx), [(id, .hole e t xs ix j (.row true e' t') nx), (nx, .row true e' t' ys)]⟩
            | none => none
          | _ => none
        else none
      | _ => none
    | _, _ => none
  | .store T ad x => match ti T, evalA sl ad, atoms (evalA sl x) with
    | some i, .comp false [.ptr id off], some ats => match bk id with
      | .cells cs T0 => if ats.length = i.ty.size ∧ off + i.ty.size ≤ cs.length ∧ ats.all At.known = true then
          k ⟨.tup [], (id, .cells (cs.take off ++ (fixNil i.ty ats nx).1 ++ cs.drop (off + i.ty.size)) T0) :: (fixNil i.ty ats nx).2.1⟩
        else none
      | _ => none
    | some i, .comp false [.eptr id ix sz j], some ats => match bk id with
      | .row true e t xs => if ats.length = i.ty.size ∧ sz = t.size ∧ j + i.ty.size ≤ t.size ∧ ats.all At.known = true then
          if i.ty.size = t.size then
            match reify bk t ats with
            | some (x, own, []) => if nodupB (id :: own) then k ⟨.tup [], (id, .row true e t (xset (α := t.den) xs ix x)) :: deads own⟩ else none
            | _ => none
          else if (inject t (xget (α := t.den) xs ix t.dflt) nx).2.1.length = 0 ∧ t.size < 4 then
            match reify bk t ((inject t (xget (α := t.den) xs ix t.dflt) nx).1.take j ++ ats ++ (inject t (xget (α := t.den) xs ix t.dflt) nx).1.drop (j + i.ty.size)) with
            | some (x, [], []) => k ⟨.tup [], [(id, .row true e t (xset (α := t.den) xs ix x))]⟩
            | _ => none
          else match subDen t (xget (α := t.den) xs ix t.dflt) j i.ty, reify bk i.ty ats with
            | some _, some (y, own, []) => if nodupB (id :: own) then share (α := List t.den) xs fun ys => share (α := List t.den) (xset (α := t.den) ys ix (setDen t (xget (α := t.den) ys ix t.dflt) j i.ty y)) fun r => k ⟨.tup [], (id, .row true e t r) :: deads own⟩ else none
            | _, _ => none
        else none
      | _ => none
    | _, _, _ => none
  | .nilCheck x => match evalA sl x with
    | .comp false [.ptr id off] => k ⟨one (.ptr id off), []⟩
    | .comp false [.eptr id i sz j] => k ⟨one (.eptr id i sz j), []⟩
    | _ => none
  | .binOp op T x y _ => binK ((ti T).map TI.sd) op (evalA sl x) (evalA sl y) fun v => k ⟨v, []⟩
  | .unOp op _ x => unK op (evalA sl x) fun v => k ⟨v, []⟩
  | .convert src dst x => match ti src, ti dst, evalA sl x with
    | some _, some ⟨_, .int kd, _⟩, .comp false [.sc (.int _ m)] => k ⟨scI kd (iwrap kd m), []⟩
    | some ⟨_, .slice e, _⟩, some ⟨_, .string, _⟩, .comp false [.sl id] => match ti e, bk id with
      | some ⟨_, .int .u8, _⟩, .row _ _ (.int .u8) xs => k ⟨scS (b2s xs), []⟩
      | _, _ => none
    | _, _, _ => none
  | .slice T x lo hi none => match ti T, evalA sl x, lo.map (evalA sl), hi.map (evalA sl) with
    | some ⟨_, .string, _⟩, .comp false [.sc (.string s)], none, some (.comp false [.sc (.int _ h)]) =>
      chk (okTo h (slen s)) (k ⟨scS (ssub s 0 (i2n h)), []⟩)
    | some ⟨_, .string, _⟩, .comp false [.sc (.string s)], some (.comp false [.sc (.int _ l)]), none =>
      chk (okTo l (slen s)) (k ⟨scS (ssub s (i2n l) (slen s)), []⟩)
    | some ⟨_, .string, _⟩, .comp false [.sc (.string s)], some (.comp false [.sc (.int _ l)]), some (.comp false [.sc (.int _ h)]) =>
      chk (okTo h (slen s)) (chk (okTo l (i2n h)) (k ⟨scS (ssub s (i2n l) (i2n h)), []⟩))
    | some ⟨_, .slice e0, _⟩, .comp false [.sl id], none, some (.comp false [.sc (.int _ h)]) => match bk id, ti e0 with
      | .row own e t xs, some j => if t.ro = t ∧ j.ty.size = t.size then
          chk (okTo h (xlen (α := t.den) xs)) (k ⟨one (.sl nx), subUpd nx id own e t xs 0 (i2n h)⟩)
        else none
      | _, _ => none
    | some ⟨_, .slice e0, _⟩, .comp false [.sl id], some (.comp false [.sc (.int _ l)]), none => match bk id, ti e0 with
      | .row own e t xs, some j => if t.ro = t ∧ j.ty.size = t.size then
          chk (okTo l (xlen (α := t.den) xs)) (k ⟨one (.sl nx), subUpd nx id own e t xs (i2n l) (xlen (α := t.den) xs)⟩)
        else none
      | _, _ => none
    | some ⟨_, .slice e0, _⟩, .comp false [.sl id], some (.comp false [.sc (.int _ l)]), some (.comp false [.sc (.int _ h)]) => match bk id, ti e0 with
      | .row own e t xs, some j => if t.ro = t ∧ j.ty.size = t.size then
          chk (okTo h (xlen (α := t.den) xs)) (chk (okTo l (i2n h)) (k ⟨one (.sl nx), subUpd nx id own e t xs (i2n l) (i2n h)⟩))
        else none
      | _, _ => none
    | _, _, _, _ => none
  | .fieldAddr T x f => match ti T, evalA sl x with
    | some ⟨_, .struct flds, _⟩, .comp false [.ptr id off] => match flds[f]? with
      | some (o, s) => if s = 0 then none else k ⟨one (.ptr id (off + o)), []⟩
      | none => none
    | some ⟨_, .struct flds, _⟩, .comp false [.eptr id i sz j] => match flds[f]? with
      | some (o, s) => if s = 0 then none else k ⟨one (.eptr id i sz (j + o)), []⟩
      | none => none
    | _, _ => none
  | .indexAddr T x ix => match ti T, evalA sl x, evalA sl ix with
    | some ⟨_, .slice e, _⟩, .comp false [.sl id], .comp false [.sc (.int _ i)] => match bk id, ti e with
      | .row _ _ t xs, some j => if j.ty.size = t.size then
          chk (okIx i (xlen (α := t.den) xs)) (k ⟨one (.eptr id (i2n i) t.size 0), []⟩)
        else none
      | _, _ => none
    | some ⟨_, .array m e, _⟩, .comp false [.ptr id off], .comp false [.sc (.int _ i)] => match ti e with
      | some j => if 0 ≤ i ∧ i < (m : Int) then k ⟨one (.ptr id (off + i.toNat * j.ty.size)), []⟩ else none
      | none => none
    | _, _, _ => none
  | .index T x ix => match ti T, evalA sl x, evalA sl ix with
    | some ⟨_, .string, _⟩, .comp false [.sc (.string s)], .comp false [.sc (.int _ i)] =>
      chk (okIx i (slen s)) (k ⟨scI .u8 (byteAt s (i2n i)), []⟩)
    | _, _, _ => none
  | .extract t i => match evalA sl t with
    | .tup vs => match vs[i]? with
      | some (b, cs) => k ⟨.comp b cs, []⟩
      | none => none
    | _ => none
  | .makeSlice T l c => match ti T, evalA sl l, evalA sl c with
    | some ⟨_, .slice e, _⟩, .comp false [.sc (.int .i64 m)], .comp false [.sc (.int .i64 m')] => match ti e with
      | some i => chk (ieq m m') (chk (okMake m i.bytes) (k ⟨one (.sl nx), [(nx, .row true e i.ty (xrep (α := i.ty.den) (i2n m) i.ty.dflt))]⟩))
      | none => none
    | _, _, _ => none
  | .makeFunc (.func f) first captured => match first.toList, capsA (captured.toList.map (evalA sl)) with
    | [], some l => k ⟨one (.clo f l), []⟩
    | _, _ => none
  | .makeMap T none => match ti T with
    | some ⟨_, .map _ _, _⟩ => k ⟨one (.sl nx), [(nx, .mp true true [])]⟩
    | _ => none
  | .mapUpdate T m x y => match ti T, evalA sl m, evalA sl x, evalA sl y with
    | some ⟨_, .map K _, _⟩, .comp false [.sl id], .comp false [.sc (.int .i64 a)], .comp false [.sc (.int .i64 b)] => match ti K, bk id with
      | some ⟨_, .int .i64, _⟩, .mp true true l => k ⟨.tup [], [(id, .mp true true (mput l a b))]⟩
      | _, _ => none
    | _, _, _, _ => none
  | .insert T m x y => match ti T, evalA sl m, evalA sl x, evalA sl y with
    | some ⟨_, .map K _, _⟩, .comp false [.sl id], .comp false [.sc (.int .i64 a)], .comp false [.sc (.int .i64 b)] => match ti K, bk id with
      | some ⟨_, .int .i64, _⟩, .mp true true l => k ⟨.tup [], [(id, .mp true true (mput l a b))]⟩
      | _, _ => none
    | _, _, _, _ => none
  | .lookup T m x false => match ti T, evalA sl m, evalA sl x with
    | some ⟨_, .map K E, _⟩, .comp false [.sl id], .comp false [.sc (.int .i64 a)] => match ti K, ti E, bk id with
      | some ⟨_, .int .i64, _⟩, some ⟨_, .int .i64, _⟩, .mp _ _ l => k ⟨scI .i64 (mget l a), []⟩
      | _, _, _ => none
    | some ⟨_, .map K E, _⟩, .comp false [.sc (.map none)], .comp false [.sc (.int .i64 _)] => match ti K, ti E with
      | some ⟨_, .int .i64, _⟩, some ⟨_, .int .i64, _⟩ => k ⟨scI .i64 0, []⟩
      | _, _ => none
    | _, _, _ => none
  | .call ⟨.builtin .len, args, tys⟩ => match args.toList, tys.toList with
    | [x], [T] => match ti T with
      | some i => match lenA bk i.sd (evalA sl x) with
        | some n => k ⟨scI .i64 n, []⟩
        | none => none
      | none => none
    | _, _ => none
  | .call ⟨.builtin .min, args, _⟩ => match args.toList with
    | [x, y] => match evalA sl x, evalA sl y with
      | .comp false [.sc (.int ka a)], .comp false [.sc (.int _ b)] => k ⟨scI ka (imin a b), []⟩
      | _, _ => none
    | _ => none
  | .call ⟨.builtin .max, args, _⟩ => match args.toList with
    | [x, y] => match evalA sl x, evalA sl y with
      | .comp false [.sc (.int ka a)], .comp false [.sc (.int _ b)] => k ⟨scI ka (imax a b), []⟩
      | _, _ => none
    | _ => none
  | .call ⟨.builtin .append, args, tys⟩ => match args.toList, tys.toList with
    | [s, x], [T, T'] => match ti T, evalA sl s, evalA sl x with
      | some ⟨_, .slice e, _⟩, .comp false [sa], .comp false [xa] => match ti e with
        | some i => if T = T' then match asRow bk e i.ty sa, asSrc bk i.ty xa with
          | some (xs, own), some (ys, own') => if nodupB (own ++ own') ∧ 0 < i.bytes then
              chk (okRoom (xlen (α := i.ty.den) xs) (xlen (α := i.ty.den) ys) i.bytes) (k ⟨one (.sl nx), (nx, .row true e i.ty (xapp (α := i.ty.den) xs ys)) :: deads (own ++ own')⟩)
            else none
          | _, _ => match asRowR bk e i.ty sa, asSrc bk i.ty.ro xa with
            | some (xs, own), some (ys, own') => if nodupB (own ++ own') ∧ 0 < i.bytes then
                chk (okRoom (xlen (α := i.ty.ro.den) xs) (xlen (α := i.ty.ro.den) ys) i.bytes) (k ⟨one (.sl nx), (nx, .row true e i.ty.ro (xapp (α := i.ty.ro.den) xs ys)) :: deads (own ++ own')⟩)
              else none
            | _, _ => none
          else none
        | none => none
      | _, _, _ => none
    | _, _ => none
  | _ => none

end Go.Eng
