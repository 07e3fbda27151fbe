/- The engine, part 16: regions, tests, loops and returns of a function, run over abstract states. Definitions alone. -/
import Derived.Test.YtjkaapoklbhokaaDoorEng15
set_option linter.all false
namespace Go.Eng
open Go.RowKit

/-- Slots, blocks, and what the parameters were that are to be rewritten. -/
structure St where
  sl : List AV
  hp : List Blk
  gs : List AV

def St.slF (s : St) (t : Nat) : AV := s.sl.getD t .unk
def St.bkF (s : St) (i : Nat) : Blk := s.hp.getD i .dead

def setPad : List Blk → Nat → Blk → List Blk
  | [], 0, b => [b]
  | [], i + 1, b => .dead :: setPad [] i b
  | _ :: l, 0, b => b :: l
  | x :: l, i + 1, b => x :: setPad l i b

def updHp : List (Nat × Blk) → List Blk → List Blk
  | [], h => h
  | (i, b) :: r, h => setPad (updHp r h) i b

def St.app (s : St) (dst : Option Nat) (e : Eff) : St :=
  ⟨match dst with | some d => s.sl.set d e.val | none => s.sl, updHp e.upd s.hp, s.gs⟩

/-- What is known of the program: its types, its functions' contracts; 'live' names, by a loop's first region, the slots that live at its head. -/
structure Ctx where
  ti : Nat → Option TI
  con : Nat → List Con
  live : Nat → List Nat
  eqs : Nat → Option (List SK)

def opK {X : Type} (C : Ctx) (nx : Nat) (sl : Nat → AV) (bk : Nat → Blk) (o : Oper) (k : Eff → Option X) : Option X :=
  match o.op with
  | .call ⟨.value fo, args, _⟩ => match evalA sl fo with
    | .comp false [.fn f] => callL (C.con f) nx bk (args.toList.map (evalA sl)) k
    | .comp false [.clo f caps] => callL (C.con f) nx bk (args.toList.map (evalA sl) ++ caps.map fun p => .comp false [.ptr p.1 p.2]) k
    | _ => none
  | .binOp op T x y _ => match evalA sl x, evalA sl y with
    | .comp true cs, .comp true ds => match C.eqs T with
      | some ks => match eqCs ks cs ds with
        | some r => match op with
          | .eql => k ⟨scB r, []⟩
          | .neq => k ⟨scB (bnot r), []⟩
          | _ => none
        | none => none
      | none => none
    | _, _ => aop C.ti nx sl bk o k
  | _ => aop C.ti nx sl bk o k

def runOps {X : Type} (C : Ctx) (ops : Array Oper) : List Oper → St → (St → Option X) → Option X
  | [], s, k => k s
  | o :: rest, s, k => match o.guard with
    | none => opK C s.hp.length s.slF s.bkF o fun e => runOps C ops rest (s.app o.dst e) k
    | some (j, want) => match (ops[j]?).bind (·.dst) with
      | none => none
      | some d => match s.slF d with
        | .comp false [.sc (.bool b)] =>
          cond b
            (match want with
              | true => opK C s.hp.length (St.slF ⟨s.sl.set d (scB true), s.hp, s.gs⟩) s.bkF o fun e => runOps C ops rest (St.app ⟨s.sl.set d (scB true), s.hp, s.gs⟩ o.dst e) k
              | false => runOps C ops rest (St.app ⟨s.sl.set d (scB true), s.hp, s.gs⟩ o.dst ⟨.tup [], []⟩) k)
            (match want with
              | true => runOps C ops rest (St.app ⟨s.sl.set d (scB false), s.hp, s.gs⟩ o.dst ⟨.tup [], []⟩) k
              | false => opK C s.hp.length (St.slF ⟨s.sl.set d (scB false), s.hp, s.gs⟩) s.bkF o fun e => runOps C ops rest (St.app ⟨s.sl.set d (scB false), s.hp, s.gs⟩ o.dst e) k)
        | .tup [] => runOps C ops rest (s.app o.dst ⟨.tup [], []⟩) k
        | _ => none

def idsAt : At → List Nat
  | .ptr id _ => [id]
  | .eptr id _ _ _ => [id]
  | .sl id => [id]
  | .clo _ caps => caps.map (·.1)
  | _ => []
def idsAV : AV → List Nat
  | .comp _ cs => cs.flatMap idsAt
  | .tup vs => vs.flatMap fun c => c.2.flatMap idsAt
def idsBlk : Blk → List Nat
  | .cells cs _ => cs.flatMap idsAt
  | _ => []

/-- The blocks that can be reached. -/
def visit (bk : Nat → Blk) : Nat → List Nat → List Nat → List Nat
  | 0, _, acc => acc
  | _, [], acc => acc
  | f + 1, i :: todo, acc => if acc.contains i then visit bk f todo acc else visit bk f (idsBlk (bk i) ++ todo) (acc ++ [i])

/-- One operation of a region that draws its order: what it reads, what it writes. -/
structure Rec where
  dst : Option Nat
  slots : List Nat
  foot : List Nat
  ids : List Nat
  put : Option (Int × Int)

/-- What an operation puts into a map. -/
def putOf (sl : Nat → AV) (o : Oper) : Option (Int × Int) :=
  match o.op with
  | .insert _ _ X Y => match evalA sl X, evalA sl Y with
    | .comp false [.sc (.int .i64 p)], .comp false [.sc (.int .i64 q)] => some (p, q)
    | _, _ => none
  | _ => none

def opSlots (ops : Array Oper) (o : Oper) : List Nat :=
  (o.op.operands.toList.filterMap fun | .tmp t => some t | _ => none) ++ match o.guard with
    | some (g, _) => ((ops[g]?).bind (·.dst)).toList
    | none => []

def maskS (l : List Nat) (sl : Nat → AV) (t : Nat) : AV := if l.contains t then sl t else .unk
def maskB (l : List Nat) (bk : Nat → Blk) (i : Nat) : Blk := if l.contains i then bk i else .dead

def meet (a b : List Nat) : Bool := a.any fun x => b.contains x

def clash (a b : Rec) : Bool :=
  (meet (a.dst.toList) (b.slots ++ b.dst.toList) || meet b.dst.toList a.slots) || (!(a.put.isSome && b.put.isSome) && (meet a.ids (b.foot ++ b.ids) || meet b.ids a.foot))

def maskOf (o : Oper) (acc : List Nat) : Nat :=
  o.after.toList.foldl (fun s e => if Region.binds .any e then s ||| 2 ^ e.on ||| acc.getD e.on 0 else s) 0
def befs : List Oper → List Nat → List Nat
  | [], acc => acc
  | o :: r, acc => befs r (acc ++ [maskOf o acc])

def clashFree (bf : List Nat) : List Rec → Nat → List Rec → Bool
  | [], _, _ => true
  | b :: r, j, before => (before.zipIdx.all fun (a, i) => !clash a b || (bf.getD j 0).testBit i) && clashFree bf r (j + 1) (before ++ [b])

def forward : List Oper → Nat → Bool
  | [], _ => true
  | o :: r, i => o.after.toList.all (fun e => !Region.binds .any e || decide (e.on < i)) && forward r (i + 1)

def drawOk (ops : List Oper) (recs : List Rec) : Bool := forward ops 0 && clashFree (befs ops []) recs 0 []

/- Two entries of one map whose order is open: their keys must differ. -/
def putPairs1 (b : Rec) : List Rec → List (Int × Int)
  | [] => []
  | a :: r => match b.put, a.put with
    | some p, some q => if meet b.ids a.ids = true then (p.1, q.1) :: putPairs1 b r else putPairs1 b r
    | _, _ => putPairs1 b r
def putPairs : List Rec → List (Int × Int)
  | [] => []
  | b :: r => putPairs1 b r ++ putPairs r
def chkKeys {X : Type} : List (Int × Int) → Option X → Option X
  | [], k => k
  | p :: l, k => chk (bnot (ieq p.1 p.2)) (chkKeys l k)

/-- Operations that read no block. -/
def flatOp : Op → Bool
  | .move _ => true
  | .fieldAddr _ _ _ => true
  | .extract _ _ => true
  | .binOp _ _ _ _ _ => true
  | .unOp _ _ _ => true
  | _ => false

/-- The blocks that an operation may read. -/
def footOf (ops : Array Oper) (o : Oper) (s : St) : List Nat :=
  match flatOp o.op with
  | true => []
  | false => visit s.bkF 200 ((opSlots ops o).flatMap fun t => idsAV (s.slF t)) []

def runDraw {X : Type} (C : Ctx) (ops : Array Oper) : List Oper → St → List Rec → (St → Option X) → Option X
  | [], s, recs, k => if drawOk ops.toList recs = true then chkKeys (putPairs recs) (k s) else none
  | o :: rest, s, recs, k =>
    match o.guard with
    | none => opK C s.hp.length (maskS (opSlots ops o) s.slF) (maskB (footOf ops o s) s.bkF) o fun e =>
        if e.ids.all (fun i => (footOf ops o s).contains i || decide (s.hp.length ≤ i)) = true then
          runDraw C ops rest (s.app o.dst e) (recs ++ [⟨o.dst, opSlots ops o, footOf ops o s, e.ids, putOf (maskS (opSlots ops o) s.slF) o⟩]) k
        else none
    | some (j, want) => match (ops[j]?).bind (·.dst) with
      | none => none
      | some d => match s.slF d with
        | .comp false [.sc (.bool b)] =>
          cond b
            (match want with
              | true => opK C s.hp.length (maskS (opSlots ops o) (St.slF ⟨s.sl.set d (scB true), s.hp, s.gs⟩)) (maskB (footOf ops o s) s.bkF) o fun e =>
                if e.ids.all (fun i => (footOf ops o s).contains i || decide (s.hp.length ≤ i)) = true then
                  runDraw C ops rest (St.app ⟨s.sl.set d (scB true), s.hp, s.gs⟩ o.dst e) (recs ++ [⟨o.dst, opSlots ops o, footOf ops o s, e.ids, none⟩]) k
                else none
              | false => runDraw C ops rest (St.app ⟨s.sl.set d (scB true), s.hp, s.gs⟩ o.dst ⟨.tup [], []⟩) (recs ++ [⟨o.dst, [d], [], [], none⟩]) k)
            (match want with
              | true => runDraw C ops rest (St.app ⟨s.sl.set d (scB false), s.hp, s.gs⟩ o.dst ⟨.tup [], []⟩) (recs ++ [⟨o.dst, [d], [], [], none⟩]) k
              | false => opK C s.hp.length (maskS (opSlots ops o) (St.slF ⟨s.sl.set d (scB false), s.hp, s.gs⟩)) (maskB (footOf ops o s) s.bkF) o fun e =>
                if e.ids.all (fun i => (footOf ops o s).contains i || decide (s.hp.length ≤ i)) = true then
                  runDraw C ops rest (St.app ⟨s.sl.set d (scB false), s.hp, s.gs⟩ o.dst e) (recs ++ [⟨o.dst, opSlots ops o, footOf ops o s, e.ids, none⟩]) k
                else none)
        | .tup [] => runDraw C ops rest (s.app o.dst ⟨.tup [], []⟩) (recs ++ [⟨o.dst, [d], [], [], none⟩]) k
        | _ => none

inductive Ex where
  | norm
  | exit (id : Nat)
  | ret

/- The head of a loop: only the live slots, and what can be reached from them, under new numbers. -/
def renAt (ord : List Nat) (bk : Nat → Blk) : At → At
  | .ptr id off => match bk id with
    | .dead => .unk
    | _ => if ord.contains id then .ptr (ord.idxOf id) off else .unk
  | .sl id => match bk id with
    | .dead => .unk
    | _ => if ord.contains id then .sl (ord.idxOf id) else .unk
  | .eptr id i sz j => match bk id with
    | .dead => .unk
    | _ => if ord.contains id then .eptr (ord.idxOf id) i sz j else .unk
  | .clo f caps => if caps.all (fun p => ord.contains p.1) = true then .clo f (caps.map fun p => (ord.idxOf p.1, p.2)) else .unk
  | x => x
def renBlk (ord : List Nat) (bk : Nat → Blk) : Blk → Blk
  | .cells cs t => .cells (cs.map (renAt ord bk)) t
  | .hole _ _ _ _ _ _ _ => .dead
  | b => b
def renAV (ord : List Nat) (bk : Nat → Blk) : AV → AV
  | .comp b cs => .comp b (cs.map (renAt ord bk))
  | .tup _ => .unk
def liveSl (live : List Nat) (f : AV → AV) : List AV → Nat → List AV
  | [], _ => []
  | v :: l, t => (if live.contains t then f v else .unk) :: liveSl live f l (t + 1)

def St.head0 (s : St) (live : List Nat) : St :=
  let ord := visit s.bkF 200 ((live.flatMap fun t => idsAV (s.slF t)) ++ s.gs.flatMap idsAV) []
  ⟨liveSl live (renAV ord s.bkF) s.sl 0, ord.map fun i => renBlk ord s.bkF (s.bkF i), s.gs.map (renAV ord s.bkF)⟩

/- Lent rows, each use under a number of its own. -/
def spAt (bk : Nat → Blk) (n : Nat) : At → At × List Nat
  | .sl id => match safeRo (bk id) with
    | true => (.sl n, [id])
    | false => (.sl id, [])
  | x => (x, [])
def spAts (bk : Nat → Blk) : List At → Nat → List At × List Nat
  | [], _ => ([], [])
  | x :: l, n => ((spAt bk n x).1 :: (spAts bk l (n + (spAt bk n x).2.length)).1, (spAt bk n x).2 ++ (spAts bk l (n + (spAt bk n x).2.length)).2)
def spAV (bk : Nat → Blk) (n : Nat) : AV → AV × List Nat
  | .comp b cs => (.comp b (spAts bk cs n).1, (spAts bk cs n).2)
  | .tup l => (.tup l, [])
def spSl (bk : Nat → Blk) : List AV → Nat → List AV × List Nat
  | [], _ => ([], [])
  | x :: l, n => ((spAV bk n x).1 :: (spSl bk l (n + (spAV bk n x).2.length)).1, (spAV bk n x).2 ++ (spSl bk l (n + (spAV bk n x).2.length)).2)
def spBlk (bk : Nat → Blk) (n : Nat) : Blk → Blk × List Nat
  | .cells cs t => (.cells (spAts bk cs n).1 t, (spAts bk cs n).2)
  | b => (b, [])
def spHp (bk : Nat → Blk) : List Blk → Nat → List Blk × List Nat
  | [], _ => ([], [])
  | x :: l, n => ((spBlk bk n x).1 :: (spHp bk l (n + (spBlk bk n x).2.length)).1, (spBlk bk n x).2 ++ (spHp bk l (n + (spBlk bk n x).2.length)).2)
def St.split (s : St) : St :=
  ⟨(spSl s.bkF s.sl s.hp.length).1,
    (spHp s.bkF s.hp (s.hp.length + (spSl s.bkF s.sl s.hp.length).2.length)).1 ++ ((spSl s.bkF s.sl s.hp.length).2 ++ (spHp s.bkF s.hp (s.hp.length + (spSl s.bkF s.sl s.hp.length).2.length)).2).map s.bkF, s.gs⟩

/-- The mark 100000 among the live slots: the lent rows are split. -/
def St.head (s : St) (live : List Nat) : St :=
  match live.contains 100000 with
  | true => (s.head0 live).split.head0 live
  | false => s.head0 live

inductive AtS where
  | unk
  | int (k : IntKind)
  | bool
  | str
  | fn (f : Nat)
  | ptr (id off : Nat)
  | eptr (id sz j : Nat)
  | sl (id : Nat)
  | nil
  | clo (f : Nat) (caps : List (Nat × Nat))
  deriving DecidableEq

inductive BlkS where
  | dead
  | cells (cs : List AtS) (t : TypeId)
  | row (own : Bool) (e : TypeId) (t : Ty)
  | mp (nn own : Bool)
  deriving DecidableEq

abbrev AVS := Bool × List AtS

def shAt : At → AtS
  | .unk => .unk
  | .sc v => match v with
    | .int k _ => .int k
    | .bool _ => .bool
    | .string _ => .str
    | .slice none 0 0 => .nil
    | _ => .unk
  | .ptr id off => .ptr id off
  | .eptr id i sz j => match i with
    | 0 => .eptr id sz j
    | _ + 1 => .unk
  | .sl id => .sl id
  | .fn f => .fn f
  | .clo f caps => .clo f caps

def shAV : AV → AVS
  | .comp b cs => (b, cs.map shAt)
  | .tup _ => (false, [.unk])

def shBlk : Blk → BlkS
  | .dead => .dead
  | .cells cs t => .cells (cs.map shAt) t
  | .row own e t _ => .row own e t
  | .mp nn own _ => .mp nn own
  | .hole _ _ _ _ _ _ _ => .dead

abbrev Sh := List AVS × List AVS × List BlkS
def St.sh (s : St) : Sh := (s.sl.map shAV, s.gs.map shAV, s.hp.map shBlk)

@[reducible] def tysL : List AtS → List Ty → List Ty
  | [], r => r
  | .int k :: l, r => .int k :: tysL l r
  | .bool :: l, r => .bool :: tysL l r
  | .str :: l, r => .str :: tysL l r
  | .unk :: l, r => tysL l r
  | .fn _ :: l, r => tysL l r
  | .ptr _ _ :: l, r => tysL l r
  | .eptr _ _ _ :: l, r => tysL l r
  | .sl _ :: l, r => tysL l r
  | .nil :: l, r => tysL l r
  | .clo _ _ :: l, r => tysL l r
@[reducible] def tysSl : List AVS → List Ty → List Ty
  | [], r => r
  | (_, cs) :: l, r => tysL cs (tysSl l r)
@[reducible] def tysHp : List BlkS → List Ty → List Ty
  | [], r => r
  | .dead :: l, r => tysHp l r
  | .cells cs _ :: l, r => tysL cs (tysHp l r)
  | .row own e t :: l, r => .row own e t :: tysHp l r
  | .mp _ own :: l, r => .map own :: tysHp l r
@[reducible] def shT (sh : Sh) : Type := HL (tysSl sh.1 (tysSl sh.2.1 (tysHp sh.2.2 [])))

/-- The data at the atoms of one list, ahead of those of r. -/
def leafL : (l : List At) → (ts : List Ty) → HL ts → HL (tysL (l.map shAt) ts)
  | [], _, r => r
  | .sc (.int k x) :: l, ts, r => hcons (.int k) _ x (leafL l ts r)
  | .sc (.bool x) :: l, ts, r => hcons .bool _ x (leafL l ts r)
  | .sc (.string x) :: l, ts, r => hcons .str _ x (leafL l ts r)
  | .sc (.float _ _) :: l, ts, r => leafL l ts r
  | .sc (.complex _ _ _) :: l, ts, r => leafL l ts r
  | .sc (.pointer _) :: l, ts, r => leafL l ts r
  | .sc (.slice none 0 0) :: l, ts, r => leafL l ts r
  | .sc (.slice none 0 (_ + 1)) :: l, ts, r => leafL l ts r
  | .sc (.slice none (_ + 1) _) :: l, ts, r => leafL l ts r
  | .sc (.slice (some _) _ _) :: l, ts, r => leafL l ts r
  | .sc (.map _) :: l, ts, r => leafL l ts r
  | .sc (.chan _) :: l, ts, r => leafL l ts r
  | .sc (.func _ _ _) :: l, ts, r => leafL l ts r
  | .sc .nilFunc :: l, ts, r => leafL l ts r
  | .sc (.iface _ _) :: l, ts, r => leafL l ts r
  | .sc .nilIface :: l, ts, r => leafL l ts r
  | .sc (.agg _) :: l, ts, r => leafL l ts r
  | .sc (.tuple _) :: l, ts, r => leafL l ts r
  | .unk :: l, ts, r => leafL l ts r
  | .ptr _ _ :: l, ts, r => leafL l ts r
  | .eptr _ 0 _ _ :: l, ts, r => leafL l ts r
  | .eptr _ (_ + 1) _ _ :: l, ts, r => leafL l ts r
  | .sl _ :: l, ts, r => leafL l ts r
  | .fn _ :: l, ts, r => leafL l ts r
  | .clo _ _ :: l, ts, r => leafL l ts r

def leafSl : (l : List AV) → (ts : List Ty) → HL ts → HL (tysSl (l.map shAV) ts)
  | [], _, r => r
  | .comp _ cs :: l, ts, r => leafL cs _ (leafSl l ts r)
  | .tup _ :: l, ts, r => leafSl l ts r

def leafHp : (l : List Blk) → (ts : List Ty) → HL ts → HL (tysHp (l.map shBlk) ts)
  | [], _, r => r
  | .dead :: l, ts, r => leafHp l ts r
  | .cells cs _ :: l, ts, r => leafL cs _ (leafHp l ts r)
  | .row own e t xs :: l, ts, r => hcons (.row own e t) _ xs (leafHp l ts r)
  | .mp _ own m :: l, ts, r => hcons (.map own) _ m (leafHp l ts r)
  | .hole _ _ _ _ _ _ _ :: l, ts, r => leafHp l ts r

def St.leaf (s : St) : shT s.sh := leafSl s.sl _ (leafSl s.gs _ (leafHp s.hp [] ()))

def mkL : (l : List AtS) → (ts : List Ty) → HL (tysL l ts) → List At × HL ts
  | [], _, r => ([], r)
  | .int k :: l, ts, r => (.sc (.int k (hhead (.int k) _ r)) :: (mkL l ts (htail (.int k) _ r)).1, (mkL l ts (htail (.int k) _ r)).2)
  | .bool :: l, ts, r => (.sc (.bool (hhead .bool _ r)) :: (mkL l ts (htail .bool _ r)).1, (mkL l ts (htail .bool _ r)).2)
  | .str :: l, ts, r => (.sc (.string (hhead .str _ r)) :: (mkL l ts (htail .str _ r)).1, (mkL l ts (htail .str _ r)).2)
  | .unk :: l, ts, r => (.unk :: (mkL l ts r).1, (mkL l ts r).2)
  | .fn f :: l, ts, r => (.fn f :: (mkL l ts r).1, (mkL l ts r).2)
  | .ptr id off :: l, ts, r => (.ptr id off :: (mkL l ts r).1, (mkL l ts r).2)
  | .eptr id sz j :: l, ts, r => (.eptr id 0 sz j :: (mkL l ts r).1, (mkL l ts r).2)
  | .sl id :: l, ts, r => (.sl id :: (mkL l ts r).1, (mkL l ts r).2)
  | .nil :: l, ts, r => (.sc (.slice none 0 0) :: (mkL l ts r).1, (mkL l ts r).2)
  | .clo f caps :: l, ts, r => (.clo f caps :: (mkL l ts r).1, (mkL l ts r).2)

def mkSl : (l : List AVS) → (ts : List Ty) → HL (tysSl l ts) → List AV × HL ts
  | [], _, r => ([], r)
  | (b, cs) :: l, ts, r => (.comp b (mkL cs (tysSl l ts) r).1 :: (mkSl l ts (mkL cs (tysSl l ts) r).2).1, (mkSl l ts (mkL cs (tysSl l ts) r).2).2)

def mkHp : (l : List BlkS) → (ts : List Ty) → HL (tysHp l ts) → List Blk
  | [], _, _ => []
  | .dead :: l, ts, r => .dead :: mkHp l ts r
  | .cells cs t :: l, ts, r => .cells (mkL cs (tysHp l ts) r).1 t :: mkHp l ts (mkL cs (tysHp l ts) r).2
  | .row own e t :: l, ts, r => .row own e t (hhead (.row own e t) _ r) :: mkHp l ts (htail (.row own e t) _ r)
  | .mp nn own :: l, ts, r => .mp nn own (hhead (.map own) _ r) :: mkHp l ts (htail (.map own) _ r)

def mkSt (sh : Sh) (r : shT sh) : St := ⟨(mkSl sh.1 _ r).1, mkHp sh.2.2 [] (mkSl sh.2.1 _ (mkSl sh.1 _ r).2).2, (mkSl sh.2.1 _ (mkSl sh.1 _ r).2).1⟩

/- Shapes compared without a look at the data. -/
def eqAtS : AtS → AtS → Bool
  | .unk, .unk => true
  | .int k, .int k' => decide (k = k')
  | .bool, .bool => true
  | .str, .str => true
  | .nil, .nil => true
  | .fn f, .fn g => Nat.beq f g
  | .ptr i o, .ptr i' o' => Nat.beq i i' && Nat.beq o o'
  | .eptr i z j, .eptr i' z' j' => Nat.beq i i' && (Nat.beq z z' && Nat.beq j j')
  | .sl i, .sl i' => Nat.beq i i'
  | .clo f c, .clo g c' => Nat.beq f g && decide (c = c')
  | _, _ => false
def eqAtSs : List AtS → List AtS → Bool
  | [], [] => true
  | x :: l, y :: m => eqAtS x y && eqAtSs l m
  | _, _ => false
def eqAVSs : List AVS → List AVS → Bool
  | [], [] => true
  | (b, x) :: l, (c, y) :: m => (b == c) && (eqAtSs x y && eqAVSs l m)
  | _, _ => false
def eqBlkS : BlkS → BlkS → Bool
  | .dead, .dead => true
  | .cells cs t, .cells cs' t' => Nat.beq t t' && eqAtSs cs cs'
  | .row own e t, .row own' e' t' => (own == own') && (Nat.beq e e' && decide (t = t'))
  | .mp nn own, .mp nn' own' => (nn == nn') && (own == own')
  | _, _ => false
def eqBlkSs : List BlkS → List BlkS → Bool
  | [], [] => true
  | x :: l, y :: m => eqBlkS x y && eqBlkSs l m
  | _, _ => false
def eqSh (a b : Sh) : Bool := eqAVSs a.1 b.1 && (eqAVSs a.2.1 b.2.1 && eqBlkSs a.2.2 b.2.2)

/-- Data under an equal list of types. -/
def castHL : (ts us : List Ty) → HL ts → Option (HL us)
  | [], [], _ => some ()
  | t :: ts, u :: us, x => if h : t = u then match castHL ts us (htail t ts x) with
      | some r => some (hcons u us (h ▸ hhead t ts x) r)
      | none => none
    else none
  | _, _, _ => none
def castSh (a b : Sh) (x : shT a) : Option (shT b) := castHL (tysSl a.1 (tysSl a.2.1 (tysHp a.2.2 []))) (tysSl b.1 (tysSl b.2.1 (tysHp b.2.2 []))) x

/-- The data of a state of a given shape. -/
def loopK {X : Type} (sh : Sh) (s : St) : Option (shT sh ⊕ X) :=
  match eqSh s.sh sh with
  | true => match castSh s.sh sh s.leaf with
    | some r => some (.inl r)
    | none => none
  | false => none

/-- A loop, as far as it ends. -/
def iterN {σ X : Type} (f : σ → Option (σ ⊕ X)) : Nat → σ → Option X
  | 0, _ => none
  | n + 1, s => match f s with
    | none => none
    | some (.inl s') => iterN f n s'
    | some (.inr x) => some x

open Classical in
noncomputable def iter {σ X : Type} (f : σ → Option (σ ⊕ X)) (s : σ) : Option X :=
  if h : ∃ n x, iterN f n s = some x then some (Classical.choose (Classical.choose_spec h)) else none

def firstId : Code → Nat
  | .region id _ _ => id
  | .seq a _ => firstId a
  | .block _ b => firstId b
  | _ => 0

noncomputable def run (C : Ctx) : Code → {X : Type} → St → (Ex → St → Option X) → Option X
  | .skip, _, s, k => k .norm s
  | .region _ ops false, _, s, k => runOps C ops ops.toList s (k .norm)
  | .region _ ops true, _, s, k => runDraw C ops ops.toList s [] (k .norm)
  | .seq a b, _, s, k => run C a s fun ex s' => match ex with
    | .norm => run C b s' k
    | ex => k ex s'
  | .cond c t e, _, s, k => match evalA s.slF c with
    | .comp false [.sc (.bool b)] => cond b (run C t s k) (run C e s k)
    | _ => none
  | .block id body, _, s, k => run C body s fun ex s' => match ex with
    | .exit j => if j = id then k .norm s' else k (.exit j) s'
    | ex => k ex s'
  | .exit id, _, s, k => k (.exit id) s
  | .ret, _, s, k => k .ret s
  | .loop body, X, s, k =>
    iter (fun σ => run C body (X := shT (s.head (C.live (firstId body))).sh ⊕ X) (mkSt (s.head (C.live (firstId body))).sh σ) fun ex s' => match ex with
      | .norm => loopK (s.head (C.live (firstId body))).sh (s'.head (C.live (firstId body)))
      | ex => (k ex s').map .inr) (s.head (C.live (firstId body))).leaf
  | _, _, _, _ => none

/- The results, and what has become of what was handed in to be rewritten. -/
def resA (ti : Nat → Option TI) (sl : Nat → AV) (bk : Nat → Blk) : (rs : List (RK × Ty)) → (tl : List Ty) → List ResultVar → Option (HL tl × List Nat × List Nat) → Option (HL (resTys rs tl) × List Nat × List Nat)
  | [], _, [], r => r
  | (.box T, t) :: rs, tl, .tmp v :: vs, r => match sl v with
    | .comp false [.ptr id 0] => match bk id with
      | .cells cs T0 => if T0 = T then match reify bk t cs with
        | some (x, own, ro) => match resA ti sl bk rs tl vs r with
          | some (xs, own', ro') => some (hcons t _ x xs, id :: own ++ own', ro ++ ro')
          | none => none
        | none => none
        else none
      | _ => none
    | _ => none
  | (.val b, t) :: rs, tl, .tmp v :: vs, r => match sl v with
    | .comp b' cs => if b' = b ∧ cs.length = t.size ∧ (b = true ∨ cs.all At.known = true) then match reify bk t cs with
      | some (x, own, ro) => match resA ti sl bk rs tl vs r with
        | some (xs, own', ro') => some (hcons t _ x xs, own ++ own', ro ++ ro')
        | none => none
      | none => none
      else none
    | _ => none
  | (.val b, t) :: rs, tl, .cell ad T :: vs, r => match sl ad, ti T with
    | .comp false [.ptr id off], some i => match bk id with
      | .cells cs _ => if i.sd.agg = b ∧ off + i.ty.size ≤ cs.length ∧ i.ty.size = t.size ∧ (b = true ∨ ((cs.drop off).take i.ty.size).all At.known = true) then match reify bk t ((cs.drop off).take i.ty.size) with
        | some (x, own, ro) => match resA ti sl bk rs tl vs r with
          | some (xs, own', ro') => some (hcons t _ x xs, own ++ own', ro ++ ro')
          | none => none
        | none => none
        else none
      | _ => none
    | _, _ => none
  | _, _, _, _ => none

/-- The atoms that the parameters are at the beginning. -/
def entryA : (ps : List Par) → HL (argTys ps) → Nat → List AV × List (Nat × Blk) × Nat
  | [], _, n => ([], [], n)
  | .val agg t :: ps, x, n => (.comp agg (inject t (hhead t _ x) n).1 :: (entryA ps (htail t _ x) (inject t (hhead t _ x) n).2.2).1,
      (inject t (hhead t _ x) n).2.1 ++ (entryA ps (htail t _ x) (inject t (hhead t _ x) n).2.2).2.1, (entryA ps (htail t _ x) (inject t (hhead t _ x) n).2.2).2.2)
  | .mut agg t :: ps, x, n => (.comp agg (inject t (hhead t _ x) n).1 :: (entryA ps (htail t _ x) (inject t (hhead t _ x) n).2.2).1,
      (inject t (hhead t _ x) n).2.1 ++ (entryA ps (htail t _ x) (inject t (hhead t _ x) n).2.2).2.1, (entryA ps (htail t _ x) (inject t (hhead t _ x) n).2.2).2.2)
  | .ref t :: ps, x, n => (.comp false [.eptr n 0 t.size 0] :: (entryA ps (htail t _ x) (n + 1)).1, (n, .row false 0 t [hhead t _ x]) :: (entryA ps (htail t _ x) (n + 1)).2.1, (entryA ps (htail t _ x) (n + 1)).2.2)
  | .refm t T off :: ps, x, n => (.comp false [.ptr n off] :: (entryA ps (htail t _ x) (inject t (hhead t _ x) (n + 1)).2.2).1,
      (n, .cells (inject t (hhead t _ x) (n + 1)).1 T) :: (inject t (hhead t _ x) (n + 1)).2.1 ++ (entryA ps (htail t _ x) (inject t (hhead t _ x) (n + 1)).2.2).2.1, (entryA ps (htail t _ x) (inject t (hhead t _ x) (n + 1)).2.2).2.2)
  | .fn f :: ps, x, n => (.comp false [.fn f] :: (entryA ps x n).1, (entryA ps x n).2.1, (entryA ps x n).2.2)

def outsA (bk : Nat → Blk) : (ps : List Par) → List AV → Option (HL (outTys ps) × List Nat × List Nat)
  | [], _ => some ((), [], [])
  | .val _ _ :: ps, avs => outsA bk ps avs.tail
  | .ref _ :: ps, avs => outsA bk ps avs.tail
  | .fn _ :: ps, avs => outsA bk ps avs.tail
  | .mut agg t :: ps, avs => match avs with
    | .comp b cs :: _ => if b = agg ∧ (b = true ∨ cs.all At.known = true) then match reify bk t cs with
      | some (x, own, ro) => match outsA bk ps avs.tail with
        | some (xs, own', ro') => some (hcons t _ x xs, own ++ own', ro ++ ro')
        | none => none
      | none => none
      else none
    | _ => none
  | .refm t T off :: ps, avs => match avs with
    | .comp false [.ptr id o] :: _ => match bk id with
      | .cells cs T0 => if T0 = T ∧ o = off then match reify bk t cs with
        | some (x, own, ro) => match outsA bk ps avs.tail with
          | some (xs, own', ro') => some (hcons t _ x xs, id :: own ++ own', ro ++ ro')
          | none => none
        | none => none
        else none
      | _ => none
    | _ => none

/-- The parameters that are to be rewritten. -/
def ghosts : List Par → List AV → List AV
  | [], _ => []
  | .val _ _ :: ps, avs => .unk :: ghosts ps avs.tail
  | .ref _ :: ps, avs => .unk :: ghosts ps avs.tail
  | .fn _ :: ps, avs => .unk :: ghosts ps avs.tail
  | .mut _ _ :: ps, avs => avs.headD .unk :: ghosts ps avs.tail
  | .refm _ _ _ :: ps, avs => avs.headD .unk :: ghosts ps avs.tail

/-- A function's entry: its parameters, and slots of which nothing is known. -/
def entrySt (fn : Func) (ps : List Par) (x : HL (argTys ps)) : St :=
  ⟨(entryA ps x 0).1 ++ List.replicate (fn.ntmps - (entryA ps x 0).1.length) .unk, updHp (entryA ps x 0).2.1 [], ghosts ps (entryA ps x 0).1⟩

def finish (C : Ctx) (fn : Func) (c : Con) (s : St) : Option (HL (resTys c.rs (outTys c.ps))) :=
  match resA C.ti s.slF s.bkF c.rs _ fn.results.toList (outsA s.bkF c.ps s.gs) with
  | some (x, taken, ro) => if nodupB taken = true ∧ ro.all (fun i => !taken.contains i) = true then some x else none
  | none => none

/-- What a function computes. -/
noncomputable def runFn (C : Ctx) (fn : Func) (c : Con) (x : HL (argTys c.ps)) : Option (HL (resTys c.rs (outTys c.ps))) :=
  match fn.body with
  | some body => run C body (entrySt fn c.ps x) fun ex s => match ex with
    | .norm => finish C fn c s
    | .ret => finish C fn c s
    | .exit _ => none
  | none => none

end Go.Eng
