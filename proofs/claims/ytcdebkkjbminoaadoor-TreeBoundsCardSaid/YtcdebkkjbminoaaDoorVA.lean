/- A value-like memory for the model's programs: abstract values, abstract blocks, the instructions and what they do there. No program is named here. -/
import Derived.WalkKit
import Derived.Orders
import Derived.Laws.Externs
open Option renaming some.injEq → oiq, map_some → msm
open List renaming getElem?_eq_some_iff → gei, eq_nil_of_length_eq_zero → enz, flatten_cons → fcs, length_append → lap
namespace Go.Vs
set_option linter.unusedSimpArgs false
set_option linter.unusedVariables false
open Go Go.RowKit
inductive PV where
 | val (v : Value)
 | lst (size : Nat) (rows : List (List PV))
 | lsx (size : Nat) (rows more : List (List PV))
mutual
def fgP : PV → PV
 | .val v => .val v
 | .lst s rows => .lst s (fgPr rows)
 | .lsx s rows _ => .lst s (fgPr rows)
def fgPs : List PV → List PV
 | [] => []
 | x :: xs => fgP x :: fgPs xs
def fgPr : List (List PV) → List (List PV)
 | [] => []
 | r :: rs => fgPs r :: fgPr rs
end
def tpP : PV → PV
 | .lsx s rows _ => .lst s rows
 | x => x
inductive AV where
 | p (x : PV)
 | agg (xs : List AV)
 | tup (xs : List AV)
 | ptr (b off : Nat)
 | ro (xs : List PV)
 | rp (b gen size k off : Nat)
 | sl (b gen size off len : Nat)
 | mp (b : Nat)
 | yl (b : Nat)
 | anyp
 | anye
 | fn (f : Nat) (caps : List AV)
 | und
abbrev vi (k : IntKind) (n : Int) : AV := .p (.val (.int k n))
abbrev vb (b : Bool) : AV := .p (.val (.bool b))
abbrev vs (s : ByteArray) : AV := .p (.val (.string s))
abbrev ud : AV := .p (.val undef)
abbrev nilS : Value := .slice none 0 0
inductive Opd where
 | t (n : Nat)
 | c (a : AV)
 | g (n : Nat)
inductive ZC where
 | z (x : PV)
 | r (t : TypeId) (size : Nat)
inductive Ins where
 | mv (x : Opd)
 | nilrow (t : TypeId) (size : Nat)
 | pick (c a b : Opd)
 | alloc (t : TypeId) (zs : List ZC)
 | box (t : TypeId) (x : Opd)
 | build (zero : List PV) (parts : List (Nat × Nat × Opd))
 | buildR (zs : List ZC) (parts : List (Nat × Nat × Opd))
 | buildS (t : TypeId) (size : Nat) (zero : List PV) (len : Nat) (parts : List (Nat × Opd))
 | boxL (x : Opd)
 | buildL (size : Nat) (zero : List PV) (len : Nat) (parts : List (Nat × Opd))
 | load (agg : Bool) (size : Nat) (x : Opd)
 | loadF (deep agg : Bool) (size : Nat) (x : Opd)
 | store (size : Nat) (a v : Opd)
 | nilChk (x : Opd)
 | bin (op : BinOp) (x y : Opd)
 | eqA (agg : Bool) (ks : List Nat) (neg : Bool) (x y : Opd)
 | eqN (neg : Bool) (x : Opd)
 | eqI (neg : Bool) (x : Opd)
 | eqS (neg : Bool) (x : Opd)
 | un (op : UnOp) (x : Opd)
 | convI (k : IntKind) (x : Opd)
 | convS (x : Opd)
 | convB (x : Opd)
 | mkB (t : TypeId) (x : Opd)
 | mkfn (f : Nat) (caps : List Opd)
 | makeS (t : TypeId) (size : Nat) (bytes : Nat) (zero : List PV) (len cap : Opd)
 | sliceS (x : Opd) (lo hi : Option Opd)
 | slice (size : Nat) (x : Opd) (lo hi : Option Opd)
 | sliceX (size : Nat) (x : Opd) (lo hi : Option Opd)
 | fieldA (off : Nat) (x : Opd)
 | field (agg : Bool) (off size : Nat) (x : Opd)
 | indexA (arr : Option Nat) (size : Nat) (x i : Opd)
 | indexS (x i : Opd)
 | index (agg : Bool) (n size : Nat) (x i : Opd)
 | extract (x : Opd) (i : Nat)
 | len (x : Opd)
 | lenS (x : Opd)
 | append (t : TypeId) (size bytes : Nat) (zero : List PV) (x y : Opd)
 | appN (t : TypeId) (size bytes : Nat) (x y : Opd)
 | appF (t : TypeId) (size bytes : Nat) (x y : Opd)
 | min2 (max : Bool) (x y : Opd)
 | eqP (neg : Bool) (x y : Opd)
 | cvU (x : Opd)
 | cvP (oks : List (TypeId × Nat × Nat)) (x : Opd)
 | ixb (x y : Opd)
 | cnb (x y : Opd)
 | capN (x : Opd)
 | mkNZ (t : TypeId) (x : Opd)
 | cpy0 (x y : Opd)
 | clrS (s : Nat) (z : List PV) (x : Opd)
 | clrM (x : Opd)
 | slData (x : Opd)
 | uStr (e : TypeId) (x n : Opd)
 | mkMap
 | lkUp (ks : List Nat) (agg vagg : Bool) (zero : List PV) (ok : Bool) (m k : Opd)
 | mapEn (ks : List Nat) (agg vagg : Bool) (zero : List PV) (m k : Opd)
 | mapUp (ks : List Nat) (agg : Bool) (m k v : Opd)
 | entSt (m s v : Opd)
 | call (sh : Bool) (f : Opd) (args : List Opd)
 | callX (k : Nat) (f : Opd) (args : List Opd)
structure IOp where
 dst : Option Nat
 ins : Ins
 guard : Option (Nat × Bool)
structure ROp where
 op : IOp
 off : Nat
 k : Nat
 nd : List Nat
 z : Nat
inductive IC where
 | skip
 | ops (l : List IOp)
 | opsR (K : Nat) (l : List ROp)
 | seq (a b : IC)
 | cond (c : Opd) (x y : IC)
 | block (id : Nat) (b : IC)
 | noGo (b : IC)
 | loop (live : List Nat) (b : IC)
 | loopAt (n : Nat) (live : List Nat) (b : IC)
 | rangeF (fo : Opd) (ps : List Nat) (assign body : IC)
 | exit (id : Nat)
 | frzS (sl : List Nat) (cs : List (Nat × Nat × Nat)) (gs : List (Nat × Nat × Nat × Nat))
 | bad
 | ret
inductive AB where
 | cells (t : TypeId) (xs : List AV)
 | row (t : TypeId) (size gen : Nat) (rows : List (List AV))
 | loop (st : Nat) (pend : Option (Option Nat)) (ps : List Nat) (f : List AV) (assign body : IC)
 | map (q : Nat) (es : List (AV × AV))
 | frz (size gen : Nat) (rows : List (List PV))
 | dead
 | hole
inductive IRes where
 | tmp (t : Nat)
 | cell (t : Nat) (agg : Bool) (size : Nat)
structure IFun where
 ntmps : Nat
 results : List IRes
 code : IC
structure St where
 f : List AV
 h : List AB
inductive Out where
 | norm
 | brk (id : Nat)
 | ret
def isOne : Value → Bool
 | .agg _ => false
 | .tuple _ => false
 | _ => true
def AV.one : AV → Bool
 | .p (.val v) => isOne v
 | .agg _ => false
 | .tup _ => false
 | .und => false
 | _ => true
def isAggA : AV → Bool
 | .agg _ => true
 | _ => false
def cellsOf : AV → Option (List AV)
 | .agg xs => if xs.all AV.one then some xs else none
 | x => if x.one then some [x] else none
def splice {α : Type} (xs : List α) (off : Nat) (cs : List α) : List α := xs.take off ++ cs ++ xs.drop (off + cs.length)
def sub {α : Type} (xs : List α) (off n : Nat) : Option (List α) := if off + n ≤ xs.length then some ((xs.drop off).take n) else none
def getT (f : List AV) (t : Nat) : AV := f[t]?.getD .und
def Opd.ev (f : List AV) (gl : Nat → Option (List PV)) : Opd → AV
 | .t n => getT f n
 | .c a => a
 | .g n => match gl n with | some xs => .ro xs | none => .und
def intOp (op : BinOp) (k : IntKind) (a b : Int) : Option Value :=
 match op with
 | .add => some (.int k (k.wrap (a + b)))
 | .sub => some (.int k (k.wrap (a - b)))
 | .mul => some (.int k (k.wrap (a * b)))
 | .quo => if b = 0 then none else some (.int k (k.wrap (a.tdiv b)))
 | .rem => if b = 0 then none else some (.int k (a.tmod b))
 | .and => some (.int k (k.wrap (BitVec.ofInt k.bits a &&& BitVec.ofInt k.bits b).toNat))
 | .or => some (.int k (k.wrap (BitVec.ofInt k.bits a ||| BitVec.ofInt k.bits b).toNat))
 | .xor => some (.int k (k.wrap (BitVec.ofInt k.bits a ^^^ BitVec.ofInt k.bits b).toNat))
 | .andNot => some (.int k (k.wrap (BitVec.ofInt k.bits a &&& ~~~ BitVec.ofInt k.bits b).toNat))
 | .eql => some (.bool (a == b))
 | .neq => some (.bool (a != b))
 | .lss => some (.bool (a < b))
 | .leq => some (.bool (a ≤ b))
 | .gtr => some (.bool (a > b))
 | .geq => some (.bool (a ≥ b))
 | _ => none
def strOp (op : BinOp) (x y : ByteArray) : Option Value :=
 match op with
 | .add => if x.size + y.size ≤ 9223372036854775807 then some (.string (x ++ y)) else none
 | .eql => some (.bool (x.toList == y.toList))
 | .neq => some (.bool !(x.toList == y.toList))
 | .lss => some (.bool (Op.bytesLess x.toList y.toList))
 | .leq => some (.bool (Op.bytesLess x.toList y.toList || x.toList == y.toList))
 | .gtr => some (.bool !(Op.bytesLess x.toList y.toList || x.toList == y.toList))
 | .geq => some (.bool !(Op.bytesLess x.toList y.toList))
 | _ => none
def shiftOp (op : BinOp) (k : IntKind) (a b : Int) : Option Value :=
 if b < 0 then none else
 match op with
 | .shl => some (.int k (k.wrap (a * 2 ^ (min b.toNat k.bits))))
 | .shr => some (.int k (a.fdiv (2 ^ (min b.toNat k.bits))))
 | _ => none
def binV (op : BinOp) : Value → Value → Option Value
 | .int k a, .int k' b =>
  match op with
  | .shl => shiftOp .shl k a b
  | .shr => shiftOp .shr k a b
  | op => if k = k' then intOp op k a b else none
 | .string a, .string b => strOp op a b
 | _, _ => none
def eqV : Nat → Value → Value → Option Bool
 | 0, .bool a, .bool b => some (a == b)
 | 1, .int k a, .int k' b => if k = k' then some (a == b) else none
 | 2, .string a, .string b => some (a == b)
 | _, _, _ => none
def eqC : List Nat → List AV → List AV → Option Bool
 | [], [], [] => some true
 | k :: ks, .p (.val x) :: xs, .p (.val y) :: ys =>
  match eqV k x y, eqC ks xs ys with
  | some a, some b => some (a && b)
  | _, _ => none
 | _, _, _ => none
def unV (op : UnOp) : Value → Option Value
 | .int k n =>
  match op with
  | .neg => intOp .sub k 0 n
  | .xor => intOp .xor k (if k.signed then -1 else k.max) n
  | _ => none
 | .bool b => match op with | .not => some (.bool !b) | _ => none
 | _ => none
def zeroN : List ZC → Nat → List AV × List AB
 | [], _ => ([], [])
 | .z x :: zs, n => let (a, b) := zeroN zs n; (.p x :: a, b)
 | .r t size :: zs, n => let (a, b) := zeroN zs (n + 1); (.sl n 0 size 0 0 :: a, .row t size 0 [] :: b)
def fillA (f : List AV) (gl : Nat → Option (List PV)) : List AV → List (Nat × Nat × Opd) → Option (List AV)
 | cs, [] => some cs
 | cs, (off, size, x) :: r =>
  match cellsOf (x.ev f gl) with
  | some vs => if vs.length = size ∧ off + size ≤ cs.length then fillA f gl (splice cs off vs) r else none
  | none => none
def fillR (f : List AV) (gl : Nat → Option (List PV)) (size : Nat) : List (List AV) → List (Nat × Opd) → Option (List (List AV))
 | cs, [] => some cs
 | cs, (i, x) :: r =>
  match cellsOf (x.ev f gl) with
  | some vs => if vs.length = size ∧ i < cs.length then fillR f gl size (cs.set i vs) r else none
  | none => none
def pvs : List AV → Option (List PV)
 | [] => some []
 | .p x :: xs => (pvs xs).map (x :: ·)
 | _ => none
def pvr : List (List AV) → Option (List (List PV))
 | [] => some []
 | r :: rs => (pvs r).bind fun y => (pvr rs).map (y :: ·)
def oneOr (agg : Bool) (xs : List AV) : Option AV :=
 if agg then some (.agg xs) else match xs with | [x] => some x | _ => none
def loadA (h : List AB) (n : Nat) : AV → Option (List AV)
 | .ptr b off => match h[b]? with | some (.cells _ xs) => sub xs off n | _ => none
 | .ro xs => (sub xs 0 n).map (·.map .p)
 | .rp b gen size k off => match h[b]? with
  | some (.row _ s g rows) => if g = gen ∧ s = size then (rows[k]?).bind fun r => sub r off n else none
  | some (.frz s g rows) => if g = gen ∧ s = size then (rows[k]?).bind fun r => (sub r off n).map (·.map .p) else none
  | _ => none
 | _ => none
def storeA (h : List AB) (cs : List AV) : AV → Option (List AB)
 | .ptr b off => match h[b]? with
  | some (.cells t xs) => if off + cs.length ≤ xs.length then some (h.set b (.cells t (splice xs off cs))) else none
  | _ => none
 | .rp b gen size k off => match h[b]? with
  | some (.row t s g rows) =>
   if g = gen ∧ s = size then
    match rows[k]? with
    | some r => if off + cs.length ≤ r.length then some (h.set b (.row t s g (rows.set k (splice r off cs)))) else none
    | none => none
   else none
  | _ => none
 | _ => none
def rowsOf (h : List AB) (size : Nat) : AV → Option (List (List AV))
 | .sl b gen s off len =>
  if s = size then
   match h[b]? with
   | some (.row _ s' g rows) => if g = gen ∧ s' = s ∧ off + len ≤ rows.length then some ((rows.drop off).take len) else none
   | some (.frz s' g rows) => if g = gen ∧ s' = s ∧ off + len ≤ rows.length then some (((rows.drop off).take len).map (·.map .p)) else none
   | _ => none
  else none
 | .p (.lst s rows) => if s = size then some (rows.map (·.map .p)) else none
 | .p (.val (.slice none 0 0)) => some []
 | .p (.val (.slice (some _) 0 _)) => some []
 | .p (.val (.string s)) => if size = 1 then some (s.data.toList.map fun b => [vi .u8 b.toNat]) else none
 | _ => none
def lenA : AV → Option Nat
 | .sl _ _ _ _ len => some len
 | .p (.lst _ rows) => some rows.length
 | .p (.val (.slice none 0 0)) => some 0
 | _ => none
def bytesOf : List (List AV) → Option (List UInt8)
 | [] => some []
 | [.p (.val (.int .u8 n))] :: r => (bytesOf r).map (UInt8.ofNat n.toNat :: ·)
 | _ => none
def idx : AV → Option Int
 | .p (.val (.int _ n)) => some n
 | _ => none
def idxO (f : List AV) (gl : Nat → Option (List PV)) (d : Nat) : Option Opd → Option Int
 | none => some d
 | some o => idx (o.ev f gl)
def limit47 : Nat := 140737488355328
def appendA (h : List AB) (t : TypeId) (size bytes : Nat) (x : AV) (news : List (List AV)) : Option (AV × List AB) :=
 match x with
 | .sl b gen s off len =>
  if s = size ∧ off = 0 then
   match h[b]? with
   | some (.row t' s' g rows) =>
    if g = gen ∧ s' = size ∧ t' = t ∧ len ≤ rows.length ∧ (len + news.length) * bytes ≤ limit47 ∧ len + news.length ≤ limit47 then
     if len + news.length ≤ rows.length then
      some (.sl b gen size 0 (len + news.length), h.set b (.row t size g (splice rows len news)))
     else
      some (.sl b (gen + 1) size 0 (len + news.length), h.set b (.row t size (gen + 1) (rows.take len ++ news)))
    else none
   | _ => none
  else none
 | .p (.val (.slice none 0 0)) =>
  if news.length * bytes ≤ limit47 ∧ news.length ≤ limit47 then
   some (.sl h.length 0 size 0 news.length, h ++ [.row t size 0 news])
  else none
 | _ => none
def nilCk : AV → Option AV
 | .ptr b o => some (.ptr b o)
 | .ro xs => some (.ro xs)
 | .rp b g s k o => some (.rp b g s k o)
 | .fn f c => some (.fn f c)
 | .p (.val (.string s)) => some (.p (.val (.string s)))
 | .p (.val (.int k n)) => some (.p (.val (.int k n)))
 | _ => none
def ptrAdd (off : Nat) : AV → Option AV
 | .ptr b o => some (.ptr b (o + off))
 | .ro xs => some (.ro (xs.drop off))
 | .rp b g s k o => some (.rp b g s k (o + off))
 | _ => none
def eqK (agg : Bool) (ks : List Nat) (a b : AV) : Option Bool :=
 if isAggA a = agg ∧ isAggA b = agg then (cellsOf a).bind fun x => (cellsOf b).bind fun y => eqC ks x y else none
def findM (agg : Bool) (ks : List Nat) (k : AV) : List (AV × AV) → Nat → Option (Option Nat)
 | [], _ => some none
 | e :: es, i => match eqK agg ks k e.1 with
  | some true => some (some i)
  | some false => findM agg ks k es (i + 1)
  | none => none
def keyOk (agg : Bool) (ks : List Nat) (k : AV) : Bool :=
 match cellsOf k with
 | some cs => (isAggA k == agg) && cs.length.beq ks.length
 | none => false
def lkRes (ok : Bool) (v : AV) (found : Bool) : AV := if ok then .tup [v, vb found] else v
def lookM (agg : Bool) (ks : List Nat) (z : Option AV) (ok : Bool) (k : AV) (es : List (AV × AV)) : Option AV :=
 if keyOk agg ks k = true then
  match findM agg ks k es 0 with
  | some (some i) => (es[i]?).map fun e => lkRes ok e.2 true
  | some none => z.map fun v => lkRes ok v false
  | none => none
 else none
def enterM (agg : Bool) (ks : List Nat) (z : Option AV) (k : AV) (q : Nat) (es : List (AV × AV)) : Option (AV × List (AV × AV)) :=
 if keyOk agg ks k = true then
  match findM agg ks k es 0 with
  | some (some i) => (es[i]?).map fun e => (.tup [e.2, vi .i64 ((q + i : Nat) : Int)], es)
  | some none => z.map fun v => (.tup [v, vi .i64 ((q + es.length : Nat) : Int)], es ++ [(k, v)])
  | none => none
 else none
def putM (es : List (AV × AV)) (i : Nat) (v : AV) : Option (List (AV × AV)) := (es[i]?).map fun e => es.set i (e.1, v)
def updM (agg : Bool) (ks : List Nat) (k v : AV) (es : List (AV × AV)) : Option (List (AV × AV)) :=
 if keyOk agg ks k = true then
  match findM agg ks k es 0 with
  | some (some i) => putM es i v
  | some none => some (es ++ [(k, v)])
  | none => none
 else none
def mapAt (h : List AB) : AV → Option (Nat × Nat × List (AV × AV))
 | .mp b => match h[b]? with
  | some (.map q es) => some (b, q, es)
  | _ => none
 | _ => none
def frzRes (p : AV × List AB) : Option (AV × List AB) :=
 match p.1 with
 | .sl b gen s off len => match p.2[b]? with
  | some (.row _ s' g rows) => if g = gen ∧ s' = s ∧ off = 0 ∧ len ≤ rows.length then (pvr rows).map fun ys => (.p (.lst s (ys.take len)), p.2.set b .dead) else none
  | _ => none
 | _ => none
def fgA (deep : Bool) : AV → AV
 | .p x => .p (if deep then fgP x else tpP x)
 | x => x
def slXA (sz : Nat) (x : AV) (lo hi : Option Int) : Option AV :=
 match x with
 | .p (.lsx size rows more) => if size = sz then lo.bind fun l => hi.bind fun r =>
   if 0 ≤ l ∧ l ≤ r ∧ r ≤ rows.length + more.length then some (.p (.lst size (((rows ++ more).take r.toNat).drop l.toNat))) else none
   else none
 | _ => none
def lenX : AV → Nat
 | .p (.lsx _ rows _) => rows.length
 | _ => 0
def evI (gl : Nat → Option (List PV)) (f : List AV) (h : List AB) : Ins → Option (AV × List AB)
 | .mv x => some (x.ev f gl, h)
 | .nilrow t size => some (.sl h.length 0 size 0 0, h ++ [.row t size 0 []])
 | .pick c a b => match c.ev f gl with
  | .p (.val (.bool t)) => some (if t then a.ev f gl else b.ev f gl, h)
  | _ => none
 | .alloc t zs => let (a, b) := zeroN zs h.length; some (.ptr (h.length + b.length) 0, h ++ b ++ [.cells t a])
 | .box t x => (cellsOf (x.ev f gl)).map fun cs => (.ptr h.length 0, h ++ [.cells t cs])
 | .boxL x => (cellsOf (x.ev f gl)).bind fun cs => (pvs cs).map fun ys => (.ro ys, h)
 | .build zero parts => (fillA f gl (zero.map .p) parts).map fun cs => (.agg cs, h)
 | .buildR zs parts => (fillA f gl (zeroN zs h.length).1 parts).map fun cs => (.agg cs, h ++ (zeroN zs h.length).2)
 | .buildS t size zero len parts =>
  (fillR f gl size (List.replicate len (zero.map .p)) parts).map fun rows => (.sl h.length 0 size 0 len, h ++ [.row t size 0 rows])
 | .buildL size zero len parts =>
  (fillR f gl size (List.replicate len (zero.map .p)) parts).bind fun rows => (pvr rows).map fun ys => (.p (.lst size ys), h)
 | .load agg size x => (loadA h size (x.ev f gl)).bind fun cs => (oneOr agg cs).map (·, h)
 | .loadF deep agg size x => (loadA h size (x.ev f gl)).bind fun cs => (oneOr agg (cs.map (fgA deep))).map (·, h)
 | .store size a v => (cellsOf (v.ev f gl)).bind fun cs => if cs.length = size then (storeA h cs (a.ev f gl)).map (ud, ·) else none
 | .nilChk x => (nilCk (x.ev f gl)).map (·, h)
 | .bin op x y => match x.ev f gl, y.ev f gl with
  | .p (.val a), .p (.val b) => (binV op a b).map fun v => (AV.p (.val v), h)
  | _, _ => none
 | .eqA agg ks neg x y => if isAggA (x.ev f gl) = agg ∧ isAggA (y.ev f gl) = agg then (cellsOf (x.ev f gl)).bind fun a => (cellsOf (y.ev f gl)).bind fun b => (eqC ks a b).map fun t => (vb (if neg then !t else t), h) else none
 | .eqN neg x => match x.ev f gl with
  | .fn _ _ => some (vb neg, h)
  | .p (.val .nilFunc) => some (vb !neg, h)
  | _ => none
 | .eqI neg x => match x.ev f gl with
  | .anye => some (vb neg, h)
  | .p (.val .nilIface) => some (vb !neg, h)
  | _ => none
 | .eqS neg x => match x.ev f gl with
  | .p (.val (.slice none _ _)) => some (vb !neg, h)
  | .p (.val (.slice (some _) _ _)) => some (vb neg, h)
  | .p (.lst _ (_ :: _)) => some (vb neg, h)
  | .sl _ _ _ _ (_ + 1) => some (vb neg, h)
  | _ => none
 | .un op x => match x.ev f gl with
  | .p (.val a) => (unV op a).map fun v => (AV.p (.val v), h)
  | _ => none
 | .convI k x => (idx (x.ev f gl)).map fun n => (vi k (k.wrap n), h)
 | .convS x => (idx (x.ev f gl)).map fun n => (vs (Utf8.encode n), h)
 | .convB x => match x.ev f gl with
  | .p (.val (.string _)) => none
  | v => (rowsOf h 1 v).bind fun rows => (bytesOf rows).map fun l => (vs ⟨l.toArray⟩, h)
 | .mkB t x => match x.ev f gl with
  | .p (.val (.string s)) => if s.size ≤ limit47 then some (.sl h.length 0 1 0 s.size, h ++ [.row t 1 0 (s.data.toList.map fun b => [vi .u8 b.toNat])]) else none
  | _ => none
 | .mkfn g caps => some (.fn g (caps.map (·.ev f gl)), h)
 | .makeS t size bytes zero len cap => (idx (len.ev f gl)).bind fun l => (idx (cap.ev f gl)).bind fun c =>
  if 0 ≤ l ∧ l = c ∧ c * bytes ≤ limit47 ∧ c ≤ limit47 then
   some (.sl h.length 0 size 0 l.toNat, h ++ [.row t size 0 (List.replicate l.toNat (zero.map .p))])
  else none
 | .sliceS x lo hi => match x.ev f gl with
  | .p (.val (.string s)) => (idxO f gl 0 lo).bind fun l => (idxO f gl s.size hi).bind fun r =>
   if 0 ≤ l ∧ l ≤ r ∧ r ≤ s.size then some (vs (s.extract l.toNat r.toNat), h) else none
  | _ => none
 | .slice sz x lo hi => match x.ev f gl with
  | .sl b gen size off len => if size = sz then (idxO f gl 0 lo).bind fun l => (idxO f gl len hi).bind fun r =>
   match h[b]? with
   | some (.row _ _ g rows) =>
    if g = gen ∧ 0 ≤ l ∧ l ≤ r ∧ (r = 0 ∨ off + r.toNat ≤ rows.length ∧ off + len ≤ rows.length) then some (.sl b gen size (off + l.toNat) (r.toNat - l.toNat), h) else none
   | _ => none
   else none
  | .p (.lst size rows) => if size = sz then (idxO f gl 0 lo).bind fun l => (idxO f gl rows.length hi).bind fun r =>
   if 0 ≤ l ∧ l ≤ r ∧ r ≤ rows.length then some (.p (.lst size ((rows.take r.toNat).drop l.toNat)), h) else none
   else none
  | .p (.val (.slice none 0 0)) => (idxO f gl 0 lo).bind fun l => (idxO f gl 0 hi).bind fun r =>
   if l = 0 ∧ r = 0 then some (.p (.val nilS), h) else none
  | _ => none
 | .sliceX sz x lo hi => (slXA sz (x.ev f gl) (idxO f gl 0 lo) (idxO f gl (lenX (x.ev f gl)) hi)).map (·, h)
 | .fieldA off x => (ptrAdd off (x.ev f gl)).map (·, h)
 | .field agg off size x => match x.ev f gl with
  | .agg xs => (sub xs off size).bind fun cs => (oneOr agg cs).map (·, h)
  | _ => none
 | .indexA (some n) size x i => (idx (i.ev f gl)).bind fun k =>
  if 0 ≤ k ∧ k < n then (ptrAdd (k.toNat * size) (x.ev f gl)).map (·, h) else none
 | .indexA none size x i => (idx (i.ev f gl)).bind fun k => match x.ev f gl with
  | .sl b gen s off len => if s = size ∧ 0 ≤ k ∧ k < len then some (.rp b gen s (off + k.toNat) 0, h) else none
  | .p (.lst s rows) => if s = size ∧ 0 ≤ k then (rows[k.toNat]?).map fun r => (.ro r, h) else none
  | _ => none
 | .indexS x i => match x.ev f gl with
  | .p (.val (.string s)) => (idx (i.ev f gl)).bind fun k => if 0 ≤ k then (s.data.toList[k.toNat]?).map fun b => (vi .u8 b.toNat, h) else none
  | _ => none
 | .index agg n size x i => match x.ev f gl with
  | .agg xs => (idx (i.ev f gl)).bind fun k => if 0 ≤ k ∧ k < n then (sub xs (k.toNat * size) size).bind fun cs => (oneOr agg cs).map (·, h) else none
  | _ => none
 | .extract x i => match x.ev f gl with
  | .tup xs => (xs[i]?).map (·, h)
  | _ => none
 | .len x => (lenA (x.ev f gl)).map fun n => (vi .i64 n, h)
 | .lenS x => match x.ev f gl with
  | .p (.val (.string s)) => some (vi .i64 s.size, h)
  | _ => none
 | .append t size bytes _ x y => (rowsOf h size (y.ev f gl)).bind fun news => appendA h t size bytes (x.ev f gl) news
 | .appN t size bytes x y => match x.ev f gl with
  | .p (.val (.slice none 0 0)) => (rowsOf [] size (y.ev f gl)).bind fun news => if news.length * bytes ≤ limit47 ∧ news.length ≤ limit47 then some (.sl h.length 0 size 0 news.length, h ++ [.row t size 0 news]) else none
  | _ => none
 | .appF t size bytes x y => ((rowsOf h size (y.ev f gl)).bind fun news => appendA h t size bytes (x.ev f gl) news).bind frzRes
 | .min2 mx x y => match x.ev f gl, y.ev f gl with
  | .p (.val (.int k a)), .p (.val (.int _ b)) => some (vi k (if mx then (if a < b then b else a) else (if b < a then b else a)), h)
  | _, _ => none
 | .eqP neg x y => match x.ev f gl, y.ev f gl with
  | .ptr b o, .ptr b' o' => if b = b' ∧ o = o' then some (vb !neg, h) else none
  | .ptr _ _, .p (.val (.pointer none)) => some (vb neg, h)
  | .ro _, .p (.val (.pointer none)) => some (vb neg, h)
  | .rp _ _ _ _ _, .p (.val (.pointer none)) => some (vb neg, h)
  | .p (.val (.pointer none)), .p (.val (.pointer none)) => some (vb !neg, h)
  | _, _ => none
 | .cvU x => match x.ev f gl with
  | .ptr b o => match h[b]? with
   | some (.cells _ xs) => if o < xs.length then some (.ptr b o, h) else none
   | _ => none
  | _ => none
 | .cvP oks x => match x.ev f gl with
  | .ptr b o => match h[b]? with
   | some (.cells t xs) => if oks.contains (t, xs.length, o) then some (.ptr b o, h) else none
   | _ => none
  | _ => none
 | .ixb x y => match x.ev f gl, y.ev f gl with
  | .p (.val (.string s)), .p (.val (.int .u8 n)) => some (vi .i64 (firstIdx s n.toNat.toUInt8), h)
  | _, _ => none
 | .cnb x y => match x.ev f gl, y.ev f gl with
  | .p (.val (.string s)), .p (.val (.int .u8 n)) => some (vi .i64 ((s.data.toList.count n.toNat.toUInt8 : Nat) : Int), h)
  | _, _ => none
 | .capN x => match x.ev f gl with
  | .p (.val (.slice none 0 0)) => some (vi .i64 0, h)
  | _ => none
 | .mkNZ t x => match x.ev f gl with
  | .p (.val (.int .i64 n)) => if 0 ≤ n ∧ n ≤ limit47 then some (.sl h.length 0 1 0 n.toNat, h ++ [.row t 1 0 []]) else none
  | _ => none
 | .clrS s z x => match x.ev f gl with
  | .sl b gen size off len => match h[b]? with
   | some (.row t s' g rows) => if size = s ∧ g = gen ∧ s' = s ∧ off + len ≤ rows.length then some (.tup [], h.set b (.row t s' g (splice rows off (List.replicate len (z.map .p))))) else none
   | _ => none
  | _ => none
 | .clrM x => (mapAt h (x.ev f gl)).map fun r => (.tup [], h.set r.1 (.map (r.2.1 + r.2.2.length) []))
 | .cpy0 x y => match x.ev f gl, y.ev f gl with
  | .sl _ _ _ _ 0, .p (.val (.slice none 0 0)) => some (vi .i64 0, h)
  | _, _ => none
 | .slData x => match x.ev f gl with
  | .sl b gen size off len => match h[b]? with
   | some (.row _ s g _) => if g = gen ∧ s = size ∧ size = 1 ∧ off = 0 then some (if 0 < len then .rp b gen 1 0 0 else .anyp, h) else none
   | _ => none
  | _ => none
 | .uStr e x n => match x.ev f gl, n.ev f gl with
  | .rp b gen s k o, .p (.val (.int .i64 n)) => match h[b]? with
   | some (.row t s' g rows) =>
    if g = gen ∧ s = 1 ∧ s' = 1 ∧ t = e ∧ k = 0 ∧ o = 0 ∧ 0 < n ∧ n.toNat ≤ rows.length ∧ n ≤ 9223372036854775807 then
     (bytesOf (rows.take n.toNat)).map fun l => (vs ⟨l.toArray⟩, h.set b .dead)
    else none
   | _ => none
  | .anyp, .p (.val (.int .i64 n)) => if n = 0 then some (vs .empty, h) else none
  | _, _ => none
 | .mkMap => some (.mp h.length, h ++ [.map 0 []])
 | .lkUp ks agg vagg zero ok m k => match m.ev f gl with
  | .p (.val (.map none)) => if keyOk agg ks (k.ev f gl) = true then (oneOr vagg (zero.map .p)).map fun v => (lkRes ok v false, h) else none
  | x => (mapAt h x).bind fun r => (lookM agg ks (oneOr vagg (zero.map .p)) ok (k.ev f gl) r.2.2).map fun v => (v, h)
 | .mapEn ks agg vagg zero m k => (mapAt h (m.ev f gl)).bind fun r => (enterM agg ks (oneOr vagg (zero.map .p)) (k.ev f gl) r.2.1 r.2.2).map fun x => (x.1, h.set r.1 (.map r.2.1 x.2))
 | .mapUp ks agg m k v => (mapAt h (m.ev f gl)).bind fun r => (updM agg ks (k.ev f gl) (v.ev f gl) r.2.2).map fun x => (ud, h.set r.1 (.map r.2.1 x))
 | .entSt m s v => (mapAt h (m.ev f gl)).bind fun r => match s.ev f gl with
  | .p (.val (.int .i64 n)) => if (r.2.1 : Int) ≤ n then (putM r.2.2 (n.toNat - r.2.1) (v.ev f gl)).map fun x => (ud, h.set r.1 (.map r.2.1 x)) else none
  | _ => none
 | .call _ _ _ => none
 | .callX _ _ _ => none
mutual
def AV.ren (q : Nat → Nat) : AV → AV
 | .p x => .p x
 | .ro xs => .ro xs
 | .und => .und
 | .anyp => .anyp
 | .anye => .anye
 | .agg xs => .agg (rens q xs)
 | .tup xs => .tup (rens q xs)
 | .fn f xs => .fn f (rens q xs)
 | .ptr b o => .ptr (q b) o
 | .rp b g s k o => .rp (q b) g s k o
 | .sl b g s o l => .sl (q b) g s o l
 | .mp b => .mp (q b)
 | .yl b => .yl (q b)
def rens (q : Nat → Nat) : List AV → List AV
 | [] => []
 | x :: xs => x.ren q :: rens q xs
end
def AB.ren (q : Nat → Nat) : AB → AB
 | .cells t xs => .cells t (rens q xs)
 | .row t s g rows => .row t s g (rows.map (rens q))
 | .loop st p ps f a b => .loop st p ps (rens q f) a b
 | .map n es => .map n (es.map fun e => (e.1.ren q, e.2.ren q))
 | .frz s g rows => .frz s g rows
 | .dead => .dead
 | .hole => .hole
def AV.pure : AV → Bool
 | .p _ => true
 | .ro _ => true
 | .agg xs => pures xs
 | .tup xs => pures xs
 | .fn _ xs => pures xs
 | _ => false
where
 pures : List AV → Bool
 | [] => true
 | x :: xs => x.pure && pures xs
mutual
def PR (S : Nat → Prop) (w : World) : PV → Value → Prop
 | .val v, x => x = v
 | .lst size rows, x => ∃ A cap, x = .slice A rows.length cap ∧ rows.length ≤ cap ∧ cap ≤ maxLen ∧
   (rows.length = 0 ∨ ∃ b off, A = some ⟨b, off, none⟩ ∧ S b ∧ PRr S w b off size rows)
 | .lsx size rows more, x => ∃ A cap, x = .slice A rows.length cap ∧ rows.length + more.length ≤ cap ∧ cap ≤ maxLen ∧
   (∃ b off, A = some ⟨b, off, none⟩ ∧ S b ∧ PRr S w b off size rows ∧ PRr S w b (off + rows.length * size) size more)
def PRs (S : Nat → Prop) (w : World) (b : Nat) (off : Nat) : List PV → Prop
 | [] => True
 | x :: xs => (∃ u, w.cell? ⟨b, off, none⟩ = some u ∧ u.oneCell' = true ∧ PR S w x u) ∧ PRs S w b (off + 1) xs
def PRr (S : Nat → Prop) (w : World) (b : Nat) (off size : Nat) : List (List PV) → Prop
 | [] => True
 | r :: rs => r.length = size ∧ PRs S w b off r ∧ PRr S w b (off + size) size rs
end
structure G where
 S : Nat → Prop
 Pr : Nat → Prop
 N : Nat
 Ho : Nat → Prop
 m : Nat → Nat
 gen : Nat → Nat
 hd : Nat → Nat → Option (Nat × Nat)
 cr : IC → Code → Prop
def G.D (g : G) (b : Nat) : Prop := b < g.N ∧ ¬ g.Ho b
def SlR (size off len : Nat) (v : Value) : Option (Nat × Nat) → Prop
 | none => v = .slice none 0 0 ∧ off = 0 ∧ len = 0
 | some (c, cap) => off + len ≤ cap ∧ cap ≤ maxLen ∧ ∃ A, v = .slice A len (cap - off) ∧ (cap = off ∧ 0 < off ∨ A = some ⟨c, off * size, none⟩)
mutual
def VR (g : G) (w : World) : AV → Value → Prop
 | .p x, v => PR g.S w x v
 | .agg xs, v => ∃ cs, v = .agg cs ∧ VRs g w xs cs.toList
 | .tup xs, v => ∃ cs, v = .tuple cs ∧ VRs g w xs cs.toList
 | .ptr b off, v => g.D b ∧ v = .pointer (some ⟨g.m b, off, none⟩)
 | .ro xs, v => ∃ b off, v = .pointer (some ⟨b, off, none⟩) ∧ g.S b ∧ PRs g.S w b off xs
 | .rp b gen size k off, v => g.D b ∧ gen ≤ g.gen b ∧ ∃ c cap, g.hd b gen = some (c, cap) ∧ v = .pointer (some ⟨c, k * size + off, none⟩)
 | .sl b gen size off len, v => g.D b ∧ gen ≤ g.gen b ∧ SlR size off len v (g.hd b gen)
 | .mp b, v => g.D b ∧ v = .map (some (g.m b))
 | .yl b, v => g.D b ∧ v = .func (.yield (g.m b)) #[] #[]
 | .anyp, v => ∃ p, v = .pointer p
 | .anye, v => ∃ t p, v = .iface t p
 | .fn f caps, v => ∃ cs, v = .func (.func f) #[] cs ∧ VRs g w caps cs.toList
 | .und, _ => True
def VRs (g : G) (w : World) : List AV → List Value → Prop
 | [], [] => True
 | x :: xs, v :: vs => VR g w x v ∧ VRs g w xs vs
 | _, _ => False
end
def VRc (g : G) (w : World) (xs : List AV) (vs : List Value) : Prop := VRs g w xs vs ∧ ∀ v ∈ vs, v.oneCell' = true
def unfz (fz : Nat × Nat) (n : Nat) : Prop := ∀ j, j < n → ¬ (fz.1 ≤ j ∧ j < fz.2)
def cid (g : G) (b : Nat) : AB → Option Nat
 | .cells _ _ => some (g.m b)
 | .row _ _ gen _ => (g.hd b gen).map (·.1)
 | .loop .. => some (g.m b)
 | .map _ _ => some (g.m b)
 | .frz _ _ _ => none
 | .dead => none
 | .hole => none
def RowR (g : G) (w : World) (t : TypeId) (size : Nat) (rows : List (List AV)) : Option (Nat × Nat) → Prop
 | none => rows = []
 | some (c, cap) => ∃ cs fz, w.heap[c]? = some (.cells cs t fz) ∧ unfz fz cs.size ∧ cs.size = cap * size ∧ cap ≤ maxLen ∧
   rows.length ≤ cap ∧ VRc g w rows.flatten (cs.toList.take (rows.length * size))
def stOf : Nat → LoopState
 | 0 => .ready
 | 1 => .busy
 | _ => .done
def pendOf : Option (Option Nat) → Option Code
 | none => none
 | some none => some .ret
 | some (some id) => some (.exit id)
def FrzR (S : Nat → Prop) (w : World) (size : Nat) (rows : List (List PV)) : Option (Nat × Nat) → Prop
 | none => rows = []
 | some (c, cap) => S c ∧ rows.length ≤ cap ∧ cap ≤ maxLen ∧ PRr S w c 0 size rows
structure LoopR (g : G) (w : World) (st : Nat) (pend : Option (Option Nat)) (ps : List Nat) (f : List AV) (ia ib : IC) (rec : Loop) : Prop where
 st : rec.state = stOf st
 pend : rec.pending = pendOf pend
 ps : rec.params.toList = ps
 f : VRs g w f rec.tmps.toList
 ia : g.cr ia rec.assign
 ib : g.cr ib rec.body
def MpR (g : G) (w : World) : Nat → List (AV × AV) → List MapEntry → Prop
 | _, [], [] => True
 | i, x :: xs, e :: es => (VR g w x.1 e.key ∧ VR g w x.2 e.val ∧ e.born = i) ∧ MpR g w (i + 1) xs es
 | _, _, _ => False
def BR (g : G) (w : World) (b : Nat) : AB → Prop
 | .cells t xs => ∃ cs fz, w.heap[g.m b]? = some (.cells cs t fz) ∧ unfz fz cs.size ∧ VRc g w xs cs.toList
 | .row t size gen rows => g.gen b = gen ∧ (∀ r ∈ rows, r.length = size) ∧ RowR g w t size rows (g.hd b gen)
 | .loop st pend ps f ia ib => ∃ rec, w.heap[g.m b]? = some (.loop rec) ∧ LoopR g w st pend ps f ia ib rec
 | .map q es => ∃ arr, w.heap[g.m b]? = some (.map arr (q + es.length)) ∧ MpR g w q es arr.toList
 | .frz size gen rows => g.gen b = gen ∧ FrzR g.S w size rows (g.hd b gen)
 | .dead => True
 | .hole => True
structure HR (g : G) (h : List AB) (w : World) : Prop where
 n : g.N = h.length
 br : ∀ b x, h[b]? = some x → BR g w b x
 dis : ∀ b b' x x' c, h[b]? = some x → h[b']? = some x' → cid g b x = some c → cid g b' x' = some c → b = b'
 own : ∀ b x c, h[b]? = some x → cid g b x = some c → ¬ g.Pr c
 spr : ∀ c, g.S c → g.Pr c
 prs : ∀ c, g.Pr c → c < w.heap.size
 ho : ∀ b, g.Ho b ↔ h[b]? = some .hole
def GB (w : World) (n k : Nat) : Prop := ∃ cs t fz, w.heap[n]? = some (.cells cs t fz) ∧ cs.size = k
def GR (g : G) (w : World) (gl : Nat → Option (List PV)) : Prop := ∀ n xs, gl n = some xs → g.S n ∧ PRs g.S w n 0 xs ∧ GB w n xs.length
def dOk (C : IC → Code → Prop) : Prop := C .skip (.label 999999)
structure Ext (g : G) (w : World) (g' : G) (w' : World) : Prop where
 S : ∀ c, g.S c → g'.S c
 Pr : ∀ c, g.Pr c → g'.Pr c
 pr : ∀ c, g.Pr c → w'.heap[c]? = w.heap[c]?
 N : g.N ≤ g'.N
 D : ∀ b, g.D b → g'.D b
 m : ∀ b, g.D b → g'.m b = g.m b
 gen : ∀ b, g.D b → g.gen b ≤ g'.gen b
 hd : ∀ b, g.D b → ∀ k, k ≤ g.gen b → g'.hd b k = g.hd b k
 size : w.heap.size ≤ w'.heap.size
 os : w'.os = w.os
 tape : w'.tape = w.tape
 output : w'.output = w.output
 Sn : ∀ c, g'.S c → g.S c ∨ ¬ g.Pr c
 cr : g'.cr = g.cr
 drawn : dOk g.cr → w.drawn ≤ w'.drawn
theorem Ext.refl (g : G) (w : World) : Ext g w g w :=
 ⟨fun _ h => h, fun _ h => h, fun _ _ => rfl, Nat.le_refl _, fun _ h => h, fun _ _ => rfl, fun _ _ => Nat.le_refl _, fun _ _ _ _ => rfl, Nat.le_refl _, rfl, rfl, rfl, fun _ h => .inl h, rfl, by first | assumption | exact fun _ => (by first | assumption | exact Nat.le_refl _ | exact Nat.le_succ _)⟩
theorem Ext.trans {g g' g'' : G} {w w' w'' : World} (h : Ext g w g' w') (k : Ext g' w' g'' w'') : Ext g w g'' w'' :=
 ⟨fun c hc => k.S c (h.S c hc), fun c hc => k.Pr c (h.Pr c hc), fun c hc => (k.pr c (h.Pr c hc)).trans (h.pr c hc), Nat.le_trans h.N k.N,
   fun b hb => k.D b (h.D b hb),
   fun b hb => (k.m b (h.D b hb)).trans (h.m b hb),
   fun b hb => Nat.le_trans (h.gen b hb) (k.gen b (h.D b hb)),
   fun b hb n hn => (k.hd b (h.D b hb) n (Nat.le_trans hn (h.gen b hb))).trans (h.hd b hb n hn),
   Nat.le_trans h.size k.size, k.os.trans h.os, k.tape.trans h.tape, k.output.trans h.output,
   fun c hc => (k.Sn c hc).elim (h.Sn c) (fun hh => .inr (fun hp => hh (h.Pr c hp))), k.cr.trans h.cr, fun q => Nat.le_trans (h.drawn q) (k.drawn (by rw [h.cr]; exact q))⟩
theorem cell_same {w w' : World} {b off : Nat} (h : w'.heap[b]? = w.heap[b]?) : w'.cell? ⟨b, off, none⟩ = w.cell? ⟨b, off, none⟩ := by
 simp [World.cell?, h]
mutual
theorem PR_mono {S S' : Nat → Prop} {w w' : World} (hS : ∀ c, S c → S' c) (hw : ∀ c, S c → w'.heap[c]? = w.heap[c]?) : ∀ (x : PV) (v : Value), PR S w x v → PR S' w' x v
 | .val _, _, h => by simpa [PR] using h
 | .lst size rows, v, h => by
  simp only [PR] at h ⊢
  obtain ⟨A, cap, rfl, h1, h2, h3⟩ := h
  refine ⟨A, cap, rfl, h1, h2, ?_⟩
  rcases h3 with h3 | ⟨b, off, hA, hb, hr⟩
  ·exact .inl h3
  ·exact .inr ⟨b, off, hA, hS _ hb, PRr_mono hS hw b hb off size rows hr⟩
 | .lsx size rows more, v, h => by
  simp only [PR] at h ⊢
  obtain ⟨A, cap, rfl, h1, h2, b, off, hA, hb, hr, hm⟩ := h
  exact ⟨A, cap, rfl, h1, h2, b, off, hA, hS _ hb, PRr_mono hS hw b hb off size rows hr, PRr_mono hS hw b hb _ size more hm⟩
theorem PRs_mono {S S' : Nat → Prop} {w w' : World} (hS : ∀ c, S c → S' c) (hw : ∀ c, S c → w'.heap[c]? = w.heap[c]?) (b : Nat) (hb : S b) : ∀ (off : Nat) (xs : List PV), PRs S w b off xs → PRs S' w' b off xs
 | _, [], _ => by simp [PRs]
 | off, x :: xs, h => by
  simp only [PRs] at h ⊢
  obtain ⟨⟨u, hu, h1, hx⟩, hr⟩ := h
  exact ⟨⟨u, (cell_same (hw b hb)).trans hu, h1, PR_mono hS hw x u hx⟩, PRs_mono hS hw b hb (off + 1) xs hr⟩
theorem PRr_mono {S S' : Nat → Prop} {w w' : World} (hS : ∀ c, S c → S' c) (hw : ∀ c, S c → w'.heap[c]? = w.heap[c]?) (b : Nat) (hb : S b) : ∀ (off size : Nat) (rows : List (List PV)), PRr S w b off size rows → PRr S' w' b off size rows
 | _, _, [], _ => by simp [PRr]
 | off, size, r :: rs, h => by
  simp only [PRr] at h ⊢
  exact ⟨h.1, PRs_mono hS hw b hb off r h.2.1, PRr_mono hS hw b hb (off + size) size rs h.2.2⟩
end
theorem fgPs_len : ∀ (xs : List PV), (fgPs xs).length = xs.length
 | [] => rfl
 | x :: xs => by simp only [fgPs, List.length_cons, fgPs_len xs]
theorem fgPr_len : ∀ (xs : List (List PV)), (fgPr xs).length = xs.length
 | [] => rfl
 | x :: xs => by simp only [fgPr, List.length_cons, fgPr_len xs]
mutual
theorem fgP_rel {S : Nat → Prop} {w : World} : ∀ (x : PV) (v : Value), PR S w x v → PR S w (fgP x) v
 | .val x, v, h => by simpa only [fgP] using h
 | .lst s rows, v, h => by
  unfold fgP
  simp only [PR] at h ⊢
  obtain ⟨A, cap, h1, h2, h3, h4⟩ := h
  rw [fgPr_len]
  exact ⟨A, cap, h1, h2, h3, h4.imp_right fun ⟨b, off, m1, m2, m3⟩ => ⟨b, off, m1, m2, fgPr_rel rows b off s m3⟩⟩
 | .lsx s rows more, v, h => by
  unfold fgP
  simp only [PR] at h ⊢
  obtain ⟨A, cap, h1, h2, h3, b, off, m1, m2, m3, _⟩ := h
  rw [fgPr_len]
  exact ⟨A, cap, h1, by omega, h3, .inr ⟨b, off, m1, m2, fgPr_rel rows b off s m3⟩⟩
theorem fgPs_rel {S : Nat → Prop} {w : World} : ∀ (xs : List PV) (b off : Nat), PRs S w b off xs → PRs S w b off (fgPs xs)
 | [], _, _, h => by simp only [fgPs]; exact h
 | x :: xs, b, off, h => by
  simp only [PRs, fgPs] at h ⊢
  obtain ⟨⟨u, h1, h2, h3⟩, h4⟩ := h
  exact ⟨⟨u, h1, h2, fgP_rel x u h3⟩, fgPs_rel xs b (off + 1) h4⟩
theorem fgPr_rel {S : Nat → Prop} {w : World} : ∀ (rows : List (List PV)) (b off size : Nat), PRr S w b off size rows → PRr S w b off size (fgPr rows)
 | [], _, _, _, h => by simp only [fgPr]; exact h
 | r :: rs, b, off, size, h => by
  simp only [PRr, fgPr] at h ⊢
  exact ⟨by rw [fgPs_len]; exact h.1, fgPs_rel r b off h.2.1, fgPr_rel rs b (off + size) size h.2.2⟩
end
theorem tpP_rel {S : Nat → Prop} {w : World} (x : PV) (v : Value) (h : PR S w x v) : PR S w (tpP x) v := by
 cases x <;> try exact h
 simp only [tpP, PR] at h ⊢
 obtain ⟨A, cap, h1, h2, h3, b, off, m1, m2, m3, _⟩ := h
 exact ⟨A, cap, h1, by omega, h3, .inr ⟨b, off, m1, m2, m3⟩⟩
mutual
theorem VR_mono {g g' : G} {w w' : World} (he : Ext g w g' w') (hs : ∀ c, g.S c → g.Pr c) : ∀ (x : AV) (v : Value), VR g w x v → VR g' w' x v
 | .p x, v, h => by
  simp only [VR] at h ⊢
  exact PR_mono he.S (fun c hc => he.pr c (hs c hc)) x v h
 | .agg xs, v, h => by
  simp only [VR] at h ⊢
  obtain ⟨cs, rfl, h⟩ := h
  exact ⟨cs, rfl, VRs_mono he hs xs _ h⟩
 | .tup xs, v, h => by
  simp only [VR] at h ⊢
  obtain ⟨cs, rfl, h⟩ := h
  exact ⟨cs, rfl, VRs_mono he hs xs _ h⟩
 | .ptr b off, v, h => by
  simp only [VR] at h ⊢
  obtain ⟨hb, rfl⟩ := h
  exact ⟨he.D b hb, by rw [he.m b hb]⟩
 | .ro xs, v, h => by
  simp only [VR] at h ⊢
  obtain ⟨b, off, rfl, hb, hx⟩ := h
  exact ⟨b, off, rfl, he.S b hb, PRs_mono he.S (fun c hc => he.pr c (hs c hc)) b hb off xs hx⟩
 | .rp b gen size k off, v, h => by
  simp only [VR] at h ⊢
  obtain ⟨hb, hg, c, cap, hd, rfl⟩ := h
  exact ⟨he.D b hb, Nat.le_trans hg (he.gen b hb), c, cap, (he.hd b hb _ hg).trans hd, rfl⟩
 | .sl b gen size off len, v, h => by
  simp only [VR] at h ⊢
  obtain ⟨hb, hg, hr⟩ := h
  refine ⟨he.D b hb, Nat.le_trans hg (he.gen b hb), ?_⟩
  rw [he.hd b hb _ hg]
  exact hr
 | .mp b, v, h => by
  simp only [VR] at h ⊢
  obtain ⟨hb, rfl⟩ := h
  exact ⟨he.D b hb, by rw [he.m b hb]⟩
 | .yl b, v, h => by
  simp only [VR] at h ⊢
  obtain ⟨hb, rfl⟩ := h
  exact ⟨he.D b hb, by rw [he.m b hb]⟩
 | .fn f caps, v, h => by
  simp only [VR] at h ⊢
  obtain ⟨cs, rfl, h⟩ := h
  exact ⟨cs, rfl, VRs_mono he hs caps _ h⟩
 | .anyp, _, h => by simpa only [VR] using h
 | .anye, _, h => by simpa only [VR] using h
 | .und, _, _ => by simp [VR]
theorem VRs_mono {g g' : G} {w w' : World} (he : Ext g w g' w') (hs : ∀ c, g.S c → g.Pr c) : ∀ (xs : List AV) (vs : List Value), VRs g w xs vs → VRs g' w' xs vs
 | [], [], _ => by simp [VRs]
 | x :: xs, v :: vs, h => by
  simp only [VRs] at h ⊢
  exact ⟨VR_mono he hs x v h.1, VRs_mono he hs xs vs h.2⟩
 | [], _ :: _, h => by simp [VRs] at h
 | _ :: _, [], h => by simp [VRs] at h
end
theorem MpR_mono {g g' : G} {w w' : World} (he : Ext g w g' w') (hs : ∀ c, g.S c → g.Pr c) : ∀ (i : Nat) (xs : List (AV × AV)) (es : List MapEntry), MpR g w i xs es → MpR g' w' i xs es
 | _, [], [], h => h
 | i, x :: xs, e :: es, h => by
  simp only [MpR] at h ⊢
  exact ⟨⟨VR_mono he hs _ _ h.1.1, VR_mono he hs _ _ h.1.2.1, h.1.2.2⟩, MpR_mono he hs (i + 1) xs es h.2⟩
 | _, [], _ :: _, h => by simp [MpR] at h
 | _, _ :: _, [], h => by simp [MpR] at h
theorem VRc_mono {g g' : G} {w w' : World} (he : Ext g w g' w') (hs : ∀ c, g.S c → g.Pr c) {xs : List AV} {vs : List Value} (h : VRc g w xs vs) : VRc g' w' xs vs := ⟨VRs_mono he hs _ _ h.1, h.2⟩
section
variable {g : G} {w : World}
theorem VRs.len : ∀ {xs : List AV} {vs : List Value}, VRs g w xs vs → xs.length = vs.length
 | [], [], _ => rfl
 | _ :: _, _ :: _, h => by simp only [VRs] at h; simp [VRs.len h.2]
 | [], _ :: _, h => by simp [VRs] at h
 | _ :: _, [], h => by simp [VRs] at h
theorem VRs.get : ∀ {xs : List AV} {vs : List Value} {i : Nat} {x : AV}, VRs g w xs vs → xs[i]? = some x → ∃ v, vs[i]? = some v ∧ VR g w x v
 | x :: xs, v :: vs, 0, y, h, hi => by simp only [VRs] at h; simp at hi; subst hi; exact ⟨v, rfl, h.1⟩
 | x :: xs, v :: vs, i + 1, y, h, hi => by simp only [VRs] at h; simp at hi; obtain ⟨u, hu, hv⟩ := VRs.get h.2 hi; exact ⟨u, by simpa using hu, hv⟩
 | [], [], _, _, _, hi => by simp at hi
 | [], _ :: _, _, _, h, _ => by simp [VRs] at h
 | _ :: _, [], _, _, h, _ => by simp [VRs] at h
theorem VRs.set : ∀ {xs : List AV} {vs : List Value} {i : Nat} {x : AV} {v : Value}, VRs g w xs vs → VR g w x v → VRs g w (xs.set i x) (vs.set i v)
 | [], [], _, _, _, _, _ => by simp [VRs]
 | _ :: _, _ :: _, 0, _, _, h, hx => by simp only [VRs, List.set] at h ⊢; exact ⟨hx, h.2⟩
 | _ :: _, _ :: _, i + 1, _, _, h, hx => by simp only [VRs, List.set] at h ⊢; exact ⟨h.1, VRs.set h.2 hx⟩
 | [], _ :: _, _, _, _, h, _ => by simp [VRs] at h
 | _ :: _, [], _, _, _, h, _ => by simp [VRs] at h
theorem VRs.append : ∀ {xs ys : List AV} {vs us : List Value}, VRs g w xs vs → VRs g w ys us → VRs g w (xs ++ ys) (vs ++ us)
 | [], _, [], _, _, h => h
 | _ :: _, _, _ :: _, _, h, k => by simp only [VRs, List.cons_append] at h ⊢; exact ⟨h.1, VRs.append h.2 k⟩
 | [], _, _ :: _, _, h, _ => by simp [VRs] at h
 | _ :: _, _, [], _, h, _ => by simp [VRs] at h
theorem VRs.take : ∀ {xs : List AV} {vs : List Value} (n : Nat), VRs g w xs vs → VRs g w (xs.take n) (vs.take n)
 | [], [], _, _ => by simp [VRs]
 | _ :: _, _ :: _, 0, _ => by simp [VRs]
 | _ :: _, _ :: _, n + 1, h => by simp only [VRs, List.take_succ_cons] at h ⊢; exact ⟨h.1, VRs.take n h.2⟩
 | [], _ :: _, _, h => by simp [VRs] at h
 | _ :: _, [], _, h => by simp [VRs] at h
theorem VRs.drop : ∀ {xs : List AV} {vs : List Value} (n : Nat), VRs g w xs vs → VRs g w (xs.drop n) (vs.drop n)
 | [], [], _, _ => by simp [VRs]
 | _ :: _, _ :: _, 0, h => by simpa using h
 | _ :: _, _ :: _, n + 1, h => by simp only [VRs, List.drop_succ_cons] at h ⊢; exact VRs.drop n h.2
 | [], _ :: _, _, h => by simp [VRs] at h
 | _ :: _, [], _, h => by simp [VRs] at h
theorem VRs.splice {xs cs : List AV} {vs us : List Value} (off : Nat) (h : VRs g w xs vs) (k : VRs g w cs us) : VRs g w (splice xs off cs) (splice vs off us) := by
 unfold Vs.splice
 rw [k.len]
 exact ((h.take off).append k).append (h.drop _)
theorem VRs.sub {xs ys : List AV} {vs : List Value} {off n : Nat} (h : VRs g w xs vs) (hs : sub xs off n = some ys) :
  off + n ≤ vs.length ∧ VRs g w ys ((vs.drop off).take n) := by
 unfold Vs.sub at hs
 split at hs
 ·rename_i hle
  simp only [oiq] at hs
  subst hs
  exact ⟨by rw [← h.len]; exact hle, (h.drop off).take n⟩
 ·cases hs
theorem VRs.replicate {x : AV} {v : Value} (n : Nat) (h : VR g w x v) : VRs g w (List.replicate n x) (List.replicate n v) := by
 induction n with
 | zero => simp [VRs]
 | succ n ih => simp only [List.replicate_succ, VRs]; exact ⟨h, ih⟩
theorem VR_ud : VR g w ud undef := by simp [VR, PR]
end
theorem PRs_add {S : Nat → Prop} {w : World} {b : Nat} : ∀ {off n : Nat} {xs : List PV}, PRs S w b off xs → PRs S w b (off + n) (xs.drop n)
 | off, 0, xs, h => by simpa using h
 | off, n + 1, [], h => by simp [PRs]
 | off, n + 1, x :: xs, h => by
  simp only [PRs] at h
  have := PRs_add (n := n) h.2
  simpa [Nat.add_assoc, Nat.add_comm 1 n] using this
theorem PRr_get {S : Nat → Prop} {w : World} {b size : Nat} : ∀ {off i : Nat} {rows : List (List PV)} {r : List PV}, PRr S w b off size rows → rows[i]? = some r → r.length = size ∧ PRs S w b (off + i * size) r
 | off, 0, x :: xs, y, h, hi => by simp only [PRr] at h; simp at hi; subst hi; simpa using ⟨h.1, h.2.1⟩
 | off, i + 1, x :: xs, y, h, hi => by
  simp only [PRr] at h
  have := PRr_get h.2.2 (by simpa using hi)
  rw [Nat.add_mul, Nat.one_mul, Nat.add_comm (i * size) size, ← Nat.add_assoc]
  exact this
 | _, _, [], _, _, hi => by simp at hi
theorem PRr_take {S : Nat → Prop} {w : World} {b size : Nat} : ∀ {off n : Nat} {rows : List (List PV)}, PRr S w b off size rows → PRr S w b off size (rows.take n)
 | off, 0, _, h => by simp [PRr]
 | off, n + 1, [], h => by simp [PRr]
 | off, n + 1, x :: xs, h => by simp only [PRr, List.take_succ_cons] at h ⊢; exact ⟨h.1, h.2.1, PRr_take h.2.2⟩
theorem PRr_drop {S : Nat → Prop} {w : World} {b size : Nat} : ∀ {off n : Nat} {rows : List (List PV)}, PRr S w b off size rows → PRr S w b (off + n * size) size (rows.drop n)
 | off, 0, _, h => by simpa using h
 | off, n + 1, [], h => by simp [PRr]
 | off, n + 1, x :: xs, h => by
  simp only [PRr, List.drop_succ_cons] at h ⊢
  have := PRr_drop (n := n) h.2.2
  rw [Nat.add_mul, Nat.one_mul, Nat.add_comm (n * size) size, ← Nat.add_assoc]
  exact this
theorem fgA_rel {g : G} {w : World} {deep : Bool} {x : AV} {v : Value} (h : VR g w x v) : VR g w (fgA deep x) v := by
 cases x <;> try exact h
 simp only [fgA, VR] at h ⊢
 cases deep
 ·exact tpP_rel _ v h
 ·exact fgP_rel _ v h
theorem fgAs_rel {g : G} {w : World} {deep : Bool} : ∀ {xs : List AV} {vs : List Value}, VRs g w xs vs → VRs g w (xs.map (fgA deep)) vs
 | [], [], h => h
 | x :: xs, v :: vs, h => by simp only [List.map_cons, VRs] at h ⊢; exact ⟨fgA_rel h.1, fgAs_rel h.2⟩
 | [], _ :: _, h => by simp [VRs] at h
 | _ :: _, [], h => by simp [VRs] at h
theorem isOne_iff (v : Value) : v.oneCell' = isOne v := by cases v <;> rfl
theorem AV.one_val {g : G} {w : World} {x : AV} {v : Value} (h : VR g w x v) (h1 : x.one = true) : v.oneCell' = true := by
 cases x with
 | p x =>
  cases x with
  | val u => simp only [VR, PR] at h; subst h; rw [isOne_iff]; exact h1
  | lst s r => simp only [VR, PR] at h; obtain ⟨A, c, rfl, _⟩ := h; rfl
  | lsx s r m => simp only [VR, PR] at h; obtain ⟨A, c, rfl, _⟩ := h; rfl
 | agg xs => simp [AV.one] at h1
 | tup xs => simp [AV.one] at h1
 | und => simp [AV.one] at h1
 | ptr b o => simp only [VR] at h; obtain ⟨_, rfl⟩ := h; rfl
 | ro xs => simp only [VR] at h; obtain ⟨_, _, rfl, _⟩ := h; rfl
 | rp b g s k o => simp only [VR] at h; obtain ⟨_, _, _, _, _, rfl⟩ := h; rfl
 | sl b g s o l =>
  simp only [VR] at h
  obtain ⟨_, _, h⟩ := h
  unfold SlR at h
  split at h
  ·obtain ⟨rfl, _⟩ := h; rfl
  ·obtain ⟨_, _, A, rfl, _⟩ := h; rfl
 | mp b => simp only [VR] at h; obtain ⟨_, rfl⟩ := h; rfl
 | yl b => simp only [VR] at h; obtain ⟨_, rfl⟩ := h; rfl
 | anyp => simp only [VR] at h; obtain ⟨_, rfl⟩ := h; rfl
 | anye => simp only [VR] at h; obtain ⟨_, _, rfl⟩ := h; rfl
 | fn f c => simp only [VR] at h; obtain ⟨_, rfl, _⟩ := h; rfl
theorem VRs.ones {g : G} {w : World} : ∀ {xs : List AV} {vs : List Value}, VRs g w xs vs → xs.all AV.one = true → ∀ v ∈ vs, v.oneCell' = true
 | [], [], _, _ => by simp
 | x :: xs, v :: vs, h, h1 => by
  simp only [VRs] at h
  simp only [List.all_cons, Bool.and_eq_true] at h1
  intro u hu
  rcases List.mem_cons.1 hu with rfl | hu
  ·exact AV.one_val h.1 h1.1
  ·exact VRs.ones h.2 h1.2 u hu
 | [], _ :: _, h, _ => by simp [VRs] at h
 | _ :: _, [], h, _ => by simp [VRs] at h
theorem cells_of_one {v : Value} (h : v.oneCell' = true) : v.cells = #[v] := by
 cases v <;> first | rfl | (simp [Value.oneCell'] at h)
theorem cellsOf_rel {g : G} {w : World} {x : AV} {v : Value} {cs : List AV} (h : VR g w x v) (hc : cellsOf x = some cs) :
  VRs g w cs v.cells.toList ∧ (∀ u ∈ v.cells.toList, u.oneCell' = true) ∧ cs.all AV.one = true := by
 cases x with
 | agg xs =>
  simp only [cellsOf] at hc
  split at hc
  ·rename_i h1
   simp only [oiq] at hc
   subst hc
   simp only [VR] at h
   obtain ⟨cs, rfl, h⟩ := h
   exact ⟨h, VRs.ones h h1, h1⟩
  ·cases hc
 | _ =>
  simp only [cellsOf] at hc
  split at hc
  ·rename_i h1
   simp only [oiq] at hc
   subst hc
   have ho := AV.one_val h h1
   rw [cells_of_one ho]
   refine ⟨by simp only [VRs]; exact ⟨h, trivial⟩, by simpa using ho, by simp [h1]⟩
  ·cases hc
theorem HR.lt {g : G} {h : List AB} {w : World} (hr : HR g h w) {b : Nat} {x : AB} (hb : h[b]? = some x) : b < g.N := by
 rw [hr.n]
 exact (gei.1 hb).1
theorem heap_lt {w : World} {c : Nat} {o : Obj} (h : w.heap[c]? = some o) : c < w.heap.size := (Array.getElem?_eq_some_iff.1 h).1
theorem cid_lt {g : G} {h : List AB} {w : World} (hr : HR g h w) {b : Nat} {x : AB} {c : Nat} (hb : h[b]? = some x) (hc : cid g b x = some c) : c < w.heap.size := by
 have hx := hr.br b x hb
 cases x with
 | cells t xs =>
  simp only [cid, oiq] at hc
  subst hc
  simp only [BR] at hx
  obtain ⟨cs, fz, h1, _⟩ := hx
  exact heap_lt h1
 | row t size gen rows =>
  simp only [BR] at hx
  simp only [cid] at hc
  cases hh : g.hd b gen with
  | none => simp [hh] at hc
  | some p =>
   obtain ⟨c', cap⟩ := p
   simp only [hh, msm, oiq] at hc
   subst hc
   obtain ⟨_, _, hx⟩ := hx
   rw [hh] at hx
   simp only [RowR] at hx
   obtain ⟨cs, fz, h1, _⟩ := hx
   exact heap_lt h1
 | loop st pend ps f ia ib =>
  simp only [cid, oiq] at hc
  subst hc
  simp only [BR] at hx
  obtain ⟨rec, h1, _⟩ := hx
  exact heap_lt h1
 | map q es =>
  simp only [cid, oiq] at hc
  subst hc
  simp only [BR] at hx
  obtain ⟨arr, h1, _⟩ := hx
  exact heap_lt h1
 | frz size gen rows => simp [cid] at hc
 | dead => simp [cid] at hc
 | hole => simp [cid] at hc
theorem HR.d {g : G} {h : List AB} {w : World} (hr : HR g h w) {b : Nat} {x : AB} (hb : h[b]? = some x) (hx : x ≠ .hole) : g.D b := by
 refine ⟨hr.lt hb, fun e => hx ?_⟩
 have := (hr.ho b).1 e
 rw [hb] at this
 exact Option.some.inj this
theorem FrzR_mono {S S' : Nat → Prop} {w w' : World} (hS : ∀ c, S c → S' c) (hw : ∀ c, S c → w'.heap[c]? = w.heap[c]?) {size : Nat} {rows : List (List PV)} : ∀ {d : Option (Nat × Nat)}, FrzR S w size rows d → FrzR S' w' size rows d
 | none, h => h
 | some (c, cap), h => ⟨hS c h.1, h.2.1, h.2.2.1, PRr_mono hS hw c h.1 0 size rows h.2.2.2⟩
theorem BR_mono {g g' : G} {h : List AB} {w w' : World} (hr : HR g h w) (he : Ext g w g' w') {b : Nat} {x : AB} (hb : h[b]? = some x)
  (hg : g'.gen b = g.gen b) (hc : ∀ c, cid g b x = some c → w'.heap[c]? = w.heap[c]?) : BR g' w' b x := by
 have hx := hr.br b x hb
 have hlt : x ≠ .hole → g.D b := hr.d hb
 cases x with
 | cells t xs =>
  simp only [BR] at hx ⊢
  obtain ⟨cs, fz, h1, h2, h3⟩ := hx
  refine ⟨cs, fz, ?_, h2, VRc_mono he hr.spr h3⟩
  rw [he.m b (hlt (by simp)), hc _ rfl]
  exact h1
 | row t size gen rows =>
  simp only [BR] at hx ⊢
  obtain ⟨h1, h2, h3⟩ := hx
  refine ⟨hg.trans h1, h2, ?_⟩
  rw [he.hd b (hlt (by simp)) gen (by rw [h1]; exact Nat.le_refl _)]
  cases hh : g.hd b gen with
  | none => rw [hh] at h3; exact h3
  | some p =>
   obtain ⟨c, cap⟩ := p
   rw [hh] at h3
   simp only [RowR] at h3 ⊢
   obtain ⟨cs, fz, k1, k2, k3, k4, k5, k6⟩ := h3
   refine ⟨cs, fz, ?_, k2, k3, k4, k5, VRc_mono he hr.spr k6⟩
   rw [hc c (by simp [cid, hh])]
   exact k1
 | loop st pend ps f ia ib =>
  simp only [BR] at hx ⊢
  obtain ⟨rec, h1, k⟩ := hx
  refine ⟨rec, ?_, ⟨k.st, k.pend, k.ps, VRs_mono he hr.spr _ _ k.f, by rw [he.cr]; exact k.ia, by rw [he.cr]; exact k.ib⟩⟩
  rw [he.m b (hlt (by simp)), hc _ rfl]
  exact h1
 | map q es =>
  simp only [BR] at hx ⊢
  obtain ⟨arr, h1, h2⟩ := hx
  refine ⟨arr, ?_, MpR_mono he hr.spr _ _ _ h2⟩
  rw [he.m b (hlt (by simp)), hc _ rfl]
  exact h1
 | frz size gen rows =>
  simp only [BR] at hx ⊢
  refine ⟨hg.trans hx.1, ?_⟩
  rw [he.hd b (hlt (by simp)) gen (by rw [hx.1]; exact Nat.le_refl _)]
  exact FrzR_mono he.S (fun c hc => he.pr c (hr.spr c hc)) hx.2
 | dead => simp [BR]
 | hole => simp [BR]
theorem cid_mono {g g' : G} {w w' : World} (he : Ext g w g' w') {b : Nat} {x : AB} (hb : x ≠ .hole → g.D b) (hg : ∀ t s gen r, x = .row t s gen r → gen ≤ g.gen b) : cid g' b x = cid g b x := by
 cases x with
 | cells t xs => simp only [cid]; rw [he.m b (hb (by simp))]
 | row t s gen r => simp only [cid]; rw [he.hd b (hb (by simp)) gen (hg _ _ _ _ rfl)]
 | loop st pend ps f ia ib => simp only [cid]; rw [he.m b (hb (by simp))]
 | map q es => simp only [cid]; rw [he.m b (hb (by simp))]
 | frz size gen rows => rfl
 | dead => rfl
 | hole => rfl
theorem gen_of {g : G} {h : List AB} {w : World} (hr : HR g h w) {b : Nat} {x : AB} (hb : h[b]? = some x) : ∀ t s gen r, x = .row t s gen r → gen ≤ g.gen b := by
 rintro t s gen r rfl
 have := hr.br b _ hb
 simp only [BR] at this
 exact Nat.le_of_eq this.1.symm
theorem HR.push {g g' : G} {h : List AB} {w w' : World} (hr : HR g h w) (x : AB) (hN : g'.N = g.N + 1) (hS : g'.S = g.S) (hP : g'.Pr = g.Pr)
  (hm : ∀ b, b < g.N → g'.m b = g.m b) (hgen : ∀ b, b < g.N → g'.gen b = g.gen b) (hhd : ∀ b, b < g.N → g'.hd b = g.hd b)
  (hold : ∀ c, c < w.heap.size → w'.heap[c]? = w.heap[c]?) (hsz : w.heap.size ≤ w'.heap.size) (hos : w'.os = w.os) (hta : w'.tape = w.tape) (hou : w'.output = w.output)
  (hbr : BR g' w' g.N x) (hc : ∀ c, cid g' g.N x = some c → w.heap.size ≤ c) (hcr : g'.cr = g.cr := by rfl) (hHo : g'.Ho = g.Ho := by rfl) (hx : x ≠ .hole := by simp) (hdr : w.drawn ≤ w'.drawn := by first | assumption | exact Nat.le_refl _ | exact Nat.le_succ _) : Ext g w g' w' ∧ HR g' (h ++ [x]) w' := by
 have he : Ext g w g' w' := ⟨fun c hc => by rw [hS]; exact hc, fun c hc => by rw [hP]; exact hc, fun c hc => hold c (hr.prs c hc), by omega, fun b hb => ⟨by have := hb.1; omega, by rw [hHo]; exact hb.2⟩, fun b hb => hm b hb.1,
  fun b hb => Nat.le_of_eq (hgen b hb.1).symm, fun b hb k _ => by rw [hhd b hb.1], hsz, hos, hta, hou, fun c hc => .inl (by rw [hS] at hc; exact hc), hcr, fun _ => hdr⟩
 have hget : ∀ b y, (h ++ [x])[b]? = some y → (b < g.N ∧ h[b]? = some y) ∨ (b = g.N ∧ y = x) := by
  intro b y hb
  rw [List.getElem?_append] at hb
  split at hb
  ·rename_i hl
   exact .inl ⟨by rw [hr.n]; exact hl, hb⟩
  ·rename_i hl
   rw [← hr.n] at hb hl
   have : b = g.N := by
    rcases Nat.lt_or_ge g.N b with h' | h'
    ·have : b - g.N = (b - g.N - 1) + 1 := by omega
     rw [this] at hb; simp at hb
    ·omega
   subst this
   simp at hb
   exact .inr ⟨rfl, hb.symm⟩
 have hcold : ∀ b y c, b < g.N → h[b]? = some y → cid g' b y = some c → cid g b y = some c ∧ c < w.heap.size := by
  intro b y c hb hy hcy
  rw [cid_mono he (hr.d hy) (gen_of hr hy)] at hcy
  exact ⟨hcy, cid_lt hr hy hcy⟩
 refine ⟨he, ⟨by rw [hN, hr.n]; simp, ?_, ?_, ?_, ?_, ?_, ?_⟩⟩
 ·intro b y hb
  rcases hget b y hb with ⟨h1, h2⟩ | ⟨rfl, rfl⟩
  ·exact BR_mono hr he h2 (hgen b h1) (fun c hc => hold c (cid_lt hr h2 hc))
  ·exact hbr
 ·intro b b' y y' c hb hb' hcy hcy'
  rcases hget b y hb with ⟨h1, h2⟩ | ⟨rfl, rfl⟩ <;> rcases hget b' y' hb' with ⟨k1, k2⟩ | ⟨rfl, rfl⟩
  ·exact hr.dis b b' y y' c h2 k2 (hcold b y c h1 h2 hcy).1 (hcold b' y' c k1 k2 hcy').1
  ·have := (hcold b y c h1 h2 hcy).2
   have := hc c hcy'
   omega
  ·have := (hcold b' y' c k1 k2 hcy').2
   have := hc c hcy
   omega
  ·rfl
 ·intro b y c hb hcy
  rw [hP]
  rcases hget b y hb with ⟨h1, h2⟩ | ⟨rfl, rfl⟩
  ·exact hr.own b y c h2 (hcold b y c h1 h2 hcy).1
  ·intro hp
   have := hr.prs c hp
   have := hc c hcy
   omega
 ·intro c; rw [hS, hP]; exact hr.spr c
 ·intro c; rw [hP]; intro h; exact Nat.lt_of_lt_of_le (hr.prs c h) hsz
 ·intro b
  rw [hHo, hr.ho]
  constructor
  ·intro hb
   rw [List.getElem?_append_left (gei.1 hb).1]
   exact hb
  ·intro hb
   rcases hget b _ hb with ⟨_, h2⟩ | ⟨_, e⟩
   ·exact h2
   ·exact absurd e.symm hx
theorem HR.upd {g g' : G} {h : List AB} {w w' : World} (hr : HR g h w) {b : Nat} {x x' : AB} (hb : h[b]? = some x) (he : Ext g w g' w') (hN : g'.N = g.N)
  (hS : g'.S = g.S) (hP : g'.Pr = g.Pr) (hgen : ∀ b', b' ≠ b → g'.gen b' = g.gen b')
  (hold : ∀ c, c < w.heap.size → cid g b x ≠ some c → w'.heap[c]? = w.heap[c]?)
  (hbr : BR g' w' b x') (hc : ∀ c, cid g' b x' = some c → cid g b x = some c ∨ w.heap.size ≤ c) (hHo : g'.Ho = g.Ho := by rfl) (hx0 : x ≠ .hole := by simp) (hx : x' ≠ .hole := by simp) : HR g' (h.set b x') w' := by
 have hblt : b < h.length := (gei.1 hb).1
 have hget : ∀ b' y, (h.set b x')[b']? = some y → (b' ≠ b ∧ h[b']? = some y) ∨ (b' = b ∧ y = x') := by
  intro b' y hy
  rw [List.getElem?_set] at hy
  split at hy
  ·rename_i e
   subst e
   simp only [hblt, if_true, oiq] at hy
   exact .inr ⟨rfl, hy.symm⟩
  ·rename_i e
   exact .inl ⟨fun h => e h.symm, hy⟩
 have hcold : ∀ b' y c, h[b']? = some y → cid g' b' y = some c → cid g b' y = some c := by
  intro b' y c hy hcy
  rwa [cid_mono he (hr.d hy) (gen_of hr hy)] at hcy
 refine ⟨by rw [hN, hr.n]; simp, ?_, ?_, ?_, ?_, ?_, ?_⟩
 ·intro b' y hy
  rcases hget b' y hy with ⟨h1, h2⟩ | ⟨rfl, rfl⟩
  ·refine BR_mono hr he h2 (hgen b' h1) (fun c hc => hold c (cid_lt hr h2 hc) (fun e => h1 (hr.dis b' b y x c h2 hb hc e)))
  ·exact hbr
 ·intro b1 b2 y1 y2 c h1 h2 hc1 hc2
  rcases hget b1 y1 h1 with ⟨k1, k2⟩ | ⟨rfl, rfl⟩ <;> rcases hget b2 y2 h2 with ⟨l1, l2⟩ | ⟨rfl, rfl⟩
  ·exact hr.dis b1 b2 y1 y2 c k2 l2 (hcold _ _ _ k2 hc1) (hcold _ _ _ l2 hc2)
  ·have k := hcold _ _ _ k2 hc1
   rcases hc c hc2 with e | e
   ·exact hr.dis b1 b2 y1 x c k2 hb k e
   ·have := cid_lt hr k2 k
    omega
  ·have k := hcold _ _ _ l2 hc2
   rcases hc c hc1 with e | e
   ·exact hr.dis b1 b2 x y2 c hb l2 e k
   ·have := cid_lt hr l2 k
    omega
  ·rfl
 ·intro b' y c hy hcy
  rw [hP]
  rcases hget b' y hy with ⟨h1, h2⟩ | ⟨rfl, rfl⟩
  ·exact hr.own b' y c h2 (hcold _ _ _ h2 hcy)
  ·intro hp
   rcases hc c hcy with e | e
   ·exact hr.own b' x c hb e hp
   ·have := hr.prs c hp
    omega
 ·intro c; rw [hS, hP]; exact hr.spr c
 ·intro c; rw [hP]; intro h; exact Nat.lt_of_lt_of_le (hr.prs c h) he.size
 ·intro b'
  rw [hHo, hr.ho]
  constructor
  ·intro hb'
   rw [List.getElem?_set, if_neg]
   ·exact hb'
   ·rintro rfl
    rw [hb] at hb'
    exact hx0 (Option.some.inj hb')
  ·intro hb'
   rcases hget b' _ hb' with ⟨_, h2⟩ | ⟨_, e⟩
   ·exact h2
   ·exact absurd e.symm hx
theorem add_addr (b off i : Nat) : (⟨b, off, none⟩ : Addr).add i = ⟨b, off + i, none⟩ := by
 unfold Addr.add
 split <;> simp_all
theorem run_loadCells' {P : Program} {w : World} {b off : Nat} {cs : Array Value} {t : TypeId} {fz : Nat × Nat} (h : w.heap[b]? = some (.cells cs t fz)) (n : Nat) (hn : off + n ≤ cs.size) :
  (loadCells ⟨b, off, none⟩ n).run P w = .ok ((cs.toList.drop off).take n).toArray w := by
 have hl : ((cs.toList.drop off).take n).length = n := by simp; omega
 have := run_loadCells_list (P := P) w ⟨b, off, none⟩ ((cs.toList.drop off).take n) (by
  intro j v hj
  rw [add_addr]
  simp only [World.cell?, h]
  rw [List.getElem?_take] at hj
  split at hj
  ·simpa [List.getElem?_drop] using hj
  ·cases hj)
 rwa [hl] at this
theorem PRs_cells {S : Nat → Prop} {w : World} {b : Nat} : ∀ {off : Nat} {xs : List PV}, PRs S w b off xs →
  ∃ vs : List Value, vs.length = xs.length ∧ (∀ j v, vs[j]? = some v → w.cell? ⟨b, off + j, none⟩ = some v) ∧ ∀ (g : G), g.S = S → VRc g w (xs.map .p) vs
 | off, [], _ => ⟨[], rfl, by simp, fun _ _ => by simp [VRc, VRs]⟩
 | off, x :: xs, h => by
  simp only [PRs] at h
  obtain ⟨⟨u, hu, hone, hx⟩, hr⟩ := h
  obtain ⟨vs, h1, h2, h3⟩ := PRs_cells hr
  refine ⟨u :: vs, by simp [h1], ?_, ?_⟩
  ·intro j v hj
   cases j with
   | zero => simp at hj; subst hj; exact hu
   | succ j =>
    have := h2 j v (by simpa using hj)
    simpa [Nat.add_assoc, Nat.add_comm 1 j] using this
  ·rintro g rfl
   have h4 := h3 g rfl
   refine ⟨?_, ?_⟩
   ·simp only [List.map_cons, VRs, VR]
    exact ⟨hx, h4.1⟩
   ·intro v hv
    rcases List.mem_cons.1 hv with rfl | hv
    ·exact hone
    ·exact h4.2 v hv
def setRow' (w : World) (c : Nat) (cs : Array Value) (t : TypeId) (fz : Nat × Nat) : World := { w with heap := w.heap.setIfInBounds c (.cells cs t fz) }
theorem setRow'_same {w : World} {c : Nat} {cs : Array Value} {t : TypeId} {fz : Nat × Nat} (h : c < w.heap.size) : (setRow' w c cs t fz).heap[c]? = some (.cells cs t fz) := by
 simp [setRow', h]
theorem setRow'_other {w : World} {c k : Nat} {cs : Array Value} {t : TypeId} {fz : Nat × Nat} (h : c ≠ k) : (setRow' w c cs t fz).heap[k]? = w.heap[k]? := by
 simp [setRow', Array.getElem?_setIfInBounds, h]
theorem setRow'_size {w : World} {c : Nat} {cs : Array Value} {t : TypeId} {fz : Nat × Nat} : (setRow' w c cs t fz).heap.size = w.heap.size := by
 simp [setRow']
theorem setRow'_twice {w : World} {c : Nat} {cs cs' : Array Value} {t : TypeId} {fz : Nat × Nat} : setRow' (setRow' w c cs t fz) c cs' t fz = setRow' w c cs' t fz := by
 simp [setRow']
theorem setRow'_self {w : World} {c : Nat} {cs : Array Value} {t : TypeId} {fz : Nat × Nat} (h : w.heap[c]? = some (.cells cs t fz)) : setRow' w c cs t fz = w := by
 have hlt := heap_lt h
 cases w with
 | mk heap tape drawn os output =>
  simp only [setRow']
  congr 1
  apply Array.ext_getElem?
  intro k
  simp only [Array.getElem?_setIfInBounds]
  split
  ·rename_i e; subst e; exact h.symm
  ·rfl
theorem setCell_eq' {w : World} {c : Nat} {cs : Array Value} {t : TypeId} {fz : Nat × Nat} (h : w.heap[c]? = some (.cells cs t fz)) (i : Nat) (v : Value) :
  w.setCell ⟨c, i, none⟩ v = setRow' w c (cs.setIfInBounds i v) t fz := by
 unfold World.setCell setRow'
 congr 1
 apply Array.ext_getElem?
 intro k
 simp only [Array.getElem?_modify, Array.getElem?_setIfInBounds]
 split
 ·rename_i e
  subst e
  rw [h, if_pos (heap_lt h)]
  simp
 ·rfl
theorem splice_cons {α : Type} (l : List α) (k : Nat) (v : α) (rest : List α) (hk : k + (rest.length + 1) ≤ l.length) :
  splice (l.set k v) (k + 1) rest = splice l k (v :: rest) := by
 unfold splice
 have h1 : (l.set k v).take (k + 1) = l.take k ++ [v] := by
  apply List.ext_getElem?
  intro j
  simp only [List.getElem?_take, List.getElem?_set, List.getElem?_append, List.length_take]
  by_cases hj : j < k
  ·have : min k l.length = k := by omega
   simp [hj, this, Nat.ne_of_gt hj]
   omega
  ·by_cases hj2 : j = k
   ·subst hj2
    have : min j l.length = j := by omega
    have hjl : j < l.length := by omega
    simp [this, hjl]
   ·have : min k l.length = k := by omega
    have h3 : ¬ j < k + 1 := by omega
    simp [hj, this, h3]
    omega
 have h2 : (l.set k v).drop (k + 1 + rest.length) = l.drop (k + (rest.length + 1)) := by
  apply List.ext_getElem?
  intro j
  simp only [List.getElem?_drop, List.getElem?_set]
  have : ¬ k = k + 1 + rest.length + j := by omega
  simp [this]
  congr 1
  omega
 rw [h1, h2]
 simp
theorem splice_length {α : Type} {xs cs : List α} {off : Nat} (h : off + cs.length ≤ xs.length) : (splice xs off cs).length = xs.length := by
 simp [splice]; omega
theorem run_storeCells' {P : Program} {c off : Nat} {t : TypeId} {fz : Nat × Nat} : ∀ (vs : List Value) (i : Nat) (cs : Array Value) (w : World), w.heap[c]? = some (.cells cs t fz) → unfz fz cs.size →
  off + i + vs.length ≤ cs.size → (∀ v ∈ vs, v.oneCell' = true) →
  (storeCells ⟨c, off, none⟩ vs i).run P w = .ok () (setRow' w c (splice cs.toList (off + i) vs).toArray t fz)
 | [], i, cs, w, hg, _, _, _ => by
  simp only [storeCells, splice, List.append_nil, List.length_nil, Nat.add_zero, List.take_append_drop, Array.toArray_toList]
  rw [setRow'_self hg]
  rfl
 | v :: rest, i, cs, w, hg, hz, hl, h1 => by
  have hi : off + i < cs.size := by simp at hl; omega
  have hcell : w.cell? ⟨c, off + i, none⟩ = some cs[off + i] := by simp [World.cell?, hg, hi]
  have hfro : w.frozen? ⟨c, off + i, none⟩ = false := by
   have := hz (off + i) hi
   simp [World.frozen?, hg]
   omega
  have hst : (store ((⟨c, off, none⟩ : Addr).add i) v).run P w = .ok () (setRow' w c (cs.setIfInBounds (off + i) v) t fz) := by
   rw [add_addr, run_store P w _ v _ (h1 v (by simp)), hcell]
   simp [hfro, setCell_eq' hg]
  have hlt := heap_lt hg
  have hl' : off + (i + 1) + rest.length ≤ (cs.setIfInBounds (off + i) v).size := by
   rw [Array.size_setIfInBounds]; simp only [List.length_cons] at hl; omega
  have hg' : (setRow' w c (cs.setIfInBounds (off + i) v) t fz).heap[c]? = some (.cells (cs.setIfInBounds (off + i) v) t fz) := setRow'_same hlt
  have hz' : unfz fz (cs.setIfInBounds (off + i) v).size := fun j hj => hz j (by simpa using hj)
  have ih := run_storeCells' (P := P) rest (i + 1) _ _ hg' hz' hl' (fun x hx => h1 x (by simp [hx]))
  simp only [storeCells, Sem.run_bind, hst, Result.andThen_ok]
  rw [ih, setRow'_twice]
  congr 3
  have e := splice_cons cs.toList (off + i) v rest (by simp at hl ⊢; omega)
  simpa [Array.toList_setIfInBounds, Nat.add_assoc] using e
def constA : Value → AV
 | .agg cs => .agg (cs.toList.map fun v => .p (.val v))
 | v => .p (.val v)
theorem constA_rel {g : G} {w : World} (v : Value) : VR g w (constA v) v := by
 have key : ∀ l : List Value, VRs g w (l.map fun v => AV.p (.val v)) l := by
  intro l
  induction l with
  | nil => simp [VRs]
  | cons x l ih => simp only [List.map_cons, VRs, VR, PR]; exact ⟨trivial, ih⟩
 cases v <;> first | (simp only [constA, VR, PR]; done) | (simp only [constA, VR]; exact ⟨_, rfl, key _⟩)
def opd : Operand → Opd
 | .tmp t => .t t
 | .const v => .c (constA v)
 | .global g => .g g
 | .func f => .c (.fn f [])
def szT (P : Program) (t : TypeId) : Option Nat := (P.info? t).map (·.size)
def byT (P : Program) (t : TypeId) : Option Nat := (P.info? t).map (·.bytes)
def isAggD : TypeDesc → Bool
 | .struct _ => true
 | .array _ _ => true
 | _ => false
def aggT (P : Program) (t : TypeId) : Option Bool := (P.underlying t).map isAggD
def zeroT (P : Program) (t : TypeId) : Option (List Value) := ((P.info? t).bind (·.zero)).bind fun v => if v.cells.toList.all isOne then some v.cells.toList else none
def slSizes (P : Program) : Nat → TypeId → List (Nat × TypeId)
 | 0, _ => []
 | n + 1, t =>
  match P.underlying t with
  | some (.struct fs) => fs.toList.flatMap fun f => slSizes P n f.type
  | some (.array len e) => (List.replicate len (slSizes P n e)).flatten
  | some (.slice e) => [((szT P e).getD 0, e)]
  | _ => [(0, 0)]
def zc (v : Value) (s : Nat × TypeId) : ZC :=
 match v with
 | .slice none 0 0 => if s.1 = 0 then .z (.val nilS) else .r s.2 s.1
 | v => .z (.val v)
def ZC.plain : ZC → Value
 | .z (.val v) => v
 | .z (.lst _ _) => undef
 | .z (.lsx _ _ _) => undef
 | .r _ _ => nilS
def zcs : List Value → List (Nat × TypeId) → List ZC
 | [], _ => []
 | v :: vs, [] => .z (.val v) :: zcs vs []
 | v :: vs, s :: ss => zc v s :: zcs vs ss
def zp (v : Value) (s : Nat × TypeId) : PV :=
 match v with
 | .slice none 0 0 => if s.1 = 0 then .val nilS else .lst s.1 []
 | v => .val v
def zps : List Value → List (Nat × TypeId) → List PV
 | [], _ => []
 | v :: vs, [] => .val v :: zps vs []
 | v :: vs, s :: ss => zp v s :: zps vs ss
def plainKs (P : Program) (rec : TypeId → Option (List Nat)) : List Field → Nat → Option (List Nat)
 | [], _ => some []
 | f :: fs, off =>
  match rec f.type with
  | some ks => if f.name ≠ "_" ∧ f.offset = off ∧ szT P f.type = some ks.length then (plainKs P rec fs (off + ks.length)).map (ks ++ ·) else none
  | none => none
def plainK (P : Program) : Nat → TypeId → Option (List Nat)
 | 0, _ => none
 | n + 1, t =>
  match P.underlying t with
  | some .bool => if szT P t = some 1 then some [0] else none
  | some (.int _) => if szT P t = some 1 then some [1] else none
  | some .string => if szT P t = some 1 then some [2] else none
  | some (.struct fs) =>
   match plainKs P (plainK P n) fs.toList 0 with
   | some ks => if P.stoodInHeld t = false ∧ szT P t = some ks.length then some ks else none
   | none => none
  | some (.array len e) =>
   match plainK P n e with
   | some ks => if szT P e = some ks.length ∧ szT P t = some (len * ks.length) then some (List.replicate len ks).flatten else none
   | none => none
  | _ => none
def compParts (P : Program) (fields : Array Field) : List (Nat × Operand) → Option (List (Nat × Nat × Opd))
 | [] => some []
 | (i, x) :: r =>
  match fields[i]? with
  | some f => match szT P f.type, compParts P fields r with
   | some s, some l => some ((f.offset, s, opd x) :: l)
   | _, _ => none
  | none => none
def isNilF : Operand → Bool
 | .const .nilFunc => true
 | _ => false
def isNilI : Operand → Bool
 | .const .nilIface => true
 | _ => false
def isNilS : Operand → Bool
 | .const (.slice none 0 0) => true
 | _ => false
def compEq (P : Program) (op : BinOp) (xt : TypeId) (x y : Operand) : Option Ins :=
 match P.underlying xt with
 | some (.int _) => some (.bin op (opd x) (opd y))
 | some .string => some (.bin op (opd x) (opd y))
 | some .bool => (plainK P 40 xt).map fun ks => .eqA false ks (op == .neq) (opd x) (opd y)
 | some (.struct _) => if P.eqGuardType P.depth xt then none else (plainK P 40 xt).map fun ks => .eqA true ks (op == .neq) (opd x) (opd y)
 | some (.array _ _) => if P.eqGuardType P.depth xt then none else (plainK P 40 xt).map fun ks => .eqA true ks (op == .neq) (opd x) (opd y)
 | some (.func _ _ _) => if isNilF y then some (.eqN (op == .neq) (opd x)) else none
 | some (.slice _) => if isNilS y then some (.eqS (op == .neq) (opd x)) else none
 | some (.interface _) => if isNilI y then some (.eqI (op == .neq) (opd x)) else none
 | some (.pointer te) => if (P.info? te).isSome then some (.eqP (op == .neq) (opd x) (opd y)) else none
 | _ => none
def compBin (P : Program) (op : BinOp) (xt : TypeId) (x y : Operand) : Option Ins :=
 match op with
 | .eql => compEq P .eql xt x y
 | .neq => compEq P .neq xt x y
 | op => some (.bin op (opd x) (opd y))
def zeroA (P : Program) (t : TypeId) : Option (Bool × List Value) :=
 ((P.info? t).bind (·.zero)).bind fun v => match v with
  | .agg cs => if cs.toList.all isOne then some (true, cs.toList) else none
  | v => if isOne v then some (false, [v]) else none
def compMap (P : Program) (t : TypeId) : Option (List Nat × Bool × Bool × List Value) :=
 match P.underlying t with
 | some (.map kt et) => match plainK P 40 kt, aggT P kt, zeroA P et with
  | some ks, some agg, some z => some (ks, agg, z.1, z.2)
  | _, _, _ => none
 | _ => none
def slM (P : Program) (t : TypeId) : List (Nat × TypeId) :=
 match P.underlying t with
 | some (.map _ et) => slSizes P 40 et
 | _ => []
def oksOf (P : Program) (u : TypeId) : List (TypeId × Nat × Nat) :=
 ((u, (szT P u).getD 0, 0) :: (List.range P.types.size).flatMap fun t => match P.underlying t with
  | some (.struct fs) => (fs.toList.filter fun fd => fd.type == u).map fun fd => (t, (szT P t).getD 0, fd.offset)
  | _ => []).filter fun q => liesAt P P.depth q.1 (q.2.1 / P.cellsOf q.1) q.2.2 u 1
def compConv (P : Program) (src dst : TypeId) (x : Operand) : Option Ins :=
 match P.underlying src, P.underlying dst with
 | some (.int _), some (.int k) => some (.convI k (opd x))
 | some (.int _), some .string => some (.convS (opd x))
 | some (.slice e), some .string => match P.underlying e with
  | some (.int .u8) => if szT P e == some 1 then some (.convB (opd x)) else none
  | _ => none
 | some .string, some (.slice e) => match P.underlying e with
  | some (.int .u8) => if szT P e == some 1 then some (.mkB e (opd x)) else none
  | _ => none
 | some (.pointer t), some .unsafePointer => match szT P t with
  | some n => if n ≠ 0 then some (.cvU (opd x)) else none
  | none => none
 | some .unsafePointer, some (.pointer u) => if (szT P u).isSome then some (.cvP (oksOf P u) (opd x)) else none
 | _, _ => none
def shOf (sh pl : List Nat) : Operand → Bool
 | .func f => sh.contains f
 | .tmp t => !pl.contains t
 | _ => true
def extOf (P : Program) : Operand → Option String
 | .func k => match P.funcs[k]? with
  | some fn => if fn.body.isNone && fn.origin == "" then some fn.name else none
  | none => none
 | _ => none
def extI (c : Call) (n : String) : Option Ins :=
 if n = "internal/abi.NoEscape" then match c.args.toList with | [x] => some (.mv (opd x)) | _ => none
 else if n = "internal/bytealg.IndexByteString" then match c.args.toList with | [x, y] => some (.ixb (opd x) (opd y)) | _ => none
 else if n = "internal/bytealg.CountString" then match c.args.toList with | [x, y] => some (.cnb (opd x) (opd y)) | _ => none
 else none
def xMark : Operand → Operand
 | .func k => .func (1000000 + k)
 | x => .func 1000000
def nzT (P : Program) : Operand → Option TypeId
 | .func k => match P.funcs[k]? with
  | some fn => match fn.resultTypes.toList with
   | [t] => match P.underlying t with
    | some (.slice e) => if szT P e = some 1 then some e else none
    | _ => none
   | _ => none
  | none => none
 | _ => none
def xF : Operand → Operand
 | .tmp t => .tmp (8000000 + t)
 | _ => .const undef
def compCall (P : Program) (shf : Operand → Bool) (c : Call) (ty : TypeId) : Option Ins :=
 match c.callee with
 | .value f => match extOf P f with
  | some n => if n = "internal/bytealg.MakeNoZero" then match c.args.toList, nzT P f with | [x], some e => some (.mkNZ e (opd x)) | _, _ => none else extI c n
  | none => if shf (xMark f) then some (.callX 1 (opd f) (c.args.toList.map opd)) else some (.call (shf f) (opd f) (c.args.toList.map opd))
 | .builtin .unsafeSliceData => match c.args.toList, P.underlying ty with
  | [x], some (.pointer _) => some (.slData (opd x))
  | _, _ => none
 | .builtin .unsafeString => match c.args.toList, c.argTypes.toList with
  | [x, n], [pt, _] => match P.underlying pt with
   | some (.pointer e) => if P.cellsOf e = 1 then some (.uStr e (opd x) (opd n)) else none
   | _ => none
  | _, _ => none
 | .builtin .len => match c.args.toList, c.argTypes.toList with
  | [x], [t] => match P.underlying t with
   | some (.slice _) => some (.len (opd x))
   | some .string => some (.lenS (opd x))
   | some (.array n _) => some (.mv (.c (vi .i64 n)))
   | _ => none
  | _, _ => none
 | .builtin .append => match c.args.toList, c.argTypes.toList with
  | [x, y], [t, u] => match P.underlying t with
   | some (.slice e) => match szT P e, byT P e, zeroT P e, P.underlying u with
    | some s, some b, some z, some (.slice _) => if 0 < s ∧ z.length = s then some (if shf x then (if shf (xF x) then .append e s b (z.map .val) (opd x) (opd y) else .appF e s b (opd x) (opd y)) else .appN e s b (opd x) (opd y)) else none
    | some s, some b, some z, some .string => if s = 1 ∧ z.length = s then some (.append e s b (z.map .val) (opd x) (opd y)) else none
    | _, _, _, _ => none
   | _ => none
  | _, _ => none
 | .builtin .cap => match c.args.toList, c.argTypes.toList with
  | [x], [t] => match P.underlying t with
   | some (.slice _) => some (.capN (opd x))
   | _ => none
  | _, _ => none
 | .builtin .clear => match c.args.toList, c.argTypes.toList with
  | [x], [t] => match P.underlying t with
   | some (.slice e) => match szT P e, zeroT P e with
    | some s, some z => if 0 < s ∧ z.length = s then some (.clrS s (z.map .val) (opd x)) else none
    | _, _ => none
   | some (.map _ _) => some (.clrM (opd x))
   | _ => none
  | _, _ => none
 | .builtin .copy => match c.args.toList, c.argTypes.toList with
  | [x, y], [t, _] => match P.underlying t with
   | some (.slice e) => if szT P e = some 1 then some (.cpy0 (opd x) (opd y)) else none
   | _ => none
  | _, _ => none
 | .builtin .min => match c.args.toList with
  | [x, y] => some (.min2 false (opd x) (opd y))
  | _ => none
 | .builtin .max => match c.args.toList with
  | [x, y] => some (.min2 true (opd x) (opd y))
  | _ => none
 | _ => none
def dstO : Option Tmp → Operand
 | some d => .tmp d
 | none => .func 2000000
def dstN (n : Nat) : Option Tmp → Operand
 | some d => .tmp (n * 1000000 + d)
 | none => .const undef
def ownO : Option Tmp → Operand
 | some d => .tmp (9000000 + d)
 | none => .const undef
def compOp (P : Program) (shf : Operand → Bool) (o : Oper) : Option Ins :=
 match o.op with
 | .move x => some (.mv (opd x))
 | .assign x => match x with
  | .const (.slice none 0 0) => match P.underlying o.type with
   | some (.slice e) => if shf (dstO o.dst) then (szT P e).map (.nilrow e) else some (.mv (opd (.const (.slice none 0 0))))
   | _ => none
  | x => some (.mv (opd x))
 | .pick c a b => some (.pick (opd c) (opd a) (opd b))
 | .alloc t => (zeroT P t).map fun z => .alloc t (zcs z (if shf (dstO o.dst) then slSizes P 40 t else []))
 | .box t x => some (if shf (dstO o.dst) then .box t (opd x) else .boxL (opd x))
 | .build t parts => match zeroT P t, P.underlying t with
  | some z, some (.struct fields) => if fields.toList.all (fun f => (szT P f.type).isSome) then (compParts P fields parts.toList).map (if shf (ownO o.dst) then .build (zps z (if shf (dstO o.dst) then [] else slSizes P 40 t)) else .buildR (zcs z (slSizes P 40 t))) else none
  | some z, some (.array _ e) => (szT P e).map fun s => .build (z.map .val) (parts.toList.map fun (i, x) => (i * s, s, opd x))
  | _, _ => none
 | .buildSlice t len parts => match P.underlying t with
  | some (.slice e) => match szT P e, zeroT P e with
   | some s, some z => if 0 < s ∧ z.length = s ∧ len * s ≤ 16777216 then some (if shf (dstO o.dst) then .buildS e s (z.map .val) len (parts.toList.map fun (i, x) => (i, opd x)) else .buildL s (z.map .val) len (parts.toList.map fun (i, x) => (i, opd x))) else none
   | _, _ => none
  | _ => none
 | .load t x => match aggT P t, szT P t with
  | some b, some s => some (if shf (dstN 10 o.dst) then (if shf (dstN 11 o.dst) then .load b (if b then s else 1) (opd x) else .loadF false b (if b then s else 1) (opd x)) else .loadF true b (if b then s else 1) (opd x))
  | _, _ => none
 | .store t a v => (szT P t).map fun s => .store s (opd a) (opd v)
 | .nilCheck x => some (.nilChk (opd x))
 | .binOp op xt x y _ => compBin P op xt x y
 | .unOp op _ x => some (.un op (opd x))
 | .convert src dst x => compConv P src dst x
 | .makeFunc (.func f) first caps => if first.size = 0 then some (.mkfn f (caps.toList.map opd)) else none
 | .makeSlice t l c => match P.underlying t with
  | some (.slice e) => match szT P e, byT P e, zeroT P e with
   | some s, some b, some z => if 0 < s ∧ z.length = s then some (.makeS e s b (z.map .val) (opd l) (opd c)) else none
   | _, _, _ => none
  | _ => none
 | .slice t x lo hi none => match P.underlying t with
  | some .string => some (.sliceS (opd x) (lo.map opd) (hi.map opd))
  | some (.slice e) => match szT P e with
   | some s => if 0 < s then some (if shf (dstN 12 o.dst) then .slice s (opd x) (lo.map opd) (hi.map opd) else .sliceX s (opd x) (lo.map opd) (hi.map opd)) else none
   | none => none
  | _ => none
 | .fieldAddr s x i => match P.underlying s with
  | some (.struct fields) => match fields[i]? with
   | some f => match szT P f.type with
    | some n => if 0 < n then some (.fieldA f.offset (opd x)) else none
    | none => none
   | none => none
  | _ => none
 | .field s x i => match P.underlying s with
  | some (.struct fields) => match fields[i]? with
   | some f => match aggT P f.type, szT P f.type with
    | some b, some n => some (.field b f.offset (if b then n else 1) (opd x))
    | _, _ => none
   | none => none
  | _ => none
 | .indexAddr t x i => match P.underlying t with
  | some (.array n e) => (szT P e).map fun s => .indexA (some n) s (opd x) (opd i)
  | some (.slice e) => (szT P e).map fun s => .indexA none s (opd x) (opd i)
  | _ => none
 | .index t x i => match P.underlying t with
  | some (.array n e) => match aggT P e, szT P e with
   | some b, some s => if b || s == 1 then some (.index b n s (opd x) (opd i)) else none
   | _, _ => none
  | some .string => some (.indexS (opd x) (opd i))
  | _ => none
 | .extract x i => some (.extract (opd x) i)
 | .makeMap _ none => some .mkMap
 | .lookup t m k ok => (compMap P t).map fun r => .lkUp r.1 r.2.1 r.2.2.1 (zps r.2.2.2 (match o.dst with | some d => if shf (.tmp d) then slM P t else [] | none => slM P t)) ok (opd m) (opd k)
 | .mapEntry t m k => (compMap P t).map fun r => .mapEn r.1 r.2.1 r.2.2.1 (zps r.2.2.2 []) (opd m) (opd k)
 | .mapUpdate t m k v => (compMap P t).map fun r => .mapUp r.1 r.2.1 (opd m) (opd k) (opd v)
 | .insert t m k v => (compMap P t).map fun r => .mapUp r.1 r.2.1 (opd m) (opd k) (opd v)
 | .entryStore _ m s v => some (.entSt (opd m) (opd s) (opd v))
 | .call c => compCall P shf c o.type
 | _ => none
def fin : Result Next → Option (Value × World)
 | .ok (.value v) w => some (v, w)
 | .ok .skip w => some (undef, w)
 | _ => none
def Fits (P : Program) (o : Oper) (a : Act) (g : G) (w : World) (v : AV) (h' : List AB) : Prop :=
 ∃ x w' g', fin ((execOp a.eval o).run P w) = some (x, w') ∧ Ext g w g' w' ∧ HR g' h' w' ∧ VR g' w' v x
structure Ctx (P : Program) (gl : Nat → Option (List PV)) (a : Act) (f : List AV) (g : G) (h : List AB) (w : World) : Prop where
 gr : GR g w gl
 hr : HR g h w
 fr : VRs g w f a.tmps.toList
section
variable {P : Program} {gl : Nat → Option (List PV)} {a : Act} {f : List AV} {g : G} {h : List AB} {w : World}
theorem Ctx.opd (c : Ctx P gl a f g h w) (x : Operand) : VR g w ((opd x).ev f gl) (a.eval x) := by
 cases x with
 | tmp t =>
  simp only [Vs.opd, Opd.ev, Act.eval, getT]
  cases hx : f[t]? with
  | none => simp [VR]
  | some y =>
   obtain ⟨v, hv, hr⟩ := c.fr.get hx
   simp only [Option.getD_some]
   have : a.tmps.getD t undef = v := by
    rw [Array.getElem?_toList] at hv
    simp [Array.getD_eq_getD_getElem?, hv]
   rw [this]; exact hr
 | const v => simp only [Vs.opd, Opd.ev, Act.eval]; exact constA_rel v
 | global n =>
  simp only [Vs.opd, Opd.ev, Act.eval]
  cases hg : gl n with
  | none => simp [VR]
  | some xs =>
   have := c.gr n xs hg
   simp only [VR]
   exact ⟨n, 0, rfl, this.1, this.2.1⟩
 | func f => simp [Vs.opd, Opd.ev, Act.eval, VR, VRs]
theorem run_szT {t : TypeId} {n : Nat} (h : szT P t = some n) : (sizeOf t).run P w = .ok n w := by
 unfold szT at h
 cases hi : P.info? t with
 | none => simp [hi] at h
 | some i => simp only [hi, msm, oiq] at h; subst h; simp [sizeOf, typeInfo, hi]
theorem run_aggT {t : TypeId} {b : Bool} (h : aggT P t = some b) : (isAgg t).run P w = .ok b w := by
 unfold aggT at h
 cases hi : P.underlying t with
 | none => simp [hi] at h
 | some d =>
  simp only [hi, msm, oiq] at h; subst h
  unfold isAgg
  simp only [Sem.run_bind, run_underlying hi, Result.andThen_ok]
  cases d <;> rfl
theorem run_zeroT {t : TypeId} {z : List Value} (h : zeroT P t = some z) : ∃ v, (zeroValue t).run P w = .ok v w ∧ v.cells.toList = z ∧ ∀ u ∈ z, u.oneCell' = true := by
 unfold zeroT at h
 cases hi : P.info? t with
 | none => simp [hi] at h
 | some i =>
  simp only [hi, Option.bind_some] at h
  cases hz : i.zero with
  | none => simp [hz] at h
  | some v =>
   simp only [hz, Option.bind_some] at h
   split at h
   ·rename_i h1
    simp only [oiq] at h
    refine ⟨v, by simp [zeroValue, typeInfo, hi, hz], h, fun u hu => ?_⟩
    rw [isOne_iff]
    rw [← h] at hu
    exact List.all_eq_true.1 h1 u hu
   ·cases h
theorem fits_same (c : Ctx P gl a f g h w) {o : Oper} {v : AV} {x : Value} (hr : (execOp a.eval o).run P w = .ok (.value x) w) (hv : VR g w v x) : Fits P o a g w v h :=
 ⟨x, w, g, by rw [hr]; rfl, Ext.refl g w, c.hr, hv⟩
theorem val_of {x : AV} {v u : Value} (h : VR g w x v) (hx : x = .p (.val u)) : v = u := by
 subst hx; simpa [VR, PR] using h
end
section
variable {g g' : G} {h : List AB} {w w' : World}
theorem Ext.push (hr : HR g h w) (hN : g'.N = g.N + 1) (hS : g'.S = g.S) (hP : g'.Pr = g.Pr)
  (hm : ∀ b, b < g.N → g'.m b = g.m b) (hgen : ∀ b, b < g.N → g'.gen b = g.gen b) (hhd : ∀ b, b < g.N → g'.hd b = g.hd b)
  (hold : ∀ c, c < w.heap.size → w'.heap[c]? = w.heap[c]?) (hsz : w.heap.size ≤ w'.heap.size) (hos : w'.os = w.os) (hta : w'.tape = w.tape) (hou : w'.output = w.output) (hcr : g'.cr = g.cr := by rfl) (hHo : g'.Ho = g.Ho := by rfl) (hdr : w.drawn ≤ w'.drawn := by first | assumption | exact Nat.le_refl _ | exact Nat.le_succ _) : Ext g w g' w' :=
 ⟨fun c hc => by rw [hS]; exact hc, fun c hc => by rw [hP]; exact hc, fun c hc => hold c (hr.prs c hc), by omega, fun b hb => ⟨by have := hb.1; omega, by rw [hHo]; exact hb.2⟩, fun b hb => hm b hb.1,
  fun b hb => Nat.le_of_eq (hgen b hb.1).symm, fun b hb k _ => by rw [hhd b hb.1], hsz, hos, hta, hou, fun c hc => .inl (by rw [hS] at hc; exact hc), hcr, fun _ => hdr⟩
theorem HR.same (hr : HR g h w) (hh : w'.heap = w.heap) (hos : w'.os = w.os) (hta : w'.tape = w.tape) (hou : w'.output = w.output) (hdr : w.drawn ≤ w'.drawn := by first | assumption | exact Nat.le_refl _ | exact Nat.le_succ _) : Ext g w g w' ∧ HR g h w' := by
 have he : Ext g w g w' := ⟨fun _ h => h, fun _ h => h, fun _ _ => by rw [hh], Nat.le_refl _, fun _ h => h, fun _ _ => rfl, fun _ _ => Nat.le_refl _, fun _ _ _ _ => rfl, by rw [hh]; exact Nat.le_refl _, hos, hta, hou, fun _ h => .inl h, rfl, by first | assumption | exact fun _ => (by first | assumption | exact Nat.le_refl _ | exact Nat.le_succ _)⟩
 exact ⟨he, ⟨hr.n, fun b x hb => BR_mono hr he hb rfl (fun c _ => by rw [hh]), hr.dis, hr.own, hr.spr, fun c hc => by rw [hh]; exact hr.prs c hc, hr.ho⟩⟩
theorem alloc_new' (w : World) (o : Obj) : (w.alloc o).heap[w.heap.size]? = some o := by
 show (w.heap.push o)[w.heap.size]? = _
 simp
def gCells (g : G) (c : Nat) : G := { g with N := g.N + 1, m := fun b => if b = g.N then c else g.m b }
def gRow (g : G) (o : Option (Nat × Nat)) : G := { g with N := g.N + 1, gen := fun b => if b = g.N then 0 else g.gen b, hd := fun b => if b = g.N then fun _ => o else g.hd b }
theorem HR.noHo (hr : HR g h w) : ¬ g.Ho g.N := by
 intro e
 have := (hr.ho _).1 e
 rw [hr.n, List.getElem?_eq_none (Nat.le_refl _)] at this
 cases this
theorem D_cells (hr : HR g h w) (c : Nat) : (gCells g c).D g.N := ⟨Nat.lt_succ_self _, hr.noHo⟩
theorem D_row (hr : HR g h w) (o : Option (Nat × Nat)) : (gRow g o).D g.N := ⟨Nat.lt_succ_self _, hr.noHo⟩
theorem push_cells (hr : HR g h w) {xs : List AV} {cs : Array Value} (t : TypeId) (hx : VRc g w xs cs.toList) :
  Ext g w (gCells g w.heap.size) (w.alloc (.cells cs t)) ∧ HR (gCells g w.heap.size) (h ++ [.cells t xs]) (w.alloc (.cells cs t)) ∧
   VR (gCells g w.heap.size) (w.alloc (.cells cs t)) (.ptr h.length 0) (.pointer (some ⟨w.heap.size, 0, none⟩)) := by
 have hold : ∀ c, c < w.heap.size → (w.alloc (.cells cs t)).heap[c]? = w.heap[c]? := fun c hc => Below.heap_alloc w _ c hc
 have he : Ext g w (gCells g w.heap.size) (w.alloc (.cells cs t)) := Ext.push hr rfl rfl rfl (fun b hb => by simp [gCells]; omega) (fun _ _ => rfl) (fun _ _ => rfl) hold (by simp) rfl rfl rfl
 refine ⟨he, (HR.push (g' := gCells g w.heap.size) hr (.cells t xs) rfl rfl rfl (fun b hb => by simp [gCells]; omega) (fun _ _ => rfl) (fun _ _ => rfl) hold (by simp) rfl rfl rfl ?_ ?_).2, ?_⟩
 ·simp only [BR]
  refine ⟨cs, (0, 0), by simp only [gCells, if_true]; exact alloc_new' w _, fun j _ => by omega, VRc_mono he hr.spr hx⟩
 ·intro c hc
  simp [cid, gCells] at hc
  omega
 ·simp only [VR]
  rw [← hr.n]
  exact ⟨D_cells hr _, by simp [gCells]⟩
theorem push_row (hr : HR g h w) {rows : List (List AV)} {cs : Array Value} (t : TypeId) (size cap : Nat) (fz : Nat × Nat) (hfz : unfz fz cs.size) (hs : cs.size = cap * size) (hm : cap ≤ maxLen) (hl : rows.length ≤ cap)
  (hr1 : ∀ r ∈ rows, r.length = size) (hx : VRc g w rows.flatten (cs.toList.take (rows.length * size)))
  (hw : ∀ c, c < w.heap.size → w'.heap[c]? = w.heap[c]?) (hn : w'.heap[w.heap.size]? = some (.cells cs t fz)) (hsz : w.heap.size ≤ w'.heap.size) (hos : w'.os = w.os) (hta : w'.tape = w.tape) (hou : w'.output = w.output) (hdr : w.drawn ≤ w'.drawn := by first | assumption | exact Nat.le_refl _ | exact Nat.le_succ _) :
  Ext g w (gRow g (some (w.heap.size, cap))) w' ∧ HR (gRow g (some (w.heap.size, cap))) (h ++ [.row t size 0 rows]) w' ∧
   ∀ len, len ≤ cap → VR (gRow g (some (w.heap.size, cap))) w' (.sl h.length 0 size 0 len) (.slice (some ⟨w.heap.size, 0, none⟩) len cap) := by
 have he : Ext g w (gRow g (some (w.heap.size, cap))) w' := Ext.push hr rfl rfl rfl (fun _ _ => rfl) (fun b hb => by simp [gRow]; omega) (fun b hb => by simp [gRow]; omega) hw hsz hos hta hou
 refine ⟨he, (HR.push (g' := gRow g (some (w.heap.size, cap))) hr (.row t size 0 rows) rfl rfl rfl (fun _ _ => rfl) (fun b hb => by simp [gRow]; omega) (fun b hb => by simp [gRow]; omega) hw hsz hos hta hou ?_ ?_).2, ?_⟩
 ·simp only [BR]
  refine ⟨by simp [gRow], hr1, ?_⟩
  have : (gRow g (some (w.heap.size, cap))).hd g.N 0 = some (w.heap.size, cap) := by simp [gRow]
  rw [this]
  exact ⟨cs, fz, hn, hfz, hs, hm, hl, VRc_mono he hr.spr hx⟩
 ·intro c hc
  simp [cid, gRow] at hc
  omega
 ·intro len hlen
  simp only [VR]
  rw [← hr.n]
  refine ⟨D_row hr _, by simp, ?_⟩
  have : (gRow g (some (w.heap.size, cap))).hd g.N 0 = some (w.heap.size, cap) := by simp [gRow]
  rw [this]
  exact ⟨by omega, hm, some ⟨w.heap.size, 0, none⟩, by simp, .inr (by simp)⟩
theorem push_nil (hr : HR g h w) (t : TypeId) (size : Nat) :
  Ext g w (gRow g none) w ∧ HR (gRow g none) (h ++ [.row t size 0 []]) w ∧ VR (gRow g none) w (.sl h.length 0 size 0 0) nilS := by
 have he : Ext g w (gRow g none) w := Ext.push hr rfl rfl rfl (fun _ _ => rfl) (fun b hb => by simp [gRow]; omega) (fun b hb => by simp [gRow]; omega) (fun _ _ => rfl) (Nat.le_refl _) rfl rfl rfl
 refine ⟨he, (HR.push (g' := gRow g none) hr (.row t size 0 []) rfl rfl rfl (fun _ _ => rfl) (fun b hb => by simp [gRow]; omega) (fun b hb => by simp [gRow]; omega) (fun _ _ => rfl) (Nat.le_refl _) rfl rfl rfl ?_ ?_).2, ?_⟩
 ·simp only [BR]
  refine ⟨by simp [gRow], by simp, ?_⟩
  have : (gRow g none).hd g.N 0 = none := by simp [gRow]
  rw [this]
  rfl
 ·intro c hc
  simp [cid, gRow] at hc
 ·simp only [VR]
  rw [← hr.n]
  refine ⟨D_row hr _, by simp, ?_⟩
  have : (gRow g none).hd g.N 0 = none := by simp [gRow]
  rw [this]
  exact ⟨rfl, rfl, rfl⟩
theorem zeroN_rel : ∀ (zs : List ZC) {g : G} {h : List AB}, HR g h w →
  ∃ g', Ext g w g' w ∧ HR g' (h ++ (zeroN zs h.length).2) w ∧ VRs g' w (zeroN zs h.length).1 (zs.map ZC.plain) ∨ ∃ y, ZC.z y ∈ zs ∧ ∀ v, y ≠ .val v
 | [], g, h, hr => ⟨g, .inl ⟨Ext.refl g w, by simpa [zeroN] using hr, by simp [zeroN, VRs]⟩⟩
 | .z x :: zs, g, h, hr => by
  obtain ⟨g', hh⟩ := zeroN_rel zs hr
  rcases hh with ⟨h1, h2, h3⟩ | ⟨y, hm, hy⟩
  ·cases x with
   | val v => exact ⟨g', .inl ⟨h1, by simpa [zeroN] using h2, by simp only [zeroN, List.map_cons, VRs]; exact ⟨by simp [VR, PR, ZC.plain], h3⟩⟩⟩
   | lst s r => exact ⟨g, .inr ⟨_, by simp; exact .inl rfl, by simp⟩⟩
   | lsx s r m => exact ⟨g, .inr ⟨_, by simp; exact .inl rfl, by simp⟩⟩
  ·exact ⟨g, .inr ⟨y, by simp [hm], hy⟩⟩
 | .r t size :: zs, g, h, hr => by
  obtain ⟨k1, k2, k3⟩ := push_nil hr t size
  obtain ⟨g', hh⟩ := zeroN_rel zs k2
  rcases hh with ⟨h1, h2, h3⟩ | ⟨y, hm, hy⟩
  ·refine ⟨g', .inl ⟨k1.trans h1, ?_, ?_⟩⟩
   ·have : (h ++ [AB.row t size 0 []]).length = h.length + 1 := by simp
    rw [this] at h2
    simpa [zeroN] using h2
   ·have : (h ++ [AB.row t size 0 []]).length = h.length + 1 := by simp
    rw [this] at h3
    simp only [zeroN, List.map_cons, VRs]
    exact ⟨VR_mono h1 k2.spr _ _ k3, h3⟩
  ·exact ⟨g, .inr ⟨y, by simp [hm], hy⟩⟩
theorem upd_cells (hr : HR g h w) {b : Nat} {t : TypeId} {xs xs' : List AV} (hb : h[b]? = some (.cells t xs)) {cs cs' : Array Value} {fz : Nat × Nat}
  (hc : w.heap[g.m b]? = some (.cells cs t fz)) (hz : unfz fz cs'.size) (hx : VRc g w xs' cs'.toList) :
  Ext g w g (setRow' w (g.m b) cs' t fz) ∧ HR g (h.set b (.cells t xs')) (setRow' w (g.m b) cs' t fz) := by
 have hlt := heap_lt hc
 have hpr : ∀ c, g.Pr c → (setRow' w (g.m b) cs' t fz).heap[c]? = w.heap[c]? := fun c hp => setRow'_other (fun e => hr.own b _ (g.m b) hb rfl (by rw [e]; exact hp))
 have he : Ext g w g (setRow' w (g.m b) cs' t fz) := ⟨fun _ h => h, fun _ h => h, hpr, Nat.le_refl _, fun _ h => h, fun _ _ => rfl, fun _ _ => Nat.le_refl _, fun _ _ _ _ => rfl, by rw [setRow'_size]; exact Nat.le_refl _, rfl, rfl, rfl, fun _ h => .inl h, rfl, by first | assumption | exact fun _ => (by first | assumption | exact Nat.le_refl _ | exact Nat.le_succ _)⟩
 refine ⟨he, HR.upd hr hb he rfl rfl rfl (fun _ _ => rfl) ?_ ?_ ?_⟩
 ·intro c _ hne
  exact setRow'_other (fun e => hne (by simp [cid, e]))
 ·simp only [BR]
  exact ⟨cs', fz, setRow'_same hlt, hz, VRc_mono he hr.spr hx⟩
 ·intro c hc
  exact .inl hc
theorem upd_row (hr : HR g h w) {b size gen : Nat} {t : TypeId} {rows rows' : List (List AV)} (hb : h[b]? = some (.row t size gen rows)) {c cap : Nat} (hd : g.hd b gen = some (c, cap)) {cs cs' : Array Value} {fz : Nat × Nat}
  (hc : w.heap[c]? = some (.cells cs t fz)) (hz : unfz fz cs'.size) (hs : cs'.size = cap * size) (hm : cap ≤ maxLen) (hl : rows'.length ≤ cap) (hr1 : ∀ r ∈ rows', r.length = size)
  (hx : VRc g w rows'.flatten (cs'.toList.take (rows'.length * size))) :
  Ext g w g (setRow' w c cs' t fz) ∧ HR g (h.set b (.row t size gen rows')) (setRow' w c cs' t fz) := by
 have hlt := heap_lt hc
 have hcid : cid g b (.row t size gen rows) = some c := by simp [cid, hd]
 have hpr : ∀ k, g.Pr k → (setRow' w c cs' t fz).heap[k]? = w.heap[k]? := fun k hp => setRow'_other (fun e => hr.own b _ c hb hcid (by rw [e]; exact hp))
 have he : Ext g w g (setRow' w c cs' t fz) := ⟨fun _ h => h, fun _ h => h, hpr, Nat.le_refl _, fun _ h => h, fun _ _ => rfl, fun _ _ => Nat.le_refl _, fun _ _ _ _ => rfl, by rw [setRow'_size]; exact Nat.le_refl _, rfl, rfl, rfl, fun _ h => .inl h, rfl, by first | assumption | exact fun _ => (by first | assumption | exact Nat.le_refl _ | exact Nat.le_succ _)⟩
 have hbr := hr.br b _ hb
 simp only [BR] at hbr
 refine ⟨he, HR.upd hr hb he rfl rfl rfl (fun _ _ => rfl) ?_ ?_ ?_⟩
 ·intro k _ hne
  exact setRow'_other (fun e => hne (by rw [hcid, e]))
 ·simp only [BR]
  refine ⟨hbr.1, hr1, ?_⟩
  rw [hd]
  exact ⟨cs', fz, setRow'_same hlt, hz, hs, hm, hl, VRc_mono he hr.spr hx⟩
 ·intro k hk
  simp only [cid] at hk ⊢
  exact .inl hk
def gGrow (g : G) (b gen c cap : Nat) : G := { g with gen := fun x => if x = b then gen + 1 else g.gen x, hd := fun x k => if x = b ∧ k = gen + 1 then some (c, cap) else g.hd x k }
theorem upd_grow (hr : HR g h w) {b size gen : Nat} {t' : TypeId} {rows rows' : List (List AV)} (hb : h[b]? = some (.row t' size gen rows)) {cap : Nat} {cs : Array Value} {t : TypeId}
  (hs : cs.size = cap * size) (hm : cap ≤ maxLen) (hl : rows'.length ≤ cap) (hr1 : ∀ r ∈ rows', r.length = size)
  (hx : VRc g w rows'.flatten (cs.toList.take (rows'.length * size)))
  (hw : ∀ c, c < w.heap.size → w'.heap[c]? = w.heap[c]?) (hn : w'.heap[w.heap.size]? = some (.cells cs t (0, 0))) (hsz : w.heap.size ≤ w'.heap.size) (hos : w'.os = w.os) (hta : w'.tape = w.tape) (hou : w'.output = w.output) (hdr : w.drawn ≤ w'.drawn := by first | assumption | exact Nat.le_refl _ | exact Nat.le_succ _) :
  Ext g w (gGrow g b gen w.heap.size cap) w' ∧ HR (gGrow g b gen w.heap.size cap) (h.set b (.row t size (gen + 1) rows')) w' ∧
   ∀ len, len ≤ cap → VR (gGrow g b gen w.heap.size cap) w' (.sl b (gen + 1) size 0 len) (.slice (some ⟨w.heap.size, 0, none⟩) len cap) := by
 have hbr := hr.br b _ hb
 simp only [BR] at hbr
 have hlt := hr.d hb (by simp)
 have he : Ext g w (gGrow g b gen w.heap.size cap) w' := ⟨fun _ h => h, fun _ h => h, fun c hc => hw c (hr.prs c hc), Nat.le_refl _, fun _ h => h, fun _ _ => rfl, fun x _ => by
   simp only [gGrow]; split
   ·rename_i e; subst e; rw [hbr.1]; omega
   ·exact Nat.le_refl _, fun x _ k hk => by
   simp only [gGrow]; rw [if_neg]; rintro ⟨rfl, rfl⟩; rw [hbr.1] at hk; omega, hsz, hos, hta, hou, fun _ h => .inl h, rfl, by first | assumption | exact fun _ => (by first | assumption | exact Nat.le_refl _ | exact Nat.le_succ _)⟩
 have hhd : (gGrow g b gen w.heap.size cap).hd b (gen + 1) = some (w.heap.size, cap) := by simp [gGrow]
 refine ⟨he, HR.upd hr hb he rfl rfl rfl (fun x hx => by simp [gGrow, hx]) (fun c hc _ => hw c hc) ?_ ?_, ?_⟩
 ·simp only [BR]
  refine ⟨by simp [gGrow], hr1, ?_⟩
  rw [hhd]
  exact ⟨cs, (0, 0), hn, fun j _ => by omega, hs, hm, hl, VRc_mono he hr.spr hx⟩
 ·intro c hc
  simp only [cid, hhd, msm, oiq] at hc
  exact .inr (Nat.le_of_eq hc)
 ·intro len hlen
  simp only [VR]
  refine ⟨hlt, by simp [gGrow], ?_⟩
  rw [hhd]
  exact ⟨by omega, hm, some ⟨w.heap.size, 0, none⟩, by simp, .inr (by simp)⟩
end
section
variable {P : Program} {gl : Nat → Option (List PV)} {a : Act} {f : List AV} {g : G} {h : List AB} {w : World} {o : Oper}
theorem s_mv (c : Ctx P gl a f g h w) (x : Operand) (ho : o.op = .move x ∨ o.op = .assign x) : Fits P o a g w ((opd x).ev f gl) h := by
 refine fits_same c (x := a.eval x) ?_ (c.opd x)
 rcases ho with ho | ho <;> simp [execOp, ho]
theorem s_nilrow (c : Ctx P gl a f g h w) (t : TypeId) (size : Nat) (ho : o.op = .assign (.const nilS)) : Fits P o a g w (.sl h.length 0 size 0 0) (h ++ [.row t size 0 []]) := by
 obtain ⟨h1, h2, h3⟩ := push_nil c.hr t size
 exact ⟨nilS, w, _, by simp [execOp, ho, fin, Act.eval], h1, h2, h3⟩
theorem s_pick (c : Ctx P gl a f g h w) {x y z : Operand} {t : Bool} (ho : o.op = .pick x y z) (hx : (opd x).ev f gl = vb t) :
  Fits P o a g w (if t then (opd y).ev f gl else (opd z).ev f gl) h := by
 have hv := val_of (c.opd x) hx
 refine fits_same c (x := if t then a.eval y else a.eval z) (by simp [execOp, ho, hv, asBool]) ?_
 cases t
 ·exact c.opd z
 ·exact c.opd y
theorem zc_plain (v : Value) (s : Nat × TypeId) : (zc v s).plain = v := by
 unfold zc
 split
 ·split <;> rfl
 ·rfl
theorem zcs_plain : ∀ (vs : List Value) (ss : List (Nat × TypeId)), (zcs vs ss).map ZC.plain = vs
 | [], _ => by simp [zcs]
 | v :: vs, [] => by simp [zcs, ZC.plain, zcs_plain vs []]
 | v :: vs, s :: ss => by simp [zcs, zc_plain, zcs_plain vs ss]
theorem zcs_no (y : PV) (hy : ∀ v, y ≠ .val v) : ∀ (vs : List Value) (ss : List (Nat × TypeId)), ZC.z y ∉ zcs vs ss
 | [], _ => by simp [zcs]
 | v :: vs, [] => by
  simp only [zcs, List.mem_cons, not_or, ZC.z.injEq]
  exact ⟨hy v, zcs_no y hy vs []⟩
 | v :: vs, n :: ss => by
  simp only [zcs, List.mem_cons, not_or]
  refine ⟨?_, zcs_no y hy vs ss⟩
  unfold zc
  split
  ·split
   ·simp only [ZC.z.injEq]; exact hy _
   ·simp
  ·simp only [ZC.z.injEq]; exact hy _
theorem s_alloc (c : Ctx P gl a f g h w) {t : TypeId} {z : List Value} (ho : o.op = .alloc t) (hz : zeroT P t = some z) (ss : List (Nat × TypeId)) :
  Fits P o a g w (.ptr (h.length + (zeroN (zcs z ss) h.length).2.length) 0) (h ++ (zeroN (zcs z ss) h.length).2 ++ [.cells t (zeroN (zcs z ss) h.length).1]) := by
 obtain ⟨v, hv, hvz, hone⟩ := run_zeroT (w := w) hz
 obtain ⟨g', hh⟩ := zeroN_rel (w := w) (zcs z ss) c.hr
 rcases hh with ⟨h1, h2, h3⟩ | ⟨s, hm, hm'⟩
 ·rw [zcs_plain] at h3
  have h3' : VRc g' w (zeroN (zcs z ss) h.length).1 v.cells.toList := by rw [hvz]; exact ⟨h3, hone⟩
  obtain ⟨k1, k2, k3⟩ := push_cells h2 t h3'
  refine ⟨.pointer (some ⟨w.heap.size, 0, none⟩), _, _, ?_, h1.trans k1, k2, ?_⟩
  ·simp [execOp, ho, Instr.alloc, hv, newVar, newRow, fin]
  ·simpa using k3
 ·exact absurd hm (zcs_no s hm' z ss)
theorem s_box (c : Ctx P gl a f g h w) {t : TypeId} {x : Operand} {cs : List AV} (ho : o.op = .box t x) (hx : cellsOf ((opd x).ev f gl) = some cs) :
  Fits P o a g w (.ptr h.length 0) (h ++ [.cells t cs]) := by
 obtain ⟨h1, h1', _⟩ := cellsOf_rel (c.opd x) hx
 obtain ⟨k1, k2, k3⟩ := push_cells c.hr t ⟨h1, h1'⟩
 refine ⟨.pointer (some ⟨w.heap.size, 0, none⟩), _, _, ?_, k1, k2, k3⟩
 simp [execOp, ho, Instr.box, newVar, newRow, fin]
theorem oneOr_rel {b : Bool} {cs : List AV} {vs : List Value} {v : AV} (h1 : VRs g w cs vs) (ho : oneOr b cs = some v) :
  (b = true ∧ VR g w v (.agg vs.toArray)) ∨ (b = false ∧ ∃ u, vs = [u] ∧ VR g w v u) := by
 cases b with
 | true =>
  simp only [oneOr, if_true, oiq] at ho
  subst ho
  exact .inl ⟨rfl, by simp only [VR]; exact ⟨vs.toArray, rfl, by simpa using h1⟩⟩
 | false =>
  simp only [oneOr] at ho
  cases cs with
  | nil => simp at ho
  | cons x r =>
   cases r with
   | cons y r => simp at ho
   | nil =>
    simp at ho
    subst ho
    cases vs with
    | nil => simp [VRs] at h1
    | cons u us =>
     cases us with
     | nil => simp only [VRs] at h1; exact .inr ⟨rfl, u, rfl, h1.1⟩
     | cons _ _ => simp [VRs] at h1
theorem PRs_take {S : Nat → Prop} {b : Nat} : ∀ (n : Nat) {off : Nat} {xs : List PV}, PRs S w b off xs → PRs S w b off (xs.take n)
 | 0, _, _, _ => by simp [PRs]
 | _ + 1, _, [], _ => by simp [PRs]
 | n + 1, _, _ :: _, h => by simp only [List.take_succ_cons, PRs] at h ⊢; exact ⟨h.1, PRs_take n h.2⟩
theorem cells_at {b off n : Nat} {cs : Array Value} {t : TypeId} {fz : Nat × Nat} (h : w.heap[b]? = some (.cells cs t fz)) :
  ∀ j v, ((cs.toList.drop off).take n)[j]? = some v → w.cell? ⟨b, off + j, none⟩ = some v := by
 intro j v hj
 simp only [World.cell?, h]
 rw [List.getElem?_take] at hj
 split at hj
 ·simpa [List.getElem?_drop] using hj
 ·cases hj
theorem run_cells {b off : Nat} {vs : List Value} (h : ∀ j v, vs[j]? = some v → w.cell? ⟨b, off + j, none⟩ = some v) : (loadCells ⟨b, off, none⟩ vs.length).run P w = .ok vs.toArray w :=
 run_loadCells_list w _ vs (by intro j v hj; rw [add_addr]; exact h j v hj)
theorem loadA_rel (c : Ctx P gl a f g h w) {x : Operand} {n : Nat} {cs : List AV} (hx : loadA h n ((opd x).ev f gl) = some cs) :
  ∃ b off vs, a.eval x = .pointer (some ⟨b, off, none⟩) ∧ (∀ j v, vs[j]? = some v → w.cell? ⟨b, off + j, none⟩ = some v) ∧ vs.length = n ∧ VRs g w cs vs := by
 have hv := c.opd x
 unfold loadA at hx
 split at hx
 ·rename_i b off e
  rw [e] at hv
  simp only [VR] at hv
  split at hx
  ·rename_i xs hb
   have hbr := c.hr.br b _ hb
   simp only [BR] at hbr
   obtain ⟨ys, fz, h1, _, h3⟩ := hbr
   obtain ⟨k1, k2⟩ := h3.1.sub hx
   have hlen : off + n ≤ ys.size := by simpa using k1
   refine ⟨_, off, (ys.toList.drop off).take n, hv.2, cells_at h1, by simp; omega, k2⟩
  ·cases hx
 ·rename_i xs e
  rw [e] at hv
  simp only [VR] at hv
  obtain ⟨b, off, hv, hS, hp⟩ := hv
  cases hs : sub xs 0 n with
  | none => simp [hs] at hx
  | some ys =>
   simp only [hs, msm, oiq] at hx
   subst hx
   unfold sub at hs
   split at hs
   ·rename_i hle
    simp only [List.drop_zero, oiq] at hs
    subst hs
    have hp' : PRs g.S w b off (xs.take n) := PRs_take n hp
    obtain ⟨vs, l1, l2, l3⟩ := PRs_cells hp'
    have hl : (xs.take n).length = n := by simp; omega
    rw [hl] at l1
    exact ⟨b, off, vs, hv, l2, l1, (l3 g rfl).1⟩
   ·cases hs
 ·rename_i b gen size k off e
  rw [e] at hv
  simp only [VR] at hv
  obtain ⟨hb1, hb2, cc, cap, hd, hv⟩ := hv
  split at hx
  ·rename_i s g1 rows hb
   split at hx
   ·rename_i hgs
    obtain ⟨rfl, rfl⟩ := hgs
    have hbr := c.hr.br b _ hb
    simp only [BR] at hbr
    obtain ⟨_, hr1, hr2⟩ := hbr
    rw [hd] at hr2
    simp only [RowR] at hr2
    obtain ⟨ys, fz, h1, _, h3, h4, h5, h6⟩ := hr2
    cases hk : rows[k]? with
    | none => simp [hk] at hx
    | some r =>
     simp only [hk, Option.bind_some] at hx
     have hrl := hr1 r (List.mem_of_getElem? hk)
     have hklt : k < rows.length := (gei.1 hk).1
     have hflat : VRs g w r ((ys.toList.drop (k * s)).take s) := by
      have hd1 := (h6.1.drop (k * s)).take s
      have e1 : (rows.flatten.drop (k * s)).take s = r := by
       have : ∀ (rows : List (List AV)) (k : Nat), (∀ r ∈ rows, r.length = s) → ∀ r, rows[k]? = some r → (rows.flatten.drop (k * s)).take s = r := by
        intro rows
        induction rows with
        | nil => intro k _ r hr; simp at hr
        | cons q qs ih =>
         intro k hq r hr
         have hql := hq q (by simp)
         cases k with
         | zero => simp at hr; subst hr; simp [← hql]
         | succ k =>
          simp at hr
          have := ih k (fun r hr => hq r (by simp [hr])) r hr
          rw [Nat.add_mul, Nat.one_mul, fcs, Nat.add_comm (k * s) s, ← List.drop_drop]
          rw [← hql, List.drop_left, hql]
          exact this
       exact this rows k hr1 r hk
      rw [e1] at hd1
      have e2 : ((ys.toList.take (rows.length * s)).drop (k * s)).take s = (ys.toList.drop (k * s)).take s := by
       rw [List.drop_take, List.take_take]
       congr 1
       have : (k + 1) * s ≤ rows.length * s := Nat.mul_le_mul_right _ hklt
       rw [Nat.add_mul, Nat.one_mul] at this
       omega
      rw [e2] at hd1
      exact hd1
     obtain ⟨k1, k2⟩ := hflat.sub hx
     have hk2 : (k + 1) * s ≤ cap * s := Nat.mul_le_mul_right _ (by omega)
     rw [Nat.add_mul, Nat.one_mul] at hk2
     have hlen : k * s + off + n ≤ ys.size := by
      simp only [List.length_take, List.length_drop, Array.length_toList] at k1
      omega
     refine ⟨cc, k * s + off, (ys.toList.drop (k * s + off)).take n, hv, cells_at h1, by simp; omega, ?_⟩
     have e3 : ((ys.toList.drop (k * s)).take s |>.drop off).take n = (ys.toList.drop (k * s + off)).take n := by
      rw [List.drop_take, List.take_take, List.drop_drop]
      congr 1
      simp only [List.length_take, List.length_drop, Array.length_toList] at k1
      omega
     rw [e3] at k2
     exact k2
   ·cases hx
  ·rename_i s g1 rows hb
   split at hx
   ·rename_i hgs
    obtain ⟨rfl, rfl⟩ := hgs
    have hbr := c.hr.br b _ hb
    simp only [BR] at hbr
    rw [hd] at hbr
    simp only [FrzR] at hbr
    obtain ⟨_, _, _, _, hp⟩ := hbr
    obtain ⟨r, hk, hx⟩ := Option.bind_eq_some_iff.1 hx
    obtain ⟨ys, hs, rfl⟩ := Option.map_eq_some_iff.1 hx
    have hp1 := (PRr_get hp hk).2
    unfold sub at hs
    split at hs
    ·rename_i hle
     simp only [oiq] at hs
     subst hs
     have hp' := PRs_take n (PRs_add (n := off) hp1)
     obtain ⟨vs, l1, l2, l3⟩ := PRs_cells hp'
     have hl : ((r.drop off).take n).length = n := by simp; omega
     rw [hl] at l1
     exact ⟨cc, k * s + off, vs, hv, by simpa using l2, l1, (l3 g rfl).1⟩
    ·cases hs
   ·cases hx
  ·cases hx
 ·cases hx
theorem s_load (c : Ctx P gl a f g h w) {t : TypeId} {x : Operand} {b : Bool} {s : Nat} {cs : List AV} {v : AV} (ho : o.op = .load t x) (hb : aggT P t = some b) (hs : szT P t = some s)
  (hx : loadA h (if b then s else 1) ((opd x).ev f gl) = some cs) (hv : oneOr b cs = some v) : Fits P o a g w v h := by
 obtain ⟨bb, off, vs, h1, h2, h3, h4⟩ := loadA_rel c hx
 rcases oneOr_rel h4 hv with ⟨rfl, hr⟩ | ⟨rfl, u, rfl, hr⟩
 ·refine fits_same c (x := .agg vs.toArray) ?_ hr
  have h2' := run_cells (P := P) h2
  rw [h3] at h2'
  simp only [if_true] at h2'
  simp [execOp, ho, Instr.loadAt, h1, Instr.sureAddr, loadVar, run_aggT hb, run_szT hs, h2']
 ·refine fits_same c (x := u) ?_ hr
  have hcell : w.cell? ⟨bb, off, none⟩ = some u := h2 0 u rfl
  simp [execOp, ho, Instr.loadAt, h1, Instr.sureAddr, loadVar, run_aggT hb, hcell]
theorem s_loadF {deep : Bool} (c : Ctx P gl a f g h w) {t : TypeId} {x : Operand} {b : Bool} {s : Nat} {cs : List AV} {v : AV} (ho : o.op = .load t x) (hb : aggT P t = some b) (hs : szT P t = some s)
  (hx : loadA h (if b then s else 1) ((opd x).ev f gl) = some cs) (hv : oneOr b (cs.map (fgA deep)) = some v) : Fits P o a g w v h := by
 obtain ⟨bb, off, vs, h1, h2, h3, h4⟩ := loadA_rel c hx
 rcases oneOr_rel (fgAs_rel h4) hv with ⟨rfl, hr⟩ | ⟨rfl, u, rfl, hr⟩
 ·refine fits_same c (x := .agg vs.toArray) ?_ hr
  have h2' := run_cells (P := P) h2
  rw [h3] at h2'
  simp only [if_true] at h2'
  simp [execOp, ho, Instr.loadAt, h1, Instr.sureAddr, loadVar, run_aggT hb, run_szT hs, h2']
 ·refine fits_same c (x := u) ?_ hr
  have hcell : w.cell? ⟨bb, off, none⟩ = some u := h2 0 u rfl
  simp [execOp, ho, Instr.loadAt, h1, Instr.sureAddr, loadVar, run_aggT hb, hcell]
end
theorem splice_take {α : Type} {xs cs : List α} {off n : Nat} (h : off + cs.length ≤ n) (hn : n ≤ xs.length) : (splice xs off cs).take n = splice (xs.take n) off cs := by
 unfold splice
 apply List.ext_getElem?
 intro j
 simp only [List.getElem?_take, List.getElem?_append, lap, List.length_take, List.getElem?_drop]
 have e1 : min off xs.length = off := by omega
 have e2 : min off (min n xs.length) = off := by omega
 rw [e1, e2]
 by_cases h1 : j < off
 ·have : j < n := by omega
  have h1' : j < off + cs.length := by omega
  simp [h1, h1', this]
 ·by_cases h2 : j < off + cs.length
  ·have : j < n := by omega
   simp [h1, h2, this]
  ·by_cases h3 : j < n
   ·have : off + cs.length + (j - (off + cs.length)) < n := by omega
    simp [h2, h3, this]
   ·have : ¬ off + cs.length + (j - (off + cs.length)) < n := by omega
    simp [h2, h3, this]
theorem flatten_len {α : Type} {s : Nat} : ∀ {rows : List (List α)}, (∀ r ∈ rows, r.length = s) → rows.flatten.length = rows.length * s
 | [], _ => by simp
 | r :: rs, h => by
  have := flatten_len (rows := rs) (fun q hq => h q (by simp [hq]))
  simp only [fcs, lap, this, h r (by simp), List.length_cons, Nat.add_mul, Nat.one_mul]
  omega
theorem flatten_set {α : Type} {s : Nat} : ∀ {rows : List (List α)} {k : Nat} {r : List α} {off : Nat} {cs : List α}, (∀ r ∈ rows, r.length = s) → rows[k]? = some r → off + cs.length ≤ r.length →
  (rows.set k (splice r off cs)).flatten = splice rows.flatten (k * s + off) cs
 | [], k, r, _, _, _, h, _ => by simp at h
 | q :: qs, 0, r, off, cs, hs, h, hl => by
  simp at h
  subst h
  simp only [List.set_cons_zero, fcs, Nat.zero_mul, Nat.zero_add]
  unfold splice
  rw [List.take_append_of_le_length (by omega), List.drop_append_of_le_length (by omega)]
  simp
 | q :: qs, k + 1, r, off, cs, hs, h, hl => by
  simp at h
  have ih := flatten_set (rows := qs) (fun r hr => hs r (by simp [hr])) h hl
  have hq := hs q (by simp)
  simp only [List.set_cons_succ, fcs, ih, Nat.add_mul, Nat.one_mul]
  unfold splice
  have e : k * s + s + off = q.length + (k * s + off) := by omega
  rw [e, List.take_length_add_append, Nat.add_assoc q.length, List.drop_length_add_append]
  simp
theorem mem_splice {α : Type} {xs cs : List α} {off : Nat} {v : α} (h : v ∈ splice xs off cs) : v ∈ xs ∨ v ∈ cs := by
 unfold splice at h
 simp only [List.mem_append] at h
 rcases h with (h | h) | h
 ·exact .inl (List.mem_of_mem_take h)
 ·exact .inr h
 ·exact .inl (List.mem_of_mem_drop h)
theorem VRc.splice {g : G} {w : World} {xs cs : List AV} {vs us : List Value} (off : Nat) (h : VRc g w xs vs) (k : VRc g w cs us) : VRc g w (splice xs off cs) (splice vs off us) :=
 ⟨h.1.splice off k.1, fun v hv => (mem_splice hv).elim (h.2 v) (k.2 v)⟩
section
variable {P : Program} {gl : Nat → Option (List PV)} {a : Act} {f : List AV} {g : G} {h : List AB} {w : World} {o : Oper}
theorem rows_set_len {s k : Nat} {rows : List (List AV)} {r' : List AV} (hr : ∀ r ∈ rows, r.length = s) (h' : r'.length = s) : ∀ r ∈ rows.set k r', r.length = s := by
 intro r hm
 rcases List.mem_or_eq_of_mem_set hm with hm | rfl
 ·exact hr r hm
 ·exact h'
theorem s_store (c : Ctx P gl a f g h w) {t : TypeId} {x y : Operand} {s : Nat} {cs : List AV} {h' : List AB} (ho : o.op = .store t x y) (hs : szT P t = some s)
  (hy : cellsOf ((opd y).ev f gl) = some cs) (hl : cs.length = s) (hx : storeA h cs ((opd x).ev f gl) = some h') : Fits P o a g w ud h' := by
 obtain ⟨h1, h2, h3⟩ := cellsOf_rel (c.opd y) hy
 have hsz : (a.eval y).cells.size = s := by rw [← hl, h1.len]; simp
 have hlen : (a.eval y).cells.toList.length = cs.length := h1.len.symm
 have hrun : ∀ ad, (execOp a.eval o).run P w = .ok .skip (ad : World) ↔ (do Instr.storeAt t (a.eval x) (a.eval y); pure Next.skip : Sem Next).run P w = .ok .skip ad := by
  intro ad; simp [execOp, ho]
 have hv := c.opd x
 unfold storeA at hx
 split at hx
 ·rename_i b off e
  rw [e] at hv
  simp only [VR] at hv
  split at hx
  ·rename_i t' xs hb
   split at hx
   ·rename_i hle
    simp only [oiq] at hx
    subst hx
    have hbr := c.hr.br b _ hb
    simp only [BR] at hbr
    obtain ⟨ys, fz, k1, k2, k3⟩ := hbr
    have hys : ys.toList.length = xs.length := k3.1.len.symm
    have hst := run_storeCells' (P := P) (off := off) (a.eval y).cells.toList 0 ys w k1 k2 (by simp at hys hlen ⊢; omega) h2
    rw [Nat.add_zero] at hst
    have hsp : (splice ys.toList off (a.eval y).cells.toList).length = ys.size := by rw [splice_length (by rw [hlen, hys]; exact hle)]; simp
    obtain ⟨m1, m2⟩ := upd_cells c.hr hb (cs' := (splice ys.toList off (a.eval y).cells.toList).toArray) (xs' := splice xs off cs) k1 (by simpa [hsp] using k2) (by simpa using k3.splice off ⟨h1, h2⟩)
    refine ⟨undef, _, g, ?_, m1, m2, VR_ud⟩
    have : (execOp a.eval o).run P w = .ok .skip (setRow' w (g.m b) (splice ys.toList off (a.eval y).cells.toList).toArray t' fz) := by
     rw [hrun]
     simp [Instr.storeAt, hv.2, Instr.sureAddr, storeVar, run_szT hs, hsz, hst]
    rw [this]; rfl
   ·cases hx
  ·cases hx
 ·rename_i b gen size k off e
  rw [e] at hv
  simp only [VR] at hv
  obtain ⟨hb1, hb2, cc, cap, hd, hv⟩ := hv
  split at hx
  ·rename_i t' s' g1 rows hb
   split at hx
   ·rename_i hgs
    obtain ⟨rfl, rfl⟩ := hgs
    split at hx
    ·rename_i r hk
     split at hx
     ·rename_i hle
      simp only [oiq] at hx
      subst hx
      have hbr := c.hr.br b _ hb
      simp only [BR] at hbr
      obtain ⟨_, hr1, hr2⟩ := hbr
      rw [hd] at hr2
      simp only [RowR] at hr2
      obtain ⟨ys, fz, l1, l2, l3, l4, l5, l6⟩ := hr2
      have hrl := hr1 r (List.mem_of_getElem? hk)
      have hklt : k < rows.length := (gei.1 hk).1
      have hk2 : (k + 1) * s' ≤ rows.length * s' := Nat.mul_le_mul_right _ (by omega)
      rw [Nat.add_mul, Nat.one_mul] at hk2
      have hk3 : rows.length * s' ≤ cap * s' := Nat.mul_le_mul_right _ l5
      have hfit : k * s' + off + (a.eval y).cells.toList.length ≤ rows.length * s' := by omega
      have hys : ys.toList.length = cap * s' := by simpa using l3
      have hst := run_storeCells' (P := P) (off := k * s' + off) (a.eval y).cells.toList 0 ys w l1 l2 (by rw [l3]; omega) h2
      rw [Nat.add_zero] at hst
      have hsp : (splice ys.toList (k * s' + off) (a.eval y).cells.toList).length = ys.size := by rw [splice_length (by rw [hys]; omega)]; simp
      have hrow : VRc g w (rows.set k (splice r off cs)).flatten ((splice ys.toList (k * s' + off) (a.eval y).cells.toList).take ((rows.set k (splice r off cs)).length * s')) := by
       rw [flatten_set hr1 hk hle, List.length_set, splice_take hfit (by rw [hys]; exact hk3)]
       exact l6.splice _ ⟨h1, h2⟩
      obtain ⟨m1, m2⟩ := upd_row c.hr hb hd (cs' := (splice ys.toList (k * s' + off) (a.eval y).cells.toList).toArray) (rows' := rows.set k (splice r off cs)) l1 (by simpa [hsp] using l2)
       (by simpa [hsp] using l3) l4 (by simpa using l5) (rows_set_len hr1 (by rw [splice_length hle]; exact hrl)) (by simpa using hrow)
      refine ⟨undef, _, g, ?_, m1, m2, VR_ud⟩
      have : (execOp a.eval o).run P w = .ok .skip (setRow' w cc (splice ys.toList (k * s' + off) (a.eval y).cells.toList).toArray t' fz) := by
       rw [hrun]
       simp [Instr.storeAt, hv, Instr.sureAddr, storeVar, run_szT hs, hsz, hst]
      rw [this]; rfl
     ·cases hx
    ·cases hx
   ·cases hx
  ·cases hx
 ·cases hx
theorem s_nilChk (c : Ctx P gl a f g h w) {x : Operand} {v : AV} (ho : o.op = .nilCheck x) (hx : nilCk ((opd x).ev f gl) = some v) : Fits P o a g w v h := by
 have hv := c.opd x
 unfold nilCk at hx
 split at hx <;> (try cases hx) <;> rename_i e <;> rw [e] at hv
 ·have hv' := hv; simp only [VR] at hv'; obtain ⟨_, hv'⟩ := hv'
  exact fits_same c (x := a.eval x) (by simp [execOp, ho, hv']) hv
 ·have hv' := hv; simp only [VR] at hv'; obtain ⟨_, _, hv', _⟩ := hv'
  exact fits_same c (x := a.eval x) (by simp [execOp, ho, hv']) hv
 ·have hv' := hv; simp only [VR] at hv'; obtain ⟨_, _, _, _, _, hv'⟩ := hv'
  exact fits_same c (x := a.eval x) (by simp [execOp, ho, hv']) hv
 ·have hv' := hv; simp only [VR] at hv'; obtain ⟨_, hv', _⟩ := hv'
  exact fits_same c (x := a.eval x) (by simp [execOp, ho, hv']) hv
 ·have hv' := hv; simp only [VR, PR] at hv'
  exact fits_same c (x := a.eval x) (by simp [execOp, ho, hv']) hv
 ·have hv' := hv; simp only [VR, PR] at hv'
  exact fits_same c (x := a.eval x) (by simp [execOp, ho, hv']) hv
theorem run_intOp {op : BinOp} {k : IntKind} {m n : Int} {v : Value} (h : intOp op k m n = some v) (h1 : op ≠ .shl) (h2 : op ≠ .shr) (t : TypeId) : (binOp op t (.int k m) (.int k n)).run P w = .ok v w := by
 cases op <;> first | (exact absurd rfl h1) | (exact absurd rfl h2) | skip
 all_goals (simp only [intOp] at h)
 all_goals first
  | (split at h
     ·cases h
     ·rename_i hz; simp only [oiq] at h; subst h; simp [binOp, Op.intDiv, hz])
  | (simp only [oiq] at h; subst h; simp [binOp, Op.intArith, Op.intBits, Op.intCmp])
  | cases h
theorem run_shiftOp {op : BinOp} {k k' : IntKind} {m n : Int} {v : Value} (h : shiftOp op k m n = some v) (t : TypeId) : (binOp op t (.int k m) (.int k' n)).run P w = .ok v w := by
 unfold shiftOp at h
 split at h
 ·cases h
 ·rename_i hn
  cases op <;> simp at h
  all_goals (subst h; simp [binOp, Op.shift, hn])
theorem run_strOp {op : BinOp} {x y : ByteArray} {v : Value} (h : strOp op x y = some v) (t : TypeId) : (binOp op t (.string x) (.string y)).run P w = .ok v w := by
 cases op
 case add =>
  simp only [strOp] at h
  split at h
  ·rename_i hz
   simp only [oiq] at h
   subst h
   have h1 : ¬ (((x.size + y.size : Nat) : Int) > IntKind.max .i64) := by
    have : IntKind.max .i64 = 9223372036854775807 := by decide
    omega
   simp only [binOp, Op.stringOp, if_neg h1]
   rfl
  ·cases h
 all_goals (simp only [strOp] at h)
 all_goals first
  | (simp only [oiq] at h; subst h; simp [binOp, Op.stringOp])
  | cases h
theorem run_binV {op : BinOp} {x y v : Value} (h : binV op x y = some v) (t : TypeId) : (binOp op t x y).run P w = .ok v w := by
 unfold binV at h
 split at h
 ·split at h
  ·exact run_shiftOp h t
  ·exact run_shiftOp h t
  ·rename_i h1 h2
   split at h
   ·rename_i e
    subst e
    exact run_intOp h (fun e => h1 e) (fun e => h2 e) t
   ·cases h
 ·exact run_strOp h t
 ·cases h
theorem run_guard_val {op : BinOp} {t : TypeId} {x y : Operand} {u v : Value} (h : binV op u v ≠ none) : (eqGuard op t x y u v).run P w = .ok () w := by
 unfold binV at h
 split at h
 ·cases op <;> simp [eqGuard]
 ·cases op <;> simp [eqGuard]
 ·exact absurd rfl h
theorem s_bin (c : Ctx P gl a f g h w) {op : BinOp} {t yt : TypeId} {x y : Operand} {u v r : Value} (ho : o.op = .binOp op t x y yt) (hx : (opd x).ev f gl = .p (.val u)) (hy : (opd y).ev f gl = .p (.val v))
  (hr : binV op u v = some r) : Fits P o a g w (.p (.val r)) h := by
 have h1 := val_of (c.opd x) hx
 have h2 := val_of (c.opd y) hy
 refine fits_same c (x := r) ?_ (by simp [VR, PR])
 have hg := run_guard_val (P := P) (w := w) (t := t) (x := x) (y := y) (op := op) (u := u) (v := v) (by rw [hr]; simp)
 simp [execOp, ho, h1, h2, hg, run_binV hr]
theorem s_un (c : Ctx P gl a f g h w) {op : UnOp} {t : TypeId} {x : Operand} {u r : Value} (ho : o.op = .unOp op t x) (hx : (opd x).ev f gl = .p (.val u)) (hr : unV op u = some r) : Fits P o a g w (.p (.val r)) h := by
 have h1 := val_of (c.opd x) hx
 refine fits_same c (x := r) ?_ (by simp [VR, PR])
 unfold unV at hr
 split at hr
 ·split at hr
  ·simp only [intOp, oiq] at hr; subst hr; simp [execOp, ho, h1, Op.unary, Op.intArith]
  ·simp only [intOp, oiq] at hr; subst hr; simp [execOp, ho, h1, Op.unary, Op.intBits]
  ·cases hr
 ·split at hr
  ·simp only [oiq] at hr; subst hr; simp [execOp, ho, h1, Op.unary]
  ·cases hr
 ·cases hr
theorem idx_of {x : AV} {v : Value} {n : Int} (h : VR g w x v) (hi : idx x = some n) : ∃ k, v = .int k n := by
 unfold idx at hi
 split at hi
 ·rename_i k m
  simp only [oiq] at hi
  subst hi
  exact ⟨k, val_of h rfl⟩
 ·cases hi
theorem s_convI (c : Ctx P gl a f g h w) {src dst : TypeId} {k k' : IntKind} {x : Operand} {n : Int} (ho : o.op = .convert src dst x) (hs : P.underlying src = some (.int k')) (hd : P.underlying dst = some (.int k))
  (hx : idx ((opd x).ev f gl) = some n) : Fits P o a g w (vi k (k.wrap n)) h := by
 obtain ⟨kk, hv⟩ := idx_of (c.opd x) hx
 refine fits_same c (x := .int k (k.wrap n)) ?_ (by simp [VR, PR])
 simp [execOp, ho, convert, run_underlying hs, run_underlying hd, hv, Conv.intToInt]
theorem s_convS (c : Ctx P gl a f g h w) {src dst : TypeId} {k' : IntKind} {x : Operand} {n : Int} (ho : o.op = .convert src dst x) (hs : P.underlying src = some (.int k')) (hd : P.underlying dst = some .string)
  (hx : idx ((opd x).ev f gl) = some n) : Fits P o a g w (vs (Utf8.encode n)) h := by
 obtain ⟨kk, hv⟩ := idx_of (c.opd x) hx
 refine fits_same c (x := .string (Utf8.encode n)) ?_ (by simp [VR, PR])
 simp [execOp, ho, convert, run_underlying hs, run_underlying hd, hv, Conv.intToString]
theorem VRs_evs (c : Ctx P gl a f g h w) : ∀ (xs : List Operand), VRs g w (xs.map fun x => (opd x).ev f gl) (xs.map a.eval)
 | [] => by simp [VRs]
 | x :: xs => by simp only [List.map_cons, VRs]; exact ⟨c.opd x, VRs_evs c xs⟩
theorem s_mkfn (c : Ctx P gl a f g h w) {fn : Nat} {first caps : Array Operand} (ho : o.op = .makeFunc (.func fn) first caps) (hf : first.size = 0) : Fits P o a g w (.fn fn (caps.toList.map fun x => (opd x).ev f gl)) h := by
 have hfe : first = #[] := Array.eq_empty_of_size_eq_zero hf
 subst hfe
 refine fits_same c (x := .func (.func fn) #[] (caps.map a.eval)) (by simp [execOp, ho, Instr.makeFunc]) ?_
 simp only [VR]
 exact ⟨caps.map a.eval, rfl, by rw [Array.toList_map]; exact VRs_evs c caps.toList⟩
theorem s_extract (c : Ctx P gl a f g h w) {x : Operand} {i : Nat} {xs : List AV} {v : AV} (ho : o.op = .extract x i) (hx : (opd x).ev f gl = .tup xs) (hi : xs[i]? = some v) : Fits P o a g w v h := by
 have hv := c.opd x
 rw [hx] at hv
 simp only [VR] at hv
 obtain ⟨cs, hv, hr⟩ := hv
 obtain ⟨u, hu, hr⟩ := hr.get hi
 have hu' : cs[i]? = some u := by simpa using hu
 exact fits_same c (x := u) (by simp [execOp, ho, hv, Instr.extract, hu']) hr
end
def eqCV : List Nat → List Value → List Value → Option Bool
 | [], [], [] => some true
 | k :: ks, x :: xs, y :: ys =>
  match eqV k x y, eqCV ks xs ys with
  | some a, some b => some (a && b)
  | _, _ => none
 | _, _, _ => none
theorem eqCV_len : ∀ {ks : List Nat} {xs ys : List Value} {r : Bool}, eqCV ks xs ys = some r → xs.length = ks.length ∧ ys.length = ks.length
 | [], [], [], _, _ => ⟨rfl, rfl⟩
 | k :: ks, x :: xs, y :: ys, r, h => by
  simp only [eqCV] at h
  split at h
  ·rename_i h2; have := eqCV_len h2; simp [this.1, this.2]
  ·cases h
 | [], _ :: _, _, _, h => by simp [eqCV] at h
 | [], [], _ :: _, _, h => by simp [eqCV] at h
 | _ :: _, _ :: _, [], _, h => by simp [eqCV] at h
 | _ :: _, [], _, _, h => by simp [eqCV] at h
theorem eqCV_split : ∀ {ks ks' : List Nat} {xs ys : List Value} {r : Bool}, eqCV (ks ++ ks') xs ys = some r →
  ∃ p q, eqCV ks (xs.take ks.length) (ys.take ks.length) = some p ∧ eqCV ks' (xs.drop ks.length) (ys.drop ks.length) = some q ∧ r = (p && q)
 | [], ks', xs, ys, r, h => ⟨true, r, by simp [eqCV], by simpa using h, by simp⟩
 | k :: ks, ks', x :: xs, y :: ys, r, h => by
  simp only [List.cons_append, eqCV] at h
  split at h
  ·rename_i a b h1 h2
   obtain ⟨p, q, k1, k2, rfl⟩ := eqCV_split h2
   simp only [oiq] at h
   exact ⟨a && p, q, by simp [eqCV, h1, k1], by simpa using k2, by rw [← h, Bool.and_assoc]⟩
  ·cases h
 | _ :: _, _, [], _, _, h => by simp [eqCV] at h
 | _ :: _, _, _ :: _, [], _, h => by simp [eqCV] at h
theorem eqC_vals {g : G} {w : World} : ∀ {ks : List Nat} {xs ys : List AV} {us vs : List Value} {r : Bool}, eqC ks xs ys = some r → VRs g w xs us → VRs g w ys vs → eqCV ks us vs = some r
 | [], xs, ys, us, vs, r, h, h1, h2 => by
  cases xs <;> cases ys <;> cases us <;> cases vs <;> simp_all [VRs, eqC, eqCV]
 | k :: ks, xs, ys, us, vs, r, h, h1, h2 => by
  unfold eqC at h
  split at h
  ·rename_i e; cases e
  ·rename_i k' ks' x xs' y ys' e
   injection e with e1 e2
   subst e1; subst e2
   cases us with
   | nil => simp [VRs] at h1
   | cons u us =>
    cases vs with
    | nil => simp [VRs] at h2
    | cons v vs =>
     simp only [VRs] at h1 h2
     have k1 := val_of h1.1 rfl
     have k2 := val_of h2.1 rfl
     subst k1; subst k2
     split at h
     ·rename_i a b l1 l2
      simp only [eqCV, l1, eqC_vals l2 h1.2 h2.2]
      exact h
     ·cases h
  ·cases h
section
variable {P : Program}
def PartOf (P : Program) (t : TypeId) (cs : List Value) : Value → Prop := fun v => ∃ b, aggT P t = some b ∧ ((b = true ∧ v = .agg cs.toArray) ∨ (b = false ∧ cs = [v]))
theorem run_part {w : World} {t : TypeId} {s off : Nat} {b : Bool} {xs : List Value} (hb : aggT P t = some b) (hs : szT P t = some s) (h1 : b = false → s = 1) (hl : off + s ≤ xs.length) :
  ∃ v, (part t xs.toArray off).run P w = .ok v w ∧ PartOf P t ((xs.drop off).take s) v := by
 cases b with
 | true =>
  refine ⟨.agg ((xs.drop off).take s).toArray, ?_, true, hb, .inl ⟨rfl, rfl⟩⟩
  simp only [part, Sem.run_bind, run_aggT hb, Result.andThen_ok, if_true, run_szT hs, Sem.run_pure]
  congr 2
  apply Array.ext'
  simp [List.extract_eq_take_drop]
 | false =>
  obtain rfl := h1 rfl
  have hlt : off < xs.length := by omega
  refine ⟨xs[off], ?_, false, hb, .inr ⟨rfl, ?_⟩⟩
  ·simp [part, run_aggT hb, hlt]
  ·rw [List.drop_eq_getElem_cons hlt, List.take_succ_cons, List.take_zero]
def eqElems (d : Nat) (e : TypeId) (n : Nat) (xs ys : Array Value) : List Nat → Sem Bool
 | [] => pure true
 | i :: is => do
  let a ← part e xs (i * n)
  let b ← part e ys (i * n)
  let r ← Op.equalIn d e a b
  if (!r) = true then pure false else eqElems d e n xs ys is
theorem run_equalIn_array (w : World) (d : Nat) (t e : TypeId) (len n : Nat) (xs ys : Array Value) (ht : P.underlying t = some (.array len e)) (hs : szT P e = some n) :
  (Op.equalIn (d + 1) t (.agg xs) (.agg ys)).run P w = (eqElems d e n xs ys (List.range len)).run P w := by
 simp only [Op.equalIn, Sem.run_bind, run_underlying ht, Result.andThen_ok, run_szT hs]
 simp only [Std.Legacy.Range.forIn_eq_forIn_range', Std.Legacy.Range.size, Nat.sub_zero, Nat.add_sub_cancel, Nat.div_one, List.range_eq_range']
 generalize List.range' 0 len = is
 clear ht
 induction is generalizing w with
 | nil => simp [eqElems]
 | cons i is ih =>
  simp only [List.forIn_cons, eqElems, Sem.run_bind]
  generalize (part e xs (i * n)).run P w = r1
  cases r1 with
  | halt x w1 => simp [Result.andThen]
  | ok a w1 =>
   simp only [Result.andThen_ok]
   generalize (part e ys (i * n)).run P w1 = r2
   cases r2 with
   | halt x w2 => simp [Result.andThen]
   | ok b w2 =>
    simp only [Result.andThen_ok]
    generalize (Op.equalIn d e a b).run P w2 = r3
    cases r3 with
    | halt x w3 => simp [Result.andThen]
    | ok r w3 =>
     cases r
     ·simp only [Result.andThen_ok, Bool.not_false, if_true, Sem.run_pure]
     ·simp only [Result.andThen_ok, Bool.not_true, Bool.false_eq_true, if_false, Sem.run_pure]
      exact ih w3
theorem run_equalIn_plain : ∀ (n d : Nat) (t : TypeId) (ks : List Nat), n ≤ d → plainK P n t = some ks → szT P t = some ks.length ∧ (∃ b, aggT P t = some b ∧ (b = false → ks.length = 1)) ∧
  ∀ (cu cv : List Value) (r : Bool) (u v : Value) (w : World), eqCV ks cu cv = some r → PartOf P t cu u → PartOf P t cv v → (Op.equalIn d t u v).run P w = .ok r w
 | 0, _, _, _, _, h => by simp [plainK] at h
 | n + 1, 0, _, _, hd, _ => by omega
 | n + 1, d + 1, t, ks, hd, h => by
  have one : ∀ (k : Nat) (D : TypeDesc), P.underlying t = some D → isAggD D = false → ks = [k] → szT P t = some 1 →
    (∀ x y r w, eqV k x y = some r → (Op.equalIn (d + 1) t x y).run P w = .ok r w) →
    szT P t = some ks.length ∧ (∃ b, aggT P t = some b ∧ (b = false → ks.length = 1)) ∧
    ∀ (cu cv : List Value) (r : Bool) (u v : Value) (w : World), eqCV ks cu cv = some r → PartOf P t cu u → PartOf P t cv v → (Op.equalIn (d + 1) t u v).run P w = .ok r w := by
   intro k D hu hD hk hs hh
   subst hk
   have hb : aggT P t = some false := by simp [aggT, hu, hD]
   refine ⟨hs, ⟨false, hb, fun _ => rfl⟩, ?_⟩
   intro cu cv r u v w he hpu hpv
   obtain ⟨b1, hb1, hpu⟩ := hpu
   obtain ⟨b2, hb2, hpv⟩ := hpv
   rw [hb] at hb1 hb2
   simp only [oiq] at hb1 hb2
   subst hb1; subst hb2
   simp only [Bool.false_eq_true, false_and, true_and, false_or] at hpu hpv
   subst hpu; subst hpv
   simp only [eqCV] at he
   split at he
   ·rename_i a b l1 l2
    simp only [oiq] at l2 he
    subst l2; subst he
    simpa using hh u v a w l1
   ·cases he
  unfold plainK at h
  split at h
  ·rename_i hu
   split at h
   ·rename_i hs
    simp only [oiq] at h
    refine one 0 _ hu rfl h.symm hs ?_
    intro x y r w he
    unfold eqV at he
    split at he <;> simp_all
    rw [← he]
    exact run_equalIn_bool' w d t _ _ hu
   ·cases h
  ·rename_i hu
   split at h
   ·rename_i hs
    simp only [oiq] at h
    refine one 1 _ hu rfl h.symm hs ?_
    intro x y r w he
    unfold eqV at he
    split at he <;> simp_all
    obtain ⟨rfl, he⟩ := he
    rw [← he]
    exact run_equalIn_int w d t _ _ _ _ hu
   ·cases h
  ·rename_i hu
   split at h
   ·rename_i hs
    simp only [oiq] at h
    refine one 2 _ hu rfl h.symm hs ?_
    intro x y r w he
    unfold eqV at he
    split at he <;> simp_all
    rw [run_equalIn_string w d t _ _ hu, ← beq_toListBytes, ← he]
   ·cases h
  ·rename_i fs hu
   split at h
   ·rename_i ks' hks
    split at h
    ·rename_i hc
     simp only [oiq] at h
     subst h
     have hb : aggT P t = some true := by simp [aggT, hu, isAggD]
     refine ⟨hc.2, ⟨true, hb, by simp⟩, ?_⟩
     intro cu cv r u v w he hpu hpv
     obtain ⟨b1, hb1, hpu⟩ := hpu
     obtain ⟨b2, hb2, hpv⟩ := hpv
     rw [hb] at hb1 hb2
     simp only [oiq] at hb1 hb2
     subst hb1; subst hb2
     simp only [true_and, Bool.true_eq_false, false_and, or_false] at hpu hpv
     subst hpu; subst hpv
     have hfo : P.fieldsOf t = fs := by simp [Program.fieldsOf, hu]
     rw [run_equalIn_struct w d t _ _ (by rw [hfo]; exact hu) hc.1, hfo]
     have key : ∀ (fl : List Field) (off : Nat) (ks : List Nat), plainKs P (plainK P n) fl off = some ks → off ≤ cu.length → off ≤ cv.length → ∀ r, eqCV ks (cu.drop off) (cv.drop off) = some r →
       (Op.eqFields d cu.toArray cv.toArray fl).run P w = .ok r w := by
      intro fl
      induction fl with
      | nil =>
       intro off ks hk hc1 hc2 r he
       simp only [plainKs, oiq] at hk
       subst hk
       have := eqCV_len he
       have e1 : cu.drop off = [] := enz this.1
       have e2 : cv.drop off = [] := enz this.2
       rw [e1, e2] at he
       simp only [eqCV, oiq] at he
       subst he
       simp [Op.eqFields]
      | cons f fl ih =>
       intro off ks hk hc1 hc2 r he
       simp only [plainKs] at hk
       split at hk
       ·rename_i ks1 hk1
        split at hk
        ·rename_i hc
         obtain ⟨hn, ho, hsz⟩ := hc
         cases hk2 : plainKs P (plainK P n) fl (off + ks1.length) with
         | none => simp [hk2] at hk
         | some ks2 =>
          simp only [hk2, msm, oiq] at hk
          subst hk
          obtain ⟨p, q, m1, m2, rfl⟩ := eqCV_split he
          obtain ⟨_, ⟨b, hb, hb1⟩, hrec⟩ := run_equalIn_plain n d f.type ks1 (by omega) hk1
          have hl := eqCV_len he
          have l1 : off + ks1.length ≤ cu.length := by
           have := hl.1; simp only [List.length_drop, lap] at this; have := (eqCV_len m1).1; simp only [List.length_take, List.length_drop] at this; omega
          have l2 : off + ks1.length ≤ cv.length := by
           have := hl.2; simp only [List.length_drop, lap] at this; have := (eqCV_len m1).2; simp only [List.length_take, List.length_drop] at this; omega
          obtain ⟨x, hx, hpx⟩ := run_part (P := P) (w := w) (off := off) hb hsz hb1 l1
          obtain ⟨y, hy, hpy⟩ := run_part (P := P) (w := w) (off := off) hb hsz hb1 l2
          have hrun := hrec _ _ p x y w m1 hpx hpy
          have hih := ih (off + ks1.length) ks2 hk2 l1 l2 q (by rw [List.drop_drop, List.drop_drop] at m2; exact m2)
          simp only [Op.eqFields, if_pos hn, ho, Sem.run_bind, hx, hy, Result.andThen_ok, hrun]
          cases p
          ·simp
          ·simpa using hih
        ·cases hk
       ·cases hk
     exact key fs.toList 0 ks' hks (Nat.zero_le _) (Nat.zero_le _) r (by simpa using he)
    ·cases h
   ·cases h
  ·rename_i len e hu
   split at h
   ·rename_i ks' hks
    split at h
    ·rename_i hc
     simp only [oiq] at h
     have hb : aggT P t = some true := by simp [aggT, hu, isAggD]
     have hlen : (List.replicate len ks').flatten.length = len * ks'.length := by simp
     subst h
     refine ⟨by rw [hlen]; exact hc.2, ⟨true, hb, by simp⟩, ?_⟩
     intro cu cv r u v w he hpu hpv
     obtain ⟨b1, hb1, hpu⟩ := hpu
     obtain ⟨b2, hb2, hpv⟩ := hpv
     rw [hb] at hb1 hb2
     simp only [oiq] at hb1 hb2
     subst hb1; subst hb2
     simp only [true_and, Bool.true_eq_false, false_and, or_false] at hpu hpv
     subst hpu; subst hpv
     rw [run_equalIn_array w d t e len ks'.length _ _ hu hc.1]
     obtain ⟨_, ⟨b, hb, hb1⟩, hrec⟩ := run_equalIn_plain n d e ks' (by omega) hks
     have key : ∀ (m i : Nat) (r : Bool), i * ks'.length ≤ cu.length → i * ks'.length ≤ cv.length → eqCV (List.replicate m ks').flatten (cu.drop (i * ks'.length)) (cv.drop (i * ks'.length)) = some r →
       (eqElems d e ks'.length cu.toArray cv.toArray (List.range' i m)).run P w = .ok r w := by
      intro m
      induction m with
      | zero =>
       intro i r hc1 hc2 he
       simp only [List.replicate_zero, List.flatten_nil] at he
       have := eqCV_len he
       have e1 : cu.drop (i * ks'.length) = [] := enz this.1
       have e2 : cv.drop (i * ks'.length) = [] := enz this.2
       rw [e1, e2] at he
       simp only [eqCV, oiq] at he
       subst he
       simp [eqElems]
      | succ m ih =>
       intro i r hc1 hc2 he
       rw [List.replicate_succ, fcs] at he
       obtain ⟨p, q, m1, m2, rfl⟩ := eqCV_split he
       have l1 : i * ks'.length + ks'.length ≤ cu.length := by
        have h0 := (eqCV_len he).1
        simp only [List.length_drop, lap] at h0; omega
       have l2 : i * ks'.length + ks'.length ≤ cv.length := by
        have h0 := (eqCV_len he).2
        simp only [List.length_drop, lap] at h0; omega
       obtain ⟨x, hx, hpx⟩ := run_part (P := P) (w := w) (off := i * ks'.length) hb hc.1 hb1 l1
       obtain ⟨y, hy, hpy⟩ := run_part (P := P) (w := w) (off := i * ks'.length) hb hc.1 hb1 l2
       have hrun := hrec _ _ p x y w m1 hpx hpy
       have hih := ih (i + 1) q (by rw [Nat.add_mul, Nat.one_mul]; exact l1) (by rw [Nat.add_mul, Nat.one_mul]; exact l2) (by rw [List.drop_drop, List.drop_drop] at m2; rw [Nat.add_mul, Nat.one_mul]; exact m2)
       simp only [List.range'_succ, eqElems, Sem.run_bind, hx, hy, Result.andThen_ok, hrun]
       cases p
       ·simp
       ·simpa using hih
     rw [List.range_eq_range']
     exact key len 0 r (by simp) (by simp) (by simpa using he)
    ·cases h
   ·cases h
  ·cases h
end
end Go.Vs
