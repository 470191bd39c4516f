/- A value-like memory for the model's programs: abstract values, abstract blocks, the instructions and what they do there. No program is named here. -/
import Derived.WalkKit
import Derived.Orders
import Derived.Laws.Externs
namespace Go.Vs
set_option linter.unusedSimpArgs false
set_option linter.unusedVariables false
open Go Go.RowKit

/-- What is pure: a value that holds no address of the call's own; a slice that is only read. -/
inductive PV where
  | val (v : Value)
  | lst (size : Nat) (rows : List (List PV))

/-- An abstract value: ptr, rp, sl, mp lead to abstract blocks; ro is a pointer to cells that stay. -/
inductive AV where
  | p (x : PV)
  | agg (xs : List AV)
  | tup (xs : List AV)
  | ptr (b off : Nat)
  | ro (xs : List PV)
  | rp (b gen size k off : Nat)
  | sl (b gen size off len : Nat)
  | mp (b : Nat)
  | yl (b : Nat)
  | anyp
  | fn (f : Nat) (caps : List AV)
  | und

abbrev vi (k : IntKind) (n : Int) : AV := .p (.val (.int k n))
abbrev vb (b : Bool) : AV := .p (.val (.bool b))
abbrev vs (s : ByteArray) : AV := .p (.val (.string s))
abbrev ud : AV := .p (.val undef)
abbrev nilS : Value := .slice none 0 0

inductive Opd where
  | t (n : Nat)
  | c (a : AV)
  | g (n : Nat)

/-- A cell of a zero value: a pure one, or a slice that is nil and may grow. -/
inductive ZC where
  | z (x : PV)
  | r (t : TypeId) (size : Nat)

inductive Ins where
  | mv (x : Opd)
  | nilrow (t : TypeId) (size : Nat)
  | pick (c a b : Opd)
  | alloc (t : TypeId) (zs : List ZC)
  | box (t : TypeId) (x : Opd)
  | build (zero : List PV) (parts : List (Nat × Nat × Opd))
  | buildS (t : TypeId) (size : Nat) (zero : List PV) (len : Nat) (parts : List (Nat × Opd))
  | load (agg : Bool) (size : Nat) (x : Opd)
  | store (size : Nat) (a v : Opd)
  | nilChk (x : Opd)
  | bin (op : BinOp) (x y : Opd)
  | eqA (agg : Bool) (ks : List Nat) (neg : Bool) (x y : Opd)
  | eqN (neg : Bool) (x : Opd)
  | un (op : UnOp) (x : Opd)
  | convI (k : IntKind) (x : Opd)
  | convS (x : Opd)
  | convB (x : Opd)
  | mkB (t : TypeId) (x : Opd)
  | mkfn (f : Nat) (caps : List Opd)
  | makeS (t : TypeId) (size : Nat) (bytes : Nat) (zero : List PV) (len cap : Opd)
  | sliceS (x : Opd) (lo hi : Option Opd)
  | slice (size : Nat) (x : Opd) (lo hi : Option Opd)
  | fieldA (off : Nat) (x : Opd)
  | field (agg : Bool) (off size : Nat) (x : Opd)
  | indexA (arr : Option Nat) (size : Nat) (x i : Opd)
  | indexS (x i : Opd)
  | index (agg : Bool) (n size : Nat) (x i : Opd)
  | extract (x : Opd) (i : Nat)
  | len (x : Opd)
  | lenS (x : Opd)
  | append (t : TypeId) (size bytes : Nat) (zero : List PV) (x y : Opd)
  | min2 (max : Bool) (x y : Opd)
  | eqP (neg : Bool) (x y : Opd)
  | cvU (x : Opd)
  | cvP (oks : List (TypeId × Nat × Nat)) (x : Opd)
  | ixb (x y : Opd)
  | slData (x : Opd)
  | uStr (e : TypeId) (x n : Opd)
  | call (sh : Bool) (f : Opd) (args : List Opd)

structure IOp where
  dst : Option Nat
  ins : Ins
  guard : Option (Nat × Bool)

inductive IC where
  | skip
  | ops (l : List IOp)
  | seq (a b : IC)
  | cond (c : Opd) (x y : IC)
  | block (id : Nat) (b : IC)
  | loop (live : List Nat) (b : IC)
  | loopAt (n : Nat) (live : List Nat) (b : IC)
  | rangeF (fo : Opd) (ps : List Nat) (assign body : IC)
  | exit (id : Nat)
  | bad
  | ret

/-- An abstract block. loop: the record of a range over a function: 0 ready, 1 busy, 2 done; a jump that waits (ret, or an exit); yield's places; the frame; the assignment and the body. -/
inductive AB where
  | cells (t : TypeId) (xs : List AV)
  | row (t : TypeId) (size gen : Nat) (rows : List (List AV))
  | loop (st : Nat) (pend : Option (Option Nat)) (ps : List Nat) (f : List AV) (assign body : IC)
  | dead

inductive IRes where
  | tmp (t : Nat)
  | cell (t : Nat) (agg : Bool) (size : Nat)

structure IFun where
  ntmps : Nat
  results : List IRes
  code : IC

structure St where
  f : List AV
  h : List AB

inductive Out where
  | norm
  | brk (id : Nat)
  | ret

/-- Fits a value into one cell? -/
def isOne : Value → Bool
  | .agg _ => false
  | .tuple _ => false
  | _ => true

def AV.one : AV → Bool
  | .p (.val v) => isOne v
  | .agg _ => false
  | .tup _ => false
  | .und => false
  | _ => true

def isAggA : AV → Bool
  | .agg _ => true
  | _ => false

def cellsOf : AV → Option (List AV)
  | .agg xs => if xs.all AV.one then some xs else none
  | x => if x.one then some [x] else none

def splice {α : Type} (xs : List α) (off : Nat) (cs : List α) : List α := xs.take off ++ cs ++ xs.drop (off + cs.length)

def sub {α : Type} (xs : List α) (off n : Nat) : Option (List α) := if off + n ≤ xs.length then some ((xs.drop off).take n) else none

def getT (f : List AV) (t : Nat) : AV := f[t]?.getD .und

def Opd.ev (f : List AV) (gl : Nat → Option (List PV)) : Opd → AV
  | .t n => getT f n
  | .c a => a
  | .g n => match gl n with | some xs => .ro xs | none => .und

def intOp (op : BinOp) (k : IntKind) (a b : Int) : Option Value :=
  match op with
  | .add => some (.int k (k.wrap (a + b)))
  | .sub => some (.int k (k.wrap (a - b)))
  | .mul => some (.int k (k.wrap (a * b)))
  | .quo => if b = 0 then none else some (.int k (k.wrap (a.tdiv b)))
  | .rem => if b = 0 then none else some (.int k (a.tmod b))
  | .and => some (.int k (k.wrap (BitVec.ofInt k.bits a &&& BitVec.ofInt k.bits b).toNat))
  | .or => some (.int k (k.wrap (BitVec.ofInt k.bits a ||| BitVec.ofInt k.bits b).toNat))
  | .xor => some (.int k (k.wrap (BitVec.ofInt k.bits a ^^^ BitVec.ofInt k.bits b).toNat))
  | .andNot => some (.int k (k.wrap (BitVec.ofInt k.bits a &&& ~~~ BitVec.ofInt k.bits b).toNat))
  | .eql => some (.bool (a == b))
  | .neq => some (.bool (a != b))
  | .lss => some (.bool (a < b))
  | .leq => some (.bool (a ≤ b))
  | .gtr => some (.bool (a > b))
  | .geq => some (.bool (a ≥ b))
  | _ => none

def strOp (op : BinOp) (x y : ByteArray) : Option Value :=
  match op with
  | .add => if x.size + y.size ≤ 9223372036854775807 then some (.string (x ++ y)) else none
  | .eql => some (.bool (x.toList == y.toList))
  | .neq => some (.bool !(x.toList == y.toList))
  | .lss => some (.bool (Op.bytesLess x.toList y.toList))
  | .leq => some (.bool (Op.bytesLess x.toList y.toList || x.toList == y.toList))
  | .gtr => some (.bool !(Op.bytesLess x.toList y.toList || x.toList == y.toList))
  | .geq => some (.bool !(Op.bytesLess x.toList y.toList))
  | _ => none

def shiftOp (op : BinOp) (k : IntKind) (a b : Int) : Option Value :=
  if b < 0 then none else
  match op with
  | .shl => some (.int k (k.wrap (a * 2 ^ (min b.toNat k.bits))))
  | .shr => some (.int k (a.fdiv (2 ^ (min b.toNat k.bits))))
  | _ => none

def binV (op : BinOp) : Value → Value → Option Value
  | .int k a, .int k' b =>
    match op with
    | .shl => shiftOp .shl k a b
    | .shr => shiftOp .shr k a b
    | op => if k = k' then intOp op k a b else none
  | .string a, .string b => strOp op a b
  | _, _ => none

/-- == of two cells of a kind: 0 bools, 1 integers, 2 strings. -/
def eqV : Nat → Value → Value → Option Bool
  | 0, .bool a, .bool b => some (a == b)
  | 1, .int k a, .int k' b => if k = k' then some (a == b) else none
  | 2, .string a, .string b => some (a == b)
  | _, _, _ => none

def eqC : List Nat → List AV → List AV → Option Bool
  | [], [], [] => some true
  | k :: ks, .p (.val x) :: xs, .p (.val y) :: ys =>
    match eqV k x y, eqC ks xs ys with
    | some a, some b => some (a && b)
    | _, _ => none
  | _, _, _ => none

def unV (op : UnOp) : Value → Option Value
  | .int k n =>
    match op with
    | .neg => intOp .sub k 0 n
    | .xor => intOp .xor k (if k.signed then -1 else k.max) n
    | _ => none
  | .bool b => match op with | .not => some (.bool !b) | _ => none
  | _ => none

def zeroN : List ZC → Nat → List AV × List AB
  | [], _ => ([], [])
  | .z x :: zs, n => let (a, b) := zeroN zs n; (.p x :: a, b)
  | .r t size :: zs, n => let (a, b) := zeroN zs (n + 1); (.sl n 0 size 0 0 :: a, .row t size 0 [] :: b)

def fillA (f : List AV) (gl : Nat → Option (List PV)) : List AV → List (Nat × Nat × Opd) → Option (List AV)
  | cs, [] => some cs
  | cs, (off, size, x) :: r =>
    match cellsOf (x.ev f gl) with
    | some vs => if vs.length = size ∧ off + size ≤ cs.length then fillA f gl (splice cs off vs) r else none
    | none => none

def fillR (f : List AV) (gl : Nat → Option (List PV)) (size : Nat) : List (List AV) → List (Nat × Opd) → Option (List (List AV))
  | cs, [] => some cs
  | cs, (i, x) :: r =>
    match cellsOf (x.ev f gl) with
    | some vs => if vs.length = size ∧ i < cs.length then fillR f gl size (cs.set i vs) r else none
    | none => none

def oneOr (agg : Bool) (xs : List AV) : Option AV :=
  if agg then some (.agg xs) else match xs with | [x] => some x | _ => none

/-- The cells that lie at a pointer. -/
def loadA (h : List AB) (n : Nat) : AV → Option (List AV)
  | .ptr b off => match h[b]? with | some (.cells _ xs) => sub xs off n | _ => none
  | .ro xs => (sub xs 0 n).map (·.map .p)
  | .rp b gen size k off => match h[b]? with
    | some (.row _ s g rows) => if g = gen ∧ s = size then (rows[k]?).bind fun r => sub r off n else none
    | _ => none
  | _ => none

def storeA (h : List AB) (cs : List AV) : AV → Option (List AB)
  | .ptr b off => match h[b]? with
    | some (.cells t xs) => if off + cs.length ≤ xs.length then some (h.set b (.cells t (splice xs off cs))) else none
    | _ => none
  | .rp b gen size k off => match h[b]? with
    | some (.row t s g rows) =>
      if g = gen ∧ s = size then
        match rows[k]? with
        | some r => if off + cs.length ≤ r.length then some (h.set b (.row t s g (rows.set k (splice r off cs)))) else none
        | none => none
      else none
    | _ => none
  | _ => none

/-- The rows that a slice tells. -/
def rowsOf (h : List AB) (size : Nat) : AV → Option (List (List AV))
  | .sl b gen s off len =>
    if s = size then
      match h[b]? with
      | some (.row _ s' g rows) => if g = gen ∧ s' = s ∧ off + len ≤ rows.length then some ((rows.drop off).take len) else none
      | _ => none
    else none
  | .p (.lst s rows) => if s = size then some (rows.map (·.map .p)) else none
  | .p (.val (.slice none 0 0)) => some []
  | .p (.val (.string s)) => if size = 1 then some (s.data.toList.map fun b => [vi .u8 b.toNat]) else none
  | _ => none

def lenA : AV → Option Nat
  | .sl _ _ _ _ len => some len
  | .p (.lst _ rows) => some rows.length
  | .p (.val (.slice none 0 0)) => some 0
  | _ => none

def bytesOf : List (List AV) → Option (List UInt8)
  | [] => some []
  | [.p (.val (.int .u8 n))] :: r => (bytesOf r).map (UInt8.ofNat n.toNat :: ·)
  | _ => none

def idx : AV → Option Int
  | .p (.val (.int _ n)) => some n
  | _ => none

def idxO (f : List AV) (gl : Nat → Option (List PV)) (d : Nat) : Option Opd → Option Int
  | none => some d
  | some o => idx (o.ev f gl)

def limit47 : Nat := 140737488355328

def appendA (h : List AB) (t : TypeId) (size bytes : Nat) (x : AV) (news : List (List AV)) : Option (AV × List AB) :=
  match x with
  | .sl b gen s off len =>
    if s = size ∧ off = 0 then
      match h[b]? with
      | some (.row t' s' g rows) =>
        if g = gen ∧ s' = size ∧ t' = t ∧ len ≤ rows.length ∧ (len + news.length) * bytes ≤ limit47 ∧ len + news.length ≤ limit47 then
          if len + news.length ≤ rows.length then
            some (.sl b gen size 0 (len + news.length), h.set b (.row t size g (splice rows len news)))
          else
            some (.sl b (gen + 1) size 0 (len + news.length), h.set b (.row t size (gen + 1) (rows.take len ++ news)))
        else none
      | _ => none
    else none
  | .p (.val (.slice none 0 0)) =>
    if news.length * bytes ≤ limit47 ∧ news.length ≤ limit47 then
      some (.sl h.length 0 size 0 news.length, h ++ [.row t size 0 news])
    else none
  | _ => none

def nilCk : AV → Option AV
  | .ptr b o => some (.ptr b o)
  | .ro xs => some (.ro xs)
  | .rp b g s k o => some (.rp b g s k o)
  | .fn f c => some (.fn f c)
  | .p (.val (.string s)) => some (.p (.val (.string s)))
  | .p (.val (.int k n)) => some (.p (.val (.int k n)))
  | _ => none

def ptrAdd (off : Nat) : AV → Option AV
  | .ptr b o => some (.ptr b (o + off))
  | .ro xs => some (.ro (xs.drop off))
  | .rp b g s k o => some (.rp b g s k (o + off))
  | _ => none

/-- What an instruction yields, and the blocks behind it. -/
def evI (gl : Nat → Option (List PV)) (f : List AV) (h : List AB) : Ins → Option (AV × List AB)
  | .mv x => some (x.ev f gl, h)
  | .nilrow t size => some (.sl h.length 0 size 0 0, h ++ [.row t size 0 []])
  | .pick c a b => match c.ev f gl with
    | .p (.val (.bool t)) => some (if t then a.ev f gl else b.ev f gl, h)
    | _ => none
  | .alloc t zs => let (a, b) := zeroN zs h.length; some (.ptr (h.length + b.length) 0, h ++ b ++ [.cells t a])
  | .box t x => (cellsOf (x.ev f gl)).map fun cs => (.ptr h.length 0, h ++ [.cells t cs])
  | .build zero parts => (fillA f gl (zero.map .p) parts).map fun cs => (.agg cs, h)
  | .buildS t size zero len parts =>
    (fillR f gl size (List.replicate len (zero.map .p)) parts).map fun rows => (.sl h.length 0 size 0 len, h ++ [.row t size 0 rows])
  | .load agg size x => (loadA h size (x.ev f gl)).bind fun cs => (oneOr agg cs).map (·, h)
  | .store size a v => (cellsOf (v.ev f gl)).bind fun cs => if cs.length = size then (storeA h cs (a.ev f gl)).map (ud, ·) else none
  | .nilChk x => (nilCk (x.ev f gl)).map (·, h)
  | .bin op x y => match x.ev f gl, y.ev f gl with
    | .p (.val a), .p (.val b) => (binV op a b).map fun v => (AV.p (.val v), h)
    | _, _ => none
  | .eqA agg ks neg x y => if isAggA (x.ev f gl) = agg ∧ isAggA (y.ev f gl) = agg then (cellsOf (x.ev f gl)).bind fun a => (cellsOf (y.ev f gl)).bind fun b => (eqC ks a b).map fun t => (vb (if neg then !t else t), h) else none
  | .eqN neg x => match x.ev f gl with
    | .fn _ _ => some (vb neg, h)
    | .p (.val .nilFunc) => some (vb !neg, h)
    | _ => none
  | .un op x => match x.ev f gl with
    | .p (.val a) => (unV op a).map fun v => (AV.p (.val v), h)
    | _ => none
  | .convI k x => (idx (x.ev f gl)).map fun n => (vi k (k.wrap n), h)
  | .convS x => (idx (x.ev f gl)).map fun n => (vs (Utf8.encode n), h)
  | .convB x => match x.ev f gl with
    | .p (.val (.string _)) => none
    | v => (rowsOf h 1 v).bind fun rows => (bytesOf rows).map fun l => (vs ⟨l.toArray⟩, h)
  | .mkB t x => match x.ev f gl with
    | .p (.val (.string s)) => if s.size ≤ limit47 then some (.sl h.length 0 1 0 s.size, h ++ [.row t 1 0 (s.data.toList.map fun b => [vi .u8 b.toNat])]) else none
    | _ => none
  | .mkfn g caps => some (.fn g (caps.map (·.ev f gl)), h)
  | .makeS t size bytes zero len cap => (idx (len.ev f gl)).bind fun l => (idx (cap.ev f gl)).bind fun c =>
    if 0 ≤ l ∧ l = c ∧ c * bytes ≤ limit47 ∧ c ≤ limit47 then
      some (.sl h.length 0 size 0 l.toNat, h ++ [.row t size 0 (List.replicate l.toNat (zero.map .p))])
    else none
  | .sliceS x lo hi => match x.ev f gl with
    | .p (.val (.string s)) => (idxO f gl 0 lo).bind fun l => (idxO f gl s.size hi).bind fun r =>
      if 0 ≤ l ∧ l ≤ r ∧ r ≤ s.size then some (vs (s.extract l.toNat r.toNat), h) else none
    | _ => none
  | .slice sz x lo hi => match x.ev f gl with
    | .sl b gen size off len => if size = sz then (idxO f gl 0 lo).bind fun l => (idxO f gl len hi).bind fun r =>
      match h[b]? with
      | some (.row _ _ g rows) =>
        if g = gen ∧ 0 ≤ l ∧ l ≤ r ∧ off + r.toNat ≤ rows.length ∧ off + len ≤ rows.length then some (.sl b gen size (off + l.toNat) (r.toNat - l.toNat), h) else none
      | _ => none
      else none
    | .p (.lst size rows) => if size = sz then (idxO f gl 0 lo).bind fun l => (idxO f gl rows.length hi).bind fun r =>
      if 0 ≤ l ∧ l ≤ r ∧ r ≤ rows.length then some (.p (.lst size ((rows.take r.toNat).drop l.toNat)), h) else none
      else none
    | .p (.val (.slice none 0 0)) => (idxO f gl 0 lo).bind fun l => (idxO f gl 0 hi).bind fun r =>
      if l = 0 ∧ r = 0 then some (.p (.val nilS), h) else none
    | _ => none
  | .fieldA off x => (ptrAdd off (x.ev f gl)).map (·, h)
  | .field agg off size x => match x.ev f gl with
    | .agg xs => (sub xs off size).bind fun cs => (oneOr agg cs).map (·, h)
    | _ => none
  | .indexA (some n) size x i => (idx (i.ev f gl)).bind fun k =>
    if 0 ≤ k ∧ k < n then (ptrAdd (k.toNat * size) (x.ev f gl)).map (·, h) else none
  | .indexA none size x i => (idx (i.ev f gl)).bind fun k => match x.ev f gl with
    | .sl b gen s off len => if s = size ∧ 0 ≤ k ∧ k < len then some (.rp b gen s (off + k.toNat) 0, h) else none
    | .p (.lst s rows) => if s = size ∧ 0 ≤ k then (rows[k.toNat]?).map fun r => (.ro r, h) else none
    | _ => none
  | .indexS x i => match x.ev f gl with
    | .p (.val (.string s)) => (idx (i.ev f gl)).bind fun k => if 0 ≤ k then (s.data.toList[k.toNat]?).map fun b => (vi .u8 b.toNat, h) else none
    | _ => none
  | .index agg n size x i => match x.ev f gl with
    | .agg xs => (idx (i.ev f gl)).bind fun k => if 0 ≤ k ∧ k < n then (sub xs (k.toNat * size) size).bind fun cs => (oneOr agg cs).map (·, h) else none
    | _ => none
  | .extract x i => match x.ev f gl with
    | .tup xs => (xs[i]?).map (·, h)
    | _ => none
  | .len x => (lenA (x.ev f gl)).map fun n => (vi .i64 n, h)
  | .lenS x => match x.ev f gl with
    | .p (.val (.string s)) => some (vi .i64 s.size, h)
    | _ => none
  | .append t size bytes _ x y => (rowsOf h size (y.ev f gl)).bind fun news => appendA h t size bytes (x.ev f gl) news
  | .min2 mx x y => match x.ev f gl, y.ev f gl with
    | .p (.val (.int k a)), .p (.val (.int _ b)) => some (vi k (if mx then (if a < b then b else a) else (if b < a then b else a)), h)
    | _, _ => none
  | .eqP neg x y => match x.ev f gl, y.ev f gl with
    | .ptr b o, .ptr b' o' => if b = b' ∧ o = o' then some (vb !neg, h) else none
    | .ptr _ _, .p (.val (.pointer none)) => some (vb neg, h)
    | .ro _, .p (.val (.pointer none)) => some (vb neg, h)
    | .rp _ _ _ _ _, .p (.val (.pointer none)) => some (vb neg, h)
    | .p (.val (.pointer none)), .p (.val (.pointer none)) => some (vb !neg, h)
    | _, _ => none
  | .cvU x => match x.ev f gl with
    | .ptr b o => match h[b]? with
      | some (.cells _ xs) => if o < xs.length then some (.ptr b o, h) else none
      | _ => none
    | _ => none
  | .cvP oks x => match x.ev f gl with
    | .ptr b o => match h[b]? with
      | some (.cells t xs) => if oks.contains (t, xs.length, o) then some (.ptr b o, h) else none
      | _ => none
    | _ => none
  | .ixb x y => match x.ev f gl, y.ev f gl with
    | .p (.val (.string s)), .p (.val (.int .u8 n)) => some (vi .i64 (firstIdx s n.toNat.toUInt8), h)
    | _, _ => none
  | .slData x => match x.ev f gl with
    | .sl b gen size off len => match h[b]? with
      | some (.row _ s g _) => if g = gen ∧ s = size ∧ size = 1 ∧ off = 0 then some (if 0 < len then .rp b gen 1 0 0 else .anyp, h) else none
      | _ => none
    | _ => none
  | .uStr e x n => match x.ev f gl, n.ev f gl with
    | .rp b gen s k o, .p (.val (.int .i64 n)) => match h[b]? with
      | some (.row t s' g rows) =>
        if g = gen ∧ s = 1 ∧ s' = 1 ∧ t = e ∧ k = 0 ∧ o = 0 ∧ 0 < n ∧ n.toNat ≤ rows.length ∧ n ≤ 9223372036854775807 then
          (bytesOf (rows.take n.toNat)).map fun l => (vs ⟨l.toArray⟩, h.set b .dead)
        else none
      | _ => none
    | .anyp, .p (.val (.int .i64 n)) => if n = 0 then some (vs .empty, h) else none
    | _, _ => none
  | .call _ _ _ => none

end Go.Vs
