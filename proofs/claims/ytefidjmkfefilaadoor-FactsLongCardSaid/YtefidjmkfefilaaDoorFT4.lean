/- The facts of seat 08: the program as the abstract machine has it. -/
import Derived.Test.YtefidjmkfefilaaDoorIr4
import Derived.Test.YtefidjmkfefilaaDoorVD
import Derived.Test.YtefidjmkfefilaaDoorVE
namespace Go.Proofs.Tryd
set_option linter.unusedSimpArgs false
set_option linter.unusedVariables false
open Go Go.Vs
def tab64 : List Int := [0, 1, 56, 2, 57, 49, 28, 3, 61, 58, 42, 50, 38, 29, 17, 4, 62, 47, 59, 36, 45, 43, 51, 22, 53, 39, 33, 30, 24, 18, 12, 5, 63, 55, 48, 27, 60, 41, 37, 16, 46, 35, 44, 21, 52, 32, 23, 11, 54, 26, 40, 15, 34, 20, 31, 10, 25, 14, 19, 9, 13, 8, 7, 6]
def gl08 : Nat → Option (List PV)
  | 0 => some (tab64.map fun n => .val (.int .u8 n))
  | _ => none
def prg : Prg := ⟨fns, gl08, fun _ _ _ => none, fun _ => none⟩
/-- The chapter's grammar. -/
def gS : AV := (.agg [(.p (.lst 1 [[(.val (.string ⟨([83] : List UInt8).toArray⟩))], [(.val (.string ⟨([65] : List UInt8).toArray⟩))], [(.val (.string ⟨([66] : List UInt8).toArray⟩))]])), (.p (.lst 7 [[(.val (.int .i64 0)), (.lst 6 [[(.val (.int .i64 1)), (.val (.int .u64 0)), (.val (.int .u64 0)), (.val (.int .u64 0)), (.val (.int .u64 0)), (.val (.int .i64 1))], [(.val (.int .i64 1)), (.val (.int .u64 0)), (.val (.int .u64 0)), (.val (.int .u64 0)), (.val (.int .u64 0)), (.val (.int .i64 0))]]), (.val (.string ⟨([] : List UInt8).toArray⟩)), (.val (.int .i64 0)), (.val (.bool .false)), (.val (.bool .false)), (.val (.int .i64 (-1)))], [(.val (.int .i64 0)), (.lst 6 [[(.val (.int .i64 0)), (.val (.int .u64 0)), (.val (.int .u64 72057594037927936)), (.val (.int .u64 0)), (.val (.int .u64 0)), (.val (.int .i64 0))]]), (.val (.string ⟨([] : List UInt8).toArray⟩)), (.val (.int .i64 0)), (.val (.bool .false)), (.val (.bool .false)), (.val (.int .i64 (-1)))], [(.val (.int .i64 1)), (.val (.slice .none 0 0)), (.val (.string ⟨([] : List UInt8).toArray⟩)), (.val (.int .i64 0)), (.val (.bool .false)), (.val (.bool .false)), (.val (.int .i64 (-1)))], [(.val (.int .i64 1)), (.lst 6 [[(.val (.int .i64 0)), (.val (.int .u64 0)), (.val (.int .u64 8589934592)), (.val (.int .u64 0)), (.val (.int .u64 0)), (.val (.int .i64 0))], [(.val (.int .i64 1)), (.val (.int .u64 0)), (.val (.int .u64 0)), (.val (.int .u64 0)), (.val (.int .u64 0)), (.val (.int .i64 1))]]), (.val (.string ⟨([] : List UInt8).toArray⟩)), (.val (.int .i64 0)), (.val (.bool .false)), (.val (.bool .false)), (.val (.int .i64 (-1)))], [(.val (.int .i64 2)), (.lst 6 [[(.val (.int .i64 1)), (.val (.int .u64 0)), (.val (.int .u64 0)), (.val (.int .u64 0)), (.val (.int .u64 0)), (.val (.int .i64 2))]]), (.val (.string ⟨([] : List UInt8).toArray⟩)), (.val (.int .i64 0)), (.val (.bool .false)), (.val (.bool .false)), (.val (.int .i64 (-1)))]])), (.p (.val (.int .i64 0))), (.p (.val (.slice .none 0 0))), (.p (.val (.slice .none 0 0)))])
end Go.Proofs.Tryd
namespace Go.Proofs.Tryd
set_option linter.unusedSimpArgs false
set_option linter.unusedVariables false
open Go Go.Vs
structure SetD where
  a : Int
  b : Int
  c : Int
  d : Int
structure SymD where
  kind : Int
  a : Int
  b : Int
  c : Int
  d : Int
  sort : Int
structure ProdD where
  left : Int
  right : List SymD
  cons : ByteArray
  role : Int
  prefer : Bool
  avoid : Bool
  frm : Int
structure ForbD where
  parent : Int
  at_ : Int
  child : Int
structure FollD where
  sort : Int
  a : Int
  b : Int
  c : Int
  d : Int
structure GramD where
  sorts : List ByteArray
  prods : List ProdD
  start : Int
  forbid : List ForbD
  follow : List FollD
def eI64 (n : Int) : List PV := [.val (.int .i64 n)]
def eU8 (n : Int) : List PV := [.val (.int .u8 n)]
def eBool (b : Bool) : List PV := [.val (.bool b)]
def eStr (s : ByteArray) : List PV := [.val (.string s)]
def eSet (s : SetD) : List PV := [.val (.int .u64 s.a), .val (.int .u64 s.b), .val (.int .u64 s.c), .val (.int .u64 s.d)]
def eSym (s : SymD) : List PV := [.val (.int .i64 s.kind), .val (.int .u64 s.a), .val (.int .u64 s.b), .val (.int .u64 s.c), .val (.int .u64 s.d), .val (.int .i64 s.sort)]
def eProd (p : ProdD) : List PV := [.val (.int .i64 p.left), .lst 6 (p.right.map eSym), .val (.string p.cons), .val (.int .i64 p.role), .val (.bool p.prefer), .val (.bool p.avoid), .val (.int .i64 p.frm)]
def eForb (f : ForbD) : List PV := [.val (.int .i64 f.parent), .val (.int .i64 f.at_), .val (.int .i64 f.child)]
def eFoll (f : FollD) : List PV := [.val (.int .i64 f.sort), .val (.int .u64 f.a), .val (.int .u64 f.b), .val (.int .u64 f.c), .val (.int .u64 f.d)]
def eGram (g : GramD) : List PV := [.lst 1 (g.sorts.map eStr), .lst 7 (g.prods.map eProd), .val (.int .i64 g.start), .lst 3 (g.forbid.map eForb), .lst 5 (g.follow.map eFoll)]
/- Short words for blocks. -/
def bG (g : GramD) : AB := .cells 27 ((eGram g).map .p)
def bP (p : ProdD) : AB := .cells 53 ((eProd p).map .p)
def bI (l : List Int) : AB := .row 3 1 0 (ra eI64 l)
def bB (l : List Bool) : AB := .row 4 1 0 (ra eBool l)
def aG (g : GramD) : AV := .agg ((eGram g).map .p)
def aP (p : ProdD) : AV := .agg ((eProd p).map .p)
def w6 (n : Int) : Int := IntKind.wrap .i64 n
def mII (l : List (Int × Int)) : AB := .map (mrow (fun n => vi .i64 n) (fun n => vi .i64 n) l)
def mIS (l : List (Int × ByteArray)) : AB := .map (mrow (fun n => vi .i64 n) (fun s => vs s) l)
def mSI (l : List (ByteArray × Int)) : AB := .map (mrow (fun s => vs s) (fun n => vi .i64 n) l)
def mFI (l : List ((Int × Int × Int) × Int)) : AB := .map (mrow (fun n => .agg [vi .i64 n.1, vi .i64 n.2.1, vi .i64 n.2.2]) (fun n => vi .i64 n) l)
def b0 : ByteArray := (⟨([] : List UInt8).toArray⟩ : ByteArray)
abbrev i6 (n : Int) : AV := vi .i64 n
end Go.Proofs.Tryd
