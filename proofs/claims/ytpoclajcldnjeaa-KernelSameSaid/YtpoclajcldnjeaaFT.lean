/- Seat 06: the program as the abstract machine has it; slices.Clone told by what it comes to. -/
import Derived.Test.YtpoclajcldnjeaaIr
import Derived.Test.YtpoclajcldnjeaaVE
namespace Go.Proofs.Try
set_option linter.unusedSimpArgs false
set_option linter.unusedVariables false
open Go Go.Vs
def prg0 : Prg := ⟨fns, fun _ => none, fun _ _ _ => none⟩
def fns1 (n : Nat) : Option IFun := match n.beq 56 with | true => none | false => fns n
def prg : Prg := ⟨fns1, fun _ => none, fun n args h => match n.beq 56 with | true => cloneA 68 6 48 args h | false => none⟩
theorem prg0_ok : PrgOk prog prg0 := ⟨fns_ok, fun _ _ _ _ _ h => by cases h⟩
theorem clone1 (h : List AB) (c : Nat) : CS prg0 56 [.p (.val (.slice none 0 c))] h = some (clE 68 6 h) :=
  CS_D (ps := []) (n := 5) (H := []) (by kernel_rfl) trivial
theorem clone2 (h : List AB) (a : Addr) (c : Nat) : CS prg0 56 [.p (.val (.slice (some a) 0 c))] h = some (clE 68 6 h) :=
  CS_D (n := 5) (H := [(7, .r (clE 68 6 h).1 (clE 68 6 h).2)]) (ps := [appA ((h ++ [.row 68 6 0 []]) ++ [.row 68 6 0 []]) 68 6 48 (.sl (h ++ [AB.row 68 6 0 []]).length 0 6 0 0) (.p (.val (.slice (some a) 0 c))) = some ((clE 68 6 h).1, (clE 68 6 h).2)]) (by kernel_rfl) (show appA _ 68 6 48 _ _ = _ from clone_ap0)
theorem clone3 (h : List AB) (r : List PV) (rs : List (List PV)) (h1 : (0 + (r :: rs).length) * 48 ≤ limit47) (h2 : 0 + (r :: rs).length ≤ limit47) : CS prg0 56 [.p (.lst 6 (r :: rs))] h = some (clR 68 6 r rs h) :=
  CS_D (n := 5) (H := [(7, .r (clR 68 6 r rs h).1 (clR 68 6 r rs h).2)]) (ps := [appA ((h ++ [.row 68 6 0 []]) ++ [.row 68 6 0 []]) 68 6 48 (.sl (h ++ [AB.row 68 6 0 []]).length 0 6 0 0) (.p (.lst 6 (r :: rs))) = some ((clR 68 6 r rs h).1, (clR 68 6 r rs h).2)]) (by kernel_rfl) (show appA _ 68 6 48 _ _ = _ from clone_ap1 h1 h2)
theorem prg_ok : PrgOk prog prg := by
  refine ⟨fun f F h => ?_, fun f args h v h' hc => ?_⟩
  · have h : (match f.beq 56 with | true => none | false => fns f) = some F := h
    split at h
    · cases h
    · exact fns_ok f F h
  · have hc : (match f.beq 56 with | true => cloneA 68 6 48 args h | false => none) = some (v, h') := hc
    split at hc
    · rename_i e
      obtain rfl := Nat.eq_of_beq_eq_true e
      exact clone_sound (p := prg0) prg0_ok clone1 clone2 clone3 hc
    · cases hc
/-- The chapter's grammar. -/
def gK : AV := (.agg [(.p (.lst 1 [[(.val (.string ⟨([83] : List UInt8).toArray⟩))], [(.val (.string ⟨([65] : List UInt8).toArray⟩))], [(.val (.string ⟨([66] : List UInt8).toArray⟩))]])), (.p (.lst 7 [[(.val (.int .i64 0)), (.lst 6 [[(.val (.int .i64 1)), (.val (.int .u64 0)), (.val (.int .u64 0)), (.val (.int .u64 0)), (.val (.int .u64 0)), (.val (.int .i64 1))]]), (.val (.string ⟨([] : List UInt8).toArray⟩)), (.val (.int .i64 0)), (.val (.bool false)), (.val (.bool false)), (.val (.int .i64 (-1)))], [(.val (.int .i64 0)), (.lst 6 [[(.val (.int .i64 0)), (.val (.int .u64 0)), (.val (.int .u64 72057594037927936)), (.val (.int .u64 0)), (.val (.int .u64 0)), (.val (.int .i64 0))], [(.val (.int .i64 1)), (.val (.int .u64 0)), (.val (.int .u64 0)), (.val (.int .u64 0)), (.val (.int .u64 0)), (.val (.int .i64 0))]]), (.val (.string ⟨([] : List UInt8).toArray⟩)), (.val (.int .i64 0)), (.val (.bool false)), (.val (.bool false)), (.val (.int .i64 (-1)))], [(.val (.int .i64 1)), (.lst 6 [[(.val (.int .i64 0)), (.val (.int .u64 0)), (.val (.int .u64 8589934592)), (.val (.int .u64 0)), (.val (.int .u64 0)), (.val (.int .i64 0))]]), (.val (.string ⟨([] : List UInt8).toArray⟩)), (.val (.int .i64 0)), (.val (.bool false)), (.val (.bool false)), (.val (.int .i64 (-1)))], [(.val (.int .i64 2)), (.lst 6 [[(.val (.int .i64 1)), (.val (.int .u64 0)), (.val (.int .u64 0)), (.val (.int .u64 0)), (.val (.int .u64 0)), (.val (.int .i64 2))]]), (.val (.string ⟨([] : List UInt8).toArray⟩)), (.val (.int .i64 0)), (.val (.bool false)), (.val (.bool false)), (.val (.int .i64 (-1)))]])), (.p (.val (.int .i64 0))), (.p (.lst 3 [])), (.p (.lst 5 []))])
end Go.Proofs.Try
namespace Go.Proofs.Try
set_option linter.unusedSimpArgs false
set_option linter.unusedVariables false
open Go Go.Vs
theorem known0 : callP prg (evalN prg 100) 10 [] [] = some (vb true) := by kernel_rfl
theorem known : PR1 prg 10 [] (vb true) := by
  have := CP_of 100 known0
  rw [CP_in _ _ rfl] at this
  obtain ⟨r, h1, h2⟩ := Option.bind_eq_some_iff.1 this
  exact ⟨r.1, r.2, h1, h2⟩
end Go.Proofs.Try
namespace Go.Proofs.Try
set_option linter.unusedSimpArgs false
set_option linter.unusedVariables false
open Go Go.Vs
structure SetD where
  a : Int
  b : Int
  c : Int
  d : Int
structure SymD where
  kind : Int
  a : Int
  b : Int
  c : Int
  d : Int
  sort : Int
structure ProdD where
  left : Int
  right : List SymD
  cons : ByteArray
  role : Int
  prefer : Bool
  avoid : Bool
  frm : Int
structure ForbD where
  parent : Int
  at_ : Int
  child : Int
structure FollD where
  sort : Int
  a : Int
  b : Int
  c : Int
  d : Int
structure GramD where
  sorts : List ByteArray
  prods : List ProdD
  start : Int
  forbid : List ForbD
  follow : List FollD
def eI64 (n : Int) : List PV := [.val (.int .i64 n)]
def eU8 (n : Int) : List PV := [.val (.int .u8 n)]
def eBool (b : Bool) : List PV := [.val (.bool b)]
def eStr (s : ByteArray) : List PV := [.val (.string s)]
def eSet (s : SetD) : List PV := [.val (.int .u64 s.a), .val (.int .u64 s.b), .val (.int .u64 s.c), .val (.int .u64 s.d)]
def eSym (s : SymD) : List PV := [.val (.int .i64 s.kind), .val (.int .u64 s.a), .val (.int .u64 s.b), .val (.int .u64 s.c), .val (.int .u64 s.d), .val (.int .i64 s.sort)]
def eProd (p : ProdD) : List PV := [.val (.int .i64 p.left), .lst 6 (p.right.map eSym), .val (.string p.cons), .val (.int .i64 p.role), .val (.bool p.prefer), .val (.bool p.avoid), .val (.int .i64 p.frm)]
def eForb (f : ForbD) : List PV := [.val (.int .i64 f.parent), .val (.int .i64 f.at_), .val (.int .i64 f.child)]
def eFoll (f : FollD) : List PV := [.val (.int .i64 f.sort), .val (.int .u64 f.a), .val (.int .u64 f.b), .val (.int .u64 f.c), .val (.int .u64 f.d)]
def eGram (g : GramD) : List PV := [.lst 1 (g.sorts.map eStr), .lst 7 (g.prods.map eProd), .val (.int .i64 g.start), .lst 3 (g.forbid.map eForb), .lst 5 (g.follow.map eFoll)]
/- Short words for blocks. -/
def bG (g : GramD) : AB := .cells 27 ((eGram g).map .p)
def bP (p : ProdD) : AB := .cells 46 ((eProd p).map .p)
def bI (l : List Int) : AB := .row 3 1 0 (ra eI64 l)
def bB (l : List Bool) : AB := .row 4 1 0 (ra eBool l)
def aG (g : GramD) : AV := .agg ((eGram g).map .p)
def aP (p : ProdD) : AV := .agg ((eProd p).map .p)
def w6 (n : Int) : Int := IntKind.wrap .i64 n
def mII (l : List (Int × Int)) : AB := .map (mrow (fun n => vi .i64 n) (fun n => vi .i64 n) l)
def mIS (l : List (Int × ByteArray)) : AB := .map (mrow (fun n => vi .i64 n) (fun s => vs s) l)
def mSI (l : List (ByteArray × Int)) : AB := .map (mrow (fun s => vs s) (fun n => vi .i64 n) l)
def mFI (l : List ((Int × Int × Int) × Int)) : AB := .map (mrow (fun n => .agg [vi .i64 n.1, vi .i64 n.2.1, vi .i64 n.2.2]) (fun n => vi .i64 n) l)
def b0 : ByteArray := (⟨([] : List UInt8).toArray⟩ : ByteArray)
abbrev i6 (n : Int) : AV := vi .i64 n
end Go.Proofs.Try
namespace Go.Proofs.Try
open Go Go.Vs
noncomputable def F10 : Option Bool := some true
def F10_v (x0 : Bool) : AV := vb x0
theorem F10_ok {r : Bool} (h : F10 = some r) : PR1 prg 10 [] (F10_v r) := by cases h; exact known
end Go.Proofs.Try
