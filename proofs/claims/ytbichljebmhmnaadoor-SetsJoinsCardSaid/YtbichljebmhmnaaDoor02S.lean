/- The laws of sets, run over unknown words. -/
import Derived.Test.YtbichljebmhmnaaDoor02W
import Derived.Test.YtbichljebmhmnaaDoorV24
namespace Go.Proofs.Tryd
set_option linter.unusedSimpArgs false
set_option linter.unusedVariables false
open Go Go.Vs
structure I4 where
  a : Int
  b : Int
  c : Int
  d : Int
def wds (s : I4) : List AV := [vi .u64 s.a, vi .u64 s.b, vi .u64 s.c, vi .u64 s.d]
def setI (s : I4) : AV := .agg (wds s)
def orI (x y : Int) : Int := IntKind.u64.wrap (BitVec.ofInt 64 x ||| BitVec.ofInt 64 y).toNat
def andI (x y : Int) : Int := IntKind.u64.wrap (BitVec.ofInt 64 x &&& BitVec.ofInt 64 y).toNat
def anI (x y : Int) : Int := IntKind.u64.wrap (BitVec.ofInt 64 x &&& ~~~ BitVec.ofInt 64 y).toNat
def mapI (f : Int → Int → Int) (x y : I4) : I4 := ⟨f x.a y.a, f x.b y.b, f x.c y.c, f x.d y.d⟩
def zI : I4 := ⟨0, 0, 0, 0⟩
def J (x y : I4) : I4 := mapI orI (mapI orI zI x) y
def J3 (x y z : I4) : I4 := mapI orI (mapI orI (mapI orI zI x) y) z
def M (x y : I4) : I4 := mapI andI x y
def N (x y : I4) : I4 := mapI anI x y
def eq4 (x y : I4) : Bool := (x.a == y.a) && ((x.b == y.b) && ((x.c == y.c) && ((x.d == y.d) && true)))
def win (x y : I4) : Bool := eq4 (N x y) zI
def hp4 (a b c : I4) : List AB := [.cells 29 (wds a), .cells 29 (wds b), .cells 29 (wds c), .row 29 4 0 [wds a, wds b, wds c]]
abbrev T (b : Bool) : Prop := vb b = vb true
theorem laws1 (a b c : I4) : callD prg 60 [(18, .d true), (29, .d true), (46, .d true), (63, .d true), (83, .d true), (103, .d true), (118, .d true), (135, .d true), (140, .d true), (146, .d true), (152, .d true), (156, .d false), (166, .d true), (167, .v (vb true))] 4 [setI a, setI b, setI c] =
    some ([T (eq4 (J a b) (J b a)), T (eq4 (M a b) (M b a)), T (eq4 (J a (J b c)) (J (J a b) c)), T (eq4 (M a (M b c)) (M (M a b) c)), T (eq4 (M a (J b c)) (J (M a b) (M a c))), T (eq4 (J a (M b c)) (M (J a b) (J a c))), T (eq4 (J3 a b c) (J a (J b c))), T (eq4 (N a (J b c)) (M (N a b) (N a c))), T (!win a b), vb true = vb true, vb true = vb true, vb (win a b) = vb false, T ((false == eq4 a b) && true), CP prg 8 [] (hp4 a b c) = some (vb true)], vb true) := by kernel_rfl
theorem laws2 (a b c : I4) : callD prg 60 [(18, .d true), (29, .d true), (46, .d true), (63, .d true), (83, .d true), (103, .d true), (118, .d true), (135, .d true), (140, .d false), (146, .d true), (152, .d true), (156, .d true), (166, .d true), (167, .v (vb true))] 4 [setI a, setI b, setI c] =
    some ([T (eq4 (J a b) (J b a)), T (eq4 (M a b) (M b a)), T (eq4 (J a (J b c)) (J (J a b) c)), T (eq4 (M a (M b c)) (M (M a b) c)), T (eq4 (M a (J b c)) (J (M a b) (M a c))), T (eq4 (J a (M b c)) (M (J a b) (J a c))), T (eq4 (J3 a b c) (J a (J b c))), T (eq4 (N a (J b c)) (M (N a b) (N a c))), vb (!win a b) = vb false, T (!win b c), vb true = vb true, T (win a b), T ((win b a == eq4 a b) && true), CP prg 8 [] (hp4 a b c) = some (vb true)], vb true) := by kernel_rfl
theorem laws3 (a b c : I4) : callD prg 60 [(18, .d true), (29, .d true), (46, .d true), (63, .d true), (83, .d true), (103, .d true), (118, .d true), (135, .d true), (140, .d false), (146, .d false), (152, .d true), (156, .d true), (166, .d true), (167, .v (vb true))] 4 [setI a, setI b, setI c] =
    some ([T (eq4 (J a b) (J b a)), T (eq4 (M a b) (M b a)), T (eq4 (J a (J b c)) (J (J a b) c)), T (eq4 (M a (M b c)) (M (M a b) c)), T (eq4 (M a (J b c)) (J (M a b) (M a c))), T (eq4 (J a (M b c)) (M (J a b) (J a c))), T (eq4 (J3 a b c) (J a (J b c))), T (eq4 (N a (J b c)) (M (N a b) (N a c))), vb (!win a b) = vb false, vb (!win b c) = vb false, T (win a c), T (win a b), T ((win b a == eq4 a b) && true), CP prg 8 [] (hp4 a b c) = some (vb true)], vb true) := by kernel_rfl
end Go.Proofs.Tryd
