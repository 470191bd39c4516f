/- The instructions of the functions, as the program has them. -/
import Derived.Test.YthpmanlglbfcdaaDoorProg
import Derived.Test.YthpmanlglbfcdaaDoorVD
namespace Go.Proofs.Tryd
open Go Go.Vs
def oI (d : Nat) (i : Ins) : IOp := ⟨some d, i, none⟩
def cI (n : Int) : Opd := .c (.p (.val (.int .i64 n)))
def cB (b : Bool) : Opd := .c (.p (.val (.bool b)))
def zZ : ZC := .z (.val (.int .i64 0))
abbrev tI (n : Nat) : Opd := .t n
def jM (a : Nat) : Ins := .mv (.t a)
def iM (d : Nat) (a : Nat) : IOp := ⟨some d, jM a, none⟩
def jC (a : Int) : Ins := .mv (cI a)
def iC (d : Nat) (a : Int) : IOp := ⟨some d, jC a, none⟩
def jE (a : Bool) : Ins := .mv (cB a)
def iE (d : Nat) (a : Bool) : IOp := ⟨some d, jE a, none⟩
def jL (s a : Nat) : Ins := .load false s (.t a)
def iL (d : Nat) (s a : Nat) : IOp := ⟨some d, jL s a, none⟩
def jT (s a : Nat) : Ins := .load true s (.t a)
def iT (d : Nat) (s a : Nat) : IOp := ⟨some d, jT s a, none⟩
def jF (k a : Nat) : Ins := .fieldA k (.t a)
def iF (d : Nat) (k a : Nat) : IOp := ⟨some d, jF k a, none⟩
def jX (s a b : Nat) : Ins := .indexA none s (.t a) (.t b)
def iX (d : Nat) (s a b : Nat) : IOp := ⟨some d, jX s a b, none⟩
def jN (a : Nat) : Ins := .len (.t a)
def iN (d : Nat) (a : Nat) : IOp := ⟨some d, jN a, none⟩
def jS (a : Nat) : Ins := .lenS (.t a)
def iS (d : Nat) (a : Nat) : IOp := ⟨some d, jS a, none⟩
def jB (o : BinOp) (a b : Nat) : Ins := .bin o (.t a) (.t b)
def iB (d : Nat) (o : BinOp) (a b : Nat) : IOp := ⟨some d, jB o a b, none⟩
def jD (o : BinOp) (a : Nat) (n : Int) : Ins := .bin o (.t a) (cI n)
def iD (d : Nat) (o : BinOp) (a : Nat) (n : Int) : IOp := ⟨some d, jD o a n, none⟩
def jP (a b : Nat) : Ins := .pick (.t a) (cB true) (.t b)
def iP (d : Nat) (a b : Nat) : IOp := ⟨some d, jP a b, none⟩
def jQ (a b : Nat) : Ins := .pick (.t a) (.t b) (cB false)
def iQ (d : Nat) (a b : Nat) : IOp := ⟨some d, jQ a b, none⟩
def jU (a : Nat) : Ins := .un .not (.t a)
def iU (d : Nat) (a : Nat) : IOp := ⟨some d, jU a, none⟩
def jK (f a : Nat) : Ins := .call false (.c (.fn f [])) [.t a]
def iK (d : Nat) (f a : Nat) : IOp := ⟨some d, jK f a, none⟩
def jV (s a b : Nat) : Ins := .store s (.t a) (.t b)
def gT (d g : Nat) (i : Ins) : IOp := ⟨some d, i, some (g, true)⟩
def gF (d g : Nat) (i : Ins) : IOp := ⟨some d, i, some (g, false)⟩
def gN (i : Ins) : IOp := ⟨none, i, none⟩
def z6 : PV := .val (.int .i64 0)
def zM : PV := .val (.slice none 0 0)
def sh : List Nat := [42, 26, 27, 37, 38, 52, 53, 36, 43, 55, 65, 66, 70, 71, 29, 47]
def ir8 : IFun :=
  ⟨112, [(.tmp 4)], (.seq (.ops [iE 4 false]) (.seq (.seq (.ops [iM 12 0, iD 13 .lss 12 0, iM 14 13, gF 15 14 (jM 0), gF 16 14 (jD .gtr 15 3), iP 17 14 16, iM 18 17, gF 19 18 (jM 1), gF 20 18 (jD .lss 19 0), iP 21 18 20, iM 22 21, gF 23 22 (jM 1), gF 24 22 (jD .gtr 23 3), iP 25 22 24]) (.cond (tI 25) (.seq (.ops [oI 26 (.call .false (.c (.fn 9 [])) []), iM 4 26]) .ret) .skip)) (.seq (.ops [iM 27 0, oI 28 (.bin .add (cI 1048575) (tI 27)), ⟨(.some 29), (.call .false (.c (.fn 21 [])) [(.c (.p (.val (.string ⟨([120] : List UInt8).toArray⟩)))), (tI 28)]), .none⟩, iM 5 29]) (.seq (.ops [iM 31 5, oI 32 (.call .false (.c (.fn 10 [])) [(tI 31), (cI 0)]), iM 30 32, oI 33 (.extract (tI 30) 0), oI 34 (.extract (tI 30) 1), oI 6 (.alloc 23 [zZ, zZ]), gN (jV 2 6 33), iM 7 34]) (.seq (.ops [iM 36 5, ⟨(.some 37), (.build [z6, z6] [(0, (1, (cI 1))), (1, (1, (cI 1)))]), .none⟩, oI 38 (.call .false (.c (.fn 11 [])) [(tI 36), (tI 37)]), iM 35 38, oI 39 (.extract (tI 35) 0), oI 40 (.extract (tI 35) 1), iM 8 39, iM 9 40]) (.seq (.ops [iM 42 5, iM 43 1, ⟨(.some 44), (.call .false (.c (.fn 21 [])) [(.c (.p (.val (.string ⟨([121] : List UInt8).toArray⟩)))), (tI 43)]), .none⟩, ⟨(.some 45), (.build [z6, z6, (.val (.string ⟨([] : List UInt8).toArray⟩))] [(2, (1, (tI 44)))]), .none⟩, ⟨(.some 46), (.buildS 34 3 [z6, z6, (.val (.string ⟨([] : List UInt8).toArray⟩))] 1 [(0, (tI 45))]), .none⟩, oI 47 (.call .false (.c (.fn 13 [])) [(tI 42), (tI 46)]), iM 41 47, oI 48 (.extract (tI 41) 0), oI 49 (.extract (tI 41) 1), iM 10 48, iM 11 49]) (.seq (.seq (.ops [iM 50 0, iD 51 .gtr 50 1]) (.cond (tI 51) (.seq (.ops [iM 52 7, iD 53 .eql 52 3, iM 54 53, gT 55 54 (jM 9), gT 56 54 (jD .eql 55 3), iQ 57 54 56, iM 58 57, gT 59 58 (jM 10), ⟨(.some 60), (.bin .eql (tI 59) (.c (.p (.val (.string ⟨([] : List UInt8).toArray⟩))))), (.some (58, .true))⟩, iQ 61 58 60, iM 62 61, gT 63 62 (jM 11), gT 64 62 (jD .eql 63 3), iQ 65 62 64, iM 66 65, ⟨(.some 67), (.call .false (.c (.fn 9 [])) []), (.some (66, .true))⟩, iQ 68 66 67, iM 4 68]) .ret) .skip)) (.seq (.seq (.ops [iM 69 0, iM 70 1, iB 71 .add 69 70, iD 72 .gtr 71 1]) (.cond (tI 72) (.seq (.ops [iM 73 7, iD 74 .eql 73 0, iM 75 74, gT 76 75 (jM 9), gT 77 75 (jD .eql 76 0), iQ 78 75 77, iM 79 78, gT 80 79 (jM 10), ⟨(.some 81), (.bin .eql (tI 80) (.c (.p (.val (.string ⟨([] : List UInt8).toArray⟩))))), (.some (79, .true))⟩, iQ 82 79 81, iM 83 82, gT 84 83 (jM 11), gT 85 83 (jD .eql 84 3), iQ 86 83 85, iM 87 86, ⟨(.some 88), (.call .false (.c (.fn 9 [])) []), (.some (87, .true))⟩, iQ 89 87 88, iM 4 89]) .ret) .skip)) (.seq (.ops [iM 90 7, iD 91 .eql 90 0, iM 92 91, gT 93 92 (jM 9), gT 94 92 (jD .eql 93 0), iQ 95 92 94, iM 96 95, gT 97 96 (jM 10), gT 98 96 (jS 97), gT 99 96 (jM 5), gT 100 96 (jS 99), gT 101 96 (jM 1), gT 102 96 (jB .add 100 101), gT 103 96 (jB .eql 98 102), iQ 104 96 103, iM 105 104, gT 106 105 (jM 11), gT 107 105 (jD .eql 106 0), iQ 108 105 107, iM 109 108, ⟨(.some 110), (.call .false (.c (.fn 9 [])) []), (.some (109, .true))⟩, iQ 111 109 110, iM 4 111]) .ret)))))))))⟩
theorem ir8_ok : compFn prog (shOf sh []) [] f8 = some ir8 := by kernel_rfl
def ir9 : IFun :=
  ⟨95, [(.tmp 0)], (.seq (.ops [iE 0 false]) (.seq (.ops [⟨(.some 14), (.call .false (.c (.fn 10 [])) [(.c (.p (.val (.string ⟨([97, 98, 10, 99, 100] : List UInt8).toArray⟩)))), (cI 4)]), .none⟩, iM 13 14, oI 15 (.extract (tI 13) 0), oI 16 (.extract (tI 13) 1), oI 1 (.alloc 23 [zZ, zZ]), gN (jV 2 1 15), iM 2 16]) (.seq (.ops [⟨(.some 18), (.build [z6, z6] [(0, (1, (cI 2))), (1, (1, (cI 2)))]), .none⟩, ⟨(.some 19), (.call .false (.c (.fn 11 [])) [(.c (.p (.val (.string ⟨([97, 98, 10, 99, 100] : List UInt8).toArray⟩)))), (tI 18)]), .none⟩, iM 17 19, oI 20 (.extract (tI 17) 0), oI 21 (.extract (tI 17) 1), iM 3 20, iM 4 21]) (.seq (.ops [⟨(.some 23), (.build [z6, z6] [(0, (1, (cI 4))), (1, (1, (cI 4)))]), .none⟩, ⟨(.some 24), (.build [z6, z6, (.val (.string ⟨([] : List UInt8).toArray⟩))] [(0, (2, (tI 23))), (2, (1, (.c (.p (.val (.string ⟨([89] : List UInt8).toArray⟩))))))]), .none⟩, ⟨(.some 25), (.build [z6, z6] [(0, (1, (cI 1))), (1, (1, (cI 2)))]), .none⟩, ⟨(.some 26), (.build [z6, z6, (.val (.string ⟨([] : List UInt8).toArray⟩))] [(0, (2, (tI 25))), (2, (1, (.c (.p (.val (.string ⟨([88] : List UInt8).toArray⟩))))))]), .none⟩, ⟨(.some 27), (.buildS 34 3 [z6, z6, (.val (.string ⟨([] : List UInt8).toArray⟩))] 2 [(0, (tI 24)), (1, (tI 26))]), .none⟩, ⟨(.some 28), (.call .false (.c (.fn 13 [])) [(.c (.p (.val (.string ⟨([97, 98, 99, 100] : List UInt8).toArray⟩)))), (tI 27)]), .none⟩, iM 22 28, oI 29 (.extract (tI 22) 0), oI 30 (.extract (tI 22) 1), iM 5 29, iM 6 30]) (.seq (.ops [⟨(.some 32), (.build [z6, z6] [(0, (1, (cI 0))), (1, (1, (cI 2)))]), .none⟩, ⟨(.some 33), (.build [z6, z6, (.val (.string ⟨([] : List UInt8).toArray⟩))] [(0, (2, (tI 32)))]), .none⟩, ⟨(.some 34), (.build [z6, z6] [(0, (1, (cI 1))), (1, (1, (cI 3)))]), .none⟩, ⟨(.some 35), (.build [z6, z6, (.val (.string ⟨([] : List UInt8).toArray⟩))] [(0, (2, (tI 34)))]), .none⟩, ⟨(.some 36), (.buildS 34 3 [z6, z6, (.val (.string ⟨([] : List UInt8).toArray⟩))] 2 [(0, (tI 33)), (1, (tI 35))]), .none⟩, ⟨(.some 37), (.call .false (.c (.fn 13 [])) [(.c (.p (.val (.string ⟨([97, 98, 99, 100] : List UInt8).toArray⟩)))), (tI 36)]), .none⟩, iM 31 37, oI 38 (.extract (tI 31) 0), oI 39 (.extract (tI 31) 1), iM 7 38, iM 8 39]) (.seq (.ops [⟨(.some 41), (.build [z6, z6] [(0, (1, (cI 1))), (1, (1, (cI 2)))]), .none⟩, ⟨(.some 42), (.build [z6, z6, (.val (.string ⟨([] : List UInt8).toArray⟩))] [(0, (2, (tI 41))), (2, (1, (.c (.p (.val (.string ⟨([88, 89, 90] : List UInt8).toArray⟩))))))]), .none⟩, ⟨(.some 43), (.buildS 34 3 [z6, z6, (.val (.string ⟨([] : List UInt8).toArray⟩))] 1 [(0, (tI 42))]), .none⟩, oI 44 (.call .false (.c (.fn 22 [])) [(cI 3), (tI 43)]), iM 40 44, oI 45 (.extract (tI 40) 0), oI 46 (.extract (tI 40) 1), iM 9 45, iM 10 46]) (.seq (.ops [⟨(.some 48), (.call .false (.c (.fn 12 [])) [(.c (.p (.val (.string ⟨([97, 98, 99, 100] : List UInt8).toArray⟩)))), (.c (.p (.val (.string ⟨([97, 98, 88, 100] : List UInt8).toArray⟩))))]), .none⟩, iM 47 48, oI 49 (.extract (tI 47) 0), oI 50 (.extract (tI 47) 1), ⟨(.some 11), (.alloc 34 [zZ, zZ, (.z (.val (.string ⟨([] : List UInt8).toArray⟩)))]), .none⟩, gN (jV 3 11 49), iM 12 50]) (.seq (.ops [iT 51 2 1, ⟨(.some 52), (.build [z6, z6] [(0, (1, (cI 2))), (1, (1, (cI 2)))]), .none⟩, oI 53 (.eqA .true [1, 1] .false (tI 51) (tI 52)), iM 54 53, gT 55 54 (jM 2), gT 56 54 (jD .eql 55 0), iQ 57 54 56, iM 58 57, gT 59 58 (jM 3), gT 60 58 (jD .eql 59 4), iQ 61 58 60, iM 62 61, gT 63 62 (jM 4), gT 64 62 (jD .eql 63 0), iQ 65 62 64, iM 66 65, gT 67 66 (jM 5), ⟨(.some 68), (.bin .eql (tI 67) (.c (.p (.val (.string ⟨([97, 88, 99, 100, 89] : List UInt8).toArray⟩))))), (.some (66, .true))⟩, iQ 69 66 68, iM 70 69, gT 71 70 (jM 6), gT 72 70 (jD .eql 71 0), iQ 73 70 72, iM 74 73, gT 75 74 (jM 8), gT 76 74 (jD .eql 75 110), iQ 77 74 76, iM 78 77, gT 79 78 (jM 9), gT 80 78 (jD .eql 79 5), iQ 81 78 80, iM 82 81, gT 83 82 (jM 10), gT 84 82 (jD .eql 83 0), iQ 85 82 84, iM 86 85, gT 87 86 (jT 3 11), ⟨(.some 88), (.build [z6, z6] [(0, (1, (cI 2))), (1, (1, (cI 3)))]), (.some (86, .true))⟩, ⟨(.some 89), (.build [z6, z6, (.val (.string ⟨([] : List UInt8).toArray⟩))] [(0, (2, (tI 88))), (2, (1, (.c (.p (.val (.string ⟨([88] : List UInt8).toArray⟩))))))]), (.some (86, .true))⟩, gT 90 86 (.eqA .true [1, 1, 2] .false (tI 87) (tI 89)), iQ 91 86 90, iM 92 91, gT 93 92 (jM 12), iQ 94 92 93, iM 0 94]) .ret))))))))⟩
theorem ir9_ok : compFn prog (shOf sh []) [] f9 = some ir9 := by kernel_rfl
def ir10 : IFun :=
  ⟨33, [(.cell 4 .true 2), (.tmp 5)], (.seq (.ops [oI 4 (.alloc 23 [zZ, zZ]), iC 5 0]) (.seq (.block 0 (.seq (.ops [iM 8 0, iS 9 8, iD 10 .gtr 9 1048576, iM 7 10]) (.cond (tI 7) (.seq (.ops [oI 11 (.build [z6, z6] []), gN (jV 2 4 11), iC 5 3]) .ret) (.seq (.ops [iM 13 1, iD 14 .lss 13 0, iM 15 14, gF 16 15 (jM 1), gF 17 15 (jM 0), gF 18 15 (jS 17), gF 19 15 (jB .gtr 16 18), iP 20 15 19, iM 12 20]) (.cond (tI 12) (.seq (.ops [oI 21 (.build [z6, z6] []), gN (jV 2 4 21), iC 5 4]) .ret) .skip))))) (.seq (.ops [iM 22 0, iM 23 1, oI 24 (.sliceS (tI 22) .none (.some (tI 23))), iM 6 24]) (.seq (.ops [iM 25 6, ⟨(.some 26), (.call .false (.c (.fn 17 [])) [(tI 25), (.c (.p (.val (.string ⟨([10] : List UInt8).toArray⟩))))]), .none⟩, iD 27 .add 26 1, iM 28 1, iM 29 6, oI 30 (.call .false (.c (.fn 23 [])) [(tI 29), (.c (.p (.val (.int .u8 10))))]), iB 31 .sub 28 30, oI 32 (.build [z6, z6] [(0, (1, (tI 27))), (1, (1, (tI 31)))]), gN (jV 2 4 32), iC 5 0]) .ret))))⟩
theorem ir10_ok : compFn prog (shOf sh []) [] f10 = some ir10 := by kernel_rfl
def ir11_a0 : IC :=
  (.ops [oI 7 (.alloc 32 [zZ, zZ]), gN (jV 2 7 13)])
def ir11_b0 : IC :=
  (.block 1 (.seq (.ops [iL 15 1 6, iD 16 .add 15 1, gN (jV 1 6 16)]) (.seq (.ops [iL 17 1 6, iF 18 0 3, iL 19 1 18, iB 20 .eql 17 19]) (.cond (tI 20) (.seq (.seq (.ops [iF 21 1 3, iL 22 1 21, iD 23 .lss 22 1, iM 24 23, gF 25 24 (jF 1 3), gF 26 24 (jL 1 25), gF 27 24 (jF 1 7), gF 28 24 (jL 1 27), gF 29 24 (jF 0 7), gF 30 24 (jL 1 29), gF 31 24 (jB .sub 28 30), gF 32 24 (jD .add 31 1), gF 33 24 (jB .gtr 26 32), iP 34 24 33]) (.cond (tI 34) (.seq (.ops [gN (.store 1 (tI 4) (cI 0)), gN (.store 1 (tI 5) (cI 4))]) .ret) .skip)) (.seq (.ops [iF 35 0 7, iL 36 1 35, iF 37 1 3, iL 38 1 37, iB 39 .add 36 38, iD 40 .sub 39 1, gN (jV 1 4 40), gN (.store 1 (tI 5) (cI 0))]) .ret)) .skip))))
def ir11 : IFun :=
  ⟨41, [(.cell 4 .false 1), (.cell 5 .false 1)], (.seq (.ops [oI 3 (.box 23 (tI 1)), oI 4 (.alloc 3 [zZ]), oI 5 (.alloc 25 [zZ])]) (.seq (.seq (.ops [iM 8 0, iS 9 8, iD 10 .gtr 9 1048576]) (.cond (tI 10) (.seq (.ops [gN (.store 1 (tI 4) (cI 0)), gN (.store 1 (tI 5) (cI 3))]) .ret) .skip)) (.seq (.ops [oI 6 (.alloc 3 [zZ]), gN (.store 1 (tI 6) (cI 0))]) (.seq (.seq (.ops [iM 11 0, iK 12 15 11]) (.block 0 (.rangeF (tI 12) [13, 14] ir11_a0 ir11_b0))) (.seq (.ops [gN (.store 1 (tI 4) (cI 0)), gN (.store 1 (tI 5) (cI 4))]) .ret)))))⟩
theorem ir11_ok : compFn prog (shOf sh []) [] f11 = some ir11 := by kernel_rfl
def ir12_l0 : IC :=
  (.seq (.seq (.ops [iM 33 7, iM 34 0, iS 35 34, iM 36 6, iB 37 .sub 35 36, iB 38 .lss 33 37, iM 39 38, gT 40 39 (jM 7), gT 41 39 (jM 1), gT 42 39 (jS 41), gT 43 39 (jM 6), gT 44 39 (jB .sub 42 43), gT 45 39 (jB .lss 40 44), iQ 46 39 45, iM 47 46, gT 48 47 (jM 0), gT 49 47 (jM 0), gT 50 47 (jS 49), gT 51 47 (jD .sub 50 1), gT 52 47 (jM 7), gT 53 47 (jB .sub 51 52), gT 54 47 (.indexS (tI 48) (tI 53)), gT 55 47 (jM 1), gT 56 47 (jM 1), gT 57 47 (jS 56), gT 58 47 (jD .sub 57 1), gT 59 47 (jM 7), gT 60 47 (jB .sub 58 59), gT 61 47 (.indexS (tI 55) (tI 60)), gT 62 47 (jB .eql 54 61), iQ 63 47 62]) (.cond (tI 63) .skip (.exit 2))) (.block 3 (.ops [iM 64 7, iD 65 .add 64 1, iM 7 65])))
def ir12_l1 : IC :=
  (.seq (.seq (.ops [iM 12 6, iM 13 0, iS 14 13, iB 15 .lss 12 14, iM 16 15, gT 17 16 (jM 6), gT 18 16 (jM 1), gT 19 16 (jS 18), gT 20 16 (jB .lss 17 19), iQ 21 16 20, iM 22 21, gT 23 22 (jM 0), gT 24 22 (jM 6), gT 25 22 (.indexS (tI 23) (tI 24)), gT 26 22 (jM 1), gT 27 22 (jM 6), gT 28 22 (.indexS (tI 26) (tI 27)), gT 29 22 (jB .eql 25 28), iQ 30 22 29]) (.cond (tI 30) .skip (.exit 0))) (.block 1 (.ops [iM 31 6, iD 32 .add 31 1, iM 6 32])))
def ir12 : IFun :=
  ⟨80, [(.cell 4 .true 3), (.tmp 5)], (.seq (.ops [⟨(.some 4), (.alloc 34 [zZ, zZ, (.z (.val (.string ⟨([] : List UInt8).toArray⟩)))]), .none⟩, iE 5 false]) (.seq (.seq (.ops [iM 8 0, iM 9 1, iB 10 .eql 8 9]) (.cond (tI 10) (.seq (.ops [⟨(.some 11), (.build [z6, z6, (.val (.string ⟨([] : List UInt8).toArray⟩))] []), .none⟩, gN (jV 3 4 11), iE 5 false]) .ret) .skip)) (.seq (.ops [iC 6 0]) (.seq (.block 0 (.loop [0, 1, 4, 6] ir12_l1)) (.seq (.ops [iC 7 0]) (.seq (.block 2 (.loop [0, 1, 4, 6, 7] ir12_l0)) (.seq (.ops [iM 66 6, iM 67 0, iS 68 67, iM 69 7, iB 70 .sub 68 69, oI 71 (.build [z6, z6] [(0, (1, (tI 66))), (1, (1, (tI 70)))]), iM 72 1, iM 73 6, iM 74 1, iS 75 74, iM 76 7, iB 77 .sub 75 76, oI 78 (.sliceS (tI 72) (.some (tI 73)) (.some (tI 77))), ⟨(.some 79), (.build [z6, z6, (.val (.string ⟨([] : List UInt8).toArray⟩))] [(0, (2, (tI 71))), (2, (1, (tI 78)))]), .none⟩, gN (jV 3 4 79), iE 5 true]) .ret)))))))⟩
theorem ir12_ok : compFn prog (shOf sh []) [[0, 1, 4, 6], [0, 1, 4, 6, 7]] f12 = some ir12 := by kernel_rfl
def ir13_l0 : IC :=
  (.seq (.ops [iB 33 .lss 32 31]) (.seq (.cond (tI 33) .skip (.exit 0)) (.seq (.block 1 (.seq (.ops [iX 34 3 30 32, iT 35 3 34, ⟨(.some 11), (.alloc 34 [zZ, zZ, (.z (.val (.string ⟨([] : List UInt8).toArray⟩)))]), .none⟩, gN (jV 3 11 35)]) (.seq (.ops [iM 36 8, iM 37 0, iM 38 9, iF 39 0 11, iF 40 0 39, iL 41 1 40, oI 42 (.sliceS (tI 37) (.some (tI 38)) (.some (tI 41))), oI 43 (.call .true (.c (.fn 26 [])) [(tI 36), (tI 42)])]) (.seq (.ops [iM 44 8, iF 45 2 11, iL 46 1 45, oI 47 (.call .true (.c (.fn 26 [])) [(tI 44), (tI 46)])]) (.ops [iF 48 0 11, iF 49 1 48, iL 50 1 49, iM 9 50]))))) (.ops [iD 51 .add 32 1, iM 32 51]))))
def ir13 : IFun :=
  ⟨66, [(.tmp 4), (.tmp 5)], (.seq (.ops [⟨(.some 4), (.mv (.c (.p (.val (.string ⟨([] : List UInt8).toArray⟩))))), .none⟩, iC 5 0]) (.seq (.seq (.ops [iM 12 0, iS 13 12, iD 14 .gtr 13 1048576]) (.cond (tI 14) (.seq (.ops [⟨(.some 4), (.mv (.c (.p (.val (.string ⟨([] : List UInt8).toArray⟩))))), .none⟩, iC 5 3]) .ret) .skip)) (.seq (.seq (.ops [iM 15 0, iS 16 15, iM 17 1, oI 18 (.call .false (.c (.fn 24 [])) [(tI 16), (tI 17)]), iU 19 18]) (.cond (tI 19) (.seq (.ops [⟨(.some 4), (.mv (.c (.p (.val (.string ⟨([] : List UInt8).toArray⟩))))), .none⟩, iC 5 4]) .ret) .skip)) (.seq (.ops [iM 21 1, iK 22 25 21, iM 20 22, oI 23 (.extract (tI 20) 0), oI 24 (.extract (tI 20) 1), iM 6 23, iM 7 24]) (.seq (.seq (.ops [iM 25 7, iD 26 .neq 25 0]) (.cond (tI 26) (.seq (.ops [iM 27 7, ⟨(.some 4), (.mv (.c (.p (.val (.string ⟨([] : List UInt8).toArray⟩))))), .none⟩, iM 5 27]) .ret) .skip)) (.seq (.ops [oI 28 (.build [(.val (.pointer .none)), zM, z6] []), oI 29 (.box 63 (tI 28)), iM 8 29]) (.seq (.ops [iC 9 0]) (.seq (.seq (.ops [iM 30 6, iN 31 30, iC 32 0]) (.seq (.frzS [] [] [(8, (1, (5, 1)))]) (.block 0 (.loop [0, 8, 9, 30, 31, 32, 1000801000501] ir13_l0)))) (.seq (.ops [iM 52 8, iM 53 0, iM 54 9, oI 55 (.sliceS (tI 53) (.some (tI 54)) .none), oI 56 (.call .true (.c (.fn 26 [])) [(tI 52), (tI 55)])]) (.seq (.seq (.ops [iM 57 8, oI 58 (.nilChk (tI 57)), iF 59 2 58, iL 60 1 59, iD 61 .gtr 60 1048576]) (.cond (tI 61) (.seq (.ops [⟨(.some 4), (.mv (.c (.p (.val (.string ⟨([] : List UInt8).toArray⟩))))), .none⟩, iC 5 3]) .ret) .skip)) (.seq (.ops [iM 62 8, oI 63 (.nilChk (tI 62)), iF 64 0 63, oI 65 (.call .true (.c (.fn 27 [])) [(tI 64)]), iM 4 65, iC 5 0]) .ret)))))))))))⟩
theorem ir13_ok : compFn prog (shOf sh []) [[0, 8, 9, 30, 31, 32, 1000801000501]] f13 = some ir13 := by kernel_rfl
def ir15 : IFun :=
  ⟨4, [(.tmp 2)], (.seq (.ops [oI 1 (.box 9 (tI 0)), oI 2 (.mv (.c (.p (.val .nilFunc))))]) (.seq (.ops [oI 3 (.mkfn 28 [(tI 1)]), iM 2 3]) .ret))⟩
theorem ir15_ok : compFn prog (shOf sh []) [] f15 = some ir15 := by kernel_rfl
def ir17_l0 : IC :=
  (.block 1 (.seq (.ops [iM 20 0, iM 21 1, oI 22 (.call .false (.c (.fn 30 [])) [(tI 20), (tI 21)]), iM 6 22]) (.seq (.seq (.ops [iM 23 6, oI 24 (.bin .eql (tI 23) (cI (-1)))]) (.cond (tI 24) (.seq (.ops [iM 25 5, iM 4 25]) .ret) .skip)) (.seq (.ops [iM 26 5, iD 27 .add 26 1, iM 5 27]) (.ops [iM 28 0, iM 29 6, iM 30 1, iS 31 30, iB 32 .add 29 31, oI 33 (.sliceS (tI 28) (.some (tI 32)) .none), iM 0 33])))))
def ir17 : IFun :=
  ⟨34, [(.tmp 4)], (.seq (.ops [iC 4 0]) (.seq (.seq (.ops [iM 7 1, iS 8 7, iD 9 .eql 8 0]) (.cond (tI 9) (.seq (.ops [iM 10 0, iK 11 31 10, iD 12 .add 11 1, iM 4 12]) .ret) .skip)) (.seq (.seq (.ops [iM 13 1, iS 14 13, iD 15 .eql 14 1]) (.cond (tI 15) (.seq (.ops [iM 16 0, iM 17 1, oI 18 (.indexS (tI 17) (cI 0)), oI 19 (.cnb (tI 16) (tI 18)), iM 4 19]) .ret) .skip)) (.seq (.ops [iC 5 0]) (.block 0 (.loop [0, 1, 5] ir17_l0))))))⟩
theorem ir17_ok : compFn prog (shOf sh []) [[0, 1, 5]] f17 = some ir17 := by kernel_rfl
def ir22_l0 : IC :=
  (.seq (.ops [iB 29 .lss 28 27]) (.seq (.cond (tI 29) .skip (.exit 0)) (.seq (.block 1 (.seq (.ops [iX 30 3 26 28, iT 31 3 30, ⟨(.some 10), (.alloc 34 [zZ, zZ, (.z (.val (.string ⟨([] : List UInt8).toArray⟩)))]), .none⟩, gN (jV 3 10 31)]) (.block 2 (.seq (.ops [iF 33 0 10, iF 34 1 33, iL 35 1 34, iM 36 0, iB 37 .leq 35 36, iM 32 37]) (.cond (tI 32) (.ops [iM 38 8, iF 39 2 10, iL 40 1 39, iS 41 40, iF 42 0 10, iF 43 1 42, iL 44 1 43, iF 45 0 10, iF 46 0 45, iL 47 1 46, iB 48 .sub 44 47, iB 49 .sub 41 48, iB 50 .add 38 49, iM 8 50]) (.seq (.ops [iF 52 0 10, iF 53 0 52, iL 54 1 53, iM 55 0, iB 56 .lss 54 55, iM 51 56]) (.cond (tI 51) (.seq (.ops [iF 57 0 10, iF 58 0 57, iL 59 1 58, iM 60 8, iB 61 .add 59 60, iM 4 61, iC 5 0]) .ret) .skip))))))) (.ops [iD 62 .add 28 1, iM 28 62]))))
def ir22 : IFun :=
  ⟨66, [(.tmp 4), (.tmp 5)], (.seq (.ops [iC 4 0, iC 5 0]) (.seq (.seq (.ops [iM 11 0, iD 12 .lss 11 0, iM 13 12, gF 14 13 (jM 1), ⟨(.some 15), (.call .false (.c (.fn 24 [])) [(cI 4611686018427387904), (tI 14)]), (.some (13, .false))⟩, gF 16 13 (jU 15), iP 17 13 16]) (.cond (tI 17) (.seq (.ops [iC 4 0, iC 5 4]) .ret) .skip)) (.seq (.ops [iM 19 1, iK 20 25 19, iM 18 20, oI 21 (.extract (tI 18) 0), oI 22 (.extract (tI 18) 1), iM 6 21, iM 7 22]) (.seq (.seq (.ops [iM 23 7, iD 24 .neq 23 0]) (.cond (tI 24) (.seq (.ops [iM 25 7, iC 4 0, iM 5 25]) .ret) .skip)) (.seq (.ops [iC 8 0]) (.seq (.seq (.ops [iM 26 6, iN 27 26, iC 28 0]) (.block 0 (.loop [0, 8, 26, 27, 28] ir22_l0))) (.seq (.ops [iM 63 0, iM 64 8, iB 65 .add 63 64, iM 4 65, iC 5 0]) .ret)))))))⟩
theorem ir22_ok : compFn prog (shOf sh []) [[0, 8, 26, 27, 28]] f22 = some ir22 := by kernel_rfl
def ir23 : IFun :=
  ⟨8, [(.tmp 4)], (.seq (.ops [iC 4 0]) (.seq (.ops [iM 5 0, iM 6 1, oI 7 (.call .false (.c (.fn 39 [])) [(tI 5), (tI 6)]), iM 4 7]) .ret))⟩
theorem ir23_ok : compFn prog (shOf sh []) [] f23 = some ir23 := by kernel_rfl
def ir24 : IFun :=
  ⟨9, [(.tmp 4)], (.seq (.ops [oI 2 (.box 3 (tI 0)), iE 4 false]) (.seq (.ops [iM 5 1, oI 6 (.mkfn 41 [(tI 2)]), oI 7 (.call .false (.c (.fn 40 [])) [(tI 5), (tI 6)]), iU 8 7, iM 4 8]) .ret))⟩
theorem ir24_ok : compFn prog (shOf sh []) [] f24 = some ir24 := by kernel_rfl
def ir25_l0 : IC :=
  (.seq (.ops [iB 16 .lss 15 14]) (.seq (.cond (tI 16) .skip (.exit 0)) (.seq (.block 1 (.seq (.ops [iM 17 15, iX 18 3 13 15, iT 19 3 18, ⟨(.some 7), (.alloc 34 [zZ, zZ, (.z (.val (.string ⟨([] : List UInt8).toArray⟩)))]), .none⟩, iM 6 17, gN (jV 3 7 19)]) (.seq (.seq (.ops [iM 20 6, iD 21 .eql 20 0]) (.cond (tI 21) (.exit 1) .skip)) (.seq (.ops [iM 22 4, iM 23 6, iD 24 .sub 23 1, iX 25 3 22 24, iF 26 0 25, iT 27 2 26, oI 8 (.alloc 32 [zZ, zZ]), gN (jV 2 8 27)]) (.seq (.ops [iF 28 0 7, iF 29 0 28, iL 30 1 29, iF 31 1 8, iL 32 1 31, iB 33 .lss 30 32, iM 34 33, gF 35 34 (jF 0 7), gF 36 34 (jT 2 35), gF 37 34 (jT 2 8), gF 38 34 (.eqA .true [1, 1] .false (tI 36) (tI 37)), gF 39 34 (jM 38), gT 40 39 (jF 0 7), gT 41 39 (jF 0 40), gT 42 39 (jL 1 41), gT 43 39 (jF 0 7), gT 44 39 (jF 1 43), gT 45 39 (jL 1 44), gT 46 39 (jB .eql 42 45), gF 47 34 (jQ 39 46), iP 48 34 47]) (.cond (tI 48) (.seq (.ops [iE 5 false]) (.exit 0)) .skip)))))) (.ops [iD 49 .add 15 1, iM 15 49]))))
def ir25_l1 : IC :=
  (.block 1000000 (.seq (.seq (.seq (.ops [iM 13 4, iN 14 13, iC 15 0]) (.block 0 (.loop [4, 5, 13, 14, 15] ir25_l0))) (.seq (.seq (.ops [iM 50 5, iU 51 50]) (.cond (tI 51) (.seq (.ops [oI 2 (.nilrow 34 3), iC 3 110]) .ret) .skip)) (.seq (.ops [iM 52 4, iM 2 52, iC 3 0]) .ret))) (.exit 2000000)))
def ir25 : IFun :=
  ⟨53, [(.tmp 2), (.tmp 3)], (.seq (.ops [oI 2 (.nilrow 34 3), iC 3 0]) (.seq (.ops [iM 9 0, oI 10 (.call .true (.c (.fn 42 [])) [(tI 9)]), iM 4 10]) (.seq (.ops [iM 11 4, oI 12 (.call .true (.c (.fn 43 [])) [(tI 11), (.c (.fn 44 []))])]) (.seq (.ops [iE 5 true]) (.block 2000000 (.loop [4, 5] ir25_l1))))))⟩
theorem ir25_ok : compFn prog (shOf sh []) [[4, 5], [4, 5, 13, 14, 15]] f25 = some ir25 := by kernel_rfl
def ir26 : IFun :=
  ⟨23, [], (.seq (.ops [iM 4 0, oI 5 (.nilChk (tI 4)), iF 6 2 5, iL 7 1 6, iM 8 1, iS 9 8, iB 10 .add 7 9, oI 11 (.nilChk (tI 4)), iF 12 2 11, gN (jV 1 12 10)]) (.seq (.ops [iM 13 0, oI 14 (.nilChk (tI 13)), iF 15 2 14, iL 16 1 15, iD 17 .leq 16 1048576]) (.cond (tI 17) (.ops [iM 18 0, oI 19 (.nilChk (tI 18)), iF 20 0 19, iM 21 1, oI 22 (.call .true (.c (.fn 37 [])) [(tI 20), (tI 21)])]) .skip)))⟩
theorem ir26_ok : compFn prog (shOf sh []) [] f26 = some ir26 := by kernel_rfl
def ir27 : IFun :=
  ⟨14, [(.tmp 2)], (.seq (.ops [⟨(.some 2), (.mv (.c (.p (.val (.string ⟨([] : List UInt8).toArray⟩))))), .none⟩]) (.seq (.ops [iM 3 0, oI 4 (.nilChk (tI 3)), iF 5 1 4, iL 6 1 5, oI 7 (.slData (tI 6)), iM 8 0, oI 9 (.nilChk (tI 8)), iF 10 1 9, iL 11 1 10, iN 12 11, oI 13 (.uStr 5 (tI 7) (tI 12)), iM 2 13]) .ret))⟩
theorem ir27_ok : compFn prog (shOf sh []) [] f27 = some ir27 := by kernel_rfl
def ir28_a0 : IC :=
  (.ops [iM 4 7])
def ir28_b0 : IC :=
  (.block 1 (.seq (.seq (.ops [iL 8 1 2, iL 9 1 3, iL 10 1 3, iM 11 4, iS 12 11, iB 13 .add 10 12, oI 14 (.build [z6, z6] [(0, (1, (tI 9))), (1, (1, (tI 13)))]), iM 15 4, oI 16 (.call .true (tI 8) [(tI 14), (tI 15)]), iU 17 16]) (.cond (tI 17) .ret .skip)) (.ops [iL 18 1 3, iM 19 4, iS 20 19, iD 21 .add 20 1, iB 22 .add 18 21, gN (jV 1 3 22)])))
def ir28 : IFun :=
  ⟨23, [], (.seq (.ops [oI 2 (.box 66 (tI 0))]) (.seq (.ops [oI 3 (.alloc 3 [zZ]), gN (.store 1 (tI 3) (cI 0))]) (.seq (.ops [iL 5 1 1, ⟨(.some 6), (.call .true (.c (.fn 29 [])) [(tI 5), (.c (.p (.val (.string ⟨([10] : List UInt8).toArray⟩))))]), .none⟩]) (.block 0 (.rangeF (tI 6) [7] ir28_a0 ir28_b0)))))⟩
theorem ir28_ok : compFn prog (shOf sh []) [] f28 = some ir28 := by kernel_rfl
def ir29 : IFun :=
  ⟨8, [(.tmp 4)], (.seq (.ops [oI 4 (.mv (.c (.p (.val .nilFunc))))]) (.seq (.ops [iM 5 0, iM 6 1, oI 7 (.call .true (.c (.fn 47 [])) [(tI 5), (tI 6), (cI 0)]), iM 4 7]) .ret))⟩
theorem ir29_ok : compFn prog (shOf sh []) [] f29 = some ir29 := by kernel_rfl
def ir30 : IFun :=
  ⟨8, [(.tmp 4)], (.seq (.ops [iC 4 0]) (.seq (.ops [iM 5 0, iM 6 1, oI 7 (.call .false (.c (.fn 48 [])) [(tI 5), (tI 6)]), iM 4 7]) .ret))⟩
theorem ir30_ok : compFn prog (shOf sh []) [] f30 = some ir30 := by kernel_rfl
def ir31_l0 : IC :=
  (.seq .bad (.seq (.cond (tI 6) .skip (.exit 0)) (.block 1 (.ops [iM 7 2, iD 8 .add 7 1, iM 2 8]))))
def ir31 : IFun :=
  ⟨10, [(.tmp 2)], (.seq (.ops [iC 2 0]) (.seq (.seq .bad (.block 0 (.loop [2, 4] ir31_l0))) (.seq (.ops [iM 9 2, iM 2 9]) .ret)))⟩
theorem ir31_ok : compFn prog (shOf sh []) [[2, 4]] f31 = some ir31 := by kernel_rfl
def ir37 : IFun :=
  ⟨19, [(.tmp 4), (.tmp 5)], (.seq (.ops [iC 4 0, oI 5 (.mv (.c (.p (.val .nilIface))))]) (.seq (.ops [iM 6 0, oI 7 (.call .true (.c (.fn 52 [])) [(tI 6)])]) (.seq (.ops [iM 8 0, iM 9 0, oI 10 (.nilChk (tI 9)), iF 11 1 10, iL 12 1 11, iM 13 1, oI 14 (.append 5 1 1 [(.val (.int .u8 0))] (tI 12) (tI 13)), oI 15 (.nilChk (tI 8)), iF 16 1 15, gN (jV 1 16 14)]) (.seq (.ops [iM 17 1, iS 18 17, iM 4 18, oI 5 (.mv (.c (.p (.val .nilIface))))]) .ret))))⟩
theorem ir37_ok : compFn prog (shOf sh []) [] f37 = some ir37 := by kernel_rfl
def ir39_l0 : IC :=
  (.seq (.seq (.ops [iM 9 5, iD 10 .geq 9 0]) (.cond (tI 10) .skip (.exit 0))) (.seq (.block 1 (.seq (.ops [iM 13 0, iM 14 5, oI 15 (.indexS (tI 13) (tI 14)), iM 16 1, iB 17 .eql 15 16]) (.cond (tI 17) (.seq (.ops [iM 18 5, iM 4 18]) .ret) .skip))) (.ops [iM 11 5, iD 12 .sub 11 1, iM 5 12])))
def ir39 : IFun :=
  ⟨19, [(.tmp 4)], (.seq (.ops [iC 4 0]) (.seq (.seq (.ops [iM 6 0, iS 7 6, iD 8 .sub 7 1, iM 5 8]) (.block 0 (.loop [0, 1, 5] ir39_l0))) (.seq (.ops [oI 4 (.mv (cI (-1)))]) .ret)))⟩
theorem ir39_ok : compFn prog (shOf sh []) [[0, 1, 5]] f39 = some ir39 := by kernel_rfl
def ir40 : IFun :=
  ⟨9, [(.tmp 4)], (.seq (.ops [iE 4 false]) (.seq (.ops [iM 5 0, iM 6 1, oI 7 (.call .false (.c (.fn 54 [])) [(tI 5), (tI 6)]), iD 8 .geq 7 0, iM 4 8]) .ret))⟩
theorem ir40_ok : compFn prog (shOf sh []) [] f40 = some ir40 := by kernel_rfl
def ir41 : IFun :=
  ⟨24, [(.tmp 3)], (.seq (.ops [oI 2 (.box 34 (tI 0)), iE 3 false]) (.seq (.ops [iF 4 0 2, iF 5 0 4, iL 6 1 5, iD 7 .lss 6 0, iM 8 7, gF 9 8 (jF 0 2), gF 10 8 (jF 1 9), gF 11 8 (jL 1 10), gF 12 8 (jF 0 2), gF 13 8 (jF 0 12), gF 14 8 (jL 1 13), gF 15 8 (jB .lss 11 14), iP 16 8 15, iM 17 16, gF 18 17 (jF 0 2), gF 19 17 (jF 1 18), gF 20 17 (jL 1 19), gF 21 17 (jL 1 1), gF 22 17 (jB .gtr 20 21), iP 23 17 22, iM 3 23]) .ret))⟩
theorem ir41_ok : compFn prog (shOf sh []) [] f41 = some ir41 := by kernel_rfl
def ir42 : IFun :=
  ⟨8, [(.tmp 2)], (.seq (.ops [oI 2 (.nilrow 34 3)]) (.seq (.seq (.ops [iM 3 0, oI 4 (.eqS .false (tI 3))]) (.cond (tI 4) (.seq (.ops [oI 2 (.nilrow 34 3)]) .ret) .skip)) (.seq (.ops [⟨(.some 5), (.buildS 34 3 [z6, z6, (.val (.string ⟨([] : List UInt8).toArray⟩))] 0 []), .none⟩, iM 6 0, ⟨(.some 7), (.append 34 3 32 [z6, z6, (.val (.string ⟨([] : List UInt8).toArray⟩))] (tI 5) (tI 6)), .none⟩, iM 2 7]) .ret)))⟩
theorem ir42_ok : compFn prog (shOf sh []) [] f42 = some ir42 := by kernel_rfl
def ir43 : IFun :=
  ⟨9, [], (.ops [iM 4 0, iM 5 0, iN 6 5, iM 7 1, oI 8 (.call .true (.c (.fn 55 [])) [(tI 4), (tI 6), (tI 7)])])⟩
theorem ir43_ok : compFn prog (shOf sh []) [] f43 = some ir43 := by kernel_rfl
def ir44 : IFun :=
  ⟨21, [(.tmp 4)], (.seq (.ops [oI 2 (.box 34 (tI 0)), oI 3 (.box 34 (tI 1)), iC 4 0]) (.seq (.ops [iF 5 0 2, iF 6 0 5, iL 7 1 6, iF 8 0 3, iF 9 0 8, iL 10 1 9, oI 11 (.call .false (.c (.fn 46 [])) [(tI 7), (tI 10)]), iF 12 0 2, iF 13 1 12, iL 14 1 13, iF 15 0 3, iF 16 1 15, iL 17 1 16, oI 18 (.call .false (.c (.fn 46 [])) [(tI 14), (tI 17)]), oI 19 (.buildS 3 1 [z6] 2 [(0, (tI 11)), (1, (tI 18))]), iK 20 45 19, iM 4 20]) .ret))⟩
theorem ir44_ok : compFn prog (shOf sh []) [] f44 = some ir44 := by kernel_rfl
def ir45_l0 : IC :=
  (.seq (.ops [iB 9 .lss 8 7]) (.seq (.cond (tI 9) .skip (.exit 0)) (.seq (.block 1 (.seq (.ops [iX 10 1 6 8, iL 11 1 10, iM 5 11]) (.seq (.ops [iM 12 5, iM 13 3, iB 14 .neq 12 13]) (.cond (tI 14) (.seq (.ops [iM 15 5, iM 2 15]) .ret) .skip)))) (.ops [iD 16 .add 8 1, iM 8 16]))))
def ir45 : IFun :=
  ⟨18, [(.tmp 2)], (.seq (.ops [iC 2 0]) (.seq (.ops [iC 3 0]) (.seq (.seq (.ops [iM 6 0, iN 7 6, iC 8 0]) (.block 0 (.loop [3, 6, 7, 8] ir45_l0))) (.seq (.ops [iM 17 3, iM 2 17]) .ret))))⟩
theorem ir45_ok : compFn prog (shOf sh []) [[3, 6, 7, 8]] f45 = some ir45 := by kernel_rfl
def ir46 : IFun :=
  ⟨20, [(.tmp 4)], (.seq (.ops [iC 4 0]) (.seq (.ops [iM 7 0, iK 8 56 7, iM 5 8]) (.seq (.ops [iM 9 1, iK 10 56 9, iM 6 10]) (.seq (.seq (.ops [iM 11 5]) (.cond (tI 11) (.seq (.seq (.ops [iM 12 6]) (.cond (tI 12) (.seq (.ops [iC 4 0]) .ret) .skip)) (.seq (.ops [oI 4 (.mv (cI (-1)))]) .ret)) .skip)) (.seq (.seq (.ops [iM 13 6]) (.cond (tI 13) (.seq (.ops [iC 4 1]) .ret) .skip)) (.seq (.seq (.ops [iM 14 0, iM 15 1, iB 16 .lss 14 15]) (.cond (tI 16) (.seq (.ops [oI 4 (.mv (cI (-1)))]) .ret) .skip)) (.seq (.seq (.ops [iM 17 0, iM 18 1, iB 19 .gtr 17 18]) (.cond (tI 19) (.seq (.ops [iC 4 1]) .ret) .skip)) (.seq (.ops [iC 4 0]) .ret))))))))⟩
theorem ir46_ok : compFn prog (shOf sh []) [] f46 = some ir46 := by kernel_rfl
def ir47 : IFun :=
  ⟨8, [(.tmp 6)], (.seq (.ops [oI 3 (.box 9 (tI 0)), oI 4 (.box 9 (tI 1)), oI 5 (.box 3 (tI 2)), oI 6 (.mv (.c (.p (.val .nilFunc))))]) (.seq (.ops [oI 7 (.mkfn 57 [(tI 4), (tI 3), (tI 5)]), iM 6 7]) .ret))⟩
theorem ir47_ok : compFn prog (shOf sh []) [] f47 = some ir47 := by kernel_rfl
def ir48_l0 : IC :=
  (.seq (.seq (.ops [iM 57 8, iM 58 9, iB 59 .lss 57 58]) (.cond (tI 59) .skip (.exit 1))) (.block 2 (.seq (.seq (.ops [iM 60 0, iM 61 8, oI 62 (.indexS (tI 60) (tI 61)), iM 63 6, iB 64 .neq 62 63]) (.cond (tI 64) (.seq (.ops [iM 65 0, iM 66 8, iD 67 .add 66 1, iM 68 9, oI 69 (.sliceS (tI 65) (.some (tI 67)) (.some (tI 68))), iM 70 6, oI 71 (.call .false (.c (.fn 59 [])) [(tI 69), (tI 70)]), iM 11 71]) (.seq (.seq (.ops [iM 72 11, iD 73 .lss 72 0]) (.cond (tI 73) (.seq (.ops [oI 4 (.mv (cI (-1)))]) .ret) .skip)) (.ops [iM 74 8, iM 75 11, iD 76 .add 75 1, iB 77 .add 74 76, iM 8 77]))) .skip)) (.seq (.seq (.ops [iM 78 0, iM 79 8, iD 80 .add 79 1, oI 81 (.indexS (tI 78) (tI 80)), iM 82 7, iB 83 .eql 81 82, iM 84 83, gT 85 84 (jM 0), gT 86 84 (jM 8), gT 87 84 (jM 8), gT 88 84 (jM 5), gT 89 84 (jB .add 87 88), ⟨(.some 90), (.sliceS (tI 85) (.some (tI 86)) (.some (tI 89))), (.some (84, .true))⟩, gT 91 84 (jM 1), gT 92 84 (jB .eql 90 91), iQ 93 84 92]) (.cond (tI 93) (.seq (.ops [iM 94 8, iM 4 94]) .ret) .skip)) (.seq (.ops [iM 95 8, iD 96 .add 95 1, iM 8 96]) (.seq (.ops [iM 97 10, iD 98 .add 97 1, iM 10 98]) (.seq (.ops [iM 99 5, oI 100 (.load .false 1 (.g 0)), iB 101 .leq 99 100, iM 102 101, gT 103 102 (jM 10), gT 104 102 (jM 8), gT 105 102 (jK 61 104), gT 106 102 (jB .gtr 103 105), iQ 107 102 106]) (.cond (tI 107) (.seq .bad (.seq (.seq (.ops [iM 113 12, iD 114 .geq 113 0]) (.cond (tI 114) (.seq (.ops [iM 115 12, iM 116 8, iB 117 .add 115 116, iM 4 117]) .ret) .skip)) (.seq (.ops [oI 4 (.mv (cI (-1)))]) .ret))) (.seq (.ops [iM 118 5, oI 119 (.load .false 1 (.g 0)), iB 120 .gtr 118 119, iM 121 120, gT 122 121 (jM 10), gT 123 121 (jM 8), ⟨(.some 124), (.bin .shr (tI 123) (.c (.p (.val (.int .u64 4))))), (.some (121, .true))⟩, gT 125 121 (.bin .add (cI 4) (tI 124)), gT 126 121 (jB .geq 122 125), iQ 127 121 126, iM 128 127, gT 129 128 (jM 8), gT 130 128 (jM 9), gT 131 128 (jB .lss 129 130), iQ 132 128 131]) (.cond (tI 132) (.seq (.ops [iM 133 0, iM 134 8, oI 135 (.sliceS (tI 133) (.some (tI 134)) .none), iM 136 1, oI 137 (.call .false (.c (.fn 62 [])) [(tI 135), (tI 136)]), iM 13 137]) (.seq (.seq (.ops [iM 138 13, iD 139 .lss 138 0]) (.cond (tI 139) (.seq (.ops [oI 4 (.mv (cI (-1)))]) .ret) .skip)) (.seq (.ops [iM 140 8, iM 141 13, iB 142 .add 140 141, iM 4 142]) .ret))) .skip))))))))))
def ir48 : IFun :=
  ⟨143, [(.tmp 4)], (.seq (.ops [iC 4 0]) (.seq (.ops [iM 14 1, iS 15 14, iM 5 15]) (.seq (.block 0 (.seq (.ops [iM 17 5, iD 18 .eql 17 0, iM 19 18, gF 20 19 (jM 1), gF 21 19 (jM 0), gF 22 19 (jB .eql 20 21), iP 23 19 22, iM 16 23]) (.cond (tI 16) (.seq (.ops [iC 4 0]) .ret) (.seq (.ops [iM 25 5, iD 26 .eql 25 1, iM 24 26]) (.cond (tI 24) (.seq (.ops [iM 27 0, iM 28 1, oI 29 (.indexS (tI 28) (cI 0)), oI 30 (.call .false (.c (.fn 59 [])) [(tI 27), (tI 29)]), iM 4 30]) .ret) (.seq (.ops [iM 32 5, iM 33 0, iS 34 33, iB 35 .geq 32 34, iM 31 35]) (.cond (tI 31) (.seq (.ops [oI 4 (.mv (cI (-1)))]) .ret) (.seq (.ops [iM 37 5, oI 38 (.load .false 1 (.g 0)), iB 39 .leq 37 38, iM 40 39, gT 41 40 (jM 0), gT 42 40 (jS 41), gT 43 40 (jD .leq 42 64), iQ 44 40 43, iM 36 44]) (.cond (tI 36) (.seq .bad .ret) .skip))))))))) (.seq (.ops [iM 48 1, oI 49 (.indexS (tI 48) (cI 0)), iM 6 49]) (.seq (.ops [iM 50 1, oI 51 (.indexS (tI 50) (cI 1)), iM 7 51]) (.seq (.ops [iC 8 0]) (.seq (.ops [iM 52 0, iS 53 52, iM 54 5, iB 55 .sub 53 54, iD 56 .add 55 1, iM 9 56]) (.seq (.ops [iC 10 0]) (.seq (.block 1 (.loop [0, 1, 5, 6, 7, 8, 9, 10] ir48_l0)) (.seq (.ops [oI 4 (.mv (cI (-1)))]) .ret))))))))))⟩
theorem ir48_ok : compFn prog (shOf sh []) [[0, 1, 5, 6, 7, 8, 9, 10]] f48 = some ir48 := by kernel_rfl
def ir52 : IFun :=
  ⟨20, [], (.seq (.ops [iM 2 0, oI 3 (.nilChk (tI 2)), iF 4 0 3, iL 5 1 4, oI 6 (.eqP .false (tI 5) (.c (.p (.val (.pointer .none)))))]) (.cond (tI 6) (.ops [iM 7 0, iM 8 0, oI 9 (.cvU (tI 8)), iM 10 9, oI 11 (.cvP [(61, (2, 0)), (62, (3, 0)), (63, (3, 0))] (tI 10)), oI 12 (.nilChk (tI 7)), iF 13 0 12, gN (jV 1 13 11)]) (.seq (.ops [iM 14 0, oI 15 (.nilChk (tI 14)), iF 16 0 15, iL 17 1 16, iM 18 0, oI 19 (.eqP .true (tI 17) (tI 18))]) (.cond (tI 19) .bad .skip))))⟩
theorem ir52_ok : compFn prog (shOf sh []) [] f52 = some ir52 := by kernel_rfl
def ir54_l0 : IC :=
  (.seq (.ops [iB 9 .lss 8 7]) (.seq (.cond (tI 9) .skip (.exit 0)) (.seq (.block 1 (.seq (.ops [iM 10 8, iM 5 10]) (.seq (.ops [iM 11 1, iM 12 0, iM 13 5, iX 14 3 12 13, iT 15 3 14, oI 16 (.call .false (tI 11) [(tI 15)])]) (.cond (tI 16) (.seq (.ops [iM 17 5, iM 4 17]) .ret) .skip)))) (.ops [iD 18 .add 8 1, iM 8 18]))))
def ir54 : IFun :=
  ⟨19, [(.tmp 4)], (.seq (.ops [iC 4 0]) (.seq (.seq (.ops [iM 6 0, iN 7 6, iC 8 0]) (.block 0 (.loop [0, 1, 7, 8] ir54_l0))) (.seq (.ops [oI 4 (.mv (cI (-1)))]) .ret)))⟩
theorem ir54_ok : compFn prog (shOf sh [11]) [[0, 1, 7, 8]] f54 = some ir54 := by kernel_rfl
def ir55_l0 : IC :=
  (.seq (.seq (.ops [iM 33 8, iM 34 1, iB 35 .leq 33 34]) (.cond (tI 35) .skip (.exit 4))) (.block 5 (.seq (.ops [iM 36 0, iM 37 7, iM 38 7, iM 39 6, iB 40 .add 38 39, iM 41 8, iM 42 2, oI 43 (.call .true (.c (.fn 66 [])) [(tI 36), (tI 37), (tI 40), (tI 41), (tI 42)])]) (.seq (.ops [iM 44 8, iM 7 44]) (.ops [iM 45 8, iM 46 6, oI 47 (.bin .mul (cI 2) (tI 46)), iB 48 .add 45 47, iM 8 48])))))
def ir55_l1 : IC :=
  (.seq (.seq (.ops [iM 28 6, iM 29 1, iB 30 .lss 28 29]) (.cond (tI 30) .skip (.exit 2))) (.block 3 (.seq (.ops [iM 31 6, oI 32 (.bin .mul (cI 2) (tI 31)), iC 7 0, iM 8 32]) (.seq (.block 4 (.loop [0, 1, 2, 6, 7, 8] ir55_l0)) (.seq (.seq (.ops [iM 49 7, iM 50 6, iB 51 .add 49 50, iM 9 51]) (.seq (.ops [iM 52 9, iM 53 1, iB 54 .lss 52 53]) (.cond (tI 54) (.ops [iM 55 0, iM 56 7, iM 57 9, iM 58 1, iM 59 2, oI 60 (.call .true (.c (.fn 66 [])) [(tI 55), (tI 56), (tI 57), (tI 58), (tI 59)])]) .skip))) (.ops [iM 61 6, iD 62 .mul 61 2, iM 6 62]))))))
def ir55_l2 : IC :=
  (.seq (.seq (.ops [iM 11 8, iM 12 1, iB 13 .leq 11 12]) (.cond (tI 13) .skip (.exit 0))) (.block 1 (.seq (.ops [iM 14 0, iM 15 7, iM 16 8, iM 17 2, oI 18 (.call .true (.c (.fn 65 [])) [(tI 14), (tI 15), (tI 16), (tI 17)])]) (.seq (.ops [iM 19 8, iM 7 19]) (.ops [iM 20 8, iM 21 6, iB 22 .add 20 21, iM 8 22])))))
def ir55 : IFun :=
  ⟨63, [], (.seq (.ops [iC 6 20]) (.seq (.ops [iM 10 6, iC 7 0, iM 8 10]) (.seq (.block 0 (.loop [0, 1, 2, 6, 7, 8] ir55_l2)) (.seq (.ops [iM 23 0, iM 24 7, iM 25 1, iM 26 2, oI 27 (.call .true (.c (.fn 65 [])) [(tI 23), (tI 24), (tI 25), (tI 26)])]) (.block 2 (.loop [0, 1, 2, 6] ir55_l1))))))⟩
theorem ir55_ok : compFn prog (shOf sh []) [[0, 1, 2, 6, 7, 8], [0, 1, 2, 6], [0, 1, 2, 6, 7, 8]] f55 = some ir55 := by kernel_rfl
def ir56 : IFun :=
  ⟨6, [(.tmp 2)], (.seq (.ops [iE 2 false]) (.seq (.ops [iM 3 0, iM 4 0, iB 5 .neq 3 4, iM 2 5]) .ret))⟩
theorem ir56_ok : compFn prog (shOf sh []) [] f56 = some ir56 := by kernel_rfl
def ir57_l0 : IC :=
  (.block 3 (.seq (.ops [iL 29 1 2, iL 30 1 1, oI 31 (.call .false (.c (.fn 30 [])) [(tI 29), (tI 30)]), iM 7 31]) (.seq (.seq (.ops [iM 32 7, iD 33 .lss 32 0]) (.cond (tI 33) (.exit 2) .skip)) (.seq (.ops [iL 34 1 2, iM 35 7, iL 36 1 3, iB 37 .add 35 36, oI 38 (.sliceS (tI 34) .none (.some (tI 37))), iM 8 38]) (.seq (.seq (.ops [iM 39 0, iM 40 8, oI 41 (.call .true (tI 39) [(tI 40)]), iU 42 41]) (.cond (tI 42) .ret .skip)) (.ops [iL 43 1 2, iM 44 7, iL 45 1 1, iS 46 45, iB 47 .add 44 46, oI 48 (.sliceS (tI 43) (.some (tI 47)) .none), gN (jV 1 2 48)]))))))
def ir57_l1 : IC :=
  (.seq (.seq (.ops [iL 12 1 2, iS 13 12, iD 14 .gtr 13 0]) (.cond (tI 14) .skip (.exit 0))) (.block 1 (.seq (.ops [iL 16 1 2, iK 17 58 16, iM 15 17, oI 18 (.extract (tI 15) 0), oI 19 (.extract (tI 15) 1), iM 5 18, iM 6 19]) (.seq (.seq (.ops [iM 20 0, iL 21 1 2, iM 22 6, oI 23 (.sliceS (tI 21) .none (.some (tI 22))), oI 24 (.call .true (tI 20) [(tI 23)]), iU 25 24]) (.cond (tI 25) .ret .skip)) (.ops [iL 26 1 2, iM 27 6, oI 28 (.sliceS (tI 26) (.some (tI 27)) .none), gN (jV 1 2 28)])))))
def ir57 : IFun :=
  ⟨52, [], (.seq (.seq (.ops [iL 9 1 1, iS 10 9, iD 11 .eql 10 0]) (.cond (tI 11) (.seq (.block 0 (.loop [0, 2] ir57_l1)) .ret) .skip)) (.seq (.block 2 (.loop [0, 1, 2, 3] ir57_l0)) (.ops [iM 49 0, iL 50 1 2, oI 51 (.call .true (tI 49) [(tI 50)])])))⟩
theorem ir57_ok : compFn prog (shOf sh []) [[0, 2], [0, 1, 2, 3]] f57 = some ir57 := by kernel_rfl
def ir58 : IFun :=
  ⟨19, [(.tmp 2), (.tmp 3)], (.seq (.ops [oI 2 (.mv (.c (.p (.val (.int .i32 0))))), iC 3 0]) (.seq (.seq (.ops [iM 4 0, ⟨(.some 5), (.bin .neq (tI 4) (.c (.p (.val (.string ⟨([] : List UInt8).toArray⟩))))), .none⟩, iM 6 5, gT 7 6 (jM 0), gT 8 6 (.indexS (tI 7) (cI 0)), ⟨(.some 9), (.bin .lss (tI 8) (.c (.p (.val (.int .u8 128))))), (.some (6, .true))⟩, iQ 10 6 9]) (.cond (tI 10) (.seq (.ops [iM 11 0, oI 12 (.indexS (tI 11) (cI 0)), oI 13 (.convI .i32 (tI 12)), iM 2 13, iC 3 1]) .ret) (.ops [iM 15 0, iK 16 67 15, iM 14 16, oI 17 (.extract (tI 14) 0), oI 18 (.extract (tI 14) 1), iM 2 17, iM 3 18]))) .ret))⟩
theorem ir58_ok : compFn prog (shOf sh []) [] f58 = some ir58 := by kernel_rfl
def ir59 : IFun :=
  ⟨8, [(.tmp 4)], (.seq (.ops [iC 4 0]) (.seq (.ops [iM 5 0, iM 6 1, oI 7 (.ixb (tI 5) (tI 6)), iM 4 7]) .ret))⟩
theorem ir59_ok : compFn prog (shOf sh []) [] f59 = some ir59 := by kernel_rfl
def ir61 : IFun :=
  ⟨6, [(.tmp 2)], (.seq (.ops [iC 2 0]) (.seq (.ops [iM 3 0, iD 4 .add 3 16, iD 5 .quo 4 8, iM 2 5]) .ret))⟩
theorem ir61_ok : compFn prog (shOf sh []) [] f61 = some ir61 := by kernel_rfl
def ir62_l0 : IC :=
  (.seq (.seq (.ops [iM 41 10, iM 42 0, iS 43 42, iB 44 .lss 41 43]) (.cond (tI 44) .skip (.exit 2))) (.block 3 (.seq (.ops [iM 45 8, oI 46 (.bin .mul (tI 45) (.c (.p (.val (.int .u32 16777619))))), iM 8 46]) (.seq (.ops [iM 47 8, iM 48 0, iM 49 10, oI 50 (.indexS (tI 48) (tI 49)), oI 51 (.convI .u32 (tI 50)), iB 52 .add 47 51, iM 8 52]) (.seq (.ops [iM 53 8, iM 54 6, iM 55 0, iM 56 10, iM 57 7, iB 58 .sub 56 57, oI 59 (.indexS (tI 55) (tI 58)), oI 60 (.convI .u32 (tI 59)), iB 61 .mul 54 60, iB 62 .sub 53 61, iM 8 62]) (.seq (.ops [iM 63 10, iD 64 .add 63 1, iM 10 64]) (.seq (.ops [iM 65 8, iM 66 5, iB 67 .eql 65 66, iM 68 67, gT 69 68 (jM 0), gT 70 68 (jM 10), gT 71 68 (jM 7), gT 72 68 (jB .sub 70 71), gT 73 68 (jM 10), ⟨(.some 74), (.sliceS (tI 69) (.some (tI 72)) (.some (tI 73))), (.some (68, .true))⟩, gT 75 68 (jM 1), gT 76 68 (jB .eql 74 75), iQ 77 68 76]) (.cond (tI 77) (.seq (.ops [iM 78 10, iM 79 7, iB 80 .sub 78 79, iM 4 80]) .ret) .skip))))))))
def ir62_l1 : IC :=
  (.seq (.seq (.ops [iM 18 9, iM 19 7, iB 20 .lss 18 19]) (.cond (tI 20) .skip (.exit 0))) (.seq (.block 1 (.ops [iM 23 8, oI 24 (.bin .mul (tI 23) (.c (.p (.val (.int .u32 16777619))))), iM 25 0, iM 26 9, oI 27 (.indexS (tI 25) (tI 26)), oI 28 (.convI .u32 (tI 27)), iB 29 .add 24 28, iM 8 29])) (.ops [iM 21 9, iD 22 .add 21 1, iM 9 22])))
def ir62 : IFun :=
  ⟨81, [(.tmp 4)], (.seq (.ops [iC 4 0]) (.seq (.ops [iM 12 1, iK 13 69 12, iM 11 13, oI 14 (.extract (tI 11) 0), oI 15 (.extract (tI 11) 1), iM 5 14, iM 6 15]) (.seq (.ops [iM 16 1, iS 17 16, iM 7 17]) (.seq (.ops [oI 8 (.mv (.c (.p (.val (.int .u32 0)))))]) (.seq (.seq (.ops [iC 9 0]) (.block 0 (.loop [0, 1, 5, 6, 7, 8, 9] ir62_l1))) (.seq (.seq (.ops [iM 30 8, iM 31 5, iB 32 .eql 30 31, iM 33 32, gT 34 33 (jM 0), gT 35 33 (jM 7), ⟨(.some 36), (.sliceS (tI 34) .none (.some (tI 35))), (.some (33, .true))⟩, gT 37 33 (jM 1), gT 38 33 (jB .eql 36 37), iQ 39 33 38]) (.cond (tI 39) (.seq (.ops [iC 4 0]) .ret) .skip)) (.seq (.seq (.ops [iM 40 7, iM 10 40]) (.block 2 (.loop [0, 1, 5, 6, 7, 8, 10] ir62_l0))) (.seq (.ops [oI 4 (.mv (cI (-1)))]) .ret))))))))⟩
theorem ir62_ok : compFn prog (shOf sh []) [[0, 1, 5, 6, 7, 8, 9], [0, 1, 5, 6, 7, 8, 10]] f62 = some ir62 := by kernel_rfl
def ir65_l0 : IC :=
  (.seq (.seq (.ops [iM 18 9, iM 19 1, iB 20 .gtr 18 19, iM 21 20, gT 22 21 (jM 3), gT 23 21 (jM 0), gT 24 21 (jM 9), gT 25 21 (jX 3 23 24), gT 26 21 (jT 3 25), gT 27 21 (jM 0), gT 28 21 (jM 9), gT 29 21 (jD .sub 28 1), gT 30 21 (jX 3 27 29), gT 31 21 (jT 3 30), gT 32 21 (.call .false (tI 22) [(tI 26), (tI 31)]), gT 33 21 (jD .lss 32 0), iQ 34 21 33]) (.cond (tI 34) .skip (.exit 2))) (.seq (.block 3 (.ops [iM 37 0, iM 38 9, iM 39 0, iM 40 9, iD 41 .sub 40 1, iM 42 0, iM 43 9, iD 44 .sub 43 1, iX 45 3 42 44, iT 46 3 45, iM 47 0, iM 48 9, iX 49 3 47 48, iT 50 3 49, iX 51 3 37 38, gN (jV 3 51 46), iX 52 3 39 41, gN (jV 3 52 50)])) (.ops [iM 35 9, iD 36 .sub 35 1, iM 9 36])))
def ir65_l1 : IC :=
  (.seq (.seq (.ops [iM 12 8, iM 13 2, iB 14 .lss 12 13]) (.cond (tI 14) .skip (.exit 0))) (.seq (.block 1 (.seq (.ops [iM 17 8, iM 9 17]) (.block 2 (.loop [0, 1, 2, 3, 8, 9] ir65_l0)))) (.ops [iM 15 8, iD 16 .add 15 1, iM 8 16])))
def ir65 : IFun :=
  ⟨53, [], (.seq (.ops [iM 10 1, iD 11 .add 10 1, iM 8 11]) (.block 0 (.loop [0, 1, 2, 3, 8] ir65_l1)))⟩
theorem ir65_ok : compFn prog (shOf sh [22]) [[0, 1, 2, 3, 8], [0, 1, 2, 3, 8, 9]] f65 = some ir65 := by kernel_rfl
def ir66_l0 : IC :=
  (.seq (.seq (.ops [iM 149 20, iM 150 21, iB 151 .lss 149 150]) (.cond (tI 151) .skip (.exit 8))) (.block 9 (.seq (.ops [iM 152 20, iM 153 21, iB 154 .add 152 153, oI 155 (.convI .u64 (tI 154)), oI 156 (.bin .shr (tI 155) (.c (.p (.val (.int .u64 1))))), oI 157 (.convI .i64 (tI 156)), iM 23 157]) (.seq (.ops [iM 158 4, iM 159 0, iM 160 22, iM 161 23, iB 162 .sub 160 161, iX 163 3 159 162, iT 164 3 163, iM 165 0, iM 166 23, iX 167 3 165 166, iT 168 3 167, oI 169 (.call .true (tI 158) [(tI 164), (tI 168)]), iD 170 .lss 169 0, iU 171 170]) (.cond (tI 171) (.ops [iM 172 23, iD 173 .add 172 1, iM 20 173]) (.ops [iM 174 23, iM 21 174]))))))
def ir66_l1 : IC :=
  (.seq (.seq (.ops [iM 108 17, iM 109 14, iB 110 .gtr 108 109]) (.cond (tI 110) .skip (.exit 6))) (.seq (.block 7 (.ops [iM 113 0, iM 114 17, iM 115 0, iM 116 17, iD 117 .sub 116 1, iM 118 0, iM 119 17, iD 120 .sub 119 1, iX 121 3 118 120, iT 122 3 121, iM 123 0, iM 124 17, iX 125 3 123 124, iT 126 3 125, iX 127 3 113 114, gN (jV 3 127 122), iX 128 3 115 117, gN (jV 3 128 126)])) (.ops [iM 111 17, iD 112 .sub 111 1, iM 17 112])))
def ir66_l2 : IC :=
  (.seq (.seq (.ops [iM 83 14, iM 84 15, iB 85 .lss 83 84]) (.cond (tI 85) .skip (.exit 4))) (.block 5 (.seq (.ops [iM 86 14, iM 87 15, iB 88 .add 86 87, oI 89 (.convI .u64 (tI 88)), oI 90 (.bin .shr (tI 89) (.c (.p (.val (.int .u64 1))))), oI 91 (.convI .i64 (tI 90)), iM 16 91]) (.seq (.ops [iM 92 4, iM 93 0, iM 94 2, iX 95 3 93 94, iT 96 3 95, iM 97 0, iM 98 16, iX 99 3 97 98, iT 100 3 99, oI 101 (.call .true (tI 92) [(tI 96), (tI 100)]), iD 102 .lss 101 0, iU 103 102]) (.cond (tI 103) (.ops [iM 104 16, iD 105 .add 104 1, iM 14 105]) (.ops [iM 106 16, iM 15 106]))))))
def ir66_l3 : IC :=
  (.seq (.seq (.ops [iM 55 13, iM 56 10, iD 57 .sub 56 1, iB 58 .lss 55 57]) (.cond (tI 58) .skip (.exit 2))) (.seq (.block 3 (.ops [iM 61 0, iM 62 13, iM 63 0, iM 64 13, iD 65 .add 64 1, iM 66 0, iM 67 13, iD 68 .add 67 1, iX 69 3 66 68, iT 70 3 69, iM 71 0, iM 72 13, iX 73 3 71 72, iT 74 3 73, iX 75 3 61 62, gN (jV 3 75 70), iX 76 3 63 65, gN (jV 3 76 74)])) (.ops [iM 59 13, iD 60 .add 59 1, iM 13 60])))
def ir66_l4 : IC :=
  (.seq (.seq (.ops [iM 31 10, iM 32 11, iB 33 .lss 31 32]) (.cond (tI 33) .skip (.exit 0))) (.block 1 (.seq (.ops [iM 34 10, iM 35 11, iB 36 .add 34 35, oI 37 (.convI .u64 (tI 36)), oI 38 (.bin .shr (tI 37) (.c (.p (.val (.int .u64 1))))), oI 39 (.convI .i64 (tI 38)), iM 12 39]) (.seq (.ops [iM 40 4, iM 41 0, iM 42 12, iX 43 3 41 42, iT 44 3 43, iM 45 0, iM 46 1, iX 47 3 45 46, iT 48 3 47, oI 49 (.call .true (tI 40) [(tI 44), (tI 48)]), iD 50 .lss 49 0]) (.cond (tI 50) (.ops [iM 51 12, iD 52 .add 51 1, iM 10 52]) (.ops [iM 53 12, iM 11 53]))))))
def ir66 : IFun :=
  ⟨220, [], (.seq (.seq (.ops [iM 25 2, iM 26 1, iB 27 .sub 25 26, iD 28 .eql 27 1]) (.cond (tI 28) (.seq (.ops [iM 29 2, iM 10 29]) (.seq (.ops [iM 30 3, iM 11 30]) (.seq (.block 0 (.loop [0, 1, 4, 10, 11] ir66_l4)) (.seq (.seq (.ops [iM 54 1, iM 13 54]) (.block 2 (.loop [0, 10, 13] ir66_l3))) .ret)))) .skip)) (.seq (.seq (.ops [iM 77 3, iM 78 2, iB 79 .sub 77 78, iD 80 .eql 79 1]) (.cond (tI 80) (.seq (.ops [iM 81 1, iM 14 81]) (.seq (.ops [iM 82 2, iM 15 82]) (.seq (.block 4 (.loop [0, 2, 4, 14, 15] ir66_l2)) (.seq (.seq (.ops [iM 107 2, iM 17 107]) (.block 6 (.loop [0, 14, 17] ir66_l1))) .ret)))) .skip)) (.seq (.ops [iM 129 1, iM 130 3, iB 131 .add 129 130, oI 132 (.convI .u64 (tI 131)), oI 133 (.bin .shr (tI 132) (.c (.p (.val (.int .u64 1))))), oI 134 (.convI .i64 (tI 133)), iM 18 134]) (.seq (.ops [iM 135 18, iM 136 2, iB 137 .add 135 136, iM 19 137]) (.seq (.ops [iC 20 0, iC 21 0]) (.seq (.seq (.ops [iM 138 2, iM 139 18, iB 140 .gtr 138 139]) (.cond (tI 140) (.seq (.ops [iM 141 19, iM 142 3, iB 143 .sub 141 142, iM 20 143]) (.ops [iM 144 18, iM 21 144])) (.seq (.ops [iM 145 1, iM 20 145]) (.ops [iM 146 2, iM 21 146])))) (.seq (.ops [iM 147 19, iD 148 .sub 147 1, iM 22 148]) (.seq (.block 8 (.loop [0, 1, 2, 3, 4, 18, 19, 20, 21, 22] ir66_l0)) (.seq (.ops [iM 175 19, iM 176 20, iB 177 .sub 175 176, iM 24 177]) (.seq (.seq (.ops [iM 178 20, iM 179 2, iB 180 .lss 178 179, iM 181 180, gT 182 181 (jM 2), gT 183 181 (jM 24), gT 184 181 (jB .lss 182 183), iQ 185 181 184]) (.cond (tI 185) (.ops [iM 186 0, iM 187 20, iM 188 2, iM 189 24, iM 190 4, oI 191 (.call .true (.c (.fn 70 [])) [(tI 186), (tI 187), (tI 188), (tI 189), (tI 190)])]) .skip)) (.seq (.seq (.ops [iM 192 1, iM 193 20, iB 194 .lss 192 193, iM 195 194, gT 196 195 (jM 20), gT 197 195 (jM 18), gT 198 195 (jB .lss 196 197), iQ 199 195 198]) (.cond (tI 199) (.ops [iM 200 0, iM 201 1, iM 202 20, iM 203 18, iM 204 4, oI 205 (.call .true (.c (.fn 66 [])) [(tI 200), (tI 201), (tI 202), (tI 203), (tI 204)])]) .skip)) (.seq (.ops [iM 206 18, iM 207 24, iB 208 .lss 206 207, iM 209 208, gT 210 209 (jM 24), gT 211 209 (jM 3), gT 212 209 (jB .lss 210 211), iQ 213 209 212]) (.cond (tI 213) (.ops [iM 214 0, iM 215 18, iM 216 24, iM 217 3, iM 218 4, oI 219 (.call .true (.c (.fn 66 [])) [(tI 214), (tI 215), (tI 216), (tI 217), (tI 218)])]) .skip)))))))))))))⟩
theorem ir66_ok : compFn prog (shOf sh []) [[0, 1, 4, 10, 11], [0, 10, 13], [0, 2, 4, 14, 15], [0, 14, 17], [0, 1, 2, 3, 4, 18, 19, 20, 21, 22]] f66 = some ir66 := by kernel_rfl
def ir67 : IFun :=
  ⟨117, [(.tmp 2), (.tmp 3)], (.seq (.ops [oI 2 (.mv (.c (.p (.val (.int .i32 0))))), iC 3 0]) (.seq (.ops [iM 13 0, iS 14 13, iM 4 14]) (.seq (.seq (.ops [iM 15 4, iD 16 .lss 15 1]) (.cond (tI 16) (.seq (.ops [oI 2 (.mv (.c (.p (.val (.int .i32 65533))))), iC 3 0]) .ret) .skip)) (.seq (.ops [iM 17 0, oI 18 (.indexS (tI 17) (cI 0)), iM 5 18]) (.seq (.ops [iM 19 5, oI 20 (.indexA (.some 256) 1 (.g 1) (tI 19)), iL 21 1 20, iM 6 21]) (.seq (.seq (.ops [iM 22 6, oI 23 (.bin .geq (tI 22) (.c (.p (.val (.int .u8 240)))))]) (.cond (tI 23) (.seq (.ops [iM 24 6, oI 25 (.convI .i32 (tI 24)), oI 26 (.bin .shl (tI 25) (.c (.p (.val (.int .u64 31))))), oI 27 (.bin .shr (tI 26) (.c (.p (.val (.int .u64 31))))), iM 7 27]) (.seq (.ops [iM 28 0, oI 29 (.indexS (tI 28) (cI 0)), oI 30 (.convI .i32 (tI 29)), iM 31 7, iB 32 .andNot 30 31, iM 33 7, oI 34 (.bin .and (.c (.p (.val (.int .i32 65533)))) (tI 33)), iB 35 .or 32 34, iM 2 35, iC 3 1]) .ret)) .skip)) (.seq (.ops [iM 36 6, oI 37 (.bin .and (tI 36) (.c (.p (.val (.int .u8 7))))), oI 38 (.convI .i64 (tI 37)), iM 8 38]) (.seq (.ops [iM 39 6, oI 40 (.bin .shr (tI 39) (.c (.p (.val (.int .u64 4))))), oI 41 (.indexA (.some 16) 2 (.g 2) (tI 40)), iT 42 2 41, oI 9 (.alloc 112 [(.z (.val (.int .u8 0))), (.z (.val (.int .u8 0)))]), gN (jV 2 9 42)]) (.seq (.seq (.ops [iM 43 4, iM 44 8, iB 45 .lss 43 44]) (.cond (tI 45) (.seq (.ops [oI 2 (.mv (.c (.p (.val (.int .i32 65533))))), iC 3 1]) .ret) .skip)) (.seq (.ops [iM 46 0, oI 47 (.indexS (tI 46) (cI 1)), iM 10 47]) (.seq (.seq (.ops [iM 48 10, iF 49 0 9, iL 50 1 49, iB 51 .lss 48 50, iM 52 51, gF 53 52 (jF 1 9), gF 54 52 (jL 1 53), gF 55 52 (jM 10), gF 56 52 (jB .lss 54 55), iP 57 52 56]) (.cond (tI 57) (.seq (.ops [oI 2 (.mv (.c (.p (.val (.int .i32 65533))))), iC 3 1]) .ret) .skip)) (.seq (.seq (.ops [iM 58 8, iD 59 .leq 58 2]) (.cond (tI 59) (.seq (.ops [iM 60 5, oI 61 (.bin .and (tI 60) (.c (.p (.val (.int .u8 31))))), oI 62 (.convI .i32 (tI 61)), oI 63 (.bin .shl (tI 62) (.c (.p (.val (.int .u64 6))))), iM 64 10, oI 65 (.bin .and (tI 64) (.c (.p (.val (.int .u8 63))))), oI 66 (.convI .i32 (tI 65)), iB 67 .or 63 66, iM 2 67, iC 3 2]) .ret) .skip)) (.seq (.ops [iM 68 0, oI 69 (.indexS (tI 68) (cI 2)), iM 11 69]) (.seq (.seq (.ops [iM 70 11, oI 71 (.bin .lss (tI 70) (.c (.p (.val (.int .u8 128))))), iM 72 71, gF 73 72 (jM 11), ⟨(.some 74), (.bin .lss (.c (.p (.val (.int .u8 191)))) (tI 73)), (.some (72, .false))⟩, iP 75 72 74]) (.cond (tI 75) (.seq (.ops [oI 2 (.mv (.c (.p (.val (.int .i32 65533))))), iC 3 1]) .ret) .skip)) (.seq (.seq (.ops [iM 76 8, iD 77 .leq 76 3]) (.cond (tI 77) (.seq (.ops [iM 78 5, oI 79 (.bin .and (tI 78) (.c (.p (.val (.int .u8 15))))), oI 80 (.convI .i32 (tI 79)), oI 81 (.bin .shl (tI 80) (.c (.p (.val (.int .u64 12))))), iM 82 10, oI 83 (.bin .and (tI 82) (.c (.p (.val (.int .u8 63))))), oI 84 (.convI .i32 (tI 83)), oI 85 (.bin .shl (tI 84) (.c (.p (.val (.int .u64 6))))), iB 86 .or 81 85, iM 87 11, oI 88 (.bin .and (tI 87) (.c (.p (.val (.int .u8 63))))), oI 89 (.convI .i32 (tI 88)), iB 90 .or 86 89, iM 2 90, iC 3 3]) .ret) .skip)) (.seq (.ops [iM 91 0, oI 92 (.indexS (tI 91) (cI 3)), iM 12 92]) (.seq (.seq (.ops [iM 93 12, oI 94 (.bin .lss (tI 93) (.c (.p (.val (.int .u8 128))))), iM 95 94, gF 96 95 (jM 12), ⟨(.some 97), (.bin .lss (.c (.p (.val (.int .u8 191)))) (tI 96)), (.some (95, .false))⟩, iP 98 95 97]) (.cond (tI 98) (.seq (.ops [oI 2 (.mv (.c (.p (.val (.int .i32 65533))))), iC 3 1]) .ret) .skip)) (.seq (.ops [iM 99 5, oI 100 (.bin .and (tI 99) (.c (.p (.val (.int .u8 7))))), oI 101 (.convI .i32 (tI 100)), oI 102 (.bin .shl (tI 101) (.c (.p (.val (.int .u64 18))))), iM 103 10, oI 104 (.bin .and (tI 103) (.c (.p (.val (.int .u8 63))))), oI 105 (.convI .i32 (tI 104)), oI 106 (.bin .shl (tI 105) (.c (.p (.val (.int .u64 12))))), iB 107 .or 102 106, iM 108 11, oI 109 (.bin .and (tI 108) (.c (.p (.val (.int .u8 63))))), oI 110 (.convI .i32 (tI 109)), oI 111 (.bin .shl (tI 110) (.c (.p (.val (.int .u64 6))))), iB 112 .or 107 111, iM 113 12, oI 114 (.bin .and (tI 113) (.c (.p (.val (.int .u8 63))))), oI 115 (.convI .i32 (tI 114)), iB 116 .or 112 115, iM 2 116, iC 3 4]) .ret))))))))))))))))))⟩
theorem ir67_ok : compFn prog (shOf sh []) [] f67 = some ir67 := by kernel_rfl
def ir69_l0 : IC :=
  (.seq (.seq (.ops [iM 24 8, iD 25 .gtr 24 0]) (.cond (tI 25) .skip (.exit 2))) (.seq (.block 3 (.seq (.seq (.ops [iM 28 8, iD 29 .and 28 1, iD 30 .neq 29 0]) (.cond (tI 30) (.ops [iM 31 6, iM 32 7, iB 33 .mul 31 32, iM 6 33]) .skip)) (.ops [iM 34 7, iM 35 7, iB 36 .mul 34 35, iM 7 36]))) (.ops [iM 26 8, oI 27 (.bin .shr (tI 26) (.c (.p (.val (.int .u64 1))))), iM 8 27])))
def ir69_l1 : IC :=
  (.seq (.seq (.ops [iM 9 5, iM 10 0, iS 11 10, iB 12 .lss 9 11]) (.cond (tI 12) .skip (.exit 0))) (.seq (.block 1 (.ops [iM 15 4, oI 16 (.bin .mul (tI 15) (.c (.p (.val (.int .u32 16777619))))), iM 17 0, iM 18 5, oI 19 (.indexS (tI 17) (tI 18)), oI 20 (.convI .u32 (tI 19)), iB 21 .add 16 20, iM 4 21])) (.ops [iM 13 5, iD 14 .add 13 1, iM 5 14])))
def ir69 : IFun :=
  ⟨39, [(.tmp 2), (.tmp 3)], (.seq (.ops [oI 2 (.mv (.c (.p (.val (.int .u32 0))))), oI 3 (.mv (.c (.p (.val (.int .u32 0)))))]) (.seq (.ops [oI 4 (.mv (.c (.p (.val (.int .u32 0)))))]) (.seq (.seq (.ops [iC 5 0]) (.block 0 (.loop [0, 4, 5] ir69_l1))) (.seq (.ops [oI 6 (.mv (.c (.p (.val (.int .u32 1))))), oI 7 (.mv (.c (.p (.val (.int .u32 16777619)))))]) (.seq (.seq (.ops [iM 22 0, iS 23 22, iM 8 23]) (.block 2 (.loop [4, 6, 7, 8] ir69_l0))) (.seq (.ops [iM 37 4, iM 38 6, iM 2 37, iM 3 38]) .ret))))))⟩
theorem ir69_ok : compFn prog (shOf sh []) [[0, 4, 5], [4, 6, 7, 8]] f69 = some ir69 := by kernel_rfl
def ir70_l0 : IC :=
  (.seq (.seq (.ops [iM 18 10, iM 19 11, iB 20 .neq 18 19]) (.cond (tI 20) .skip (.exit 0))) (.block 1 (.seq (.ops [iM 21 10, iM 22 11, iB 23 .gtr 21 22]) (.cond (tI 23) (.seq (.ops [iM 24 0, iM 25 2, iM 26 10, iB 27 .sub 25 26, iM 28 2, iM 29 11, iM 30 4, oI 31 (.call .true (.c (.fn 71 [])) [(tI 24), (tI 27), (tI 28), (tI 29), (tI 30)])]) (.ops [iM 32 10, iM 33 11, iB 34 .sub 32 33, iM 10 34])) (.seq (.ops [iM 35 0, iM 36 2, iM 37 10, iB 38 .sub 36 37, iM 39 2, iM 40 11, iB 41 .add 39 40, iM 42 10, iB 43 .sub 41 42, iM 44 10, iM 45 4, oI 46 (.call .true (.c (.fn 71 [])) [(tI 35), (tI 38), (tI 43), (tI 44), (tI 45)])]) (.ops [iM 47 11, iM 48 10, iB 49 .sub 47 48, iM 11 49]))))))
def ir70 : IFun :=
  ⟨58, [], (.seq (.ops [iM 12 2, iM 13 1, iB 14 .sub 12 13, iM 10 14]) (.seq (.ops [iM 15 3, iM 16 2, iB 17 .sub 15 16, iM 11 17]) (.seq (.block 0 (.loop [0, 2, 4, 10, 11] ir70_l0)) (.ops [iM 50 0, iM 51 2, iM 52 10, iB 53 .sub 51 52, iM 54 2, iM 55 10, iM 56 4, oI 57 (.call .true (.c (.fn 71 [])) [(tI 50), (tI 53), (tI 54), (tI 55), (tI 56)])]))))⟩
theorem ir70_ok : compFn prog (shOf sh []) [[0, 2, 4, 10, 11]] f70 = some ir70 := by kernel_rfl
def ir71_l0 : IC :=
  (.seq (.seq (.ops [iM 11 10, iM 12 3, iB 13 .lss 11 12]) (.cond (tI 13) .skip (.exit 0))) (.seq (.block 1 (.ops [iM 16 0, iM 17 1, iM 18 10, iB 19 .add 17 18, iM 20 0, iM 21 2, iM 22 10, iB 23 .add 21 22, iM 24 0, iM 25 2, iM 26 10, iB 27 .add 25 26, iX 28 3 24 27, iT 29 3 28, iM 30 0, iM 31 1, iM 32 10, iB 33 .add 31 32, iX 34 3 30 33, iT 35 3 34, iX 36 3 16 19, gN (jV 3 36 29), iX 37 3 20 23, gN (jV 3 37 35)])) (.ops [iM 14 10, iD 15 .add 14 1, iM 10 15])))
def ir71 : IFun :=
  ⟨38, [], (.seq (.ops [iC 10 0]) (.block 0 (.loop [0, 1, 2, 3, 10] ir71_l0)))⟩
theorem ir71_ok : compFn prog (shOf sh []) [[0, 1, 2, 3, 10]] f71 = some ir71 := by kernel_rfl
def fns : Nat → Option IFun
  | 8 => some ir8
  | 9 => some ir9
  | 10 => some ir10
  | 11 => some ir11
  | 12 => some ir12
  | 13 => some ir13
  | 15 => some ir15
  | 17 => some ir17
  | 22 => some ir22
  | 23 => some ir23
  | 24 => some ir24
  | 25 => some ir25
  | 26 => some ir26
  | 27 => some ir27
  | 28 => some ir28
  | 29 => some ir29
  | 30 => some ir30
  | 31 => some ir31
  | 37 => some ir37
  | 39 => some ir39
  | 40 => some ir40
  | 41 => some ir41
  | 42 => some ir42
  | 43 => some ir43
  | 44 => some ir44
  | 45 => some ir45
  | 46 => some ir46
  | 47 => some ir47
  | 48 => some ir48
  | 52 => some ir52
  | 54 => some ir54
  | 55 => some ir55
  | 56 => some ir56
  | 57 => some ir57
  | 58 => some ir58
  | 59 => some ir59
  | 61 => some ir61
  | 62 => some ir62
  | 65 => some ir65
  | 66 => some ir66
  | 67 => some ir67
  | 69 => some ir69
  | 70 => some ir70
  | 71 => some ir71
  | _ => none
theorem fns_ok : ∀ f F, fns f = some F → ∃ shf fd ann, prog.funcs[f]? = some fd ∧ compFn prog shf ann fd = some F := by
  intro f F h
  unfold fns at h
  split at h
  · injection h with h; subst h; exact ⟨_, _, _, func8, ir8_ok⟩
  · injection h with h; subst h; exact ⟨_, _, _, func9, ir9_ok⟩
  · injection h with h; subst h; exact ⟨_, _, _, func10, ir10_ok⟩
  · injection h with h; subst h; exact ⟨_, _, _, func11, ir11_ok⟩
  · injection h with h; subst h; exact ⟨_, _, _, func12, ir12_ok⟩
  · injection h with h; subst h; exact ⟨_, _, _, func13, ir13_ok⟩
  · injection h with h; subst h; exact ⟨_, _, _, func15, ir15_ok⟩
  · injection h with h; subst h; exact ⟨_, _, _, func17, ir17_ok⟩
  · injection h with h; subst h; exact ⟨_, _, _, func22, ir22_ok⟩
  · injection h with h; subst h; exact ⟨_, _, _, func23, ir23_ok⟩
  · injection h with h; subst h; exact ⟨_, _, _, func24, ir24_ok⟩
  · injection h with h; subst h; exact ⟨_, _, _, func25, ir25_ok⟩
  · injection h with h; subst h; exact ⟨_, _, _, func26, ir26_ok⟩
  · injection h with h; subst h; exact ⟨_, _, _, func27, ir27_ok⟩
  · injection h with h; subst h; exact ⟨_, _, _, func28, ir28_ok⟩
  · injection h with h; subst h; exact ⟨_, _, _, func29, ir29_ok⟩
  · injection h with h; subst h; exact ⟨_, _, _, func30, ir30_ok⟩
  · injection h with h; subst h; exact ⟨_, _, _, func31, ir31_ok⟩
  · injection h with h; subst h; exact ⟨_, _, _, func37, ir37_ok⟩
  · injection h with h; subst h; exact ⟨_, _, _, func39, ir39_ok⟩
  · injection h with h; subst h; exact ⟨_, _, _, func40, ir40_ok⟩
  · injection h with h; subst h; exact ⟨_, _, _, func41, ir41_ok⟩
  · injection h with h; subst h; exact ⟨_, _, _, func42, ir42_ok⟩
  · injection h with h; subst h; exact ⟨_, _, _, func43, ir43_ok⟩
  · injection h with h; subst h; exact ⟨_, _, _, func44, ir44_ok⟩
  · injection h with h; subst h; exact ⟨_, _, _, func45, ir45_ok⟩
  · injection h with h; subst h; exact ⟨_, _, _, func46, ir46_ok⟩
  · injection h with h; subst h; exact ⟨_, _, _, func47, ir47_ok⟩
  · injection h with h; subst h; exact ⟨_, _, _, func48, ir48_ok⟩
  · injection h with h; subst h; exact ⟨_, _, _, func52, ir52_ok⟩
  · injection h with h; subst h; exact ⟨_, _, _, func54, ir54_ok⟩
  · injection h with h; subst h; exact ⟨_, _, _, func55, ir55_ok⟩
  · injection h with h; subst h; exact ⟨_, _, _, func56, ir56_ok⟩
  · injection h with h; subst h; exact ⟨_, _, _, func57, ir57_ok⟩
  · injection h with h; subst h; exact ⟨_, _, _, func58, ir58_ok⟩
  · injection h with h; subst h; exact ⟨_, _, _, func59, ir59_ok⟩
  · injection h with h; subst h; exact ⟨_, _, _, func61, ir61_ok⟩
  · injection h with h; subst h; exact ⟨_, _, _, func62, ir62_ok⟩
  · injection h with h; subst h; exact ⟨_, _, _, func65, ir65_ok⟩
  · injection h with h; subst h; exact ⟨_, _, _, func66, ir66_ok⟩
  · injection h with h; subst h; exact ⟨_, _, _, func67, ir67_ok⟩
  · injection h with h; subst h; exact ⟨_, _, _, func69, ir69_ok⟩
  · injection h with h; subst h; exact ⟨_, _, _, func70, ir70_ok⟩
  · injection h with h; subst h; exact ⟨_, _, _, func71, ir71_ok⟩
  · cases h
end Go.Proofs.Tryd
