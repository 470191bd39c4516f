/- The instructions of the functions, as the program has them. -/
import Derived.Test.YtefbhnhekkncpaaDoorProg
import Derived.Test.YtefbhnhekkncpaaDoorVD
namespace Go.Proofs.Tryd
open Go Go.Vs
def oI (d : Nat) (i : Ins) : IOp := ⟨some d, i, none⟩
def cI (n : Int) : Opd := .c (.p (.val (.int .i64 n)))
def cB (b : Bool) : Opd := .c (.p (.val (.bool b)))
def zZ : ZC := .z (.val (.int .i64 0))
abbrev tI (n : Nat) : Opd := .t n
def jM (a : Nat) : Ins := .mv (.t a)
def iM (d : Nat) (a : Nat) : IOp := ⟨some d, jM a, none⟩
def jC (a : Int) : Ins := .mv (cI a)
def iC (d : Nat) (a : Int) : IOp := ⟨some d, jC a, none⟩
def jE (a : Bool) : Ins := .mv (cB a)
def iE (d : Nat) (a : Bool) : IOp := ⟨some d, jE a, none⟩
def jL (s a : Nat) : Ins := .load false s (.t a)
def iL (d : Nat) (s a : Nat) : IOp := ⟨some d, jL s a, none⟩
def jT (s a : Nat) : Ins := .load true s (.t a)
def iT (d : Nat) (s a : Nat) : IOp := ⟨some d, jT s a, none⟩
def jF (k a : Nat) : Ins := .fieldA k (.t a)
def iF (d : Nat) (k a : Nat) : IOp := ⟨some d, jF k a, none⟩
def jX (s a b : Nat) : Ins := .indexA none s (.t a) (.t b)
def iX (d : Nat) (s a b : Nat) : IOp := ⟨some d, jX s a b, none⟩
def jN (a : Nat) : Ins := .len (.t a)
def iN (d : Nat) (a : Nat) : IOp := ⟨some d, jN a, none⟩
def jS (a : Nat) : Ins := .lenS (.t a)
def iS (d : Nat) (a : Nat) : IOp := ⟨some d, jS a, none⟩
def jB (o : BinOp) (a b : Nat) : Ins := .bin o (.t a) (.t b)
def iB (d : Nat) (o : BinOp) (a b : Nat) : IOp := ⟨some d, jB o a b, none⟩
def jD (o : BinOp) (a : Nat) (n : Int) : Ins := .bin o (.t a) (cI n)
def iD (d : Nat) (o : BinOp) (a : Nat) (n : Int) : IOp := ⟨some d, jD o a n, none⟩
def jP (a b : Nat) : Ins := .pick (.t a) (cB true) (.t b)
def iP (d : Nat) (a b : Nat) : IOp := ⟨some d, jP a b, none⟩
def jQ (a b : Nat) : Ins := .pick (.t a) (.t b) (cB false)
def iQ (d : Nat) (a b : Nat) : IOp := ⟨some d, jQ a b, none⟩
def jU (a : Nat) : Ins := .un .not (.t a)
def iU (d : Nat) (a : Nat) : IOp := ⟨some d, jU a, none⟩
def jK (f a : Nat) : Ins := .call false (.c (.fn f [])) [.t a]
def iK (d : Nat) (f a : Nat) : IOp := ⟨some d, jK f a, none⟩
def jV (s a b : Nat) : Ins := .store s (.t a) (.t b)
def gT (d g : Nat) (i : Ins) : IOp := ⟨some d, i, some (g, true)⟩
def gF (d g : Nat) (i : Ins) : IOp := ⟨some d, i, some (g, false)⟩
def gN (i : Ins) : IOp := ⟨none, i, none⟩
def z6 : PV := .val (.int .i64 0)
def zN : AV := .p (.val (.slice none 0 0))
def zM : PV := .val (.slice none 0 0)
def sh : List Nat := [33, 34, 35, 41, 43, 48, 49, 50, 51, 52, 54, 55, 56, 62, 63, 67, 66, 76, 26, 42]
def F2 : IC :=
  (.seq (.seq (.ops [iM 27 8, iM 28 0, iN 29 28, iB 30 .lss 27 29]) (.cond (tI 30) .skip (.exit 0))) (.seq (.block 1 (.seq (.seq (.ops [iM 33 0, iM 34 8, iX 35 1 33 34, iL 36 1 35, iS 37 36, iD 38 .gtr 37 100, iM 39 38, gF 40 39 (jM 0), gF 41 39 (jM 8), gF 42 39 (jX 1 40 41), gF 43 39 (jL 1 42), gF 44 39 (jS 43), gF 45 39 (jD .lss 44 1), iP 46 39 45, iM 47 46, gF 48 47 (jM 0), gF 49 47 (jM 8), gF 50 47 (jX 1 48 49), gF 51 47 (jL 1 50), gF 52 47 (jK 7 51), gF 53 47 (jM 0), gF 54 47 (jM 8), gF 55 47 (jX 1 53 54), gF 56 47 (jL 1 55), gF 57 47 (jB .neq 52 56), iP 58 47 57]) (.cond (tI 58) (.seq (.ops [oI 59 (.call .false (.c (.fn 6 [])) []), iM 4 59]) .ret) .skip)) (.seq (.seq (.ops [iM 60 8, iD 61 .gtr 60 0]) (.cond (tI 61) (.seq (.ops [iM 62 5, ⟨(.some 63), (.build [z6, (.val (.string ⟨([] : List UInt8).toArray⟩)), z6, (.lst 4 [])] [(0, (1, (cI 1))), (2, (1, (cI 1)))]), .none⟩, ⟨(.some 64), (.buildS 28 4 [z6, (.val (.string ⟨([] : List UInt8).toArray⟩)), z6, zM] 1 [(0, (tI 63))]), .none⟩, ⟨(.some 65), (.append 28 4 56 [z6, (.val (.string ⟨([] : List UInt8).toArray⟩)), z6, zM] (tI 62) (tI 64)), .none⟩, iM 5 65]) (.seq (.ops [iM 66 6, ⟨(.some 67), (.bin .add (tI 66) (.c (.p (.val (.string ⟨([10] : List UInt8).toArray⟩))))), .none⟩, iM 6 67]) (.ops [iM 68 7, ⟨(.some 69), (.bin .add (tI 68) (.c (.p (.val (.string ⟨([32] : List UInt8).toArray⟩))))), .none⟩, iM 7 69]))) .skip)) (.seq (.ops [iM 70 5, iM 71 0, iM 72 8, iX 73 1 71 72, iL 74 1 73, ⟨(.some 75), (.build [z6, (.val (.string ⟨([] : List UInt8).toArray⟩)), z6, (.lst 4 [])] [(1, (1, (tI 74)))]), .none⟩, ⟨(.some 76), (.buildS 28 4 [z6, (.val (.string ⟨([] : List UInt8).toArray⟩)), z6, zM] 1 [(0, (tI 75))]), .none⟩, ⟨(.some 77), (.append 28 4 56 [z6, (.val (.string ⟨([] : List UInt8).toArray⟩)), z6, zM] (tI 70) (tI 76)), .none⟩, iM 5 77]) (.seq (.ops [iM 78 6, iM 79 0, iM 80 8, iX 81 1 79 80, iL 82 1 81, iB 83 .add 78 82, iM 6 83]) (.ops [iM 84 7, iM 85 0, iM 86 8, iX 87 1 85 86, iL 88 1 87, iB 89 .add 84 88, iM 7 89])))))) (.ops [iM 31 8, iD 32 .add 31 1, iM 8 32])))
def ir3 : IFun :=
  ⟨134, [(.tmp 4)], (.seq (.ops [iE 4 false]) (.seq (.seq (.ops [iM 14 0, iN 15 14, iD 16 .gtr 15 200, iM 17 16, gF 18 17 (jM 0), gF 19 17 (jN 18), gF 20 17 (jD .lss 19 1), iP 21 17 20, iM 22 21, gF 23 22 (jM 1), gF 24 22 (jD .lss 23 1), iP 25 22 24]) (.cond (tI 25) (.seq (.ops [oI 26 (.call .false (.c (.fn 6 [])) []), iM 4 26]) .ret) .skip)) (.seq (.ops [oI 5 (.nilrow 28 4)]) (.seq (.ops [⟨(.some 6), (.mv (.c (.p (.val (.string ⟨([] : List UInt8).toArray⟩))))), .none⟩, ⟨(.some 7), (.mv (.c (.p (.val (.string ⟨([] : List UInt8).toArray⟩))))), .none⟩]) (.seq (.seq (.ops [iC 8 0]) (.block 0 (.loop [0, 1, 5, 6, 7, 8] F2))) (.seq (.ops [iM 91 5, ⟨(.some 92), (.build [z6, (.val (.string ⟨([] : List UInt8).toArray⟩)), z6, zM] [(0, (1, (cI 3))), (3, (1, (tI 91)))]), .none⟩, iM 93 1, oI 94 (.call .false (.c (.fn 8 [])) [(tI 92), (tI 93)]), iM 90 94, oI 95 (.extract (tI 90) 0), oI 96 (.extract (tI 90) 1), iM 9 95, iM 10 96]) (.seq (.ops [iM 98 5, ⟨(.some 99), (.build [z6, (.val (.string ⟨([] : List UInt8).toArray⟩)), z6, zM] [(0, (1, (cI 4))), (3, (1, (tI 98)))]), .none⟩, iM 100 1, oI 101 (.call .false (.c (.fn 8 [])) [(tI 99), (tI 100)]), iM 97 101, oI 102 (.extract (tI 97) 0), oI 103 (.extract (tI 97) 1), iM 11 102, iM 12 103]) (.seq (.ops [iM 104 6, iM 13 104]) (.seq (.seq (.ops [iM 105 7, iS 106 105, iM 107 1, iB 108 .leq 106 107]) (.cond (tI 108) (.ops [iM 109 7, iM 13 109]) .skip)) (.seq (.ops [iM 110 10, iK 111 9 110, iM 112 12, iK 113 9 112, iB 114 .add 111 113, iD 115 .eql 114 0, iM 116 115, gT 117 116 (jM 9), gT 118 116 (jM 6), gT 119 116 (jB .eql 117 118), iQ 120 116 119, iM 121 120, gT 122 121 (jM 11), gT 123 121 (jM 13), gT 124 121 (jB .eql 122 123), iQ 125 121 124, iM 126 125, gT 127 126 (jM 6), gT 128 126 (jK 10 127), gT 129 126 (jD .leq 128 100), iQ 130 126 129, iM 131 130, ⟨(.some 132), (.call .false (.c (.fn 6 [])) []), (.some (131, .true))⟩, iQ 133 131 132, iM 4 133]) .ret))))))))))⟩
theorem Bl : Zn prog (shOf sh [63, 75]) [[0, 1, 5, 6, 7, 8]] f3 = some ir3 := by kernel_rfl
def ir6 : IFun :=
  ⟨75, [(.tmp 0)], (.seq (.ops [iE 0 false]) (.seq (.ops [oI 12 (.call .false (.c (.fn 22 [])) []), ⟨(.some 1), (.alloc 28 [zZ, (.z (.val (.string ⟨([] : List UInt8).toArray⟩))), zZ, (.r 28 4)]), .none⟩, gN (jV 4 1 12)]) (.seq (.ops [iT 14 4 1, oI 15 (.call .false (.c (.fn 8 [])) [(tI 14), (cI 20)]), iM 13 15, oI 16 (.extract (tI 13) 0), oI 17 (.extract (tI 13) 1), iM 2 16, iM 3 17]) (.seq (.ops [iT 19 4 1, oI 20 (.call .false (.c (.fn 8 [])) [(tI 19), (cI 10)]), iM 18 20, oI 21 (.extract (tI 18) 0), oI 22 (.extract (tI 18) 1), iM 4 21, iM 5 22]) (.seq (.ops [⟨(.some 24), (.build [z6, (.val (.string ⟨([] : List UInt8).toArray⟩)), z6, zM] [(0, (1, (cI 9)))]), .none⟩, oI 25 (.call .false (.c (.fn 8 [])) [(tI 24), (cI 10)]), iM 23 25, oI 26 (.extract (tI 23) 0), oI 27 (.extract (tI 23) 1), iM 6 26, iM 7 27]) (.seq (.ops [iT 29 4 1, oI 30 (.call .false (.c (.fn 8 [])) [(tI 29), (cI 0)]), iM 28 30, oI 31 (.extract (tI 28) 0), oI 32 (.extract (tI 28) 1), iM 8 31, iM 9 32]) (.seq (.ops [iT 34 4 1, iK 35 15 34, iM 33 35, oI 36 (.extract (tI 33) 0), oI 37 (.extract (tI 33) 1), iM 10 36, iM 11 37]) (.seq (.ops [iM 38 3, iK 39 9 38, iM 40 5, iK 41 9 40, iB 42 .add 39 41, iD 43 .eql 42 0, iM 44 43, gT 45 44 (jM 2), ⟨(.some 46), (.bin .eql (tI 45) (.c (.p (.val (.string ⟨([105, 102, 32, 97, 59, 32, 98, 59, 32, 101, 110, 100] : List UInt8).toArray⟩))))), (.some (44, .true))⟩, iQ 47 44 46, iM 48 47, gT 49 48 (jM 4), ⟨(.some 50), (.bin .eql (tI 49) (.c (.p (.val (.string ⟨([105, 102, 10, 32, 32, 97, 59, 10, 32, 32, 98, 59, 10, 101, 110, 100] : List UInt8).toArray⟩))))), (.some (48, .true))⟩, iQ 51 48 50, iM 52 51, gT 53 52 (jM 7), gT 54 52 (jK 9 53), gT 55 52 (jD .eql 54 260), iQ 56 52 55, iM 57 56, gT 58 57 (jM 9), gT 59 57 (jK 9 58), gT 60 57 (jD .eql 59 2), iQ 61 57 60, iM 62 61, gT 63 62 (jM 10), gT 64 62 (jD .eql 63 9), iQ 65 62 64, iM 66 65, gT 67 66 (jM 11), gT 68 66 (jD .eql 67 3), iQ 69 66 68, iM 70 69, gT 71 70 (jT 4 1), gT 72 70 (jK 16 71), gT 73 70 (.eqN .true (tI 72)), iQ 74 70 73, iM 0 74]) .ret))))))))⟩
theorem Bm : Zn prog (shOf sh []) [] f6 = some ir6 := by kernel_rfl
def F3 : IC :=
  (.seq (.seq (.ops [iM 5 4, iM 6 0, iS 7 6, iB 8 .lss 5 7]) (.cond (tI 8) .skip (.exit 0))) (.seq (.block 1 (.seq (.ops [iM 11 0, iM 12 4, oI 13 (.indexS (tI 11) (tI 12)), iK 14 23 13, iU 15 14]) (.cond (tI 15) (.ops [iM 16 3, iM 17 0, iM 18 4, oI 19 (.indexS (tI 17) (tI 18)), oI 20 (.buildS 5 1 [(.val (.int .u8 0))] 1 [(0, (tI 19))]), oI 21 (.append 5 1 1 [(.val (.int .u8 0))] (tI 16) (tI 20)), iM 3 21]) .skip))) (.ops [iM 9 4, iD 10 .add 9 1, iM 4 10])))
def ir7 : IFun :=
  ⟨24, [(.tmp 2)], (.seq (.ops [⟨(.some 2), (.mv (.c (.p (.val (.string ⟨([] : List UInt8).toArray⟩))))), .none⟩]) (.seq (.ops [oI 3 (.nilrow 5 1)]) (.seq (.seq (.ops [iC 4 0]) (.block 0 (.loop [0, 3, 4] F3))) (.seq (.ops [iM 22 3, oI 23 (.convB (tI 22)), iM 2 23]) .ret))))⟩
theorem Bn : Zn prog (shOf sh []) [[0, 3, 4]] f7 = some ir7 := by kernel_rfl
def ir8 : IFun :=
  ⟨22, [(.tmp 4), (.tmp 5)], (.seq (.ops [oI 2 (.box 28 (tI 0)), ⟨(.some 4), (.mv (.c (.p (.val (.string ⟨([] : List UInt8).toArray⟩))))), .none⟩, iC 5 0]) (.seq (.seq (.ops [iT 8 4 2, iK 9 24 8, iM 6 9]) (.seq (.ops [iM 10 6, iD 11 .neq 10 0]) (.cond (tI 11) (.seq (.ops [iM 12 6, ⟨(.some 4), (.mv (.c (.p (.val (.string ⟨([] : List UInt8).toArray⟩))))), .none⟩, iM 5 12]) .ret) .skip))) (.seq (.seq (.ops [iM 13 1, iD 14 .lss 13 1]) (.cond (tI 14) (.seq (.ops [⟨(.some 4), (.mv (.c (.p (.val (.string ⟨([] : List UInt8).toArray⟩))))), .none⟩, iC 5 2]) .ret) .skip)) (.seq (.ops [iT 15 4 2, iM 16 1, oI 17 (.call .false (.c (.fn 25 [])) [(tI 15), (tI 16), (cI 0)]), iM 7 17]) (.seq (.seq (.ops [iM 18 7, iS 19 18, iD 20 .gtr 19 1048576]) (.cond (tI 20) (.seq (.ops [⟨(.some 4), (.mv (.c (.p (.val (.string ⟨([] : List UInt8).toArray⟩))))), .none⟩, iC 5 3]) .ret) .skip)) (.seq (.ops [iM 21 7, iM 4 21, iC 5 0]) .ret))))))⟩
theorem Bo : Zn prog (shOf sh []) [] f8 = some ir8 := by kernel_rfl
def ir9 : IFun :=
  ⟨4, [(.tmp 2)], (.seq (.ops [iC 2 0]) (.seq (.ops [iM 3 0, iM 2 3]) .ret))⟩
theorem Bp : Zn prog (shOf sh []) [] f9 = some ir9 := by kernel_rfl
def Yg : IC :=
  (.ops [iM 4 7])
def Yh : IC :=
  (.block 1 (.ops [iL 8 1 3, iM 9 4, iS 10 9, oI 11 (.min2 .true (tI 8) (tI 10)), gN (jV 1 3 11)]))
def ir10 : IFun :=
  ⟨13, [(.tmp 2)], (.seq (.ops [iC 2 0]) (.seq (.ops [oI 3 (.alloc 3 [zZ]), gN (.store 1 (tI 3) (cI 0))]) (.seq (.seq (.ops [iM 5 0, ⟨(.some 6), (.call .true (.c (.fn 26 [])) [(tI 5), (.c (.p (.val (.string ⟨([10] : List UInt8).toArray⟩))))]), .none⟩]) (.block 0 (.rangeF (tI 6) [7] Yg Yh))) (.seq (.ops [iL 12 1 3, iM 2 12]) .ret))))⟩
theorem Dl : Zn prog (shOf sh []) [] f10 = some ir10 := by kernel_rfl
def ir15 : IFun :=
  ⟨11, [(.tmp 2), (.tmp 3)], (.seq (.ops [oI 1 (.box 28 (tI 0)), iC 2 0, iC 3 0]) (.seq (.seq (.ops [iT 4 4 1, iK 5 24 4, iD 6 .neq 5 0]) (.cond (tI 6) (.seq (.ops [iC 2 0, iC 3 0]) .ret) .skip)) (.seq (.ops [iT 7 4 1, iK 8 32 7, oI 9 (.extract (tI 8) 0), oI 10 (.extract (tI 8) 1), iM 2 9, iM 3 10]) .ret)))⟩
theorem Dm : Zn prog (shOf sh []) [] f15 = some ir15 := by kernel_rfl
def ir16 : IFun :=
  ⟨11, [(.tmp 2)], (.seq (.ops [oI 1 (.box 28 (tI 0)), oI 2 (.mv (.c (.p (.val .nilFunc))))]) (.seq (.ops [oI 3 (.alloc 22 [(.r 9 1)])]) (.seq (.seq (.ops [iT 4 4 1, iK 5 24 4, iD 6 .eql 5 0]) (.cond (tI 6) (.ops [iT 7 4 1, oI 8 (.mkfn 34 [(tI 3)]), oI 9 (.call .true (.c (.fn 33 [])) [(tI 7), (tI 8)])]) .skip)) (.seq (.ops [oI 10 (.mkfn 35 [(tI 3)]), iM 2 10]) .ret))))⟩
theorem Dn : Zn prog (shOf sh []) [] f16 = some ir16 := by kernel_rfl
def ir22 : IFun :=
  ⟨21, [(.cell 0 .true 4)], (.seq (.ops [⟨(.some 0), (.alloc 28 [zZ, (.z (.val (.string ⟨([] : List UInt8).toArray⟩))), zZ, (.r 28 4)]), .none⟩]) (.seq (.ops [oI 1 (.mv (.c (.fn 38 [])))]) (.seq (.ops [⟨(.some 4), (.build [z6, (.val (.string ⟨([] : List UInt8).toArray⟩)), z6, zM] [(0, (1, (cI 1))), (2, (1, (cI 1)))]), .none⟩, ⟨(.some 2), (.alloc 28 [zZ, (.z (.val (.string ⟨([] : List UInt8).toArray⟩))), zZ, (.r 28 4)]), .none⟩, gN (jV 4 2 4)]) (.seq (.opsR 3 [(.mk (iT 5 4 2) 0 0 []), (.mk (iM 6 1) 0 0 []), (.mk ⟨(.some 7), (.call .false (tI 6) [(.c (.p (.val (.string ⟨([97, 59] : List UInt8).toArray⟩))))]), .none⟩ 0 0 [0]), (.mk (iT 8 4 2) 0 0 [0, 2]), (.mk (iM 9 1) 0 0 []), (.mk ⟨(.some 10), (.call .false (tI 9) [(.c (.p (.val (.string ⟨([98, 59] : List UInt8).toArray⟩))))]), .none⟩ 0 0 [0, 3]), (.mk ⟨(.some 11), (.buildS 28 4 [z6, (.val (.string ⟨([] : List UInt8).toArray⟩)), z6, zM] 4 [(0, (tI 5)), (1, (tI 7)), (2, (tI 8)), (3, (tI 10))]), .none⟩ 0 1 []), (.mk ⟨(.some 12), (.build [z6, (.val (.string ⟨([] : List UInt8).toArray⟩)), z6, zM] [(0, (1, (cI 5))), (2, (1, (cI 2))), (3, (1, (tI 11)))]), .none⟩ 1 0 []), (.mk ⟨(.some 3), (.alloc 28 [zZ, (.z (.val (.string ⟨([] : List UInt8).toArray⟩))), zZ, (.r 28 4)]), .none⟩ 1 2 [0, 2, 3, 5, 6]), (.mk (gN (jV 4 3 12)) 3 0 [])]) (.seq (.ops [iM 13 1, ⟨(.some 14), (.call .false (tI 13) [(.c (.p (.val (.string ⟨([105, 102] : List UInt8).toArray⟩))))]), .none⟩, iT 15 4 3, iT 16 4 2, iM 17 1, ⟨(.some 18), (.call .false (tI 17) [(.c (.p (.val (.string ⟨([101, 110, 100] : List UInt8).toArray⟩))))]), .none⟩, ⟨(.some 19), (.buildS 28 4 [z6, (.val (.string ⟨([] : List UInt8).toArray⟩)), z6, zM] 4 [(0, (tI 14)), (1, (tI 15)), (2, (tI 16)), (3, (tI 18))]), .none⟩, ⟨(.some 20), (.build [z6, (.val (.string ⟨([] : List UInt8).toArray⟩)), z6, zM] [(0, (1, (cI 4))), (3, (1, (tI 19)))]), .none⟩, gN (jV 4 0 20)]) .ret)))))⟩
theorem Do : Zn prog (shOf sh [6, 9, 13, 17]) [] f22 = some ir22 := by kernel_rfl
def ir23 : IFun :=
  ⟨9, [(.tmp 2)], (.seq (.ops [iE 2 false]) (.seq (.ops [iM 3 0, oI 4 (.bin .eql (tI 3) (.c (.p (.val (.int .u8 32))))), iM 5 4, gF 6 5 (jM 0), ⟨(.some 7), (.bin .eql (tI 6) (.c (.p (.val (.int .u8 10))))), (.some (5, .false))⟩, iP 8 5 7, iM 2 8]) .ret))⟩
theorem Dp : Zn prog (shOf sh []) [] f23 = some ir23 := by kernel_rfl
def ir24 : IFun :=
  ⟨19, [(.tmp 2)], (.seq (.ops [oI 1 (.box 28 (tI 0)), iC 2 0]) (.seq (.seq (.ops [iT 5 4 1, iK 6 39 5, iU 7 6]) (.cond (tI 7) (.seq (.ops [iC 2 260]) .ret) .skip)) (.seq (.seq (.ops [iT 9 4 1, iK 10 32 9, iM 8 10, oI 11 (.extract (tI 8) 0), oI 12 (.extract (tI 8) 1), iM 3 11, iM 4 12]) (.seq (.ops [iM 13 3, iD 14 .gtr 13 65536, iM 15 14, gF 16 15 (jM 4), gF 17 15 (jD .gtr 16 16384), iP 18 15 17]) (.cond (tI 18) (.seq (.ops [iC 2 3]) .ret) .skip))) (.seq (.ops [iC 2 0]) .ret))))⟩
theorem Dq : Zn prog (shOf sh []) [] f24 = some ir24 := by kernel_rfl
def ir25 : IFun :=
  ⟨21, [(.tmp 6)], (.seq (.ops [oI 3 (.box 28 (tI 0)), ⟨(.some 6), (.mv (.c (.p (.val (.string ⟨([] : List UInt8).toArray⟩))))), .none⟩]) (.seq (.opsR 2 [(.mk (iT 8 4 3) 0 0 []), (.mk (iK 9 28 8) 0 0 []), (.mk (iT 10 4 3) 0 0 [0, 1]), (.mk (iK 11 40 10) 0 0 []), (.mk (iM 12 1) 0 0 []), (.mk (iT 13 4 3) 0 0 [0, 1, 2, 3]), (.mk (iM 14 2) 0 0 []), (.mk ⟨(.some 15), (.build [z6, (.val (.string ⟨([] : List UInt8).toArray⟩)), z6, zM, z6, z6, z6] [(0, (4, (tI 13))), (5, (1, (tI 14)))]), .none⟩ 0 0 []), (.mk ⟨(.some 16), (.buildS 77 7 [z6, (.val (.string ⟨([] : List UInt8).toArray⟩)), z6, zM, z6, z6, z6] 1 [(0, (tI 15))]), .none⟩ 0 1 [0, 1, 2, 3]), (.mk (oI 17 (.build [(.val (.pointer .none)), zM, zM, zM, zM, z6, z6, (.val (.bool .false))] [(3, (1, (tI 9))), (4, (1, (tI 11))), (5, (1, (tI 12))), (2, (1, (tI 16)))])) 1 0 []), (.mk (oI 18 (.box 83 (tI 17))) 1 1 []), (.mk (iM 7 18) 2 0 [])]) (.seq (.ops [iM 19 7, oI 20 (.call .true (.c (.fn 41 [])) [(tI 19)]), iM 6 20]) .ret)))⟩
theorem Dr : Zn prog (shOf sh []) [] f25 = some ir25 := by kernel_rfl
def ir26 : IFun :=
  ⟨8, [(.tmp 4)], (.seq (.ops [oI 4 (.mv (.c (.p (.val .nilFunc))))]) (.seq (.ops [iM 5 0, iM 6 1, oI 7 (.call .true (.c (.fn 42 [])) [(tI 5), (tI 6), (cI 0)]), iM 4 7]) .ret))⟩
theorem Ds : Zn prog (shOf sh []) [] f26 = some ir26 := by kernel_rfl
def ir28 : IFun :=
  ⟨10, [(.tmp 2)], (.seq (.ops [oI 1 (.box 28 (tI 0)), oI 2 (.nilrow 4 1)]) (.seq (.ops [oI 3 (.alloc 58 [(.r 4 1)])]) (.seq (.ops [oI 4 (.alloc 35 [(.z (.val .nilFunc))])]) (.seq (.ops [oI 5 (.mkfn 43 [(tI 3), (tI 4)]), gN (jV 1 4 5)]) (.seq (.ops [iL 6 1 4, iT 7 4 1, oI 8 (.call .true (tI 6) [(tI 7)])]) (.seq (.ops [iL 9 1 3, iM 2 9]) .ret))))))⟩
theorem Dt : Zn prog (shOf sh []) [] f28 = some ir28 := by kernel_rfl
def Hc : IC :=
  (.seq (.ops [iB 14 .lss 13 12]) (.seq (.cond (tI 14) .skip (.exit 0)) (.seq (.block 1 (.seq (.ops [iX 15 4 11 13, iT 16 4 15, ⟨(.some 7), (.alloc 28 [zZ, (.z (.val (.string ⟨([] : List UInt8).toArray⟩))), zZ, (.r 28 4)]), .none⟩, gN (jV 4 7 16)]) (.seq (.ops [iT 18 4 7, iK 19 32 18, iM 17 19, oI 20 (.extract (tI 17) 0), oI 21 (.extract (tI 17) 1), iM 8 20, iM 9 21]) (.ops [iM 22 4, iM 23 8, iB 24 .add 22 23, iM 25 5, iM 26 9, oI 27 (.min2 .true (tI 25) (tI 26)), iM 4 24, iM 5 27])))) (.ops [iD 28 .add 13 1, iM 13 28]))))
def ir32 : IFun :=
  ⟨32, [(.tmp 2), (.tmp 3)], (.seq (.ops [oI 1 (.box 28 (tI 0)), iC 2 0, iC 3 0]) (.seq (.ops [iC 4 1, iC 5 0]) (.seq (.seq (.ops [iF 10 3 1, iL 11 1 10, iN 12 11, iC 13 0]) (.block 0 (.loop [4, 5, 11, 12, 13] Hc))) (.seq (.ops [iM 29 4, iM 30 5, iD 31 .add 30 1, iM 2 29, iM 3 31]) .ret))))⟩
theorem Du : Zn prog (shOf sh []) [[4, 5, 11, 12, 13]] f32 = some ir32 := by kernel_rfl
def Dv : IC :=
  (.seq (.ops [iB 18 .lss 17 16]) (.seq (.cond (tI 18) .skip (.exit 0)) (.seq (.block 1 (.seq (.ops [iX 19 4 15 17, iT 20 4 19, ⟨(.some 6), (.alloc 28 [zZ, (.z (.val (.string ⟨([] : List UInt8).toArray⟩))), zZ, (.r 28 4)]), .none⟩, gN (jV 4 6 20)]) (.seq (.ops [iT 21 4 6, iM 22 1, oI 23 (.call .true (.c (.fn 33 [])) [(tI 21), (tI 22)]), iU 24 23]) (.cond (tI 24) (.seq (.ops [iE 4 false]) .ret) .skip)))) (.ops [iD 25 .add 17 1, iM 17 25]))))
def ir33 : IFun :=
  ⟨26, [(.tmp 4)], (.seq (.ops [oI 2 (.box 28 (tI 0)), iE 4 false]) (.seq (.seq (.ops [iF 7 0 2, iL 8 1 7, iD 9 .eql 8 0]) (.cond (tI 9) (.seq (.ops [iM 10 1, iF 11 1 2, iL 12 1 11, oI 13 (.call .true (tI 10) [(tI 12)]), iM 4 13]) .ret) .skip)) (.seq (.seq (.ops [iF 14 3 2, iL 15 1 14, iN 16 15, iC 17 0]) (.block 0 (.loop [1, 15, 16, 17] Dv))) (.seq (.ops [iE 4 true]) .ret))))⟩
theorem Dw : Zn prog (shOf sh []) [[1, 15, 16, 17]] f33 = some ir33 := by kernel_rfl
def ir34 : IFun :=
  ⟨8, [(.tmp 3)], (.seq (.ops [iE 3 false]) (.seq (.ops [iL 4 1 1, iM 5 0, ⟨(.some 6), (.buildS 9 1 [(.val (.string ⟨([] : List UInt8).toArray⟩))] 1 [(0, (tI 5))]), .none⟩, ⟨(.some 7), (.append 9 1 16 [(.val (.string ⟨([] : List UInt8).toArray⟩))] (tI 4) (tI 6)), .none⟩, gN (jV 1 1 7)]) (.seq (.ops [iE 3 true]) .ret)))⟩
theorem Dx : Zn prog (shOf sh []) [] f34 = some ir34 := by kernel_rfl
def Dy : IC :=
  (.seq (.ops [iB 8 .lss 7 6]) (.seq (.cond (tI 8) .skip (.exit 0)) (.seq (.block 1 (.seq (.ops [iX 9 1 5 7, iL 10 1 9, iM 4 10]) (.seq (.ops [iM 11 0, iM 12 4, oI 13 (.call .true (tI 11) [(tI 12)]), iU 14 13]) (.cond (tI 14) .ret .skip)))) (.ops [iD 15 .add 7 1, iM 7 15]))))
def ir35 : IFun :=
  ⟨16, [], (.seq (.ops [iL 5 1 1, iN 6 5, iC 7 0]) (.block 0 (.loop [0, 5, 6, 7] Dy)))⟩
theorem Dz : Zn prog (shOf sh []) [[0, 5, 6, 7]] f35 = some ir35 := by kernel_rfl
def ir38 : IFun :=
  ⟨5, [(.cell 2 .true 4)], (.seq (.ops [⟨(.some 2), (.alloc 28 [zZ, (.z (.val (.string ⟨([] : List UInt8).toArray⟩))), zZ, (.r 28 4)]), .none⟩]) (.seq (.ops [iM 3 0, ⟨(.some 4), (.build [z6, (.val (.string ⟨([] : List UInt8).toArray⟩)), z6, zM] [(1, (1, (tI 3)))]), .none⟩, gN (jV 4 2 4)]) .ret))⟩
theorem DA : Zn prog (shOf sh []) [] f38 = some ir38 := by kernel_rfl
def UB : IC :=
  (.seq (.ops [iB 69 .lss 68 67]) (.seq (.cond (tI 69) .skip (.exit 7)) (.seq (.block 8 (.seq (.ops [iX 70 4 66 68, iT 71 4 70, ⟨(.some 5), (.alloc 28 [zZ, (.z (.val (.string ⟨([] : List UInt8).toArray⟩))), zZ, (.r 28 4)]), .none⟩, gN (jV 4 5 71)]) (.seq (.ops [iT 72 4 5, iK 73 39 72, iU 74 73]) (.cond (tI 74) (.seq (.ops [iE 2 false]) .ret) .skip)))) (.ops [iD 75 .add 68 1, iM 68 75]))))
def ir39 : IFun :=
  ⟨76, [(.tmp 2)], (.seq (.ops [oI 1 (.box 28 (tI 0)), iE 2 false]) (.seq (.ops [iF 6 0 1, iL 7 1 6, ⟨(.some 8), (.build [z6, (.val (.string ⟨([] : List UInt8).toArray⟩)), z6, zM] [(0, (1, (tI 7)))]), .none⟩, ⟨(.some 3), (.alloc 28 [zZ, (.z (.val (.string ⟨([] : List UInt8).toArray⟩))), zZ, (.r 28 4)]), .none⟩, gN (jV 4 3 8)]) (.seq (.seq (.ops [iF 9 0 1, iL 10 1 9]) (.block 0 (.seq (.block 6 (.seq (.block 5 (.seq (.block 4 (.seq (.block 3 (.seq (.block 2 (.seq (.block 1 (.seq (.seq (.seq (.ops [iD 12 .eql 10 0, iM 11 12]) (.cond (tI 11) (.exit 1) .skip)) (.seq (.seq (.ops [iD 14 .eql 10 5, iM 13 14]) (.cond (tI 13) (.exit 2) .skip)) (.seq (.seq (.ops [iD 16 .eql 10 1, iM 15 16]) (.cond (tI 15) (.exit 3) .skip)) (.seq (.seq (.seq (.ops [iD 18 .eql 10 3, iM 17 18]) (.cond (tI 17) .skip (.ops [iD 19 .eql 10 4, iM 17 19]))) (.cond (tI 17) (.exit 4) .skip)) (.seq (.ops [iD 21 .eql 10 2, iM 20 21]) (.cond (tI 20) (.exit 5) .skip)))))) (.exit 6))) (.seq (.ops [iF 22 1 1, iL 23 1 22, iF 24 1 3, gN (jV 1 24 23)]) (.exit 0)))) (.ops [iF 25 3 1, iL 26 1 25, iF 27 3 3, gN (jV 1 27 26)]))) (.seq (.ops [iF 28 2 1, iL 29 1 28, iF 30 2 3, gN (jV 1 30 29)]) (.exit 0)))) (.seq (.ops [iF 31 3 1, iL 32 1 31, iF 33 3 3, gN (jV 1 33 32)]) (.exit 0)))) (.exit 0))) (.seq (.seq (.ops [iE 2 false]) .ret) (.exit 0))))) (.seq (.seq (.ops [iF 34 1 1, iL 35 1 34, iF 36 1 3, iL 37 1 36, iB 38 .neq 35 37, iM 39 38, gF 40 39 (jF 2 1), gF 41 39 (jL 1 40), gF 42 39 (jF 2 3), gF 43 39 (jL 1 42), gF 44 39 (jB .neq 41 43), iP 45 39 44, iM 46 45, gF 47 46 (jF 3 1), gF 48 46 (jL 1 47), gF 49 46 (jN 48), gF 50 46 (jF 3 3), gF 51 46 (jL 1 50), gF 52 46 (jN 51), gF 53 46 (jB .neq 49 52), iP 54 46 53, iM 55 54, gF 56 55 (jF 2 1), gF 57 55 (jL 1 56), gF 58 55 (jD .lss 57 0), iP 59 55 58, iM 60 59, gF 61 60 (jF 2 1), gF 62 60 (jL 1 61), gF 63 60 (jD .gtr 62 100), iP 64 60 63]) (.cond (tI 64) (.seq (.ops [iE 2 false]) .ret) .skip)) (.seq (.seq (.ops [iF 65 3 1, iL 66 1 65, iN 67 66, iC 68 0]) (.block 7 (.loop [66, 67, 68] UB))) (.seq (.ops [iE 2 true]) .ret))))))⟩
theorem DB : Zn prog (shOf sh []) [[66, 67, 68]] f39 = some ir39 := by kernel_rfl
def ir40 : IFun :=
  ⟨10, [(.tmp 2)], (.seq (.ops [oI 1 (.box 28 (tI 0)), oI 2 (.nilrow 3 1)]) (.seq (.ops [oI 3 (.alloc 74 [(.r 3 1)])]) (.seq (.ops [oI 4 (.alloc 92 [(.z (.val .nilFunc))])]) (.seq (.ops [oI 5 (.mkfn 48 [(tI 3), (tI 4)]), gN (jV 1 4 5)]) (.seq (.ops [iL 6 1 4, iT 7 4 1, oI 8 (.call .true (tI 6) [(tI 7)])]) (.seq (.ops [iL 9 1 3, iM 2 9]) .ret))))))⟩
theorem DC : Zn prog (shOf sh []) [] f40 = some ir40 := by kernel_rfl
def Hd : IC :=
  (.seq (.seq (.ops [iM 6 0, oI 7 (.nilChk (tI 6)), iF 8 2 7, iL 9 1 8, iN 10 9, iD 11 .gtr 10 0, iM 12 11, gT 13 12 (jM 0), gT 14 12 (.nilChk (tI 13)), gT 15 12 (jF 0 14), ⟨(.some 16), (.call .true (.c (.fn 49 [])) [(tI 15)]), (.some (12, .true))⟩, gT 17 12 (jD .leq 16 1048576), iQ 18 12 17]) (.cond (tI 18) .skip (.exit 0))) (.block 1 (.seq (.ops [iM 19 0, oI 20 (.nilChk (tI 19)), iF 21 2 20, iL 22 1 21, iM 23 0, oI 24 (.nilChk (tI 23)), iF 25 2 24, iL 26 1 25, iN 27 26, iD 28 .sub 27 1, iX 29 7 22 28, iT 30 7 29, ⟨(.some 3), (.alloc 77 [zZ, (.z (.val (.string ⟨([] : List UInt8).toArray⟩))), zZ, (.r 28 4), zZ, zZ, zZ]), .none⟩, gN (jV 7 3 30)]) (.seq (.ops [iM 31 0, iM 32 0, oI 33 (.nilChk (tI 32)), iF 34 2 33, iL 35 1 34, iM 36 0, oI 37 (.nilChk (tI 36)), iF 38 2 37, iL 39 1 38, iN 40 39, iD 41 .sub 40 1, oI 42 (.slice 7 (tI 35) .none (.some (tI 41))), oI 43 (.nilChk (tI 31)), iF 44 2 43, gN (jV 1 44 42)]) (.seq (.ops [iF 45 4 3, iL 46 1 45, iF 47 5 3, iL 48 1 47, iM 4 46, iM 5 48]) (.seq (.seq (.ops [iF 49 0 3, iF 50 0 49, iL 51 1 50]) (.block 2 (.seq (.ops [iD 53 .eql 51 0, iM 52 53]) (.cond (tI 52) (.ops [iM 54 0, iF 55 0 3, iF 56 1 55, iL 57 1 56, iM 58 4, oI 59 (.call .true (.c (.fn 50 [])) [(tI 54), (tI 57), (tI 58)])]) (.seq (.ops [iD 61 .eql 51 1, iM 60 61]) (.cond (tI 60) (.seq (.seq (.ops [iM 62 5, iD 63 .eql 62 0]) (.cond (tI 63) (.seq (.ops [iM 64 0, iM 65 4, oI 66 (.call .true (.c (.fn 51 [])) [(tI 64), (tI 65)])]) (.exit 1)) .skip)) (.seq (.ops [iM 67 0, oI 68 (.nilChk (tI 67)), iF 69 0 68, iF 70 0 3, iF 71 2 70, iL 72 1 71, ⟨(.some 73), (.call .false (.c (.fn 53 [])) [(.c (.p (.val (.string ⟨([32] : List UInt8).toArray⟩)))), (tI 72)]), .none⟩, oI 74 (.call .true (.c (.fn 52 [])) [(tI 69), (tI 73)])]) (.ops [iM 75 0, oI 76 (.nilChk (tI 75)), iF 77 6 76, iL 78 1 77, iF 79 0 3, iF 80 2 79, iL 81 1 80, iB 82 .add 78 81, oI 83 (.nilChk (tI 75)), iF 84 6 83, gN (jV 1 84 82)]))) (.seq (.ops [iD 86 .eql 51 2, iM 85 86]) (.cond (tI 85) (.ops [iM 87 0, iM 88 4, oI 89 (.call .true (.c (.fn 51 [])) [(tI 87), (tI 88)])]) (.seq (.ops [iD 91 .eql 51 4, iM 90 91]) (.cond (tI 90) (.seq (.ops [iC 5 0]) (.seq (.ops [iF 92 5 3, iL 93 1 92, iD 94 .eql 93 1, iM 95 94, gF 96 95 (jM 0), gF 97 95 (.nilChk (tI 96)), gF 98 95 (jF 3 97), gF 99 95 (jL 1 98), gF 100 95 (jF 6 3), gF 101 95 (jL 1 100), gF 102 95 (jX 1 99 101), gF 103 95 (jL 1 102), gF 104 95 (jU 103), gF 105 95 (jM 104), gT 106 105 (jM 0), gT 107 105 (jT 7 3), ⟨(.some 108), (.call .true (.c (.fn 54 [])) [(tI 106), (tI 107)]), (.some (105, .true))⟩, gF 109 95 (jQ 105 108), iP 110 95 109]) (.cond (tI 110) (.ops [iC 5 1]) .skip))) (.seq (.ops [iD 112 .eql 51 5, iM 111 112]) (.cond (tI 111) (.ops [iM 113 4, iF 114 0 3, iF 115 2 114, iL 116 1 115, iB 117 .add 113 116, iM 4 117]) .skip)))))))))))) (.ops [iM 118 0, iM 119 0, iM 120 0, oI 121 (.nilChk (tI 120)), iF 122 2 121, iL 123 1 122, iT 124 7 3, iM 125 4, iM 126 5, oI 127 (.call .true (.c (.fn 55 [])) [(tI 119), (tI 123), (tI 124), (tI 125), (tI 126)]), oI 128 (.nilChk (tI 118)), iF 129 2 128, gN (jV 1 129 127)])))))))
def ir41 : IFun :=
  ⟨134, [(.tmp 2)], (.seq (.ops [⟨(.some 2), (.mv (.c (.p (.val (.string ⟨([] : List UInt8).toArray⟩))))), .none⟩]) (.seq (.seq (.frzS [] [] [(0, (1, (5, 1)))]) (.block 0 (.loop [0, 1000001000501] Hd))) (.seq (.ops [iM 130 0, oI 131 (.nilChk (tI 130)), iF 132 0 131, oI 133 (.call .true (.c (.fn 56 [])) [(tI 132)]), iM 2 133]) .ret)))⟩
theorem DD : Zn prog (shOf sh []) [[0, 1000001000501]] f41 = some ir41 := by kernel_rfl
def ir42 : IFun :=
  ⟨8, [(.tmp 6)], (.seq (.ops [oI 3 (.box 9 (tI 0)), oI 4 (.box 9 (tI 1)), oI 5 (.box 3 (tI 2)), oI 6 (.mv (.c (.p (.val .nilFunc))))]) (.seq (.ops [oI 7 (.mkfn 57 [(tI 4), (tI 3), (tI 5)]), iM 6 7]) .ret))⟩
theorem DE : Zn prog (shOf sh []) [] f42 = some ir42 := by kernel_rfl
def MF : IC :=
  (.seq (.ops [iB 27 .lss 26 25]) (.seq (.cond (tI 27) .skip (.exit 0)) (.seq (.block 1 (.seq (.ops [iX 28 4 24 26, iT 29 4 28, ⟨(.some 8), (.alloc 28 [zZ, (.z (.val (.string ⟨([] : List UInt8).toArray⟩))), zZ, (.r 28 4)]), .none⟩, gN (jV 4 8 29)]) (.seq (.ops [iL 30 1 2, iT 31 4 8, oI 32 (.call .true (tI 30) [(tI 31)])]) (.cond (tI 32) (.ops [iE 6 true]) .skip)))) (.ops [iD 33 .add 26 1, iM 26 33]))))
def ir43 : IFun :=
  ⟨39, [(.tmp 4)], (.seq (.ops [oI 3 (.box 28 (tI 0)), iE 4 false]) (.seq (.ops [iL 9 1 1, iN 10 9, iM 5 10]) (.seq (.ops [iF 11 0 3, iL 12 1 11, iD 13 .eql 12 2, iM 14 13, gF 15 14 (jF 1 3), gF 16 14 (jL 1 15), ⟨(.some 17), (.call .false (.c (.fn 44 [])) [(tI 16), (.c (.p (.val (.string ⟨([10] : List UInt8).toArray⟩))))]), (.some (14, .false))⟩, iP 18 14 17, iM 6 18]) (.seq (.ops [iL 19 1 1, iM 20 6, oI 21 (.buildS 4 1 [(.val (.bool .false))] 1 [(0, (tI 20))]), oI 22 (.append 4 1 1 [(.val (.bool .false))] (tI 19) (tI 21)), gN (jV 1 1 22)]) (.seq (.seq (.ops [iF 23 3 3, iL 24 1 23, iN 25 24, iC 26 0]) (.block 0 (.loop [1, 2, 5, 6, 24, 25, 26] MF))) (.seq (.ops [iL 34 1 1, iM 35 5, iM 36 6, iX 37 1 34 35, gN (jV 1 37 36)]) (.seq (.ops [iM 38 6, iM 4 38]) .ret)))))))⟩
theorem DF : Zn prog (shOf sh []) [[1, 2, 5, 6, 24, 25, 26]] f43 = some ir43 := by kernel_rfl
def ir44 : IFun :=
  ⟨9, [(.tmp 4)], (.seq (.ops [iE 4 false]) (.seq (.ops [iM 5 0, iM 6 1, oI 7 (.call .false (.c (.fn 59 [])) [(tI 5), (tI 6)]), iD 8 .geq 7 0, iM 4 8]) .ret))⟩
theorem DG : Zn prog (shOf sh []) [] f44 = some ir44 := by kernel_rfl
def He : IC :=
  (.seq (.ops [iB 16 .lss 15 14]) (.seq (.cond (tI 16) .skip (.exit 0)) (.seq (.block 1 (.seq (.ops [iX 17 4 13 15, iT 18 4 17, ⟨(.some 6), (.alloc 28 [zZ, (.z (.val (.string ⟨([] : List UInt8).toArray⟩))), zZ, (.r 28 4)]), .none⟩, gN (jV 4 6 18)]) (.ops [iL 19 1 2, iT 20 4 6, oI 21 (.call .true (tI 19) [(tI 20)])]))) (.ops [iD 22 .add 15 1, iM 15 22]))))
def ir48 : IFun :=
  ⟨30, [], (.seq (.ops [oI 3 (.box 28 (tI 0))]) (.seq (.ops [iL 7 1 1, iN 8 7, iM 4 8]) (.seq (.ops [iL 9 1 1, oI 10 (.buildS 3 1 [z6] 1 [(0, (cI 0))]), oI 11 (.append 3 1 8 [z6] (tI 9) (tI 10)), gN (jV 1 1 11)]) (.seq (.seq (.ops [iF 12 3 3, iL 13 1 12, iN 14 13, iC 15 0]) (.block 0 (.loop [1, 2, 4, 13, 14, 15] He))) (.ops [iL 23 1 1, iM 24 4, iL 25 1 1, iN 26 25, iM 27 4, iB 28 .sub 26 27, iX 29 1 23 24, gN (jV 1 29 28)])))))⟩
theorem DH : Zn prog (shOf sh []) [[1, 2, 4, 13, 14, 15]] f48 = some ir48 := by kernel_rfl
def ir49 : IFun :=
  ⟨8, [(.tmp 2)], (.seq (.ops [iC 2 0]) (.seq (.ops [iM 3 0, oI 4 (.nilChk (tI 3)), iF 5 1 4, iL 6 1 5, iN 7 6, iM 2 7]) .ret))⟩
theorem DI : Zn prog (shOf sh []) [] f49 = some ir49 := by kernel_rfl
def ir50 : IFun :=
  ⟨68, [], (.seq (.seq (.ops [iM 7 1, ⟨(.some 8), (.bin .eql (tI 7) (.c (.p (.val (.string ⟨([] : List UInt8).toArray⟩))))), .none⟩]) (.cond (tI 8) .ret .skip)) (.seq (.seq (.ops [iM 9 0, oI 10 (.nilChk (tI 9)), iF 11 7 10, iL 12 1 11, iM 13 12, gT 14 13 (jM 1), gT 15 13 (.indexS (tI 14) (cI 0)), ⟨(.some 16), (.bin .neq (tI 15) (.c (.p (.val (.int .u8 10))))), (.some (13, .true))⟩, iQ 17 13 16]) (.cond (tI 17) (.ops [iM 18 0, oI 19 (.nilChk (tI 18)), iF 20 0 19, iM 21 2, ⟨(.some 22), (.call .false (.c (.fn 53 [])) [(.c (.p (.val (.string ⟨([32] : List UInt8).toArray⟩)))), (tI 21)]), .none⟩, oI 23 (.call .true (.c (.fn 52 [])) [(tI 20), (tI 22)])]) .skip)) (.seq (.ops [iM 24 0, oI 25 (.nilChk (tI 24)), iF 26 0 25, iM 27 1, oI 28 (.call .true (.c (.fn 52 [])) [(tI 26), (tI 27)])]) (.seq (.ops [iM 29 1, oI 30 (.call .false (.c (.fn 61 [])) [(tI 29), (.c (.p (.val (.int .u8 10))))]), iM 6 30]) (.seq (.ops [iM 31 0, iM 32 6, iM 33 1, iS 34 33, iD 35 .sub 34 1, iB 36 .eql 32 35, oI 37 (.nilChk (tI 31)), iF 38 7 37, gN (jV 1 38 36)]) (.block 0 (.seq (.ops [iM 49 0, oI 50 (.nilChk (tI 49)), iF 51 7 50, iL 52 1 51, iM 48 52]) (.cond (tI 48) (.ops [iM 53 0, iM 54 2, oI 55 (.nilChk (tI 53)), iF 56 6 55, gN (jV 1 56 54)]) (.seq (.ops [iM 58 6, iD 59 .geq 58 0, iM 57 59]) (.cond (tI 57) (.ops [iM 60 0, iM 61 1, iS 62 61, iD 63 .sub 62 1, iM 64 6, iB 65 .sub 63 64, oI 66 (.nilChk (tI 60)), iF 67 6 66, gN (jV 1 67 65)]) (.ops [iM 39 0, oI 40 (.nilChk (tI 39)), iF 41 6 40, iL 42 1 41, iM 43 1, iS 44 43, iB 45 .add 42 44, oI 46 (.nilChk (tI 39)), iF 47 6 46, gN (jV 1 47 45)])))))))))))⟩
theorem DJ : Zn prog (shOf sh []) [] f50 = some ir50 := by kernel_rfl
def ir51 : IFun :=
  ⟨15, [], (.seq (.ops [iM 4 0, oI 5 (.nilChk (tI 4)), iF 6 0 5, oI 7 (.call .true (.c (.fn 62 [])) [(tI 6), (.c (.p (.val (.int .u8 10))))])]) (.ops [iM 8 0, iM 9 0, iM 10 1, oI 11 (.nilChk (tI 8)), iF 12 6 11, gN (jV 1 12 10), oI 13 (.nilChk (tI 9)), iF 14 7 13, gN (.store 1 (tI 14) (cB true))]))⟩
theorem DK : Zn prog (shOf sh []) [] f51 = some ir51 := by kernel_rfl
def ir52 : IFun :=
  ⟨19, [(.tmp 4), (.tmp 5)], (.seq (.ops [iC 4 0, oI 5 (.mv (.c (.p (.val .nilIface))))]) (.seq (.ops [iM 6 0, oI 7 (.call .true (.c (.fn 63 [])) [(tI 6)])]) (.seq (.ops [iM 8 0, iM 9 0, oI 10 (.nilChk (tI 9)), iF 11 1 10, iL 12 1 11, iM 13 1, oI 14 (.append 5 1 1 [(.val (.int .u8 0))] (tI 12) (tI 13)), oI 15 (.nilChk (tI 8)), iF 16 1 15, gN (jV 1 16 14)]) (.seq (.ops [iM 17 1, iS 18 17, iM 4 18, oI 5 (.mv (.c (.p (.val .nilIface))))]) .ret))))⟩
theorem DL : Zn prog (shOf sh []) [] f52 = some ir52 := by kernel_rfl
def Hf : IC :=
  (.seq (.seq (.ops [iM 27 5, iL 28 1 2, oI 29 (.nilChk (tI 28)), iF 30 5 29, iL 31 1 30, iB 32 .leq 27 31]) (.cond (tI 32) .skip (.exit 0))) (.block 1 (.seq (.ops [iM 34 8, oI 35 (.call .true (tI 34) []), iM 33 35, oI 36 (.extract (tI 33) 0), oI 37 (.extract (tI 33) 1), ⟨(.some 9), (.alloc 77 [zZ, (.z (.val (.string ⟨([] : List UInt8).toArray⟩))), zZ, (.r 28 4), zZ, zZ, zZ]), .none⟩, gN (jV 7 9 36), iM 10 37]) (.seq (.seq (.ops [iM 38 10, iU 39 38]) (.cond (tI 39) (.exit 0) .skip)) (.seq (.ops [iF 40 0 9, iF 41 0 40, iL 42 1 41]) (.block 2 (.seq (.ops [iD 50 .eql 42 0, iM 49 50]) (.cond (tI 49) (.seq (.ops [iF 52 0 9, iF 53 1 52, iL 54 1 53, ⟨(.some 55), (.call .false (.c (.fn 68 [])) [(tI 54), (.c (.p (.val (.string ⟨([10] : List UInt8).toArray⟩))))]), .none⟩, iM 51 55, oI 56 (.extract (tI 51) 0), oI 57 (.extract (tI 51) 1), oI 58 (.extract (tI 51) 2), iM 11 56, iM 12 57, iM 13 58]) (.seq (.ops [iM 59 5, iM 60 11, iS 61 60, iB 62 .add 59 61, iM 5 62]) (.seq (.ops [iM 63 13]) (.cond (tI 63) (.exit 0) .skip)))) (.seq (.ops [iD 65 .eql 42 1, iM 64 65]) (.cond (tI 64) (.seq (.seq (.ops [iF 66 5 9, iL 67 1 66, iD 68 .eql 67 0]) (.cond (tI 68) (.exit 0) .skip)) (.ops [iM 69 5, iF 70 0 9, iF 71 2 70, iL 72 1 71, iB 73 .add 69 72, iM 5 73])) (.seq (.ops [iD 75 .eql 42 2, iM 74 75]) (.cond (tI 74) (.exit 0) (.seq (.ops [iD 77 .eql 42 4, iM 76 77]) (.cond (tI 76) (.ops [iL 78 1 2, iL 79 1 6, iT 80 7 9, oI 81 (.call .true (.c (.fn 55 [])) [(tI 78), (tI 79), (tI 80), (cI 0), (cI 1)]), gN (jV 1 6 81)]) (.ops [iL 43 1 2, iL 44 1 6, iT 45 7 9, iF 46 5 9, iL 47 1 46, oI 48 (.call .true (.c (.fn 55 [])) [(tI 43), (tI 44), (tI 45), (cI 0), (tI 47)]), gN (jV 1 6 48)])))))))))))))))
def Hg : IC :=
  (.block 1000000 (.seq (.seq (.block 0 (.loop [2, 5, 6, 8] Hf)) (.seq (.ops [iM 82 5, iL 83 1 2, oI 84 (.nilChk (tI 83)), iF 85 5 84, iL 86 1 85, iB 87 .leq 82 86, iM 4 87]) .ret)) (.exit 2000000)))
def ir54 : IFun :=
  ⟨88, [(.tmp 4)], (.seq (.ops [oI 2 (.box 73 (tI 0)), oI 3 (.box 77 (tI 1)), iE 4 false]) (.seq (.ops [iL 14 1 2, oI 15 (.nilChk (tI 14)), iF 16 6 15, iL 17 1 16, iM 5 17]) (.seq (.ops [iL 18 1 2, iT 19 7 3, oI 20 (.call .true (.c (.fn 55 [])) [(tI 18), (.c zN), (tI 19), (cI 0), (cI 1)]), oI 6 (.alloc 78 [(.r 77 7)]), gN (jV 1 6 20)]) (.seq (.ops [iL 21 1 2, oI 22 (.nilChk (tI 21)), iF 23 2 22, iL 24 1 23, iN 25 24, oI 7 (.alloc 3 [zZ]), gN (jV 1 7 25)]) (.seq (.ops [oI 26 (.mkfn 67 [(tI 6), (tI 7), (tI 2)]), iM 8 26]) (.block 2000000 (.loop [2, 5, 6, 8] Hg)))))))⟩
theorem DM : Zn prog (shOf sh []) [[2, 5, 6, 8], [2, 5, 6, 8]] f54 = some ir54 := by kernel_rfl
def XK : IC :=
  (.seq (.seq (.ops [iM 52 15, iM 53 16, iB 54 .lss 52 53]) (.cond (tI 54) .skip (.exit 2))) (.seq (.block 3 (.ops [iM 59 1, iM 60 15, iM 61 1, iM 62 16, iM 63 1, iM 64 16, iX 65 7 63 64, iT 66 7 65, iM 67 1, iM 68 15, iX 69 7 67 68, iT 70 7 69, iX 71 7 59 60, gN (jV 7 71 66), iX 72 7 61 62, gN (jV 7 72 70)])) (.ops [iM 55 15, iD 56 .add 55 1, iM 57 16, iD 58 .sub 57 1, iM 15 56, iM 16 58])))
def XL : IC :=
  (.seq (.ops [iB 27 .lss 26 25]) (.seq (.cond (tI 27) .skip (.exit 0)) (.seq (.block 1 (.seq (.ops [iX 28 4 24 26, iT 29 4 28, ⟨(.some 14), (.alloc 28 [zZ, (.z (.val (.string ⟨([] : List UInt8).toArray⟩))), zZ, (.r 28 4)]), .none⟩, gN (jV 4 14 29)]) (.seq (.ops [iM 30 1, iT 31 4 14, iM 32 3, iM 33 4, iM 34 11, ⟨(.some 35), (.build [z6, (.val (.string ⟨([] : List UInt8).toArray⟩)), z6, zM, z6, z6, z6] [(0, (4, (tI 31))), (4, (1, (tI 32))), (5, (1, (tI 33))), (6, (1, (tI 34)))]), .none⟩, ⟨(.some 36), (.buildS 77 7 [z6, (.val (.string ⟨([] : List UInt8).toArray⟩)), z6, zM, z6, z6, z6] 1 [(0, (tI 35))]), .none⟩, ⟨(.some 37), (.append 77 7 80 [z6, (.val (.string ⟨([] : List UInt8).toArray⟩)), z6, zM, z6, z6, z6] (tI 30) (tI 36)), .none⟩, iM 1 37]) (.ops [iM 38 11, iM 39 0, oI 40 (.nilChk (tI 39)), iF 41 4 40, iL 42 1 41, iM 43 11, iX 44 1 42 43, iL 45 1 44, iB 46 .add 38 45, iM 11 46])))) (.ops [iD 47 .add 26 1, iM 26 47]))))
def ir55 : IFun :=
  ⟨74, [(.tmp 10)], (.seq (.ops [oI 7 (.box 77 (tI 2)), oI 10 (.nilrow 77 7)]) (.seq (.ops [iF 17 6 7, iL 18 1 17, iD 19 .add 18 1, iM 11 19]) (.seq (.ops [iM 20 1, iN 21 20, iM 12 21]) (.seq (.seq (.ops [iF 22 0 7, iF 23 3 22, iL 24 1 23, iN 25 24, iC 26 0]) (.seq (.frzS [] [] [(1, (99, (77, 7)))]) (.block 0 (.loop [0, 1, 3, 4, 11, 12, 24, 25, 26, 1000199007707] XL)))) (.seq (.seq (.ops [iM 48 12, iM 49 1, iN 50 49, iD 51 .sub 50 1, iM 15 48, iM 16 51]) (.block 2 (.loop [1, 15, 16] XK))) (.seq (.ops [iM 73 1, iM 10 73]) .ret))))))⟩
theorem DN : Zn prog (shOf sh []) [[0, 1, 3, 4, 11, 12, 24, 25, 26, 1000199007707], [1, 15, 16]] f55 = some ir55 := by kernel_rfl
def ir56 : IFun :=
  ⟨14, [(.tmp 2)], (.seq (.ops [⟨(.some 2), (.mv (.c (.p (.val (.string ⟨([] : List UInt8).toArray⟩))))), .none⟩]) (.seq (.ops [iM 3 0, oI 4 (.nilChk (tI 3)), iF 5 1 4, iL 6 1 5, oI 7 (.slData (tI 6)), iM 8 0, oI 9 (.nilChk (tI 8)), iF 10 1 9, iL 11 1 10, iN 12 11, oI 13 (.uStr 5 (tI 7) (tI 12)), iM 2 13]) .ret))⟩
theorem DO : Zn prog (shOf sh []) [] f56 = some ir56 := by kernel_rfl
def Hh : IC :=
  (.block 3 (.seq (.ops [iL 29 1 2, iL 30 1 1, oI 31 (.call .false (.c (.fn 59 [])) [(tI 29), (tI 30)]), iM 7 31]) (.seq (.seq (.ops [iM 32 7, iD 33 .lss 32 0]) (.cond (tI 33) (.exit 2) .skip)) (.seq (.ops [iL 34 1 2, iM 35 7, iL 36 1 3, iB 37 .add 35 36, oI 38 (.sliceS (tI 34) .none (.some (tI 37))), iM 8 38]) (.seq (.seq (.ops [iM 39 0, iM 40 8, oI 41 (.call .true (tI 39) [(tI 40)]), iU 42 41]) (.cond (tI 42) .ret .skip)) (.ops [iL 43 1 2, iM 44 7, iL 45 1 1, iS 46 45, iB 47 .add 44 46, oI 48 (.sliceS (tI 43) (.some (tI 47)) .none), gN (jV 1 2 48)]))))))
def DP : IC :=
  (.seq (.seq (.ops [iL 12 1 2, iS 13 12, iD 14 .gtr 13 0]) (.cond (tI 14) .skip (.exit 0))) (.block 1 (.seq (.ops [iL 16 1 2, iK 17 58 16, iM 15 17, oI 18 (.extract (tI 15) 0), oI 19 (.extract (tI 15) 1), iM 5 18, iM 6 19]) (.seq (.seq (.ops [iM 20 0, iL 21 1 2, iM 22 6, oI 23 (.sliceS (tI 21) .none (.some (tI 22))), oI 24 (.call .true (tI 20) [(tI 23)]), iU 25 24]) (.cond (tI 25) .ret .skip)) (.ops [iL 26 1 2, iM 27 6, oI 28 (.sliceS (tI 26) (.some (tI 27)) .none), gN (jV 1 2 28)])))))
def ir57 : IFun :=
  ⟨52, [], (.seq (.seq (.ops [iL 9 1 1, iS 10 9, iD 11 .eql 10 0]) (.cond (tI 11) (.seq (.block 0 (.loop [0, 2] DP)) .ret) .skip)) (.seq (.block 2 (.loop [0, 1, 2, 3] Hh)) (.ops [iM 49 0, iL 50 1 2, oI 51 (.call .true (tI 49) [(tI 50)])])))⟩
theorem DQ : Zn prog (shOf sh []) [[0, 2], [0, 1, 2, 3]] f57 = some ir57 := by kernel_rfl
def ir58 : IFun :=
  ⟨19, [(.tmp 2), (.tmp 3)], (.seq (.ops [oI 2 (.mv (.c (.p (.val (.int .i32 0))))), iC 3 0]) (.seq (.seq (.ops [iM 4 0, ⟨(.some 5), (.bin .neq (tI 4) (.c (.p (.val (.string ⟨([] : List UInt8).toArray⟩))))), .none⟩, iM 6 5, gT 7 6 (jM 0), gT 8 6 (.indexS (tI 7) (cI 0)), ⟨(.some 9), (.bin .lss (tI 8) (.c (.p (.val (.int .u8 128))))), (.some (6, .true))⟩, iQ 10 6 9]) (.cond (tI 10) (.seq (.ops [iM 11 0, oI 12 (.indexS (tI 11) (cI 0)), oI 13 (.convI .i32 (tI 12)), iM 2 13, iC 3 1]) .ret) (.ops [iM 15 0, iK 16 69 15, iM 14 16, oI 17 (.extract (tI 14) 0), oI 18 (.extract (tI 14) 1), iM 2 17, iM 3 18]))) .ret))⟩
theorem DR : Zn prog (shOf sh []) [] f58 = some ir58 := by kernel_rfl
def ir59 : IFun :=
  ⟨8, [(.tmp 4)], (.seq (.ops [iC 4 0]) (.seq (.ops [iM 5 0, iM 6 1, oI 7 (.call .false (.c (.fn 70 [])) [(tI 5), (tI 6)]), iM 4 7]) .ret))⟩
theorem DS : Zn prog (shOf sh []) [] f59 = some ir59 := by kernel_rfl
def ir61 : IFun :=
  ⟨8, [(.tmp 4)], (.seq (.ops [iC 4 0]) (.seq (.ops [iM 5 0, iM 6 1, oI 7 (.call .false (.c (.fn 71 [])) [(tI 5), (tI 6)]), iM 4 7]) .ret))⟩
theorem DT : Zn prog (shOf sh []) [] f61 = some ir61 := by kernel_rfl
def ir62 : IFun :=
  ⟨17, [(.tmp 4)], (.seq (.ops [oI 4 (.mv (.c (.p (.val .nilIface))))]) (.seq (.ops [iM 5 0, oI 6 (.call .true (.c (.fn 63 [])) [(tI 5)])]) (.seq (.ops [iM 7 0, iM 8 0, oI 9 (.nilChk (tI 8)), iF 10 1 9, iL 11 1 10, iM 12 1, oI 13 (.buildS 5 1 [(.val (.int .u8 0))] 1 [(0, (tI 12))]), oI 14 (.append 5 1 1 [(.val (.int .u8 0))] (tI 11) (tI 13)), oI 15 (.nilChk (tI 7)), iF 16 1 15, gN (jV 1 16 14)]) (.seq (.ops [oI 4 (.mv (.c (.p (.val .nilIface))))]) .ret))))⟩
theorem DU : Zn prog (shOf sh []) [] f62 = some ir62 := by kernel_rfl
def ir63 : IFun :=
  ⟨20, [], (.seq (.ops [iM 2 0, oI 3 (.nilChk (tI 2)), iF 4 0 3, iL 5 1 4, oI 6 (.eqP .false (tI 5) (.c (.p (.val (.pointer .none)))))]) (.cond (tI 6) (.ops [iM 7 0, iM 8 0, oI 9 (.cvU (tI 8)), iM 10 9, oI 11 (.cvP [(81, (2, 0)), (82, (8, 0)), (83, (8, 0))] (tI 10)), oI 12 (.nilChk (tI 7)), iF 13 0 12, gN (jV 1 13 11)]) (.seq (.ops [iM 14 0, oI 15 (.nilChk (tI 14)), iF 16 0 15, iL 17 1 16, iM 18 0, oI 19 (.eqP .true (tI 17) (tI 18))]) (.cond (tI 19) .bad .skip))))⟩
theorem DV : Zn prog (shOf sh []) [] f63 = some ir63 := by kernel_rfl
def ir67 : IFun :=
  ⟨33, [(.cell 3 .true 7), (.tmp 4)], (.seq (.ops [⟨(.some 3), (.alloc 77 [zZ, (.z (.val (.string ⟨([] : List UInt8).toArray⟩))), zZ, (.r 28 4), zZ, zZ, zZ]), .none⟩, iE 4 false]) (.seq (.seq (.ops [iL 7 1 0, iN 8 7, iM 5 8]) (.seq (.ops [iM 9 5, iD 10 .gtr 9 0]) (.cond (tI 10) (.seq (.ops [iL 11 1 0, iM 12 5, iD 13 .sub 12 1, iX 14 7 11 13, iT 15 7 14, ⟨(.some 6), (.alloc 77 [zZ, (.z (.val (.string ⟨([] : List UInt8).toArray⟩))), zZ, (.r 28 4), zZ, zZ, zZ]), .none⟩, gN (jV 7 6 15)]) (.seq (.ops [iL 16 1 0, iM 17 5, iD 18 .sub 17 1, oI 19 (.slice 7 (tI 16) .none (.some (tI 18))), gN (jV 1 0 19)]) (.seq (.ops [iT 20 7 6, gN (jV 7 3 20), iE 4 true]) .ret))) .skip))) (.seq (.seq (.ops [iL 21 1 1, iD 22 .eql 21 0]) (.cond (tI 22) (.seq (.ops [⟨(.some 23), (.build [z6, (.val (.string ⟨([] : List UInt8).toArray⟩)), z6, zM, z6, z6, z6] []), .none⟩, gN (jV 7 3 23), iE 4 false]) .ret) .skip)) (.seq (.ops [iL 24 1 1, iD 25 .sub 24 1, gN (jV 1 1 25)]) (.seq (.ops [iL 26 1 2, oI 27 (.nilChk (tI 26)), iF 28 2 27, iL 29 1 28, iL 30 1 1, iX 31 7 29 30, iT 32 7 31, gN (jV 7 3 32), iE 4 true]) .ret)))))⟩
theorem DW : Zn prog (shOf sh []) [] f67 = some ir67 := by kernel_rfl
def ir68 : IFun :=
  ⟨13, [(.tmp 4), (.tmp 5), (.tmp 6)], (.seq (.ops [⟨(.some 4), (.mv (.c (.p (.val (.string ⟨([] : List UInt8).toArray⟩))))), .none⟩, ⟨(.some 5), (.mv (.c (.p (.val (.string ⟨([] : List UInt8).toArray⟩))))), .none⟩, iE 6 false]) (.seq (.ops [iM 7 0, iM 8 1, oI 9 (.call .false (.c (.fn 77 [])) [(tI 7), (tI 8)]), oI 10 (.extract (tI 9) 0), oI 11 (.extract (tI 9) 1), oI 12 (.extract (tI 9) 2), iM 4 10, iM 5 11, iM 6 12]) .ret))⟩
theorem DX : Zn prog (shOf sh []) [] f68 = some ir68 := by kernel_rfl
def ir69 : IFun :=
  ⟨117, [(.tmp 2), (.tmp 3)], (.seq (.ops [oI 2 (.mv (.c (.p (.val (.int .i32 0))))), iC 3 0]) (.seq (.ops [iM 13 0, iS 14 13, iM 4 14]) (.seq (.seq (.ops [iM 15 4, iD 16 .lss 15 1]) (.cond (tI 16) (.seq (.ops [oI 2 (.mv (.c (.p (.val (.int .i32 65533))))), iC 3 0]) .ret) .skip)) (.seq (.ops [iM 17 0, oI 18 (.indexS (tI 17) (cI 0)), iM 5 18]) (.seq (.ops [iM 19 5, oI 20 (.indexA (.some 256) 1 (.g 0) (tI 19)), iL 21 1 20, iM 6 21]) (.seq (.seq (.ops [iM 22 6, oI 23 (.bin .geq (tI 22) (.c (.p (.val (.int .u8 240)))))]) (.cond (tI 23) (.seq (.ops [iM 24 6, oI 25 (.convI .i32 (tI 24)), oI 26 (.bin .shl (tI 25) (.c (.p (.val (.int .u64 31))))), oI 27 (.bin .shr (tI 26) (.c (.p (.val (.int .u64 31))))), iM 7 27]) (.seq (.ops [iM 28 0, oI 29 (.indexS (tI 28) (cI 0)), oI 30 (.convI .i32 (tI 29)), iM 31 7, iB 32 .andNot 30 31, iM 33 7, oI 34 (.bin .and (.c (.p (.val (.int .i32 65533)))) (tI 33)), iB 35 .or 32 34, iM 2 35, iC 3 1]) .ret)) .skip)) (.seq (.ops [iM 36 6, oI 37 (.bin .and (tI 36) (.c (.p (.val (.int .u8 7))))), oI 38 (.convI .i64 (tI 37)), iM 8 38]) (.seq (.ops [iM 39 6, oI 40 (.bin .shr (tI 39) (.c (.p (.val (.int .u64 4))))), oI 41 (.indexA (.some 16) 2 (.g 1) (tI 40)), iT 42 2 41, oI 9 (.alloc 126 [(.z (.val (.int .u8 0))), (.z (.val (.int .u8 0)))]), gN (jV 2 9 42)]) (.seq (.seq (.ops [iM 43 4, iM 44 8, iB 45 .lss 43 44]) (.cond (tI 45) (.seq (.ops [oI 2 (.mv (.c (.p (.val (.int .i32 65533))))), iC 3 1]) .ret) .skip)) (.seq (.ops [iM 46 0, oI 47 (.indexS (tI 46) (cI 1)), iM 10 47]) (.seq (.seq (.ops [iM 48 10, iF 49 0 9, iL 50 1 49, iB 51 .lss 48 50, iM 52 51, gF 53 52 (jF 1 9), gF 54 52 (jL 1 53), gF 55 52 (jM 10), gF 56 52 (jB .lss 54 55), iP 57 52 56]) (.cond (tI 57) (.seq (.ops [oI 2 (.mv (.c (.p (.val (.int .i32 65533))))), iC 3 1]) .ret) .skip)) (.seq (.seq (.ops [iM 58 8, iD 59 .leq 58 2]) (.cond (tI 59) (.seq (.ops [iM 60 5, oI 61 (.bin .and (tI 60) (.c (.p (.val (.int .u8 31))))), oI 62 (.convI .i32 (tI 61)), oI 63 (.bin .shl (tI 62) (.c (.p (.val (.int .u64 6))))), iM 64 10, oI 65 (.bin .and (tI 64) (.c (.p (.val (.int .u8 63))))), oI 66 (.convI .i32 (tI 65)), iB 67 .or 63 66, iM 2 67, iC 3 2]) .ret) .skip)) (.seq (.ops [iM 68 0, oI 69 (.indexS (tI 68) (cI 2)), iM 11 69]) (.seq (.seq (.ops [iM 70 11, oI 71 (.bin .lss (tI 70) (.c (.p (.val (.int .u8 128))))), iM 72 71, gF 73 72 (jM 11), ⟨(.some 74), (.bin .lss (.c (.p (.val (.int .u8 191)))) (tI 73)), (.some (72, .false))⟩, iP 75 72 74]) (.cond (tI 75) (.seq (.ops [oI 2 (.mv (.c (.p (.val (.int .i32 65533))))), iC 3 1]) .ret) .skip)) (.seq (.seq (.ops [iM 76 8, iD 77 .leq 76 3]) (.cond (tI 77) (.seq (.ops [iM 78 5, oI 79 (.bin .and (tI 78) (.c (.p (.val (.int .u8 15))))), oI 80 (.convI .i32 (tI 79)), oI 81 (.bin .shl (tI 80) (.c (.p (.val (.int .u64 12))))), iM 82 10, oI 83 (.bin .and (tI 82) (.c (.p (.val (.int .u8 63))))), oI 84 (.convI .i32 (tI 83)), oI 85 (.bin .shl (tI 84) (.c (.p (.val (.int .u64 6))))), iB 86 .or 81 85, iM 87 11, oI 88 (.bin .and (tI 87) (.c (.p (.val (.int .u8 63))))), oI 89 (.convI .i32 (tI 88)), iB 90 .or 86 89, iM 2 90, iC 3 3]) .ret) .skip)) (.seq (.ops [iM 91 0, oI 92 (.indexS (tI 91) (cI 3)), iM 12 92]) (.seq (.seq (.ops [iM 93 12, oI 94 (.bin .lss (tI 93) (.c (.p (.val (.int .u8 128))))), iM 95 94, gF 96 95 (jM 12), ⟨(.some 97), (.bin .lss (.c (.p (.val (.int .u8 191)))) (tI 96)), (.some (95, .false))⟩, iP 98 95 97]) (.cond (tI 98) (.seq (.ops [oI 2 (.mv (.c (.p (.val (.int .i32 65533))))), iC 3 1]) .ret) .skip)) (.seq (.ops [iM 99 5, oI 100 (.bin .and (tI 99) (.c (.p (.val (.int .u8 7))))), oI 101 (.convI .i32 (tI 100)), oI 102 (.bin .shl (tI 101) (.c (.p (.val (.int .u64 18))))), iM 103 10, oI 104 (.bin .and (tI 103) (.c (.p (.val (.int .u8 63))))), oI 105 (.convI .i32 (tI 104)), oI 106 (.bin .shl (tI 105) (.c (.p (.val (.int .u64 12))))), iB 107 .or 102 106, iM 108 11, oI 109 (.bin .and (tI 108) (.c (.p (.val (.int .u8 63))))), oI 110 (.convI .i32 (tI 109)), oI 111 (.bin .shl (tI 110) (.c (.p (.val (.int .u64 6))))), iB 112 .or 107 111, iM 113 12, oI 114 (.bin .and (tI 113) (.c (.p (.val (.int .u8 63))))), oI 115 (.convI .i32 (tI 114)), iB 116 .or 112 115, iM 2 116, iC 3 4]) .ret))))))))))))))))))⟩
theorem DY : Zn prog (shOf sh []) [] f69 = some ir69 := by kernel_rfl
def DZ : IC :=
  (.seq (.seq (.ops [iM 57 8, iM 58 9, iB 59 .lss 57 58]) (.cond (tI 59) .skip (.exit 1))) (.block 2 (.seq (.seq (.ops [iM 60 0, iM 61 8, oI 62 (.indexS (tI 60) (tI 61)), iM 63 6, iB 64 .neq 62 63]) (.cond (tI 64) (.seq (.ops [iM 65 0, iM 66 8, iD 67 .add 66 1, iM 68 9, oI 69 (.sliceS (tI 65) (.some (tI 67)) (.some (tI 68))), iM 70 6, oI 71 (.call .false (.c (.fn 78 [])) [(tI 69), (tI 70)]), iM 11 71]) (.seq (.seq (.ops [iM 72 11, iD 73 .lss 72 0]) (.cond (tI 73) (.seq (.ops [oI 4 (.mv (cI (-1)))]) .ret) .skip)) (.ops [iM 74 8, iM 75 11, iD 76 .add 75 1, iB 77 .add 74 76, iM 8 77]))) .skip)) (.seq (.seq (.ops [iM 78 0, iM 79 8, iD 80 .add 79 1, oI 81 (.indexS (tI 78) (tI 80)), iM 82 7, iB 83 .eql 81 82, iM 84 83, gT 85 84 (jM 0), gT 86 84 (jM 8), gT 87 84 (jM 8), gT 88 84 (jM 5), gT 89 84 (jB .add 87 88), ⟨(.some 90), (.sliceS (tI 85) (.some (tI 86)) (.some (tI 89))), (.some (84, .true))⟩, gT 91 84 (jM 1), gT 92 84 (jB .eql 90 91), iQ 93 84 92]) (.cond (tI 93) (.seq (.ops [iM 94 8, iM 4 94]) .ret) .skip)) (.seq (.ops [iM 95 8, iD 96 .add 95 1, iM 8 96]) (.seq (.ops [iM 97 10, iD 98 .add 97 1, iM 10 98]) (.seq (.ops [iM 99 5, oI 100 (.load .false 1 (.g 2)), iB 101 .leq 99 100, iM 102 101, gT 103 102 (jM 10), gT 104 102 (jM 8), gT 105 102 (jK 80 104), gT 106 102 (jB .gtr 103 105), iQ 107 102 106]) (.cond (tI 107) (.seq .bad (.seq (.seq (.ops [iM 113 12, iD 114 .geq 113 0]) (.cond (tI 114) (.seq (.ops [iM 115 12, iM 116 8, iB 117 .add 115 116, iM 4 117]) .ret) .skip)) (.seq (.ops [oI 4 (.mv (cI (-1)))]) .ret))) (.seq (.ops [iM 118 5, oI 119 (.load .false 1 (.g 2)), iB 120 .gtr 118 119, iM 121 120, gT 122 121 (jM 10), gT 123 121 (jM 8), ⟨(.some 124), (.bin .shr (tI 123) (.c (.p (.val (.int .u64 4))))), (.some (121, .true))⟩, gT 125 121 (.bin .add (cI 4) (tI 124)), gT 126 121 (jB .geq 122 125), iQ 127 121 126, iM 128 127, gT 129 128 (jM 8), gT 130 128 (jM 9), gT 131 128 (jB .lss 129 130), iQ 132 128 131]) (.cond (tI 132) (.seq (.ops [iM 133 0, iM 134 8, oI 135 (.sliceS (tI 133) (.some (tI 134)) .none), iM 136 1, oI 137 (.call .false (.c (.fn 81 [])) [(tI 135), (tI 136)]), iM 13 137]) (.seq (.seq (.ops [iM 138 13, iD 139 .lss 138 0]) (.cond (tI 139) (.seq (.ops [oI 4 (.mv (cI (-1)))]) .ret) .skip)) (.seq (.ops [iM 140 8, iM 141 13, iB 142 .add 140 141, iM 4 142]) .ret))) .skip))))))))))
def ir70 : IFun :=
  ⟨143, [(.tmp 4)], (.seq (.ops [iC 4 0]) (.seq (.ops [iM 14 1, iS 15 14, iM 5 15]) (.seq (.block 0 (.seq (.ops [iM 17 5, iD 18 .eql 17 0, iM 19 18, gF 20 19 (jM 1), gF 21 19 (jM 0), gF 22 19 (jB .eql 20 21), iP 23 19 22, iM 16 23]) (.cond (tI 16) (.seq (.ops [iC 4 0]) .ret) (.seq (.ops [iM 25 5, iD 26 .eql 25 1, iM 24 26]) (.cond (tI 24) (.seq (.ops [iM 27 0, iM 28 1, oI 29 (.indexS (tI 28) (cI 0)), oI 30 (.call .false (.c (.fn 78 [])) [(tI 27), (tI 29)]), iM 4 30]) .ret) (.seq (.ops [iM 32 5, iM 33 0, iS 34 33, iB 35 .geq 32 34, iM 31 35]) (.cond (tI 31) (.seq (.ops [oI 4 (.mv (cI (-1)))]) .ret) (.seq (.ops [iM 37 5, oI 38 (.load .false 1 (.g 2)), iB 39 .leq 37 38, iM 40 39, gT 41 40 (jM 0), gT 42 40 (jS 41), gT 43 40 (jD .leq 42 64), iQ 44 40 43, iM 36 44]) (.cond (tI 36) (.seq .bad .ret) .skip))))))))) (.seq (.ops [iM 48 1, oI 49 (.indexS (tI 48) (cI 0)), iM 6 49]) (.seq (.ops [iM 50 1, oI 51 (.indexS (tI 50) (cI 1)), iM 7 51]) (.seq (.ops [iC 8 0]) (.seq (.ops [iM 52 0, iS 53 52, iM 54 5, iB 55 .sub 53 54, iD 56 .add 55 1, iM 9 56]) (.seq (.ops [iC 10 0]) (.seq (.block 1 (.loop [0, 1, 5, 6, 7, 8, 9, 10] DZ)) (.seq (.ops [oI 4 (.mv (cI (-1)))]) .ret))))))))))⟩
theorem D0 : Zn prog (shOf sh []) [[0, 1, 5, 6, 7, 8, 9, 10]] f70 = some ir70 := by kernel_rfl
def Hi : IC :=
  (.seq (.seq (.ops [iM 9 5, iD 10 .geq 9 0]) (.cond (tI 10) .skip (.exit 0))) (.seq (.block 1 (.seq (.ops [iM 13 0, iM 14 5, oI 15 (.indexS (tI 13) (tI 14)), iM 16 1, iB 17 .eql 15 16]) (.cond (tI 17) (.seq (.ops [iM 18 5, iM 4 18]) .ret) .skip))) (.ops [iM 11 5, iD 12 .sub 11 1, iM 5 12])))
def ir71 : IFun :=
  ⟨19, [(.tmp 4)], (.seq (.ops [iC 4 0]) (.seq (.seq (.ops [iM 6 0, iS 7 6, iD 8 .sub 7 1, iM 5 8]) (.block 0 (.loop [0, 1, 5] Hi))) (.seq (.ops [oI 4 (.mv (cI (-1)))]) .ret)))⟩
theorem D1 : Zn prog (shOf sh []) [[0, 1, 5]] f71 = some ir71 := by kernel_rfl
def ir77 : IFun :=
  ⟨23, [(.tmp 4), (.tmp 5), (.tmp 6)], (.seq (.ops [⟨(.some 4), (.mv (.c (.p (.val (.string ⟨([] : List UInt8).toArray⟩))))), .none⟩, ⟨(.some 5), (.mv (.c (.p (.val (.string ⟨([] : List UInt8).toArray⟩))))), .none⟩, iE 6 false]) (.seq (.seq (.ops [iM 8 0, iM 9 1, oI 10 (.call .false (.c (.fn 70 [])) [(tI 8), (tI 9)]), iM 7 10]) (.seq (.ops [iM 11 7, iD 12 .geq 11 0]) (.cond (tI 12) (.seq (.ops [iM 13 0, iM 14 7, oI 15 (.sliceS (tI 13) .none (.some (tI 14))), iM 16 0, iM 17 7, iM 18 1, iS 19 18, iB 20 .add 17 19, oI 21 (.sliceS (tI 16) (.some (tI 20)) .none), iM 4 15, iM 5 21, iE 6 true]) .ret) .skip))) (.seq (.ops [iM 22 0, iM 4 22, ⟨(.some 5), (.mv (.c (.p (.val (.string ⟨([] : List UInt8).toArray⟩))))), .none⟩, iE 6 false]) .ret)))⟩
theorem D2 : Zn prog (shOf sh []) [] f77 = some ir77 := by kernel_rfl
def ir78 : IFun :=
  ⟨8, [(.tmp 4)], (.seq (.ops [iC 4 0]) (.seq (.ops [iM 5 0, iM 6 1, oI 7 (.ixb (tI 5) (tI 6)), iM 4 7]) .ret))⟩
theorem D3 : Zn prog (shOf sh []) [] f78 = some ir78 := by kernel_rfl
def ir80 : IFun :=
  ⟨6, [(.tmp 2)], (.seq (.ops [iC 2 0]) (.seq (.ops [iM 3 0, iD 4 .add 3 16, iD 5 .quo 4 8, iM 2 5]) .ret))⟩
theorem D4 : Zn prog (shOf sh []) [] f80 = some ir80 := by kernel_rfl
def D5 : IC :=
  (.seq (.seq (.ops [iM 41 10, iM 42 0, iS 43 42, iB 44 .lss 41 43]) (.cond (tI 44) .skip (.exit 2))) (.block 3 (.seq (.ops [iM 45 8, oI 46 (.bin .mul (tI 45) (.c (.p (.val (.int .u32 16777619))))), iM 8 46]) (.seq (.ops [iM 47 8, iM 48 0, iM 49 10, oI 50 (.indexS (tI 48) (tI 49)), oI 51 (.convI .u32 (tI 50)), iB 52 .add 47 51, iM 8 52]) (.seq (.ops [iM 53 8, iM 54 6, iM 55 0, iM 56 10, iM 57 7, iB 58 .sub 56 57, oI 59 (.indexS (tI 55) (tI 58)), oI 60 (.convI .u32 (tI 59)), iB 61 .mul 54 60, iB 62 .sub 53 61, iM 8 62]) (.seq (.ops [iM 63 10, iD 64 .add 63 1, iM 10 64]) (.seq (.ops [iM 65 8, iM 66 5, iB 67 .eql 65 66, iM 68 67, gT 69 68 (jM 0), gT 70 68 (jM 10), gT 71 68 (jM 7), gT 72 68 (jB .sub 70 71), gT 73 68 (jM 10), ⟨(.some 74), (.sliceS (tI 69) (.some (tI 72)) (.some (tI 73))), (.some (68, .true))⟩, gT 75 68 (jM 1), gT 76 68 (jB .eql 74 75), iQ 77 68 76]) (.cond (tI 77) (.seq (.ops [iM 78 10, iM 79 7, iB 80 .sub 78 79, iM 4 80]) .ret) .skip))))))))
def D6 : IC :=
  (.seq (.seq (.ops [iM 18 9, iM 19 7, iB 20 .lss 18 19]) (.cond (tI 20) .skip (.exit 0))) (.seq (.block 1 (.ops [iM 23 8, oI 24 (.bin .mul (tI 23) (.c (.p (.val (.int .u32 16777619))))), iM 25 0, iM 26 9, oI 27 (.indexS (tI 25) (tI 26)), oI 28 (.convI .u32 (tI 27)), iB 29 .add 24 28, iM 8 29])) (.ops [iM 21 9, iD 22 .add 21 1, iM 9 22])))
def ir81 : IFun :=
  ⟨81, [(.tmp 4)], (.seq (.ops [iC 4 0]) (.seq (.ops [iM 12 1, iK 13 84 12, iM 11 13, oI 14 (.extract (tI 11) 0), oI 15 (.extract (tI 11) 1), iM 5 14, iM 6 15]) (.seq (.ops [iM 16 1, iS 17 16, iM 7 17]) (.seq (.ops [oI 8 (.mv (.c (.p (.val (.int .u32 0)))))]) (.seq (.seq (.ops [iC 9 0]) (.block 0 (.loop [0, 1, 5, 6, 7, 8, 9] D6))) (.seq (.seq (.ops [iM 30 8, iM 31 5, iB 32 .eql 30 31, iM 33 32, gT 34 33 (jM 0), gT 35 33 (jM 7), ⟨(.some 36), (.sliceS (tI 34) .none (.some (tI 35))), (.some (33, .true))⟩, gT 37 33 (jM 1), gT 38 33 (jB .eql 36 37), iQ 39 33 38]) (.cond (tI 39) (.seq (.ops [iC 4 0]) .ret) .skip)) (.seq (.seq (.ops [iM 40 7, iM 10 40]) (.block 2 (.loop [0, 1, 5, 6, 7, 8, 10] D5))) (.seq (.ops [oI 4 (.mv (cI (-1)))]) .ret))))))))⟩
theorem D7 : Zn prog (shOf sh []) [[0, 1, 5, 6, 7, 8, 9], [0, 1, 5, 6, 7, 8, 10]] f81 = some ir81 := by kernel_rfl
def D8 : IC :=
  (.seq (.seq (.ops [iM 24 8, iD 25 .gtr 24 0]) (.cond (tI 25) .skip (.exit 2))) (.seq (.block 3 (.seq (.seq (.ops [iM 28 8, iD 29 .and 28 1, iD 30 .neq 29 0]) (.cond (tI 30) (.ops [iM 31 6, iM 32 7, iB 33 .mul 31 32, iM 6 33]) .skip)) (.ops [iM 34 7, iM 35 7, iB 36 .mul 34 35, iM 7 36]))) (.ops [iM 26 8, oI 27 (.bin .shr (tI 26) (.c (.p (.val (.int .u64 1))))), iM 8 27])))
def D9 : IC :=
  (.seq (.seq (.ops [iM 9 5, iM 10 0, iS 11 10, iB 12 .lss 9 11]) (.cond (tI 12) .skip (.exit 0))) (.seq (.block 1 (.ops [iM 15 4, oI 16 (.bin .mul (tI 15) (.c (.p (.val (.int .u32 16777619))))), iM 17 0, iM 18 5, oI 19 (.indexS (tI 17) (tI 18)), oI 20 (.convI .u32 (tI 19)), iB 21 .add 16 20, iM 4 21])) (.ops [iM 13 5, iD 14 .add 13 1, iM 5 14])))
def ir84 : IFun :=
  ⟨39, [(.tmp 2), (.tmp 3)], (.seq (.ops [oI 2 (.mv (.c (.p (.val (.int .u32 0))))), oI 3 (.mv (.c (.p (.val (.int .u32 0)))))]) (.seq (.ops [oI 4 (.mv (.c (.p (.val (.int .u32 0)))))]) (.seq (.seq (.ops [iC 5 0]) (.block 0 (.loop [0, 4, 5] D9))) (.seq (.ops [oI 6 (.mv (.c (.p (.val (.int .u32 1))))), oI 7 (.mv (.c (.p (.val (.int .u32 16777619)))))]) (.seq (.seq (.ops [iM 22 0, iS 23 22, iM 8 23]) (.block 2 (.loop [4, 6, 7, 8] D8))) (.seq (.ops [iM 37 4, iM 38 6, iM 2 37, iM 3 38]) .ret))))))⟩
theorem Ca : Zn prog (shOf sh []) [[0, 4, 5], [4, 6, 7, 8]] f84 = some ir84 := by kernel_rfl
def fns : Nat → Option IFun
  | 3 => some ir3
  | 6 => some ir6
  | 7 => some ir7
  | 8 => some ir8
  | 9 => some ir9
  | 10 => some ir10
  | 15 => some ir15
  | 16 => some ir16
  | 22 => some ir22
  | 23 => some ir23
  | 24 => some ir24
  | 25 => some ir25
  | 26 => some ir26
  | 28 => some ir28
  | 32 => some ir32
  | 33 => some ir33
  | 34 => some ir34
  | 35 => some ir35
  | 38 => some ir38
  | 39 => some ir39
  | 40 => some ir40
  | 41 => some ir41
  | 42 => some ir42
  | 43 => some ir43
  | 44 => some ir44
  | 48 => some ir48
  | 49 => some ir49
  | 50 => some ir50
  | 51 => some ir51
  | 52 => some ir52
  | 54 => some ir54
  | 55 => some ir55
  | 56 => some ir56
  | 57 => some ir57
  | 58 => some ir58
  | 59 => some ir59
  | 61 => some ir61
  | 62 => some ir62
  | 63 => some ir63
  | 67 => some ir67
  | 68 => some ir68
  | 69 => some ir69
  | 70 => some ir70
  | 71 => some ir71
  | 77 => some ir77
  | 78 => some ir78
  | 80 => some ir80
  | 81 => some ir81
  | 84 => some ir84
  | _ => none
theorem F4 : ∀ f F, fns f = some F → ∃ shf fd ann, prog.funcs[f]? = some fd ∧ Zn prog shf ann fd = some F := by
  intro f F h
  unfold fns at h
  split at h
  · injection h with h; subst h; exact ⟨_, _, _, func3, Bl⟩
  · injection h with h; subst h; exact ⟨_, _, _, func6, Bm⟩
  · injection h with h; subst h; exact ⟨_, _, _, func7, Bn⟩
  · injection h with h; subst h; exact ⟨_, _, _, func8, Bo⟩
  · injection h with h; subst h; exact ⟨_, _, _, func9, Bp⟩
  · injection h with h; subst h; exact ⟨_, _, _, func10, Dl⟩
  · injection h with h; subst h; exact ⟨_, _, _, func15, Dm⟩
  · injection h with h; subst h; exact ⟨_, _, _, func16, Dn⟩
  · injection h with h; subst h; exact ⟨_, _, _, func22, Do⟩
  · injection h with h; subst h; exact ⟨_, _, _, func23, Dp⟩
  · injection h with h; subst h; exact ⟨_, _, _, func24, Dq⟩
  · injection h with h; subst h; exact ⟨_, _, _, func25, Dr⟩
  · injection h with h; subst h; exact ⟨_, _, _, func26, Ds⟩
  · injection h with h; subst h; exact ⟨_, _, _, func28, Dt⟩
  · injection h with h; subst h; exact ⟨_, _, _, func32, Du⟩
  · injection h with h; subst h; exact ⟨_, _, _, func33, Dw⟩
  · injection h with h; subst h; exact ⟨_, _, _, func34, Dx⟩
  · injection h with h; subst h; exact ⟨_, _, _, func35, Dz⟩
  · injection h with h; subst h; exact ⟨_, _, _, func38, DA⟩
  · injection h with h; subst h; exact ⟨_, _, _, func39, DB⟩
  · injection h with h; subst h; exact ⟨_, _, _, func40, DC⟩
  · injection h with h; subst h; exact ⟨_, _, _, func41, DD⟩
  · injection h with h; subst h; exact ⟨_, _, _, func42, DE⟩
  · injection h with h; subst h; exact ⟨_, _, _, func43, DF⟩
  · injection h with h; subst h; exact ⟨_, _, _, func44, DG⟩
  · injection h with h; subst h; exact ⟨_, _, _, func48, DH⟩
  · injection h with h; subst h; exact ⟨_, _, _, func49, DI⟩
  · injection h with h; subst h; exact ⟨_, _, _, func50, DJ⟩
  · injection h with h; subst h; exact ⟨_, _, _, func51, DK⟩
  · injection h with h; subst h; exact ⟨_, _, _, func52, DL⟩
  · injection h with h; subst h; exact ⟨_, _, _, func54, DM⟩
  · injection h with h; subst h; exact ⟨_, _, _, func55, DN⟩
  · injection h with h; subst h; exact ⟨_, _, _, func56, DO⟩
  · injection h with h; subst h; exact ⟨_, _, _, func57, DQ⟩
  · injection h with h; subst h; exact ⟨_, _, _, func58, DR⟩
  · injection h with h; subst h; exact ⟨_, _, _, func59, DS⟩
  · injection h with h; subst h; exact ⟨_, _, _, func61, DT⟩
  · injection h with h; subst h; exact ⟨_, _, _, func62, DU⟩
  · injection h with h; subst h; exact ⟨_, _, _, func63, DV⟩
  · injection h with h; subst h; exact ⟨_, _, _, func67, DW⟩
  · injection h with h; subst h; exact ⟨_, _, _, func68, DX⟩
  · injection h with h; subst h; exact ⟨_, _, _, func69, DY⟩
  · injection h with h; subst h; exact ⟨_, _, _, func70, D0⟩
  · injection h with h; subst h; exact ⟨_, _, _, func71, D1⟩
  · injection h with h; subst h; exact ⟨_, _, _, func77, D2⟩
  · injection h with h; subst h; exact ⟨_, _, _, func78, D3⟩
  · injection h with h; subst h; exact ⟨_, _, _, func80, D4⟩
  · injection h with h; subst h; exact ⟨_, _, _, func81, D7⟩
  · injection h with h; subst h; exact ⟨_, _, _, func84, Ca⟩
  · cases h
end Go.Proofs.Tryd
