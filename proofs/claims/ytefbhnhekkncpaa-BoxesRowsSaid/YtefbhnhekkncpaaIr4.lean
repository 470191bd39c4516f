/- The instructions of the functions, as the program has them. -/
import Derived.Test.YtefbhnhekkncpaaProg
import Derived.Test.YtefbhnhekkncpaaVD
namespace Go.Proofs.Try
open Go Go.Vs
def oI (d : Nat) (i : Ins) : IOp := ⟨some d, i, none⟩
def cI (n : Int) : Opd := .c (.p (.val (.int .i64 n)))
def cB (b : Bool) : Opd := .c (.p (.val (.bool b)))
def zZ : ZC := .z (.val (.int .i64 0))
abbrev tI (n : Nat) : Opd := .t n
def jM (a : Nat) : Ins := .mv (.t a)
def iM (d : Nat) (a : Nat) : IOp := ⟨some d, jM a, none⟩
def jC (a : Int) : Ins := .mv (cI a)
def iC (d : Nat) (a : Int) : IOp := ⟨some d, jC a, none⟩
def jE (a : Bool) : Ins := .mv (cB a)
def iE (d : Nat) (a : Bool) : IOp := ⟨some d, jE a, none⟩
def jL (s a : Nat) : Ins := .load false s (.t a)
def iL (d : Nat) (s a : Nat) : IOp := ⟨some d, jL s a, none⟩
def jT (s a : Nat) : Ins := .load true s (.t a)
def iT (d : Nat) (s a : Nat) : IOp := ⟨some d, jT s a, none⟩
def jF (k a : Nat) : Ins := .fieldA k (.t a)
def iF (d : Nat) (k a : Nat) : IOp := ⟨some d, jF k a, none⟩
def jX (s a b : Nat) : Ins := .indexA none s (.t a) (.t b)
def iX (d : Nat) (s a b : Nat) : IOp := ⟨some d, jX s a b, none⟩
def jN (a : Nat) : Ins := .len (.t a)
def iN (d : Nat) (a : Nat) : IOp := ⟨some d, jN a, none⟩
def jS (a : Nat) : Ins := .lenS (.t a)
def iS (d : Nat) (a : Nat) : IOp := ⟨some d, jS a, none⟩
def jB (o : BinOp) (a b : Nat) : Ins := .bin o (.t a) (.t b)
def iB (d : Nat) (o : BinOp) (a b : Nat) : IOp := ⟨some d, jB o a b, none⟩
def jD (o : BinOp) (a : Nat) (n : Int) : Ins := .bin o (.t a) (cI n)
def iD (d : Nat) (o : BinOp) (a : Nat) (n : Int) : IOp := ⟨some d, jD o a n, none⟩
def jP (a b : Nat) : Ins := .pick (.t a) (cB true) (.t b)
def iP (d : Nat) (a b : Nat) : IOp := ⟨some d, jP a b, none⟩
def jQ (a b : Nat) : Ins := .pick (.t a) (.t b) (cB false)
def iQ (d : Nat) (a b : Nat) : IOp := ⟨some d, jQ a b, none⟩
def jU (a : Nat) : Ins := .un .not (.t a)
def iU (d : Nat) (a : Nat) : IOp := ⟨some d, jU a, none⟩
def jK (f a : Nat) : Ins := .call false (.c (.fn f [])) [.t a]
def iK (d : Nat) (f a : Nat) : IOp := ⟨some d, jK f a, none⟩
def jV (s a b : Nat) : Ins := .store s (.t a) (.t b)
def gT (d g : Nat) (i : Ins) : IOp := ⟨some d, i, some (g, true)⟩
def gF (d g : Nat) (i : Ins) : IOp := ⟨some d, i, some (g, false)⟩
def gN (i : Ins) : IOp := ⟨none, i, none⟩
def z6 : PV := .val (.int .i64 0)
def zN : AV := .p (.val (.slice none 0 0))
def zM : PV := .val (.slice none 0 0)
def sh : List Nat := [22, 23, 24, 27, 28, 30, 31, 32, 33, 34, 36, 37, 38, 41, 42, 46, 45, 54]
def ir4 : IFun :=
  ⟨97, [(.tmp 6)], (.seq (.ops [iE 6 false]) (.seq (.ops [iM 18 0, ⟨(.some 19), (.build [z6, (.val (.string ⟨([] : List UInt8).toArray⟩)), z6, zM] [(0, (1, (cI 3))), (3, (1, (tI 18)))]), .none⟩, ⟨(.some 7), (.alloc 25 [zZ, (.z (.val (.string ⟨([] : List UInt8).toArray⟩))), zZ, (.r 25 4)]), .none⟩, gN (jV 4 7 19)]) (.seq (.seq (.ops [iT 20 4 7, iK 21 5 20, iU 22 21, iM 23 22, gF 24 23 (jM 2), gF 25 23 (jD .lss 24 1), iP 26 23 25]) (.cond (tI 26) (.seq (.ops [oI 27 (.call .false (.c (.fn 6 [])) []), iM 6 27]) .ret) .skip)) (.seq (.ops [iM 28 1, iM 29 0, iN 30 29, iD 31 .add 30 1, iB 32 .rem 28 31, iM 33 0, iN 34 33, iB 35 .add 32 34, iD 36 .add 35 1, iM 37 0, iN 38 37, iD 39 .add 38 1, iB 40 .rem 36 39, iM 8 40]) (.seq (.opsR 3 [(.mk (iM 41 0) 0 0 []), (.mk (iM 42 8) 0 0 []), (.mk (oI 43 (.slice 4 (tI 41) .none (.some (tI 42)))) 0 0 []), (.mk ⟨(.some 44), (.build [z6, (.val (.string ⟨([] : List UInt8).toArray⟩)), z6, zM] [(0, (1, (cI 3))), (3, (1, (tI 43)))]), .none⟩ 0 0 []), (.mk ⟨(.some 45), (.build [z6, (.val (.string ⟨([] : List UInt8).toArray⟩)), z6, (.lst 4 [])] []), .none⟩ 0 0 []), (.mk (iM 46 0) 0 0 []), (.mk (iM 47 8) 0 0 []), (.mk (oI 48 (.slice 4 (tI 46) (.some (tI 47)) .none)) 0 0 [2]), (.mk ⟨(.some 49), (.build [z6, (.val (.string ⟨([] : List UInt8).toArray⟩)), z6, zM] [(0, (1, (cI 5))), (3, (1, (tI 48)))]), .none⟩ 0 0 []), (.mk ⟨(.some 50), (.buildS 25 4 [z6, (.val (.string ⟨([] : List UInt8).toArray⟩)), z6, zM] 3 [(0, (tI 44)), (1, (tI 45)), (2, (tI 49))]), .none⟩ 0 1 []), (.mk ⟨(.some 51), (.build [z6, (.val (.string ⟨([] : List UInt8).toArray⟩)), z6, zM] [(0, (1, (cI 5))), (3, (1, (tI 50)))]), .none⟩ 1 0 []), (.mk ⟨(.some 9), (.alloc 25 [zZ, (.z (.val (.string ⟨([] : List UInt8).toArray⟩))), zZ, (.r 25 4)]), .none⟩ 1 2 [2, 7, 9]), (.mk (gN (jV 4 9 51)) 3 0 [])]) (.seq (.ops [iT 53 4 7, iM 54 2, oI 55 (.call .false (.c (.fn 7 [])) [(tI 53), (tI 54)]), iM 52 55, oI 56 (.extract (tI 52) 0), oI 57 (.extract (tI 52) 1), iM 10 56, iM 11 57]) (.seq (.ops [iT 59 4 9, iM 60 2, oI 61 (.call .false (.c (.fn 7 [])) [(tI 59), (tI 60)]), iM 58 61, oI 62 (.extract (tI 58) 0), oI 63 (.extract (tI 58) 1), iM 12 62, iM 13 63]) (.seq (.ops [iT 65 4 7, iK 66 8 65, iM 64 66, oI 67 (.extract (tI 64) 0), oI 68 (.extract (tI 64) 1), iM 14 67, iM 15 68]) (.seq (.ops [iT 70 4 9, iK 71 8 70, iM 69 71, oI 72 (.extract (tI 69) 0), oI 73 (.extract (tI 69) 1), iM 16 72, iM 17 73]) (.seq (.ops [iM 74 11, iK 75 9 74, iM 76 13, iK 77 9 76, iB 78 .eql 75 77, iM 79 78, gT 80 79 (jM 10), gT 81 79 (jM 12), gT 82 79 (jB .eql 80 81), iQ 83 79 82, iM 84 83, gT 85 84 (jM 14), gT 86 84 (jM 16), gT 87 84 (jB .eql 85 86), iQ 88 84 87, iM 89 88, gT 90 89 (jM 15), gT 91 89 (jM 17), gT 92 89 (.eqA .false [0] .false (tI 90) (tI 91)), iQ 93 89 92, iM 94 93, ⟨(.some 95), (.call .false (.c (.fn 6 [])) []), (.some (94, .true))⟩, iQ 96 94 95, iM 6 96]) .ret))))))))))⟩
theorem D0 : Zo prog (shOf sh [45]) [] f4 = some ir4 := by kernel_rfl
def ir5 : IFun :=
  ⟨6, [(.tmp 2)], (.seq (.ops [oI 1 (.box 25 (tI 0)), iE 2 false]) (.seq (.ops [iT 3 4 1, oI 4 (.call .false (.c (.fn 12 [])) [(tI 3), (cI 3000)]), iD 5 .leq 4 3000, iM 2 5]) .ret))⟩
theorem D1 : Zo prog (shOf sh []) [] f5 = some ir5 := by kernel_rfl
def ir6 : IFun :=
  ⟨75, [(.tmp 0)], (.seq (.ops [iE 0 false]) (.seq (.ops [oI 12 (.call .false (.c (.fn 13 [])) []), ⟨(.some 1), (.alloc 25 [zZ, (.z (.val (.string ⟨([] : List UInt8).toArray⟩))), zZ, (.r 25 4)]), .none⟩, gN (jV 4 1 12)]) (.seq (.ops [iT 14 4 1, oI 15 (.call .false (.c (.fn 7 [])) [(tI 14), (cI 20)]), iM 13 15, oI 16 (.extract (tI 13) 0), oI 17 (.extract (tI 13) 1), iM 2 16, iM 3 17]) (.seq (.ops [iT 19 4 1, oI 20 (.call .false (.c (.fn 7 [])) [(tI 19), (cI 10)]), iM 18 20, oI 21 (.extract (tI 18) 0), oI 22 (.extract (tI 18) 1), iM 4 21, iM 5 22]) (.seq (.ops [⟨(.some 24), (.build [z6, (.val (.string ⟨([] : List UInt8).toArray⟩)), z6, zM] [(0, (1, (cI 9)))]), .none⟩, oI 25 (.call .false (.c (.fn 7 [])) [(tI 24), (cI 10)]), iM 23 25, oI 26 (.extract (tI 23) 0), oI 27 (.extract (tI 23) 1), iM 6 26, iM 7 27]) (.seq (.ops [iT 29 4 1, oI 30 (.call .false (.c (.fn 7 [])) [(tI 29), (cI 0)]), iM 28 30, oI 31 (.extract (tI 28) 0), oI 32 (.extract (tI 28) 1), iM 8 31, iM 9 32]) (.seq (.ops [iT 34 4 1, iK 35 14 34, iM 33 35, oI 36 (.extract (tI 33) 0), oI 37 (.extract (tI 33) 1), iM 10 36, iM 11 37]) (.seq (.ops [iM 38 3, iK 39 9 38, iM 40 5, iK 41 9 40, iB 42 .add 39 41, iD 43 .eql 42 0, iM 44 43, gT 45 44 (jM 2), ⟨(.some 46), (.bin .eql (tI 45) (.c (.p (.val (.string ⟨([105, 102, 32, 97, 59, 32, 98, 59, 32, 101, 110, 100] : List UInt8).toArray⟩))))), (.some (44, .true))⟩, iQ 47 44 46, iM 48 47, gT 49 48 (jM 4), ⟨(.some 50), (.bin .eql (tI 49) (.c (.p (.val (.string ⟨([105, 102, 10, 32, 32, 97, 59, 10, 32, 32, 98, 59, 10, 101, 110, 100] : List UInt8).toArray⟩))))), (.some (48, .true))⟩, iQ 51 48 50, iM 52 51, gT 53 52 (jM 7), gT 54 52 (jK 9 53), gT 55 52 (jD .eql 54 260), iQ 56 52 55, iM 57 56, gT 58 57 (jM 9), gT 59 57 (jK 9 58), gT 60 57 (jD .eql 59 2), iQ 61 57 60, iM 62 61, gT 63 62 (jM 10), gT 64 62 (jD .eql 63 9), iQ 65 62 64, iM 66 65, gT 67 66 (jM 11), gT 68 66 (jD .eql 67 3), iQ 69 66 68, iM 70 69, gT 71 70 (jT 4 1), gT 72 70 (jK 15 71), gT 73 70 (.eqN .true (tI 72)), iQ 74 70 73, iM 0 74]) .ret))))))))⟩
theorem D2 : Zo prog (shOf sh []) [] f6 = some ir6 := by kernel_rfl
def ir7 : IFun :=
  ⟨22, [(.tmp 4), (.tmp 5)], (.seq (.ops [oI 2 (.box 25 (tI 0)), ⟨(.some 4), (.mv (.c (.p (.val (.string ⟨([] : List UInt8).toArray⟩))))), .none⟩, iC 5 0]) (.seq (.seq (.ops [iT 8 4 2, iK 9 16 8, iM 6 9]) (.seq (.ops [iM 10 6, iD 11 .neq 10 0]) (.cond (tI 11) (.seq (.ops [iM 12 6, ⟨(.some 4), (.mv (.c (.p (.val (.string ⟨([] : List UInt8).toArray⟩))))), .none⟩, iM 5 12]) .ret) .skip))) (.seq (.seq (.ops [iM 13 1, iD 14 .lss 13 1]) (.cond (tI 14) (.seq (.ops [⟨(.some 4), (.mv (.c (.p (.val (.string ⟨([] : List UInt8).toArray⟩))))), .none⟩, iC 5 2]) .ret) .skip)) (.seq (.ops [iT 15 4 2, iM 16 1, oI 17 (.call .false (.c (.fn 17 [])) [(tI 15), (tI 16), (cI 0)]), iM 7 17]) (.seq (.seq (.ops [iM 18 7, iS 19 18, iD 20 .gtr 19 1048576]) (.cond (tI 20) (.seq (.ops [⟨(.some 4), (.mv (.c (.p (.val (.string ⟨([] : List UInt8).toArray⟩))))), .none⟩, iC 5 3]) .ret) .skip)) (.seq (.ops [iM 21 7, iM 4 21, iC 5 0]) .ret))))))⟩
theorem D3 : Zo prog (shOf sh []) [] f7 = some ir7 := by kernel_rfl
def ir8 : IFun :=
  ⟨15, [(.tmp 2), (.tmp 3)], (.seq (.ops [oI 1 (.box 25 (tI 0)), ⟨(.some 2), (.mv (.c (.p (.val (.string ⟨([] : List UInt8).toArray⟩))))), .none⟩, iE 3 false]) (.seq (.seq (.ops [iT 4 4 1, iK 5 16 4, iD 6 .neq 5 0, iM 7 6, gF 8 7 (jT 4 1), gF 9 7 (jK 18 8), gF 10 7 (.indexA .none 1 (tI 9) (cI 0)), gF 11 7 (jL 1 10), iP 12 7 11]) (.cond (tI 12) (.seq (.ops [⟨(.some 2), (.mv (.c (.p (.val (.string ⟨([] : List UInt8).toArray⟩))))), .none⟩, iE 3 false]) .ret) .skip)) (.seq (.ops [iT 13 4 1, oI 14 (.call .false (.c (.fn 17 [])) [(tI 13), (cI 1), (cI 1)]), iM 2 14, iE 3 true]) .ret)))⟩
theorem D4 : Zo prog (shOf sh []) [] f8 = some ir8 := by kernel_rfl
def ir9 : IFun :=
  ⟨4, [(.tmp 2)], (.seq (.ops [iC 2 0]) (.seq (.ops [iM 3 0, iM 2 3]) .ret))⟩
theorem D5 : Zo prog (shOf sh []) [] f9 = some ir9 := by kernel_rfl
def Ie : IC :=
  (.seq (.seq (.ops [iM 11 6, iF 12 3 2, iL 13 1 12, iN 14 13, iB 15 .lss 11 14, iM 16 15, gT 17 16 (jM 5), gT 18 16 (jM 1), gT 19 16 (jB .leq 17 18), iQ 20 16 19]) (.cond (tI 20) .skip (.exit 0))) (.seq (.block 1 (.ops [iM 23 5, iF 24 3 2, iL 25 1 24, iM 26 6, iX 27 4 25 26, iT 28 4 27, iM 29 1, iM 30 5, iB 31 .sub 29 30, oI 32 (.call .false (.c (.fn 12 [])) [(tI 28), (tI 31)]), iB 33 .add 23 32, iM 5 33])) (.ops [iM 21 6, iD 22 .add 21 1, iM 6 22])))
def ir12 : IFun :=
  ⟨35, [(.tmp 4)], (.seq (.ops [oI 2 (.box 25 (tI 0)), iC 4 0]) (.seq (.ops [iF 7 1 2, iL 8 1 7, iS 9 8, oI 10 (.bin .add (cI 1) (tI 9)), iM 5 10]) (.seq (.seq (.ops [iC 6 0]) (.block 0 (.loop [1, 2, 5, 6] Ie))) (.seq (.ops [iM 34 5, iM 4 34]) .ret))))⟩
theorem Ec : Zo prog (shOf sh []) [[1, 2, 5, 6]] f12 = some ir12 := by kernel_rfl
def ir13 : IFun :=
  ⟨21, [(.cell 0 .true 4)], (.seq (.ops [⟨(.some 0), (.alloc 25 [zZ, (.z (.val (.string ⟨([] : List UInt8).toArray⟩))), zZ, (.r 25 4)]), .none⟩]) (.seq (.ops [oI 1 (.mv (.c (.fn 20 [])))]) (.seq (.ops [⟨(.some 4), (.build [z6, (.val (.string ⟨([] : List UInt8).toArray⟩)), z6, zM] [(0, (1, (cI 1))), (2, (1, (cI 1)))]), .none⟩, ⟨(.some 2), (.alloc 25 [zZ, (.z (.val (.string ⟨([] : List UInt8).toArray⟩))), zZ, (.r 25 4)]), .none⟩, gN (jV 4 2 4)]) (.seq (.opsR 3 [(.mk (iT 5 4 2) 0 0 []), (.mk (iM 6 1) 0 0 []), (.mk ⟨(.some 7), (.call .false (tI 6) [(.c (.p (.val (.string ⟨([97, 59] : List UInt8).toArray⟩))))]), .none⟩ 0 0 [0]), (.mk (iT 8 4 2) 0 0 [0, 2]), (.mk (iM 9 1) 0 0 []), (.mk ⟨(.some 10), (.call .false (tI 9) [(.c (.p (.val (.string ⟨([98, 59] : List UInt8).toArray⟩))))]), .none⟩ 0 0 [0, 3]), (.mk ⟨(.some 11), (.buildS 25 4 [z6, (.val (.string ⟨([] : List UInt8).toArray⟩)), z6, zM] 4 [(0, (tI 5)), (1, (tI 7)), (2, (tI 8)), (3, (tI 10))]), .none⟩ 0 1 []), (.mk ⟨(.some 12), (.build [z6, (.val (.string ⟨([] : List UInt8).toArray⟩)), z6, zM] [(0, (1, (cI 5))), (2, (1, (cI 2))), (3, (1, (tI 11)))]), .none⟩ 1 0 []), (.mk ⟨(.some 3), (.alloc 25 [zZ, (.z (.val (.string ⟨([] : List UInt8).toArray⟩))), zZ, (.r 25 4)]), .none⟩ 1 2 [0, 2, 3, 5, 6]), (.mk (gN (jV 4 3 12)) 3 0 [])]) (.seq (.ops [iM 13 1, ⟨(.some 14), (.call .false (tI 13) [(.c (.p (.val (.string ⟨([105, 102] : List UInt8).toArray⟩))))]), .none⟩, iT 15 4 3, iT 16 4 2, iM 17 1, ⟨(.some 18), (.call .false (tI 17) [(.c (.p (.val (.string ⟨([101, 110, 100] : List UInt8).toArray⟩))))]), .none⟩, ⟨(.some 19), (.buildS 25 4 [z6, (.val (.string ⟨([] : List UInt8).toArray⟩)), z6, zM] 4 [(0, (tI 14)), (1, (tI 15)), (2, (tI 16)), (3, (tI 18))]), .none⟩, ⟨(.some 20), (.build [z6, (.val (.string ⟨([] : List UInt8).toArray⟩)), z6, zM] [(0, (1, (cI 4))), (3, (1, (tI 19)))]), .none⟩, gN (jV 4 0 20)]) .ret)))))⟩
theorem Ed : Zo prog (shOf sh [6, 9, 13, 17]) [] f13 = some ir13 := by kernel_rfl
def ir14 : IFun :=
  ⟨11, [(.tmp 2), (.tmp 3)], (.seq (.ops [oI 1 (.box 25 (tI 0)), iC 2 0, iC 3 0]) (.seq (.seq (.ops [iT 4 4 1, iK 5 16 4, iD 6 .neq 5 0]) (.cond (tI 6) (.seq (.ops [iC 2 0, iC 3 0]) .ret) .skip)) (.seq (.ops [iT 7 4 1, iK 8 21 7, oI 9 (.extract (tI 8) 0), oI 10 (.extract (tI 8) 1), iM 2 9, iM 3 10]) .ret)))⟩
theorem Ee : Zo prog (shOf sh []) [] f14 = some ir14 := by kernel_rfl
def ir15 : IFun :=
  ⟨11, [(.tmp 2)], (.seq (.ops [oI 1 (.box 25 (tI 0)), oI 2 (.mv (.c (.p (.val .nilFunc))))]) (.seq (.ops [oI 3 (.alloc 53 [(.r 9 1)])]) (.seq (.seq (.ops [iT 4 4 1, iK 5 16 4, iD 6 .eql 5 0]) (.cond (tI 6) (.ops [iT 7 4 1, oI 8 (.mkfn 23 [(tI 3)]), oI 9 (.call .true (.c (.fn 22 [])) [(tI 7), (tI 8)])]) .skip)) (.seq (.ops [oI 10 (.mkfn 24 [(tI 3)]), iM 2 10]) .ret))))⟩
theorem Ef : Zo prog (shOf sh []) [] f15 = some ir15 := by kernel_rfl
def ir16 : IFun :=
  ⟨19, [(.tmp 2)], (.seq (.ops [oI 1 (.box 25 (tI 0)), iC 2 0]) (.seq (.seq (.ops [iT 5 4 1, iK 6 25 5, iU 7 6]) (.cond (tI 7) (.seq (.ops [iC 2 260]) .ret) .skip)) (.seq (.seq (.ops [iT 9 4 1, iK 10 21 9, iM 8 10, oI 11 (.extract (tI 8) 0), oI 12 (.extract (tI 8) 1), iM 3 11, iM 4 12]) (.seq (.ops [iM 13 3, iD 14 .gtr 13 65536, iM 15 14, gF 16 15 (jM 4), gF 17 15 (jD .gtr 16 16384), iP 18 15 17]) (.cond (tI 18) (.seq (.ops [iC 2 3]) .ret) .skip))) (.seq (.ops [iC 2 0]) .ret))))⟩
theorem Eg : Zo prog (shOf sh []) [] f16 = some ir16 := by kernel_rfl
def ir17 : IFun :=
  ⟨21, [(.tmp 6)], (.seq (.ops [oI 3 (.box 25 (tI 0)), ⟨(.some 6), (.mv (.c (.p (.val (.string ⟨([] : List UInt8).toArray⟩))))), .none⟩]) (.seq (.opsR 2 [(.mk (iT 8 4 3) 0 0 []), (.mk (iK 9 18 8) 0 0 []), (.mk (iT 10 4 3) 0 0 [0, 1]), (.mk (iK 11 26 10) 0 0 []), (.mk (iM 12 1) 0 0 []), (.mk (iT 13 4 3) 0 0 [0, 1, 2, 3]), (.mk (iM 14 2) 0 0 []), (.mk ⟨(.some 15), (.build [z6, (.val (.string ⟨([] : List UInt8).toArray⟩)), z6, zM, z6, z6, z6] [(0, (4, (tI 13))), (5, (1, (tI 14)))]), .none⟩ 0 0 []), (.mk ⟨(.some 16), (.buildS 60 7 [z6, (.val (.string ⟨([] : List UInt8).toArray⟩)), z6, zM, z6, z6, z6] 1 [(0, (tI 15))]), .none⟩ 0 1 [0, 1, 2, 3]), (.mk (oI 17 (.build [(.val (.pointer .none)), zM, zM, zM, zM, z6, z6, (.val (.bool .false))] [(3, (1, (tI 9))), (4, (1, (tI 11))), (5, (1, (tI 12))), (2, (1, (tI 16)))])) 1 0 []), (.mk (oI 18 (.box 66 (tI 17))) 1 1 []), (.mk (iM 7 18) 2 0 [])]) (.seq (.ops [iM 19 7, oI 20 (.call .true (.c (.fn 27 [])) [(tI 19)]), iM 6 20]) .ret)))⟩
theorem Eh : Zo prog (shOf sh []) [] f17 = some ir17 := by kernel_rfl
def ir18 : IFun :=
  ⟨10, [(.tmp 2)], (.seq (.ops [oI 1 (.box 25 (tI 0)), oI 2 (.nilrow 4 1)]) (.seq (.ops [oI 3 (.alloc 48 [(.r 4 1)])]) (.seq (.ops [oI 4 (.alloc 26 [(.z (.val .nilFunc))])]) (.seq (.ops [oI 5 (.mkfn 28 [(tI 3), (tI 4)]), gN (jV 1 4 5)]) (.seq (.ops [iL 6 1 4, iT 7 4 1, oI 8 (.call .true (tI 6) [(tI 7)])]) (.seq (.ops [iL 9 1 3, iM 2 9]) .ret))))))⟩
theorem Ei : Zo prog (shOf sh []) [] f18 = some ir18 := by kernel_rfl
def ir20 : IFun :=
  ⟨5, [(.cell 2 .true 4)], (.seq (.ops [⟨(.some 2), (.alloc 25 [zZ, (.z (.val (.string ⟨([] : List UInt8).toArray⟩))), zZ, (.r 25 4)]), .none⟩]) (.seq (.ops [iM 3 0, ⟨(.some 4), (.build [z6, (.val (.string ⟨([] : List UInt8).toArray⟩)), z6, zM] [(1, (1, (tI 3)))]), .none⟩, gN (jV 4 2 4)]) .ret))⟩
theorem Ej : Zo prog (shOf sh []) [] f20 = some ir20 := by kernel_rfl
def If : IC :=
  (.seq (.ops [iB 14 .lss 13 12]) (.seq (.cond (tI 14) .skip (.exit 0)) (.seq (.block 1 (.seq (.ops [iX 15 4 11 13, iT 16 4 15, ⟨(.some 7), (.alloc 25 [zZ, (.z (.val (.string ⟨([] : List UInt8).toArray⟩))), zZ, (.r 25 4)]), .none⟩, gN (jV 4 7 16)]) (.seq (.ops [iT 18 4 7, iK 19 21 18, iM 17 19, oI 20 (.extract (tI 17) 0), oI 21 (.extract (tI 17) 1), iM 8 20, iM 9 21]) (.ops [iM 22 4, iM 23 8, iB 24 .add 22 23, iM 25 5, iM 26 9, oI 27 (.min2 .true (tI 25) (tI 26)), iM 4 24, iM 5 27])))) (.ops [iD 28 .add 13 1, iM 13 28]))))
def ir21 : IFun :=
  ⟨32, [(.tmp 2), (.tmp 3)], (.seq (.ops [oI 1 (.box 25 (tI 0)), iC 2 0, iC 3 0]) (.seq (.ops [iC 4 1, iC 5 0]) (.seq (.seq (.ops [iF 10 3 1, iL 11 1 10, iN 12 11, iC 13 0]) (.block 0 (.loop [4, 5, 11, 12, 13] If))) (.seq (.ops [iM 29 4, iM 30 5, iD 31 .add 30 1, iM 2 29, iM 3 31]) .ret))))⟩
theorem Ek : Zo prog (shOf sh []) [[4, 5, 11, 12, 13]] f21 = some ir21 := by kernel_rfl
def El : IC :=
  (.seq (.ops [iB 18 .lss 17 16]) (.seq (.cond (tI 18) .skip (.exit 0)) (.seq (.block 1 (.seq (.ops [iX 19 4 15 17, iT 20 4 19, ⟨(.some 6), (.alloc 25 [zZ, (.z (.val (.string ⟨([] : List UInt8).toArray⟩))), zZ, (.r 25 4)]), .none⟩, gN (jV 4 6 20)]) (.seq (.ops [iT 21 4 6, iM 22 1, oI 23 (.call .true (.c (.fn 22 [])) [(tI 21), (tI 22)]), iU 24 23]) (.cond (tI 24) (.seq (.ops [iE 4 false]) .ret) .skip)))) (.ops [iD 25 .add 17 1, iM 17 25]))))
def ir22 : IFun :=
  ⟨26, [(.tmp 4)], (.seq (.ops [oI 2 (.box 25 (tI 0)), iE 4 false]) (.seq (.seq (.ops [iF 7 0 2, iL 8 1 7, iD 9 .eql 8 0]) (.cond (tI 9) (.seq (.ops [iM 10 1, iF 11 1 2, iL 12 1 11, oI 13 (.call .true (tI 10) [(tI 12)]), iM 4 13]) .ret) .skip)) (.seq (.seq (.ops [iF 14 3 2, iL 15 1 14, iN 16 15, iC 17 0]) (.block 0 (.loop [1, 15, 16, 17] El))) (.seq (.ops [iE 4 true]) .ret))))⟩
theorem Em : Zo prog (shOf sh []) [[1, 15, 16, 17]] f22 = some ir22 := by kernel_rfl
def ir23 : IFun :=
  ⟨8, [(.tmp 3)], (.seq (.ops [iE 3 false]) (.seq (.ops [iL 4 1 1, iM 5 0, ⟨(.some 6), (.buildS 9 1 [(.val (.string ⟨([] : List UInt8).toArray⟩))] 1 [(0, (tI 5))]), .none⟩, ⟨(.some 7), (.append 9 1 16 [(.val (.string ⟨([] : List UInt8).toArray⟩))] (tI 4) (tI 6)), .none⟩, gN (jV 1 1 7)]) (.seq (.ops [iE 3 true]) .ret)))⟩
theorem En : Zo prog (shOf sh []) [] f23 = some ir23 := by kernel_rfl
def Eo : IC :=
  (.seq (.ops [iB 8 .lss 7 6]) (.seq (.cond (tI 8) .skip (.exit 0)) (.seq (.block 1 (.seq (.ops [iX 9 1 5 7, iL 10 1 9, iM 4 10]) (.seq (.ops [iM 11 0, iM 12 4, oI 13 (.call .true (tI 11) [(tI 12)]), iU 14 13]) (.cond (tI 14) .ret .skip)))) (.ops [iD 15 .add 7 1, iM 7 15]))))
def ir24 : IFun :=
  ⟨16, [], (.seq (.ops [iL 5 1 1, iN 6 5, iC 7 0]) (.block 0 (.loop [0, 5, 6, 7] Eo)))⟩
theorem Ep : Zo prog (shOf sh []) [[0, 5, 6, 7]] f24 = some ir24 := by kernel_rfl
def Us : IC :=
  (.seq (.ops [iB 69 .lss 68 67]) (.seq (.cond (tI 69) .skip (.exit 7)) (.seq (.block 8 (.seq (.ops [iX 70 4 66 68, iT 71 4 70, ⟨(.some 5), (.alloc 25 [zZ, (.z (.val (.string ⟨([] : List UInt8).toArray⟩))), zZ, (.r 25 4)]), .none⟩, gN (jV 4 5 71)]) (.seq (.ops [iT 72 4 5, iK 73 25 72, iU 74 73]) (.cond (tI 74) (.seq (.ops [iE 2 false]) .ret) .skip)))) (.ops [iD 75 .add 68 1, iM 68 75]))))
def ir25 : IFun :=
  ⟨76, [(.tmp 2)], (.seq (.ops [oI 1 (.box 25 (tI 0)), iE 2 false]) (.seq (.ops [iF 6 0 1, iL 7 1 6, ⟨(.some 8), (.build [z6, (.val (.string ⟨([] : List UInt8).toArray⟩)), z6, zM] [(0, (1, (tI 7)))]), .none⟩, ⟨(.some 3), (.alloc 25 [zZ, (.z (.val (.string ⟨([] : List UInt8).toArray⟩))), zZ, (.r 25 4)]), .none⟩, gN (jV 4 3 8)]) (.seq (.seq (.ops [iF 9 0 1, iL 10 1 9]) (.block 0 (.seq (.block 6 (.seq (.block 5 (.seq (.block 4 (.seq (.block 3 (.seq (.block 2 (.seq (.block 1 (.seq (.seq (.seq (.ops [iD 12 .eql 10 0, iM 11 12]) (.cond (tI 11) (.exit 1) .skip)) (.seq (.seq (.ops [iD 14 .eql 10 5, iM 13 14]) (.cond (tI 13) (.exit 2) .skip)) (.seq (.seq (.ops [iD 16 .eql 10 1, iM 15 16]) (.cond (tI 15) (.exit 3) .skip)) (.seq (.seq (.seq (.ops [iD 18 .eql 10 3, iM 17 18]) (.cond (tI 17) .skip (.ops [iD 19 .eql 10 4, iM 17 19]))) (.cond (tI 17) (.exit 4) .skip)) (.seq (.ops [iD 21 .eql 10 2, iM 20 21]) (.cond (tI 20) (.exit 5) .skip)))))) (.exit 6))) (.seq (.ops [iF 22 1 1, iL 23 1 22, iF 24 1 3, gN (jV 1 24 23)]) (.exit 0)))) (.ops [iF 25 3 1, iL 26 1 25, iF 27 3 3, gN (jV 1 27 26)]))) (.seq (.ops [iF 28 2 1, iL 29 1 28, iF 30 2 3, gN (jV 1 30 29)]) (.exit 0)))) (.seq (.ops [iF 31 3 1, iL 32 1 31, iF 33 3 3, gN (jV 1 33 32)]) (.exit 0)))) (.exit 0))) (.seq (.seq (.ops [iE 2 false]) .ret) (.exit 0))))) (.seq (.seq (.ops [iF 34 1 1, iL 35 1 34, iF 36 1 3, iL 37 1 36, iB 38 .neq 35 37, iM 39 38, gF 40 39 (jF 2 1), gF 41 39 (jL 1 40), gF 42 39 (jF 2 3), gF 43 39 (jL 1 42), gF 44 39 (jB .neq 41 43), iP 45 39 44, iM 46 45, gF 47 46 (jF 3 1), gF 48 46 (jL 1 47), gF 49 46 (jN 48), gF 50 46 (jF 3 3), gF 51 46 (jL 1 50), gF 52 46 (jN 51), gF 53 46 (jB .neq 49 52), iP 54 46 53, iM 55 54, gF 56 55 (jF 2 1), gF 57 55 (jL 1 56), gF 58 55 (jD .lss 57 0), iP 59 55 58, iM 60 59, gF 61 60 (jF 2 1), gF 62 60 (jL 1 61), gF 63 60 (jD .gtr 62 100), iP 64 60 63]) (.cond (tI 64) (.seq (.ops [iE 2 false]) .ret) .skip)) (.seq (.seq (.ops [iF 65 3 1, iL 66 1 65, iN 67 66, iC 68 0]) (.block 7 (.loop [66, 67, 68] Us))) (.seq (.ops [iE 2 true]) .ret))))))⟩
theorem Er : Zo prog (shOf sh []) [[66, 67, 68]] f25 = some ir25 := by kernel_rfl
def ir26 : IFun :=
  ⟨10, [(.tmp 2)], (.seq (.ops [oI 1 (.box 25 (tI 0)), oI 2 (.nilrow 3 1)]) (.seq (.ops [oI 3 (.alloc 57 [(.r 3 1)])]) (.seq (.ops [oI 4 (.alloc 69 [(.z (.val .nilFunc))])]) (.seq (.ops [oI 5 (.mkfn 30 [(tI 3), (tI 4)]), gN (jV 1 4 5)]) (.seq (.ops [iL 6 1 4, iT 7 4 1, oI 8 (.call .true (tI 6) [(tI 7)])]) (.seq (.ops [iL 9 1 3, iM 2 9]) .ret))))))⟩
theorem Es : Zo prog (shOf sh []) [] f26 = some ir26 := by kernel_rfl
def Ig : IC :=
  (.seq (.seq (.ops [iM 6 0, oI 7 (.nilChk (tI 6)), iF 8 2 7, iL 9 1 8, iN 10 9, iD 11 .gtr 10 0, iM 12 11, gT 13 12 (jM 0), gT 14 12 (.nilChk (tI 13)), gT 15 12 (jF 0 14), ⟨(.some 16), (.call .true (.c (.fn 31 [])) [(tI 15)]), (.some (12, .true))⟩, gT 17 12 (jD .leq 16 1048576), iQ 18 12 17]) (.cond (tI 18) .skip (.exit 0))) (.block 1 (.seq (.ops [iM 19 0, oI 20 (.nilChk (tI 19)), iF 21 2 20, iL 22 1 21, iM 23 0, oI 24 (.nilChk (tI 23)), iF 25 2 24, iL 26 1 25, iN 27 26, iD 28 .sub 27 1, iX 29 7 22 28, iT 30 7 29, ⟨(.some 3), (.alloc 60 [zZ, (.z (.val (.string ⟨([] : List UInt8).toArray⟩))), zZ, (.r 25 4), zZ, zZ, zZ]), .none⟩, gN (jV 7 3 30)]) (.seq (.ops [iM 31 0, iM 32 0, oI 33 (.nilChk (tI 32)), iF 34 2 33, iL 35 1 34, iM 36 0, oI 37 (.nilChk (tI 36)), iF 38 2 37, iL 39 1 38, iN 40 39, iD 41 .sub 40 1, oI 42 (.slice 7 (tI 35) .none (.some (tI 41))), oI 43 (.nilChk (tI 31)), iF 44 2 43, gN (jV 1 44 42)]) (.seq (.ops [iF 45 4 3, iL 46 1 45, iF 47 5 3, iL 48 1 47, iM 4 46, iM 5 48]) (.seq (.seq (.ops [iF 49 0 3, iF 50 0 49, iL 51 1 50]) (.block 2 (.seq (.ops [iD 53 .eql 51 0, iM 52 53]) (.cond (tI 52) (.ops [iM 54 0, iF 55 0 3, iF 56 1 55, iL 57 1 56, iM 58 4, oI 59 (.call .true (.c (.fn 32 [])) [(tI 54), (tI 57), (tI 58)])]) (.seq (.ops [iD 61 .eql 51 1, iM 60 61]) (.cond (tI 60) (.seq (.seq (.ops [iM 62 5, iD 63 .eql 62 0]) (.cond (tI 63) (.seq (.ops [iM 64 0, iM 65 4, oI 66 (.call .true (.c (.fn 33 [])) [(tI 64), (tI 65)])]) (.exit 1)) .skip)) (.seq (.ops [iM 67 0, oI 68 (.nilChk (tI 67)), iF 69 0 68, iF 70 0 3, iF 71 2 70, iL 72 1 71, ⟨(.some 73), (.call .false (.c (.fn 35 [])) [(.c (.p (.val (.string ⟨([32] : List UInt8).toArray⟩)))), (tI 72)]), .none⟩, oI 74 (.call .true (.c (.fn 34 [])) [(tI 69), (tI 73)])]) (.ops [iM 75 0, oI 76 (.nilChk (tI 75)), iF 77 6 76, iL 78 1 77, iF 79 0 3, iF 80 2 79, iL 81 1 80, iB 82 .add 78 81, oI 83 (.nilChk (tI 75)), iF 84 6 83, gN (jV 1 84 82)]))) (.seq (.ops [iD 86 .eql 51 2, iM 85 86]) (.cond (tI 85) (.ops [iM 87 0, iM 88 4, oI 89 (.call .true (.c (.fn 33 [])) [(tI 87), (tI 88)])]) (.seq (.ops [iD 91 .eql 51 4, iM 90 91]) (.cond (tI 90) (.seq (.ops [iC 5 0]) (.seq (.ops [iF 92 5 3, iL 93 1 92, iD 94 .eql 93 1, iM 95 94, gF 96 95 (jM 0), gF 97 95 (.nilChk (tI 96)), gF 98 95 (jF 3 97), gF 99 95 (jL 1 98), gF 100 95 (jF 6 3), gF 101 95 (jL 1 100), gF 102 95 (jX 1 99 101), gF 103 95 (jL 1 102), gF 104 95 (jU 103), gF 105 95 (jM 104), gT 106 105 (jM 0), gT 107 105 (jT 7 3), ⟨(.some 108), (.call .true (.c (.fn 36 [])) [(tI 106), (tI 107)]), (.some (105, .true))⟩, gF 109 95 (jQ 105 108), iP 110 95 109]) (.cond (tI 110) (.ops [iC 5 1]) .skip))) (.seq (.ops [iD 112 .eql 51 5, iM 111 112]) (.cond (tI 111) (.ops [iM 113 4, iF 114 0 3, iF 115 2 114, iL 116 1 115, iB 117 .add 113 116, iM 4 117]) .skip)))))))))))) (.ops [iM 118 0, iM 119 0, iM 120 0, oI 121 (.nilChk (tI 120)), iF 122 2 121, iL 123 1 122, iT 124 7 3, iM 125 4, iM 126 5, oI 127 (.call .true (.c (.fn 37 [])) [(tI 119), (tI 123), (tI 124), (tI 125), (tI 126)]), oI 128 (.nilChk (tI 118)), iF 129 2 128, gN (jV 1 129 127)])))))))
def ir27 : IFun :=
  ⟨134, [(.tmp 2)], (.seq (.ops [⟨(.some 2), (.mv (.c (.p (.val (.string ⟨([] : List UInt8).toArray⟩))))), .none⟩]) (.seq (.seq (.frzS [] [] [(0, (1, (5, 1)))]) (.block 0 (.loop [0, 1000001000501] Ig))) (.seq (.ops [iM 130 0, oI 131 (.nilChk (tI 130)), iF 132 0 131, oI 133 (.call .true (.c (.fn 38 [])) [(tI 132)]), iM 2 133]) .ret)))⟩
theorem Et : Zo prog (shOf sh []) [[0, 1000001000501]] f27 = some ir27 := by kernel_rfl
def N5 : IC :=
  (.seq (.ops [iB 27 .lss 26 25]) (.seq (.cond (tI 27) .skip (.exit 0)) (.seq (.block 1 (.seq (.ops [iX 28 4 24 26, iT 29 4 28, ⟨(.some 8), (.alloc 25 [zZ, (.z (.val (.string ⟨([] : List UInt8).toArray⟩))), zZ, (.r 25 4)]), .none⟩, gN (jV 4 8 29)]) (.seq (.ops [iL 30 1 2, iT 31 4 8, oI 32 (.call .true (tI 30) [(tI 31)])]) (.cond (tI 32) (.ops [iE 6 true]) .skip)))) (.ops [iD 33 .add 26 1, iM 26 33]))))
def ir28 : IFun :=
  ⟨39, [(.tmp 4)], (.seq (.ops [oI 3 (.box 25 (tI 0)), iE 4 false]) (.seq (.ops [iL 9 1 1, iN 10 9, iM 5 10]) (.seq (.ops [iF 11 0 3, iL 12 1 11, iD 13 .eql 12 2, iM 14 13, gF 15 14 (jF 1 3), gF 16 14 (jL 1 15), ⟨(.some 17), (.call .false (.c (.fn 29 [])) [(tI 16), (.c (.p (.val (.string ⟨([10] : List UInt8).toArray⟩))))]), (.some (14, .false))⟩, iP 18 14 17, iM 6 18]) (.seq (.ops [iL 19 1 1, iM 20 6, oI 21 (.buildS 4 1 [(.val (.bool .false))] 1 [(0, (tI 20))]), oI 22 (.append 4 1 1 [(.val (.bool .false))] (tI 19) (tI 21)), gN (jV 1 1 22)]) (.seq (.seq (.ops [iF 23 3 3, iL 24 1 23, iN 25 24, iC 26 0]) (.block 0 (.loop [1, 2, 5, 6, 24, 25, 26] N5))) (.seq (.ops [iL 34 1 1, iM 35 5, iM 36 6, iX 37 1 34 35, gN (jV 1 37 36)]) (.seq (.ops [iM 38 6, iM 4 38]) .ret)))))))⟩
theorem Eu : Zo prog (shOf sh []) [[1, 2, 5, 6, 24, 25, 26]] f28 = some ir28 := by kernel_rfl
def ir29 : IFun :=
  ⟨9, [(.tmp 4)], (.seq (.ops [iE 4 false]) (.seq (.ops [iM 5 0, iM 6 1, oI 7 (.call .false (.c (.fn 39 [])) [(tI 5), (tI 6)]), iD 8 .geq 7 0, iM 4 8]) .ret))⟩
theorem Ew : Zo prog (shOf sh []) [] f29 = some ir29 := by kernel_rfl
def Ih : IC :=
  (.seq (.ops [iB 16 .lss 15 14]) (.seq (.cond (tI 16) .skip (.exit 0)) (.seq (.block 1 (.seq (.ops [iX 17 4 13 15, iT 18 4 17, ⟨(.some 6), (.alloc 25 [zZ, (.z (.val (.string ⟨([] : List UInt8).toArray⟩))), zZ, (.r 25 4)]), .none⟩, gN (jV 4 6 18)]) (.ops [iL 19 1 2, iT 20 4 6, oI 21 (.call .true (tI 19) [(tI 20)])]))) (.ops [iD 22 .add 15 1, iM 15 22]))))
def ir30 : IFun :=
  ⟨30, [], (.seq (.ops [oI 3 (.box 25 (tI 0))]) (.seq (.ops [iL 7 1 1, iN 8 7, iM 4 8]) (.seq (.ops [iL 9 1 1, oI 10 (.buildS 3 1 [z6] 1 [(0, (cI 0))]), oI 11 (.append 3 1 8 [z6] (tI 9) (tI 10)), gN (jV 1 1 11)]) (.seq (.seq (.ops [iF 12 3 3, iL 13 1 12, iN 14 13, iC 15 0]) (.block 0 (.loop [1, 2, 4, 13, 14, 15] Ih))) (.ops [iL 23 1 1, iM 24 4, iL 25 1 1, iN 26 25, iM 27 4, iB 28 .sub 26 27, iX 29 1 23 24, gN (jV 1 29 28)])))))⟩
theorem Ex : Zo prog (shOf sh []) [[1, 2, 4, 13, 14, 15]] f30 = some ir30 := by kernel_rfl
def ir31 : IFun :=
  ⟨8, [(.tmp 2)], (.seq (.ops [iC 2 0]) (.seq (.ops [iM 3 0, oI 4 (.nilChk (tI 3)), iF 5 1 4, iL 6 1 5, iN 7 6, iM 2 7]) .ret))⟩
theorem Ey : Zo prog (shOf sh []) [] f31 = some ir31 := by kernel_rfl
def ir32 : IFun :=
  ⟨68, [], (.seq (.seq (.ops [iM 7 1, ⟨(.some 8), (.bin .eql (tI 7) (.c (.p (.val (.string ⟨([] : List UInt8).toArray⟩))))), .none⟩]) (.cond (tI 8) .ret .skip)) (.seq (.seq (.ops [iM 9 0, oI 10 (.nilChk (tI 9)), iF 11 7 10, iL 12 1 11, iM 13 12, gT 14 13 (jM 1), gT 15 13 (.indexS (tI 14) (cI 0)), ⟨(.some 16), (.bin .neq (tI 15) (.c (.p (.val (.int .u8 10))))), (.some (13, .true))⟩, iQ 17 13 16]) (.cond (tI 17) (.ops [iM 18 0, oI 19 (.nilChk (tI 18)), iF 20 0 19, iM 21 2, ⟨(.some 22), (.call .false (.c (.fn 35 [])) [(.c (.p (.val (.string ⟨([32] : List UInt8).toArray⟩)))), (tI 21)]), .none⟩, oI 23 (.call .true (.c (.fn 34 [])) [(tI 20), (tI 22)])]) .skip)) (.seq (.ops [iM 24 0, oI 25 (.nilChk (tI 24)), iF 26 0 25, iM 27 1, oI 28 (.call .true (.c (.fn 34 [])) [(tI 26), (tI 27)])]) (.seq (.ops [iM 29 1, oI 30 (.call .false (.c (.fn 40 [])) [(tI 29), (.c (.p (.val (.int .u8 10))))]), iM 6 30]) (.seq (.ops [iM 31 0, iM 32 6, iM 33 1, iS 34 33, iD 35 .sub 34 1, iB 36 .eql 32 35, oI 37 (.nilChk (tI 31)), iF 38 7 37, gN (jV 1 38 36)]) (.block 0 (.seq (.ops [iM 49 0, oI 50 (.nilChk (tI 49)), iF 51 7 50, iL 52 1 51, iM 48 52]) (.cond (tI 48) (.ops [iM 53 0, iM 54 2, oI 55 (.nilChk (tI 53)), iF 56 6 55, gN (jV 1 56 54)]) (.seq (.ops [iM 58 6, iD 59 .geq 58 0, iM 57 59]) (.cond (tI 57) (.ops [iM 60 0, iM 61 1, iS 62 61, iD 63 .sub 62 1, iM 64 6, iB 65 .sub 63 64, oI 66 (.nilChk (tI 60)), iF 67 6 66, gN (jV 1 67 65)]) (.ops [iM 39 0, oI 40 (.nilChk (tI 39)), iF 41 6 40, iL 42 1 41, iM 43 1, iS 44 43, iB 45 .add 42 44, oI 46 (.nilChk (tI 39)), iF 47 6 46, gN (jV 1 47 45)])))))))))))⟩
theorem Ez : Zo prog (shOf sh []) [] f32 = some ir32 := by kernel_rfl
def ir33 : IFun :=
  ⟨15, [], (.seq (.ops [iM 4 0, oI 5 (.nilChk (tI 4)), iF 6 0 5, oI 7 (.call .true (.c (.fn 41 [])) [(tI 6), (.c (.p (.val (.int .u8 10))))])]) (.ops [iM 8 0, iM 9 0, iM 10 1, oI 11 (.nilChk (tI 8)), iF 12 6 11, gN (jV 1 12 10), oI 13 (.nilChk (tI 9)), iF 14 7 13, gN (.store 1 (tI 14) (cB true))]))⟩
theorem EA : Zo prog (shOf sh []) [] f33 = some ir33 := by kernel_rfl
def ir34 : IFun :=
  ⟨19, [(.tmp 4), (.tmp 5)], (.seq (.ops [iC 4 0, oI 5 (.mv (.c (.p (.val .nilIface))))]) (.seq (.ops [iM 6 0, oI 7 (.call .true (.c (.fn 42 [])) [(tI 6)])]) (.seq (.ops [iM 8 0, iM 9 0, oI 10 (.nilChk (tI 9)), iF 11 1 10, iL 12 1 11, iM 13 1, oI 14 (.append 5 1 1 [(.val (.int .u8 0))] (tI 12) (tI 13)), oI 15 (.nilChk (tI 8)), iF 16 1 15, gN (jV 1 16 14)]) (.seq (.ops [iM 17 1, iS 18 17, iM 4 18, oI 5 (.mv (.c (.p (.val .nilIface))))]) .ret))))⟩
theorem EB : Zo prog (shOf sh []) [] f34 = some ir34 := by kernel_rfl
def Ii : IC :=
  (.seq (.seq (.ops [iM 27 5, iL 28 1 2, oI 29 (.nilChk (tI 28)), iF 30 5 29, iL 31 1 30, iB 32 .leq 27 31]) (.cond (tI 32) .skip (.exit 0))) (.block 1 (.seq (.ops [iM 34 8, oI 35 (.call .true (tI 34) []), iM 33 35, oI 36 (.extract (tI 33) 0), oI 37 (.extract (tI 33) 1), ⟨(.some 9), (.alloc 60 [zZ, (.z (.val (.string ⟨([] : List UInt8).toArray⟩))), zZ, (.r 25 4), zZ, zZ, zZ]), .none⟩, gN (jV 7 9 36), iM 10 37]) (.seq (.seq (.ops [iM 38 10, iU 39 38]) (.cond (tI 39) (.exit 0) .skip)) (.seq (.ops [iF 40 0 9, iF 41 0 40, iL 42 1 41]) (.block 2 (.seq (.ops [iD 50 .eql 42 0, iM 49 50]) (.cond (tI 49) (.seq (.ops [iF 52 0 9, iF 53 1 52, iL 54 1 53, ⟨(.some 55), (.call .false (.c (.fn 47 [])) [(tI 54), (.c (.p (.val (.string ⟨([10] : List UInt8).toArray⟩))))]), .none⟩, iM 51 55, oI 56 (.extract (tI 51) 0), oI 57 (.extract (tI 51) 1), oI 58 (.extract (tI 51) 2), iM 11 56, iM 12 57, iM 13 58]) (.seq (.ops [iM 59 5, iM 60 11, iS 61 60, iB 62 .add 59 61, iM 5 62]) (.seq (.ops [iM 63 13]) (.cond (tI 63) (.exit 0) .skip)))) (.seq (.ops [iD 65 .eql 42 1, iM 64 65]) (.cond (tI 64) (.seq (.seq (.ops [iF 66 5 9, iL 67 1 66, iD 68 .eql 67 0]) (.cond (tI 68) (.exit 0) .skip)) (.ops [iM 69 5, iF 70 0 9, iF 71 2 70, iL 72 1 71, iB 73 .add 69 72, iM 5 73])) (.seq (.ops [iD 75 .eql 42 2, iM 74 75]) (.cond (tI 74) (.exit 0) (.seq (.ops [iD 77 .eql 42 4, iM 76 77]) (.cond (tI 76) (.ops [iL 78 1 2, iL 79 1 6, iT 80 7 9, oI 81 (.call .true (.c (.fn 37 [])) [(tI 78), (tI 79), (tI 80), (cI 0), (cI 1)]), gN (jV 1 6 81)]) (.ops [iL 43 1 2, iL 44 1 6, iT 45 7 9, iF 46 5 9, iL 47 1 46, oI 48 (.call .true (.c (.fn 37 [])) [(tI 43), (tI 44), (tI 45), (cI 0), (tI 47)]), gN (jV 1 6 48)])))))))))))))))
def Ij : IC :=
  (.block 1000000 (.seq (.seq (.block 0 (.loop [2, 5, 6, 8] Ii)) (.seq (.ops [iM 82 5, iL 83 1 2, oI 84 (.nilChk (tI 83)), iF 85 5 84, iL 86 1 85, iB 87 .leq 82 86, iM 4 87]) .ret)) (.exit 2000000)))
def ir36 : IFun :=
  ⟨88, [(.tmp 4)], (.seq (.ops [oI 2 (.box 56 (tI 0)), oI 3 (.box 60 (tI 1)), iE 4 false]) (.seq (.ops [iL 14 1 2, oI 15 (.nilChk (tI 14)), iF 16 6 15, iL 17 1 16, iM 5 17]) (.seq (.ops [iL 18 1 2, iT 19 7 3, oI 20 (.call .true (.c (.fn 37 [])) [(tI 18), (.c zN), (tI 19), (cI 0), (cI 1)]), oI 6 (.alloc 61 [(.r 60 7)]), gN (jV 1 6 20)]) (.seq (.ops [iL 21 1 2, oI 22 (.nilChk (tI 21)), iF 23 2 22, iL 24 1 23, iN 25 24, oI 7 (.alloc 3 [zZ]), gN (jV 1 7 25)]) (.seq (.ops [oI 26 (.mkfn 46 [(tI 6), (tI 7), (tI 2)]), iM 8 26]) (.block 2000000 (.loop [2, 5, 6, 8] Ij)))))))⟩
theorem EC : Zo prog (shOf sh []) [[2, 5, 6, 8], [2, 5, 6, 8]] f36 = some ir36 := by kernel_rfl
def XE : IC :=
  (.seq (.seq (.ops [iM 52 15, iM 53 16, iB 54 .lss 52 53]) (.cond (tI 54) .skip (.exit 2))) (.seq (.block 3 (.ops [iM 59 1, iM 60 15, iM 61 1, iM 62 16, iM 63 1, iM 64 16, iX 65 7 63 64, iT 66 7 65, iM 67 1, iM 68 15, iX 69 7 67 68, iT 70 7 69, iX 71 7 59 60, gN (jV 7 71 66), iX 72 7 61 62, gN (jV 7 72 70)])) (.ops [iM 55 15, iD 56 .add 55 1, iM 57 16, iD 58 .sub 57 1, iM 15 56, iM 16 58])))
def XF : IC :=
  (.seq (.ops [iB 27 .lss 26 25]) (.seq (.cond (tI 27) .skip (.exit 0)) (.seq (.block 1 (.seq (.ops [iX 28 4 24 26, iT 29 4 28, ⟨(.some 14), (.alloc 25 [zZ, (.z (.val (.string ⟨([] : List UInt8).toArray⟩))), zZ, (.r 25 4)]), .none⟩, gN (jV 4 14 29)]) (.seq (.ops [iM 30 1, iT 31 4 14, iM 32 3, iM 33 4, iM 34 11, ⟨(.some 35), (.build [z6, (.val (.string ⟨([] : List UInt8).toArray⟩)), z6, zM, z6, z6, z6] [(0, (4, (tI 31))), (4, (1, (tI 32))), (5, (1, (tI 33))), (6, (1, (tI 34)))]), .none⟩, ⟨(.some 36), (.buildS 60 7 [z6, (.val (.string ⟨([] : List UInt8).toArray⟩)), z6, zM, z6, z6, z6] 1 [(0, (tI 35))]), .none⟩, ⟨(.some 37), (.append 60 7 80 [z6, (.val (.string ⟨([] : List UInt8).toArray⟩)), z6, zM, z6, z6, z6] (tI 30) (tI 36)), .none⟩, iM 1 37]) (.ops [iM 38 11, iM 39 0, oI 40 (.nilChk (tI 39)), iF 41 4 40, iL 42 1 41, iM 43 11, iX 44 1 42 43, iL 45 1 44, iB 46 .add 38 45, iM 11 46])))) (.ops [iD 47 .add 26 1, iM 26 47]))))
def ir37 : IFun :=
  ⟨74, [(.tmp 10)], (.seq (.ops [oI 7 (.box 60 (tI 2)), oI 10 (.nilrow 60 7)]) (.seq (.ops [iF 17 6 7, iL 18 1 17, iD 19 .add 18 1, iM 11 19]) (.seq (.ops [iM 20 1, iN 21 20, iM 12 21]) (.seq (.seq (.ops [iF 22 0 7, iF 23 3 22, iL 24 1 23, iN 25 24, iC 26 0]) (.seq (.frzS [] [] [(1, (99, (60, 7)))]) (.block 0 (.loop [0, 1, 3, 4, 11, 12, 24, 25, 26, 1000199006007] XF)))) (.seq (.seq (.ops [iM 48 12, iM 49 1, iN 50 49, iD 51 .sub 50 1, iM 15 48, iM 16 51]) (.block 2 (.loop [1, 15, 16] XE))) (.seq (.ops [iM 73 1, iM 10 73]) .ret))))))⟩
theorem ED : Zo prog (shOf sh []) [[0, 1, 3, 4, 11, 12, 24, 25, 26, 1000199006007], [1, 15, 16]] f37 = some ir37 := by kernel_rfl
def ir38 : IFun :=
  ⟨14, [(.tmp 2)], (.seq (.ops [⟨(.some 2), (.mv (.c (.p (.val (.string ⟨([] : List UInt8).toArray⟩))))), .none⟩]) (.seq (.ops [iM 3 0, oI 4 (.nilChk (tI 3)), iF 5 1 4, iL 6 1 5, oI 7 (.slData (tI 6)), iM 8 0, oI 9 (.nilChk (tI 8)), iF 10 1 9, iL 11 1 10, iN 12 11, oI 13 (.uStr 5 (tI 7) (tI 12)), iM 2 13]) .ret))⟩
theorem EE : Zo prog (shOf sh []) [] f38 = some ir38 := by kernel_rfl
def ir39 : IFun :=
  ⟨8, [(.tmp 4)], (.seq (.ops [iC 4 0]) (.seq (.ops [iM 5 0, iM 6 1, oI 7 (.call .false (.c (.fn 48 [])) [(tI 5), (tI 6)]), iM 4 7]) .ret))⟩
theorem EF : Zo prog (shOf sh []) [] f39 = some ir39 := by kernel_rfl
def ir40 : IFun :=
  ⟨8, [(.tmp 4)], (.seq (.ops [iC 4 0]) (.seq (.ops [iM 5 0, iM 6 1, oI 7 (.call .false (.c (.fn 49 [])) [(tI 5), (tI 6)]), iM 4 7]) .ret))⟩
theorem EG : Zo prog (shOf sh []) [] f40 = some ir40 := by kernel_rfl
def ir41 : IFun :=
  ⟨17, [(.tmp 4)], (.seq (.ops [oI 4 (.mv (.c (.p (.val .nilIface))))]) (.seq (.ops [iM 5 0, oI 6 (.call .true (.c (.fn 42 [])) [(tI 5)])]) (.seq (.ops [iM 7 0, iM 8 0, oI 9 (.nilChk (tI 8)), iF 10 1 9, iL 11 1 10, iM 12 1, oI 13 (.buildS 5 1 [(.val (.int .u8 0))] 1 [(0, (tI 12))]), oI 14 (.append 5 1 1 [(.val (.int .u8 0))] (tI 11) (tI 13)), oI 15 (.nilChk (tI 7)), iF 16 1 15, gN (jV 1 16 14)]) (.seq (.ops [oI 4 (.mv (.c (.p (.val .nilIface))))]) .ret))))⟩
theorem EH : Zo prog (shOf sh []) [] f41 = some ir41 := by kernel_rfl
def ir42 : IFun :=
  ⟨20, [], (.seq (.ops [iM 2 0, oI 3 (.nilChk (tI 2)), iF 4 0 3, iL 5 1 4, oI 6 (.eqP .false (tI 5) (.c (.p (.val (.pointer .none)))))]) (.cond (tI 6) (.ops [iM 7 0, iM 8 0, oI 9 (.cvU (tI 8)), iM 10 9, oI 11 (.cvP [(64, (2, 0)), (65, (8, 0)), (66, (8, 0))] (tI 10)), oI 12 (.nilChk (tI 7)), iF 13 0 12, gN (jV 1 13 11)]) (.seq (.ops [iM 14 0, oI 15 (.nilChk (tI 14)), iF 16 0 15, iL 17 1 16, iM 18 0, oI 19 (.eqP .true (tI 17) (tI 18))]) (.cond (tI 19) .bad .skip))))⟩
theorem EI : Zo prog (shOf sh []) [] f42 = some ir42 := by kernel_rfl
def ir46 : IFun :=
  ⟨33, [(.cell 3 .true 7), (.tmp 4)], (.seq (.ops [⟨(.some 3), (.alloc 60 [zZ, (.z (.val (.string ⟨([] : List UInt8).toArray⟩))), zZ, (.r 25 4), zZ, zZ, zZ]), .none⟩, iE 4 false]) (.seq (.seq (.ops [iL 7 1 0, iN 8 7, iM 5 8]) (.seq (.ops [iM 9 5, iD 10 .gtr 9 0]) (.cond (tI 10) (.seq (.ops [iL 11 1 0, iM 12 5, iD 13 .sub 12 1, iX 14 7 11 13, iT 15 7 14, ⟨(.some 6), (.alloc 60 [zZ, (.z (.val (.string ⟨([] : List UInt8).toArray⟩))), zZ, (.r 25 4), zZ, zZ, zZ]), .none⟩, gN (jV 7 6 15)]) (.seq (.ops [iL 16 1 0, iM 17 5, iD 18 .sub 17 1, oI 19 (.slice 7 (tI 16) .none (.some (tI 18))), gN (jV 1 0 19)]) (.seq (.ops [iT 20 7 6, gN (jV 7 3 20), iE 4 true]) .ret))) .skip))) (.seq (.seq (.ops [iL 21 1 1, iD 22 .eql 21 0]) (.cond (tI 22) (.seq (.ops [⟨(.some 23), (.build [z6, (.val (.string ⟨([] : List UInt8).toArray⟩)), z6, zM, z6, z6, z6] []), .none⟩, gN (jV 7 3 23), iE 4 false]) .ret) .skip)) (.seq (.ops [iL 24 1 1, iD 25 .sub 24 1, gN (jV 1 1 25)]) (.seq (.ops [iL 26 1 2, oI 27 (.nilChk (tI 26)), iF 28 2 27, iL 29 1 28, iL 30 1 1, iX 31 7 29 30, iT 32 7 31, gN (jV 7 3 32), iE 4 true]) .ret)))))⟩
theorem EJ : Zo prog (shOf sh []) [] f46 = some ir46 := by kernel_rfl
def ir47 : IFun :=
  ⟨13, [(.tmp 4), (.tmp 5), (.tmp 6)], (.seq (.ops [⟨(.some 4), (.mv (.c (.p (.val (.string ⟨([] : List UInt8).toArray⟩))))), .none⟩, ⟨(.some 5), (.mv (.c (.p (.val (.string ⟨([] : List UInt8).toArray⟩))))), .none⟩, iE 6 false]) (.seq (.ops [iM 7 0, iM 8 1, oI 9 (.call .false (.c (.fn 55 [])) [(tI 7), (tI 8)]), oI 10 (.extract (tI 9) 0), oI 11 (.extract (tI 9) 1), oI 12 (.extract (tI 9) 2), iM 4 10, iM 5 11, iM 6 12]) .ret))⟩
theorem EK : Zo prog (shOf sh []) [] f47 = some ir47 := by kernel_rfl
def EL : IC :=
  (.seq (.seq (.ops [iM 57 8, iM 58 9, iB 59 .lss 57 58]) (.cond (tI 59) .skip (.exit 1))) (.block 2 (.seq (.seq (.ops [iM 60 0, iM 61 8, oI 62 (.indexS (tI 60) (tI 61)), iM 63 6, iB 64 .neq 62 63]) (.cond (tI 64) (.seq (.ops [iM 65 0, iM 66 8, iD 67 .add 66 1, iM 68 9, oI 69 (.sliceS (tI 65) (.some (tI 67)) (.some (tI 68))), iM 70 6, oI 71 (.call .false (.c (.fn 56 [])) [(tI 69), (tI 70)]), iM 11 71]) (.seq (.seq (.ops [iM 72 11, iD 73 .lss 72 0]) (.cond (tI 73) (.seq (.ops [oI 4 (.mv (cI (-1)))]) .ret) .skip)) (.ops [iM 74 8, iM 75 11, iD 76 .add 75 1, iB 77 .add 74 76, iM 8 77]))) .skip)) (.seq (.seq (.ops [iM 78 0, iM 79 8, iD 80 .add 79 1, oI 81 (.indexS (tI 78) (tI 80)), iM 82 7, iB 83 .eql 81 82, iM 84 83, gT 85 84 (jM 0), gT 86 84 (jM 8), gT 87 84 (jM 8), gT 88 84 (jM 5), gT 89 84 (jB .add 87 88), ⟨(.some 90), (.sliceS (tI 85) (.some (tI 86)) (.some (tI 89))), (.some (84, .true))⟩, gT 91 84 (jM 1), gT 92 84 (jB .eql 90 91), iQ 93 84 92]) (.cond (tI 93) (.seq (.ops [iM 94 8, iM 4 94]) .ret) .skip)) (.seq (.ops [iM 95 8, iD 96 .add 95 1, iM 8 96]) (.seq (.ops [iM 97 10, iD 98 .add 97 1, iM 10 98]) (.seq (.ops [iM 99 5, oI 100 (.load .false 1 (.g 0)), iB 101 .leq 99 100, iM 102 101, gT 103 102 (jM 10), gT 104 102 (jM 8), gT 105 102 (jK 58 104), gT 106 102 (jB .gtr 103 105), iQ 107 102 106]) (.cond (tI 107) (.seq .bad (.seq (.seq (.ops [iM 113 12, iD 114 .geq 113 0]) (.cond (tI 114) (.seq (.ops [iM 115 12, iM 116 8, iB 117 .add 115 116, iM 4 117]) .ret) .skip)) (.seq (.ops [oI 4 (.mv (cI (-1)))]) .ret))) (.seq (.ops [iM 118 5, oI 119 (.load .false 1 (.g 0)), iB 120 .gtr 118 119, iM 121 120, gT 122 121 (jM 10), gT 123 121 (jM 8), ⟨(.some 124), (.bin .shr (tI 123) (.c (.p (.val (.int .u64 4))))), (.some (121, .true))⟩, gT 125 121 (.bin .add (cI 4) (tI 124)), gT 126 121 (jB .geq 122 125), iQ 127 121 126, iM 128 127, gT 129 128 (jM 8), gT 130 128 (jM 9), gT 131 128 (jB .lss 129 130), iQ 132 128 131]) (.cond (tI 132) (.seq (.ops [iM 133 0, iM 134 8, oI 135 (.sliceS (tI 133) (.some (tI 134)) .none), iM 136 1, oI 137 (.call .false (.c (.fn 59 [])) [(tI 135), (tI 136)]), iM 13 137]) (.seq (.seq (.ops [iM 138 13, iD 139 .lss 138 0]) (.cond (tI 139) (.seq (.ops [oI 4 (.mv (cI (-1)))]) .ret) .skip)) (.seq (.ops [iM 140 8, iM 141 13, iB 142 .add 140 141, iM 4 142]) .ret))) .skip))))))))))
def ir48 : IFun :=
  ⟨143, [(.tmp 4)], (.seq (.ops [iC 4 0]) (.seq (.ops [iM 14 1, iS 15 14, iM 5 15]) (.seq (.block 0 (.seq (.ops [iM 17 5, iD 18 .eql 17 0, iM 19 18, gF 20 19 (jM 1), gF 21 19 (jM 0), gF 22 19 (jB .eql 20 21), iP 23 19 22, iM 16 23]) (.cond (tI 16) (.seq (.ops [iC 4 0]) .ret) (.seq (.ops [iM 25 5, iD 26 .eql 25 1, iM 24 26]) (.cond (tI 24) (.seq (.ops [iM 27 0, iM 28 1, oI 29 (.indexS (tI 28) (cI 0)), oI 30 (.call .false (.c (.fn 56 [])) [(tI 27), (tI 29)]), iM 4 30]) .ret) (.seq (.ops [iM 32 5, iM 33 0, iS 34 33, iB 35 .geq 32 34, iM 31 35]) (.cond (tI 31) (.seq (.ops [oI 4 (.mv (cI (-1)))]) .ret) (.seq (.ops [iM 37 5, oI 38 (.load .false 1 (.g 0)), iB 39 .leq 37 38, iM 40 39, gT 41 40 (jM 0), gT 42 40 (jS 41), gT 43 40 (jD .leq 42 64), iQ 44 40 43, iM 36 44]) (.cond (tI 36) (.seq .bad .ret) .skip))))))))) (.seq (.ops [iM 48 1, oI 49 (.indexS (tI 48) (cI 0)), iM 6 49]) (.seq (.ops [iM 50 1, oI 51 (.indexS (tI 50) (cI 1)), iM 7 51]) (.seq (.ops [iC 8 0]) (.seq (.ops [iM 52 0, iS 53 52, iM 54 5, iB 55 .sub 53 54, iD 56 .add 55 1, iM 9 56]) (.seq (.ops [iC 10 0]) (.seq (.block 1 (.loop [0, 1, 5, 6, 7, 8, 9, 10] EL)) (.seq (.ops [oI 4 (.mv (cI (-1)))]) .ret))))))))))⟩
theorem EM : Zo prog (shOf sh []) [[0, 1, 5, 6, 7, 8, 9, 10]] f48 = some ir48 := by kernel_rfl
def Ik : IC :=
  (.seq (.seq (.ops [iM 9 5, iD 10 .geq 9 0]) (.cond (tI 10) .skip (.exit 0))) (.seq (.block 1 (.seq (.ops [iM 13 0, iM 14 5, oI 15 (.indexS (tI 13) (tI 14)), iM 16 1, iB 17 .eql 15 16]) (.cond (tI 17) (.seq (.ops [iM 18 5, iM 4 18]) .ret) .skip))) (.ops [iM 11 5, iD 12 .sub 11 1, iM 5 12])))
def ir49 : IFun :=
  ⟨19, [(.tmp 4)], (.seq (.ops [iC 4 0]) (.seq (.seq (.ops [iM 6 0, iS 7 6, iD 8 .sub 7 1, iM 5 8]) (.block 0 (.loop [0, 1, 5] Ik))) (.seq (.ops [oI 4 (.mv (cI (-1)))]) .ret)))⟩
theorem EN : Zo prog (shOf sh []) [[0, 1, 5]] f49 = some ir49 := by kernel_rfl
def ir55 : IFun :=
  ⟨23, [(.tmp 4), (.tmp 5), (.tmp 6)], (.seq (.ops [⟨(.some 4), (.mv (.c (.p (.val (.string ⟨([] : List UInt8).toArray⟩))))), .none⟩, ⟨(.some 5), (.mv (.c (.p (.val (.string ⟨([] : List UInt8).toArray⟩))))), .none⟩, iE 6 false]) (.seq (.seq (.ops [iM 8 0, iM 9 1, oI 10 (.call .false (.c (.fn 48 [])) [(tI 8), (tI 9)]), iM 7 10]) (.seq (.ops [iM 11 7, iD 12 .geq 11 0]) (.cond (tI 12) (.seq (.ops [iM 13 0, iM 14 7, oI 15 (.sliceS (tI 13) .none (.some (tI 14))), iM 16 0, iM 17 7, iM 18 1, iS 19 18, iB 20 .add 17 19, oI 21 (.sliceS (tI 16) (.some (tI 20)) .none), iM 4 15, iM 5 21, iE 6 true]) .ret) .skip))) (.seq (.ops [iM 22 0, iM 4 22, ⟨(.some 5), (.mv (.c (.p (.val (.string ⟨([] : List UInt8).toArray⟩))))), .none⟩, iE 6 false]) .ret)))⟩
theorem EO : Zo prog (shOf sh []) [] f55 = some ir55 := by kernel_rfl
def ir56 : IFun :=
  ⟨8, [(.tmp 4)], (.seq (.ops [iC 4 0]) (.seq (.ops [iM 5 0, iM 6 1, oI 7 (.ixb (tI 5) (tI 6)), iM 4 7]) .ret))⟩
theorem EP : Zo prog (shOf sh []) [] f56 = some ir56 := by kernel_rfl
def ir58 : IFun :=
  ⟨6, [(.tmp 2)], (.seq (.ops [iC 2 0]) (.seq (.ops [iM 3 0, iD 4 .add 3 16, iD 5 .quo 4 8, iM 2 5]) .ret))⟩
theorem EQ : Zo prog (shOf sh []) [] f58 = some ir58 := by kernel_rfl
def ER : IC :=
  (.seq (.seq (.ops [iM 41 10, iM 42 0, iS 43 42, iB 44 .lss 41 43]) (.cond (tI 44) .skip (.exit 2))) (.block 3 (.seq (.ops [iM 45 8, oI 46 (.bin .mul (tI 45) (.c (.p (.val (.int .u32 16777619))))), iM 8 46]) (.seq (.ops [iM 47 8, iM 48 0, iM 49 10, oI 50 (.indexS (tI 48) (tI 49)), oI 51 (.convI .u32 (tI 50)), iB 52 .add 47 51, iM 8 52]) (.seq (.ops [iM 53 8, iM 54 6, iM 55 0, iM 56 10, iM 57 7, iB 58 .sub 56 57, oI 59 (.indexS (tI 55) (tI 58)), oI 60 (.convI .u32 (tI 59)), iB 61 .mul 54 60, iB 62 .sub 53 61, iM 8 62]) (.seq (.ops [iM 63 10, iD 64 .add 63 1, iM 10 64]) (.seq (.ops [iM 65 8, iM 66 5, iB 67 .eql 65 66, iM 68 67, gT 69 68 (jM 0), gT 70 68 (jM 10), gT 71 68 (jM 7), gT 72 68 (jB .sub 70 71), gT 73 68 (jM 10), ⟨(.some 74), (.sliceS (tI 69) (.some (tI 72)) (.some (tI 73))), (.some (68, .true))⟩, gT 75 68 (jM 1), gT 76 68 (jB .eql 74 75), iQ 77 68 76]) (.cond (tI 77) (.seq (.ops [iM 78 10, iM 79 7, iB 80 .sub 78 79, iM 4 80]) .ret) .skip))))))))
def ES : IC :=
  (.seq (.seq (.ops [iM 18 9, iM 19 7, iB 20 .lss 18 19]) (.cond (tI 20) .skip (.exit 0))) (.seq (.block 1 (.ops [iM 23 8, oI 24 (.bin .mul (tI 23) (.c (.p (.val (.int .u32 16777619))))), iM 25 0, iM 26 9, oI 27 (.indexS (tI 25) (tI 26)), oI 28 (.convI .u32 (tI 27)), iB 29 .add 24 28, iM 8 29])) (.ops [iM 21 9, iD 22 .add 21 1, iM 9 22])))
def ir59 : IFun :=
  ⟨81, [(.tmp 4)], (.seq (.ops [iC 4 0]) (.seq (.ops [iM 12 1, iK 13 62 12, iM 11 13, oI 14 (.extract (tI 11) 0), oI 15 (.extract (tI 11) 1), iM 5 14, iM 6 15]) (.seq (.ops [iM 16 1, iS 17 16, iM 7 17]) (.seq (.ops [oI 8 (.mv (.c (.p (.val (.int .u32 0)))))]) (.seq (.seq (.ops [iC 9 0]) (.block 0 (.loop [0, 1, 5, 6, 7, 8, 9] ES))) (.seq (.seq (.ops [iM 30 8, iM 31 5, iB 32 .eql 30 31, iM 33 32, gT 34 33 (jM 0), gT 35 33 (jM 7), ⟨(.some 36), (.sliceS (tI 34) .none (.some (tI 35))), (.some (33, .true))⟩, gT 37 33 (jM 1), gT 38 33 (jB .eql 36 37), iQ 39 33 38]) (.cond (tI 39) (.seq (.ops [iC 4 0]) .ret) .skip)) (.seq (.seq (.ops [iM 40 7, iM 10 40]) (.block 2 (.loop [0, 1, 5, 6, 7, 8, 10] ER))) (.seq (.ops [oI 4 (.mv (cI (-1)))]) .ret))))))))⟩
theorem ET : Zo prog (shOf sh []) [[0, 1, 5, 6, 7, 8, 9], [0, 1, 5, 6, 7, 8, 10]] f59 = some ir59 := by kernel_rfl
def EU : IC :=
  (.seq (.seq (.ops [iM 24 8, iD 25 .gtr 24 0]) (.cond (tI 25) .skip (.exit 2))) (.seq (.block 3 (.seq (.seq (.ops [iM 28 8, iD 29 .and 28 1, iD 30 .neq 29 0]) (.cond (tI 30) (.ops [iM 31 6, iM 32 7, iB 33 .mul 31 32, iM 6 33]) .skip)) (.ops [iM 34 7, iM 35 7, iB 36 .mul 34 35, iM 7 36]))) (.ops [iM 26 8, oI 27 (.bin .shr (tI 26) (.c (.p (.val (.int .u64 1))))), iM 8 27])))
def EV : IC :=
  (.seq (.seq (.ops [iM 9 5, iM 10 0, iS 11 10, iB 12 .lss 9 11]) (.cond (tI 12) .skip (.exit 0))) (.seq (.block 1 (.ops [iM 15 4, oI 16 (.bin .mul (tI 15) (.c (.p (.val (.int .u32 16777619))))), iM 17 0, iM 18 5, oI 19 (.indexS (tI 17) (tI 18)), oI 20 (.convI .u32 (tI 19)), iB 21 .add 16 20, iM 4 21])) (.ops [iM 13 5, iD 14 .add 13 1, iM 5 14])))
def ir62 : IFun :=
  ⟨39, [(.tmp 2), (.tmp 3)], (.seq (.ops [oI 2 (.mv (.c (.p (.val (.int .u32 0))))), oI 3 (.mv (.c (.p (.val (.int .u32 0)))))]) (.seq (.ops [oI 4 (.mv (.c (.p (.val (.int .u32 0)))))]) (.seq (.seq (.ops [iC 5 0]) (.block 0 (.loop [0, 4, 5] EV))) (.seq (.ops [oI 6 (.mv (.c (.p (.val (.int .u32 1))))), oI 7 (.mv (.c (.p (.val (.int .u32 16777619)))))]) (.seq (.seq (.ops [iM 22 0, iS 23 22, iM 8 23]) (.block 2 (.loop [4, 6, 7, 8] EU))) (.seq (.ops [iM 37 4, iM 38 6, iM 2 37, iM 3 38]) .ret))))))⟩
theorem EW : Zo prog (shOf sh []) [[0, 4, 5], [4, 6, 7, 8]] f62 = some ir62 := by kernel_rfl
def fns : Nat → Option IFun
  | 4 => some ir4
  | 5 => some ir5
  | 6 => some ir6
  | 7 => some ir7
  | 8 => some ir8
  | 9 => some ir9
  | 12 => some ir12
  | 13 => some ir13
  | 14 => some ir14
  | 15 => some ir15
  | 16 => some ir16
  | 17 => some ir17
  | 18 => some ir18
  | 20 => some ir20
  | 21 => some ir21
  | 22 => some ir22
  | 23 => some ir23
  | 24 => some ir24
  | 25 => some ir25
  | 26 => some ir26
  | 27 => some ir27
  | 28 => some ir28
  | 29 => some ir29
  | 30 => some ir30
  | 31 => some ir31
  | 32 => some ir32
  | 33 => some ir33
  | 34 => some ir34
  | 36 => some ir36
  | 37 => some ir37
  | 38 => some ir38
  | 39 => some ir39
  | 40 => some ir40
  | 41 => some ir41
  | 42 => some ir42
  | 46 => some ir46
  | 47 => some ir47
  | 48 => some ir48
  | 49 => some ir49
  | 55 => some ir55
  | 56 => some ir56
  | 58 => some ir58
  | 59 => some ir59
  | 62 => some ir62
  | _ => none
theorem GQ : ∀ f F, fns f = some F → ∃ shf fd ann, prog.funcs[f]? = some fd ∧ Zo prog shf ann fd = some F := by
  intro f F h
  unfold fns at h
  split at h
  · injection h with h; subst h; exact ⟨_, _, _, func4, D0⟩
  · injection h with h; subst h; exact ⟨_, _, _, func5, D1⟩
  · injection h with h; subst h; exact ⟨_, _, _, func6, D2⟩
  · injection h with h; subst h; exact ⟨_, _, _, func7, D3⟩
  · injection h with h; subst h; exact ⟨_, _, _, func8, D4⟩
  · injection h with h; subst h; exact ⟨_, _, _, func9, D5⟩
  · injection h with h; subst h; exact ⟨_, _, _, func12, Ec⟩
  · injection h with h; subst h; exact ⟨_, _, _, func13, Ed⟩
  · injection h with h; subst h; exact ⟨_, _, _, func14, Ee⟩
  · injection h with h; subst h; exact ⟨_, _, _, func15, Ef⟩
  · injection h with h; subst h; exact ⟨_, _, _, func16, Eg⟩
  · injection h with h; subst h; exact ⟨_, _, _, func17, Eh⟩
  · injection h with h; subst h; exact ⟨_, _, _, func18, Ei⟩
  · injection h with h; subst h; exact ⟨_, _, _, func20, Ej⟩
  · injection h with h; subst h; exact ⟨_, _, _, func21, Ek⟩
  · injection h with h; subst h; exact ⟨_, _, _, func22, Em⟩
  · injection h with h; subst h; exact ⟨_, _, _, func23, En⟩
  · injection h with h; subst h; exact ⟨_, _, _, func24, Ep⟩
  · injection h with h; subst h; exact ⟨_, _, _, func25, Er⟩
  · injection h with h; subst h; exact ⟨_, _, _, func26, Es⟩
  · injection h with h; subst h; exact ⟨_, _, _, func27, Et⟩
  · injection h with h; subst h; exact ⟨_, _, _, func28, Eu⟩
  · injection h with h; subst h; exact ⟨_, _, _, func29, Ew⟩
  · injection h with h; subst h; exact ⟨_, _, _, func30, Ex⟩
  · injection h with h; subst h; exact ⟨_, _, _, func31, Ey⟩
  · injection h with h; subst h; exact ⟨_, _, _, func32, Ez⟩
  · injection h with h; subst h; exact ⟨_, _, _, func33, EA⟩
  · injection h with h; subst h; exact ⟨_, _, _, func34, EB⟩
  · injection h with h; subst h; exact ⟨_, _, _, func36, EC⟩
  · injection h with h; subst h; exact ⟨_, _, _, func37, ED⟩
  · injection h with h; subst h; exact ⟨_, _, _, func38, EE⟩
  · injection h with h; subst h; exact ⟨_, _, _, func39, EF⟩
  · injection h with h; subst h; exact ⟨_, _, _, func40, EG⟩
  · injection h with h; subst h; exact ⟨_, _, _, func41, EH⟩
  · injection h with h; subst h; exact ⟨_, _, _, func42, EI⟩
  · injection h with h; subst h; exact ⟨_, _, _, func46, EJ⟩
  · injection h with h; subst h; exact ⟨_, _, _, func47, EK⟩
  · injection h with h; subst h; exact ⟨_, _, _, func48, EM⟩
  · injection h with h; subst h; exact ⟨_, _, _, func49, EN⟩
  · injection h with h; subst h; exact ⟨_, _, _, func55, EO⟩
  · injection h with h; subst h; exact ⟨_, _, _, func56, EP⟩
  · injection h with h; subst h; exact ⟨_, _, _, func58, EQ⟩
  · injection h with h; subst h; exact ⟨_, _, _, func59, ET⟩
  · injection h with h; subst h; exact ⟨_, _, _, func62, EW⟩
  · cases h
end Go.Proofs.Try
