/- The instructions of the functions, as the program has them. -/
import Derived.Test.YtcdebkkjbminoaaDoorProg
import Derived.Test.YtcdebkkjbminoaaDoorVD
namespace Go.Proofs.Tryd
open Go Go.Vs
def oI (d : Nat) (i : Ins) : IOp := ⟨some d, i, none⟩
def cI (n : Int) : Opd := .c (.p (.val (.int .i64 n)))
def cB (b : Bool) : Opd := .c (.p (.val (.bool b)))
def zZ : ZC := .z (.val (.int .i64 0))
abbrev tI (n : Nat) : Opd := .t n
def jM (a : Nat) : Ins := .mv (.t a)
def iM (d : Nat) (a : Nat) : IOp := ⟨some d, jM a, none⟩
def jC (a : Int) : Ins := .mv (cI a)
def iC (d : Nat) (a : Int) : IOp := ⟨some d, jC a, none⟩
def jE (a : Bool) : Ins := .mv (cB a)
def iE (d : Nat) (a : Bool) : IOp := ⟨some d, jE a, none⟩
def jL (s a : Nat) : Ins := .load false s (.t a)
def iL (d : Nat) (s a : Nat) : IOp := ⟨some d, jL s a, none⟩
def jT (s a : Nat) : Ins := .load true s (.t a)
def iT (d : Nat) (s a : Nat) : IOp := ⟨some d, jT s a, none⟩
def jF (k a : Nat) : Ins := .fieldA k (.t a)
def iF (d : Nat) (k a : Nat) : IOp := ⟨some d, jF k a, none⟩
def jX (s a b : Nat) : Ins := .indexA none s (.t a) (.t b)
def iX (d : Nat) (s a b : Nat) : IOp := ⟨some d, jX s a b, none⟩
def jN (a : Nat) : Ins := .len (.t a)
def iN (d : Nat) (a : Nat) : IOp := ⟨some d, jN a, none⟩
def jS (a : Nat) : Ins := .lenS (.t a)
def iS (d : Nat) (a : Nat) : IOp := ⟨some d, jS a, none⟩
def jB (o : BinOp) (a b : Nat) : Ins := .bin o (.t a) (.t b)
def iB (d : Nat) (o : BinOp) (a b : Nat) : IOp := ⟨some d, jB o a b, none⟩
def jD (o : BinOp) (a : Nat) (n : Int) : Ins := .bin o (.t a) (cI n)
def iD (d : Nat) (o : BinOp) (a : Nat) (n : Int) : IOp := ⟨some d, jD o a n, none⟩
def jP (a b : Nat) : Ins := .pick (.t a) (cB true) (.t b)
def iP (d : Nat) (a b : Nat) : IOp := ⟨some d, jP a b, none⟩
def jQ (a b : Nat) : Ins := .pick (.t a) (.t b) (cB false)
def iQ (d : Nat) (a b : Nat) : IOp := ⟨some d, jQ a b, none⟩
def jU (a : Nat) : Ins := .un .not (.t a)
def iU (d : Nat) (a : Nat) : IOp := ⟨some d, jU a, none⟩
def jK (f a : Nat) : Ins := .call false (.c (.fn f [])) [.t a]
def iK (d : Nat) (f a : Nat) : IOp := ⟨some d, jK f a, none⟩
def jV (s a b : Nat) : Ins := .store s (.t a) (.t b)
def gT (d g : Nat) (i : Ins) : IOp := ⟨some d, i, some (g, true)⟩
def gF (d g : Nat) (i : Ins) : IOp := ⟨some d, i, some (g, false)⟩
def gN (i : Ins) : IOp := ⟨none, i, none⟩
def z6 : PV := .val (.int .i64 0)
def zM : PV := .val (.slice none 0 0)
def sh : List Nat := [48, 49, 50, 68, 69, 70, 82, 94, 72, 53, 51, 52, 54, 58, 71, 30, 29, 73]
def ir11 : IFun :=
  ⟨103, [(.tmp 0)], (.seq (.ops [iE 0 false]) (.seq (.ops [⟨(.some 16), (.call .false (.c (.fn 12 [])) [(.c (.p (.val (.string ⟨([48, 40, 49, 40, 120, 54, 49, 41, 32, 120, 54, 50, 32, 50, 40, 41, 41] : List UInt8).toArray⟩))))]), .none⟩, iM 15 16, oI 17 (.extract (tI 15) 0), oI 18 (.extract (tI 15) 1), oI 1 (.alloc 25 [zZ, (.z (.val (.int .u8 0))), (.r 25 3)]), gN (jV 3 1 17), iM 2 18]) (.seq (.ops [iT 20 3 1, iK 21 19 20, iM 19 21, oI 22 (.extract (tI 19) 0), oI 23 (.extract (tI 19) 1), oI 24 (.extract (tI 19) 2), iM 3 22, iM 4 23, iM 5 24]) (.seq (.ops [iT 26 3 1, iK 27 20 26, iM 25 27, oI 28 (.extract (tI 25) 0), oI 29 (.extract (tI 25) 1), iM 6 28, iM 7 29]) (.seq (.ops [iT 31 3 1, oI 32 (.buildS 3 1 [z6] 1 [(0, (cI 1))]), oI 33 (.call .false (.c (.fn 32 [])) [(tI 31), (tI 32)]), iM 30 33, oI 34 (.extract (tI 30) 0), oI 35 (.extract (tI 30) 1), oI 36 (.extract (tI 30) 2), iM 8 34, iM 9 35, iM 10 36]) (.seq (.ops [⟨(.some 38), (.call .false (.c (.fn 12 [])) [(.c (.p (.val (.string ⟨([48, 49, 40, 41] : List UInt8).toArray⟩))))]), .none⟩, iM 37 38, oI 39 (.extract (tI 37) 0), oI 40 (.extract (tI 37) 1), oI 11 (.alloc 25 [zZ, (.z (.val (.int .u8 0))), (.r 25 3)]), gN (jV 3 11 39), iM 12 40]) (.seq (.ops [iT 42 3 1, oI 43 (.call .false (.c (.fn 34 [])) [(tI 42), (cI 0)]), iM 41 43, oI 44 (.extract (tI 41) 0), oI 45 (.extract (tI 41) 1), iM 13 44, iM 14 45]) (.seq (.ops [iM 46 2, iK 47 15 46, iM 48 7, iK 49 15 48, iB 50 .add 47 49, iM 51 10, iK 52 15 51, iB 53 .add 50 52, iM 54 14, iK 55 15 54, iB 56 .add 53 55, iD 57 .eql 56 0, iM 58 57, gT 59 58 (jM 3), gT 60 58 (jD .eql 59 5), iQ 61 58 60, iM 62 61, gT 63 62 (jM 4), gT 64 62 (jD .eql 63 2), iQ 65 62 64, iM 66 65, gT 67 66 (jM 5), gT 68 66 (jD .eql 67 3), iQ 69 66 68, iM 70 69, gT 71 70 (jM 6), ⟨(.some 72), (.bin .eql (tI 71) (.c (.p (.val (.string ⟨([48, 40, 49, 40, 120, 54, 49, 41, 32, 120, 54, 50, 32, 50, 40, 41, 41] : List UInt8).toArray⟩))))), (.some (70, .true))⟩, iQ 73 70 72, iM 74 73, gT 75 74 (jM 8), gT 76 74 (jD .eql 75 1), iQ 77 74 76, iM 78 77, gT 79 78 (jM 9), gT 80 78 (jD .eql 79 2), iQ 81 78 80, iM 82 81, gT 83 82 (jM 12), gT 84 82 (jK 15 83), gT 85 82 (jD .eql 84 240), iQ 86 82 85, iM 87 86, gT 88 87 (jM 13), gT 89 87 (jN 88), gT 90 87 (jD .eql 89 1), iQ 91 87 90, iM 92 91, gT 93 92 (jM 13), gT 94 92 (.indexA .none 1 (tI 93) (cI 0)), gT 95 92 (jL 1 94), gT 96 92 (jD .eql 95 0), iQ 97 92 96, iM 98 97, gT 99 98 (jT 3 1), gT 100 98 (jK 21 99), gT 101 98 (.eqN .true (tI 100)), iQ 102 98 101, iM 0 102]) .ret))))))))⟩
theorem ir11_ok : compFn prog (shOf sh []) [] f11 = some ir11 := by kernel_rfl
def ir14_l0 : IC :=
  (.seq (.seq (.ops [iM 27 5, iF 28 2 2, iL 29 1 28, iN 30 29, iB 31 .lss 27 30]) (.cond (tI 31) .skip (.exit 0))) (.seq (.block 1 (.seq (.ops [iF 34 2 2, iL 35 1 34, iM 36 5, iX 37 3 35 36, iT 38 3 37, iF 39 2 3, iL 40 1 39, iM 41 5, iX 42 3 40 41, iT 43 3 42, oI 44 (.call .false (.c (.fn 14 [])) [(tI 38), (tI 43)]), iU 45 44]) (.cond (tI 45) (.seq (.ops [iE 4 false]) .ret) .skip))) (.ops [iM 32 5, iD 33 .add 32 1, iM 5 33])))
def ir14 : IFun :=
  ⟨46, [(.tmp 4)], (.seq (.ops [oI 2 (.box 25 (tI 0)), oI 3 (.box 25 (tI 1)), iE 4 false]) (.seq (.seq (.ops [iF 6 0 2, iL 7 1 6, iF 8 0 3, iL 9 1 8, iB 10 .neq 7 9, iM 11 10, gF 12 11 (jF 1 2), gF 13 11 (jL 1 12), gF 14 11 (jF 1 3), gF 15 11 (jL 1 14), gF 16 11 (jB .neq 13 15), iP 17 11 16, iM 18 17, gF 19 18 (jF 2 2), gF 20 18 (jL 1 19), gF 21 18 (jN 20), gF 22 18 (jF 2 3), gF 23 18 (jL 1 22), gF 24 18 (jN 23), gF 25 18 (jB .neq 21 24), iP 26 18 25]) (.cond (tI 26) (.seq (.ops [iE 4 false]) .ret) .skip)) (.seq (.seq (.ops [iC 5 0]) (.block 0 (.loop [2, 3, 5] ir14_l0))) (.seq (.ops [iE 4 true]) .ret))))⟩
theorem ir14_ok : compFn prog (shOf sh []) [[2, 3, 5]] f14 = some ir14 := by kernel_rfl
def ir15 : IFun :=
  ⟨4, [(.tmp 2)], (.seq (.ops [iC 2 0]) (.seq (.ops [iM 3 0, iM 2 3]) .ret))⟩
theorem ir15_ok : compFn prog (shOf sh []) [] f15 = some ir15 := by kernel_rfl
def ir19 : IFun :=
  ⟨13, [(.tmp 2), (.tmp 3), (.tmp 4)], (.seq (.ops [oI 1 (.box 25 (tI 0)), iC 2 0, iC 3 0, iC 4 0]) (.seq (.seq (.ops [iT 5 3 1, iK 6 23 5, iD 7 .neq 6 0]) (.cond (tI 7) (.seq (.ops [iC 2 0, iC 3 0, iC 4 0]) .ret) .skip)) (.seq (.ops [iT 8 3 1, iK 9 47 8, oI 10 (.extract (tI 9) 0), oI 11 (.extract (tI 9) 1), oI 12 (.extract (tI 9) 2), iM 2 10, iM 3 11, iM 4 12]) .ret)))⟩
theorem ir19_ok : compFn prog (shOf sh []) [] f19 = some ir19 := by kernel_rfl
def ir20 : IFun :=
  ⟨16, [(.tmp 2), (.tmp 3)], (.seq (.ops [oI 1 (.box 25 (tI 0)), ⟨(.some 2), (.mv (.c (.p (.val (.string ⟨([] : List UInt8).toArray⟩))))), .none⟩, iC 3 0]) (.seq (.seq (.ops [iT 6 3 1, iK 7 23 6, iM 4 7]) (.seq (.ops [iM 8 4, iD 9 .neq 8 0]) (.cond (tI 9) (.seq (.ops [iM 10 4, ⟨(.some 2), (.mv (.c (.p (.val (.string ⟨([] : List UInt8).toArray⟩))))), .none⟩, iM 3 10]) .ret) .skip))) (.seq (.ops [oI 5 (.alloc 87 [(.z (.val (.pointer .none))), (.r 5 1)])]) (.seq (.ops [iT 11 3 1, oI 12 (.call .true (.c (.fn 48 [])) [(tI 5), (tI 11)])]) (.seq (.seq (.ops [oI 13 (.call .true (.c (.fn 49 [])) [(tI 5)]), iD 14 .gtr 13 1048576]) (.cond (tI 14) (.seq (.ops [⟨(.some 2), (.mv (.c (.p (.val (.string ⟨([] : List UInt8).toArray⟩))))), .none⟩, iC 3 3]) .ret) .skip)) (.seq (.ops [oI 15 (.call .true (.c (.fn 50 [])) [(tI 5)]), iM 2 15, iC 3 0]) .ret))))))⟩
theorem ir20_ok : compFn prog (shOf sh []) [] f20 = some ir20 := by kernel_rfl
def ir21 : IFun :=
  ⟨4, [(.tmp 2)], (.seq (.ops [oI 1 (.box 25 (tI 0)), oI 2 (.mv (.c (.p (.val .nilFunc))))]) (.seq (.ops [oI 3 (.mkfn 51 [(tI 1)]), iM 2 3]) .ret))⟩
theorem ir21_ok : compFn prog (shOf sh []) [] f21 = some ir21 := by kernel_rfl
def ir23 : IFun :=
  ⟨14, [(.tmp 2)], (.seq (.ops [oI 1 (.box 25 (tI 0)), iC 2 0]) (.seq (.ops [oI 3 (.alloc 4 [(.z (.val (.bool .false)))]), gN (.store 1 (tI 3) (cB false))]) (.seq (.ops [iT 5 3 1, oI 6 (.mkfn 54 [(tI 3)]), oI 7 (.call .true (.c (.fn 53 [])) [(tI 5), (tI 6)]), iM 4 7]) (.seq (.seq (.ops [iM 8 4, iD 9 .eql 8 0, iM 10 9, gT 11 10 (jL 1 3), iQ 12 10 11]) (.cond (tI 12) (.seq (.ops [iC 2 240]) .ret) .skip)) (.seq (.ops [iM 13 4, iM 2 13]) .ret)))))⟩
theorem ir23_ok : compFn prog (shOf sh []) [] f23 = some ir23 := by kernel_rfl
def ir32 : IFun :=
  ⟨31, [(.tmp 4), (.tmp 5), (.tmp 6)], (.seq (.ops [oI 2 (.box 25 (tI 0)), iC 4 0, iC 5 0, iC 6 0]) (.seq (.ops [iT 12 3 2, iM 13 1, oI 14 (.call .false (.c (.fn 56 [])) [(tI 12), (tI 13)]), iM 11 14, oI 15 (.extract (tI 11) 0), oI 16 (.extract (tI 11) 1), oI 17 (.extract (tI 11) 2), oI 7 (.alloc 25 [zZ, (.z (.val (.int .u8 0))), (.r 25 3)]), gN (jV 3 7 15), iM 4 16, iM 6 17]) (.seq (.seq (.ops [iM 18 6, iD 19 .neq 18 0]) (.cond (tI 19) (.seq (.ops [iM 20 6, iC 4 0, iC 5 0, iM 6 20]) .ret) .skip)) (.seq (.ops [iT 22 3 7, iK 23 47 22, iM 21 23, oI 24 (.extract (tI 21) 0), oI 25 (.extract (tI 21) 1), oI 26 (.extract (tI 21) 2), iM 8 24, iM 9 25, iM 10 26]) (.seq (.ops [iM 27 4, iM 28 4, iM 29 9, iB 30 .add 28 29, iM 4 27, iM 5 30, iC 6 0]) .ret)))))⟩
theorem ir32_ok : compFn prog (shOf sh []) [] f32 = some ir32 := by kernel_rfl
def ir34_l0 : IC :=
  (.seq (.ops [iB 43 .lss 42 41]) (.seq (.cond (tI 43) .skip (.exit 2)) (.seq (.block 3 (.seq (.ops [iM 44 42, iX 45 3 40 42, iT 46 3 45, oI 12 (.alloc 25 [zZ, (.z (.val (.int .u8 0))), (.r 25 3)]), iM 11 44, gN (jV 3 12 46)]) (.seq (.ops [iT 48 3 12, iK 49 47 48, iM 47 49, oI 50 (.extract (tI 47) 0), oI 51 (.extract (tI 47) 1), oI 52 (.extract (tI 47) 2), iM 13 50, iM 14 51, iM 15 52]) (.seq (.seq (.ops [iM 53 1, iM 54 14, iB 55 .geq 53 54]) (.cond (tI 55) (.seq (.ops [iM 56 1, iM 57 14, iB 58 .sub 56 57, iM 1 58]) (.exit 3)) .skip)) (.seq (.seq (.ops [iF 59 0 12, iL 60 1 59, iD 61 .lss 60 0]) (.cond (tI 61) (.exit 0) .skip)) (.seq (.ops [iM 62 10, iM 63 11, oI 64 (.buildS 3 1 [z6] 1 [(0, (tI 63))]), oI 65 (.append 3 1 8 [z6] (tI 62) (tI 64)), iM 10 65]) (.seq (.ops [iT 66 3 12, gN (jV 3 2 66)]) (.exit 1)))))))) (.ops [iD 67 .add 42 1, iM 42 67]))))
def ir34_l1 : IC :=
  (.block 1 (.seq (.ops [iF 39 2 2, iL 40 1 39, iN 41 40, iC 42 0]) (.block 2 (.loop [1, 2, 10, 40, 41, 42] ir34_l0))))
def ir34 : IFun :=
  ⟨69, [(.tmp 4), (.tmp 5)], (.seq (.ops [oI 2 (.box 25 (tI 0)), oI 4 (.nilrow 3 1), iC 5 0]) (.noGo (.seq (.seq (.ops [iT 16 3 2, iK 17 23 16, iM 6 17]) (.seq (.ops [iM 18 6, iD 19 .neq 18 0]) (.cond (tI 19) (.seq (.ops [iM 20 6, oI 4 (.nilrow 3 1), iM 5 20]) .ret) .skip))) (.seq (.seq (.ops [iT 22 3 2, iK 23 47 22, iM 21 23, oI 24 (.extract (tI 21) 0), oI 25 (.extract (tI 21) 1), oI 26 (.extract (tI 21) 2), iM 7 24, iM 8 25, iM 9 26]) (.seq (.ops [iM 27 1, iD 28 .lss 27 0, iM 29 28, gF 30 29 (jM 1), gF 31 29 (jM 8), gF 32 29 (jB .geq 30 31), iP 33 29 32, iM 34 33, gF 35 34 (jF 0 2), gF 36 34 (jL 1 35), gF 37 34 (jD .lss 36 0), iP 38 34 37]) (.cond (tI 38) (.seq (.ops [oI 4 (.nilrow 3 1), iC 5 5]) .ret) .skip))) (.seq (.ops [oI 10 (.nilrow 3 1)]) (.seq .skip (.seq (.block 0 (.loop [1, 2, 10] ir34_l1)) (.seq (.ops [iM 68 10, iM 4 68, iC 5 0]) .ret))))))))⟩
theorem ir34_ok : compFn prog (shOf sh []) [[1, 2, 10], [1, 2, 10, 40, 41, 42]] f34 = some ir34 := by kernel_rfl
def ir38 : IFun :=
  ⟨11, [(.tmp 4), (.tmp 5)], (.seq (.ops [⟨(.some 4), (.mv (.c (.p (.val (.string ⟨([] : List UInt8).toArray⟩))))), .none⟩, iE 5 false]) (.seq (.ops [iM 6 0, iM 7 1, oI 8 (.call .false (.c (.fn 60 [])) [(tI 6), (tI 7)]), oI 9 (.extract (tI 8) 0), oI 10 (.extract (tI 8) 1), iM 4 9, iM 5 10]) .ret))⟩
theorem ir38_ok : compFn prog (shOf sh []) [] f38 = some ir38 := by kernel_rfl
def ir39 : IFun :=
  ⟨8, [(.tmp 4)], (.seq (.ops [iC 4 0]) (.seq (.ops [iM 5 0, iM 6 1, oI 7 (.call .false (.c (.fn 61 [])) [(tI 5), (tI 6)]), iM 4 7]) .ret))⟩
theorem ir39_ok : compFn prog (shOf sh []) [] f39 = some ir39 := by kernel_rfl
def ir40 : IFun :=
  ⟨13, [(.tmp 4), (.tmp 5), (.tmp 6)], (.seq (.ops [⟨(.some 4), (.mv (.c (.p (.val (.string ⟨([] : List UInt8).toArray⟩))))), .none⟩, ⟨(.some 5), (.mv (.c (.p (.val (.string ⟨([] : List UInt8).toArray⟩))))), .none⟩, iE 6 false]) (.seq (.ops [iM 7 0, iM 8 1, oI 9 (.call .false (.c (.fn 62 [])) [(tI 7), (tI 8)]), oI 10 (.extract (tI 9) 0), oI 11 (.extract (tI 9) 1), oI 12 (.extract (tI 9) 2), iM 4 10, iM 5 11, iM 6 12]) .ret))⟩
theorem ir40_ok : compFn prog (shOf sh []) [] f40 = some ir40 := by kernel_rfl
def ir43 : IFun :=
  ⟨8, [(.tmp 4)], (.seq (.ops [iE 4 false]) (.seq (.ops [iM 5 0, iM 6 1, oI 7 (.call .false (.c (.fn 66 [])) [(tI 5), (tI 6)]), iM 4 7]) .ret))⟩
theorem ir43_ok : compFn prog (shOf sh []) [] f43 = some ir43 := by kernel_rfl
def ir47_l0 : IC :=
  (.seq (.ops [iB 20 .lss 19 18]) (.seq (.cond (tI 20) .skip (.exit 0)) (.seq (.block 1 (.seq (.ops [iX 21 3 17 19, iT 22 3 21, oI 9 (.alloc 25 [zZ, (.z (.val (.int .u8 0))), (.r 25 3)]), gN (jV 3 9 22)]) (.seq (.ops [iT 24 3 9, iK 25 47 24, iM 23 25, oI 26 (.extract (tI 23) 0), oI 27 (.extract (tI 23) 1), oI 28 (.extract (tI 23) 2), iM 10 26, iM 11 27, iM 12 28]) (.ops [iM 29 5, iM 30 10, iB 31 .add 29 30, iM 32 6, iM 33 11, iB 34 .add 32 33, iM 35 7, iM 36 12, oI 37 (.min2 .true (tI 35) (tI 36)), iM 5 31, iM 6 34, iM 7 37])))) (.ops [iD 38 .add 19 1, iM 19 38]))))
def ir47 : IFun :=
  ⟨43, [(.tmp 2), (.tmp 3), (.tmp 4)], (.seq (.ops [oI 1 (.box 25 (tI 0)), iC 2 0, iC 3 0, iC 4 0]) (.seq (.ops [iC 5 1, iC 6 0, iC 7 0]) (.seq (.seq (.ops [iF 13 0 1, iL 14 1 13, iD 15 .lss 14 0]) (.cond (tI 15) (.ops [iC 6 1]) .skip)) (.seq (.seq (.ops [iF 16 2 1, iL 17 1 16, iN 18 17, iC 19 0]) (.block 0 (.loop [5, 6, 7, 17, 18, 19] ir47_l0))) (.seq (.ops [iM 39 5, iM 40 6, iM 41 7, iD 42 .add 41 1, iM 2 39, iM 3 40, iM 4 42]) .ret)))))⟩
theorem ir47_ok : compFn prog (shOf sh []) [[5, 6, 7, 17, 18, 19]] f47 = some ir47 := by kernel_rfl
def ir48_l0 : IC :=
  (.seq (.ops [iB 30 .lss 29 28]) (.seq (.cond (tI 30) .skip (.exit 0)) (.seq (.block 1 (.seq (.ops [iM 31 29, iX 32 3 27 29, iT 33 3 32, oI 5 (.alloc 25 [zZ, (.z (.val (.int .u8 0))), (.r 25 3)]), iM 4 31, gN (jV 3 5 33)]) (.seq (.seq (.ops [iM 34 4, iD 35 .gtr 34 0]) (.cond (tI 35) (.ops [iM 36 0, oI 37 (.call .true (.c (.fn 70 [])) [(tI 36), (.c (.p (.val (.int .u8 32))))])]) .skip)) (.ops [iM 38 0, iT 39 3 5, oI 40 (.call .true (.c (.fn 48 [])) [(tI 38), (tI 39)])])))) (.ops [iD 41 .add 29 1, iM 29 41]))))
def ir48 : IFun :=
  ⟨44, [], (.seq (.ops [oI 3 (.box 25 (tI 1))]) (.seq (.seq (.ops [iF 6 0 3, iL 7 1 6, iD 8 .lss 7 0]) (.cond (tI 8) (.seq (.ops [iM 9 0, iF 10 1 3, iL 11 1 10, oI 12 (.bin .shr (tI 11) (.c (.p (.val (.int .u64 4))))), ⟨(.some 13), (.indexS (.c (.p (.val (.string ⟨([48, 49, 50, 51, 52, 53, 54, 55, 56, 57, 97, 98, 99, 100, 101, 102] : List UInt8).toArray⟩)))) (tI 12)), .none⟩, iF 14 1 3, iL 15 1 14, oI 16 (.bin .and (tI 15) (.c (.p (.val (.int .u8 15))))), ⟨(.some 17), (.indexS (.c (.p (.val (.string ⟨([48, 49, 50, 51, 52, 53, 54, 55, 56, 57, 97, 98, 99, 100, 101, 102] : List UInt8).toArray⟩)))) (tI 16)), .none⟩, oI 18 (.buildS 5 1 [(.val (.int .u8 0))] 3 [(0, (.c (.p (.val (.int .u8 120))))), (1, (tI 13)), (2, (tI 17))]), oI 19 (.call .true (.c (.fn 68 [])) [(tI 9), (tI 18)])]) .ret) .skip)) (.seq (.ops [iM 20 0, iF 21 0 3, iL 22 1 21, iK 23 42 22, ⟨(.some 24), (.bin .add (tI 23) (.c (.p (.val (.string ⟨([40] : List UInt8).toArray⟩))))), .none⟩, oI 25 (.call .true (.c (.fn 69 [])) [(tI 20), (tI 24)])]) (.seq (.seq (.ops [iF 26 2 3, iL 27 1 26, iN 28 27, iC 29 0]) (.block 0 (.loop [0, 27, 28, 29] ir48_l0))) (.ops [iM 42 0, oI 43 (.call .true (.c (.fn 70 [])) [(tI 42), (.c (.p (.val (.int .u8 41))))])])))))⟩
theorem ir48_ok : compFn prog (shOf sh []) [[0, 27, 28, 29]] f48 = some ir48 := by kernel_rfl
def ir49 : IFun :=
  ⟨8, [(.tmp 2)], (.seq (.ops [iC 2 0]) (.seq (.ops [iM 3 0, oI 4 (.nilChk (tI 3)), iF 5 1 4, iL 6 1 5, iN 7 6, iM 2 7]) .ret))⟩
theorem ir49_ok : compFn prog (shOf sh []) [] f49 = some ir49 := by kernel_rfl
def ir50 : IFun :=
  ⟨14, [(.tmp 2)], (.seq (.ops [⟨(.some 2), (.mv (.c (.p (.val (.string ⟨([] : List UInt8).toArray⟩))))), .none⟩]) (.seq (.ops [iM 3 0, oI 4 (.nilChk (tI 3)), iF 5 1 4, iL 6 1 5, oI 7 (.slData (tI 6)), iM 8 0, oI 9 (.nilChk (tI 8)), iF 10 1 9, iL 11 1 10, iN 12 11, oI 13 (.uStr 5 (tI 7) (tI 12)), iM 2 13]) .ret))⟩
theorem ir50_ok : compFn prog (shOf sh []) [] f50 = some ir50 := by kernel_rfl
def ir51 : IFun :=
  ⟨12, [], (.seq (.ops [oI 2 (.box 91 (tI 0))]) (.seq (.seq (.ops [iT 5 3 1, iK 6 23 5, iD 7 .neq 6 0]) (.cond (tI 7) .ret .skip)) (.seq (.ops [oI 3 (.alloc 3 [zZ]), gN (.store 1 (tI 3) (cI 0))]) (.seq (.ops [oI 4 (.alloc 57 [(.z (.val .nilFunc))])]) (.seq (.ops [oI 8 (.mkfn 52 [(tI 3), (tI 2), (tI 4)]), gN (jV 1 4 8)]) (.ops [iL 9 1 4, iT 10 3 1, oI 11 (.call .true (tI 9) [(tI 10)])]))))))⟩
theorem ir51_ok : compFn prog (shOf sh []) [] f51 = some ir51 := by kernel_rfl
def ir52_l0 : IC :=
  (.seq (.ops [iB 20 .lss 19 18]) (.seq (.cond (tI 20) .skip (.exit 0)) (.seq (.block 1 (.seq (.ops [iX 21 3 17 19, iT 22 3 21, oI 7 (.alloc 25 [zZ, (.z (.val (.int .u8 0))), (.z zM)]), gN (jV 3 7 22)]) (.seq (.ops [iL 23 1 3, iT 24 3 7, oI 25 (.call .true (tI 23) [(tI 24)]), iU 26 25]) (.cond (tI 26) (.seq (.ops [iE 5 false]) .ret) .skip)))) (.ops [iD 27 .add 19 1, iM 19 27]))))
def ir52 : IFun :=
  ⟨28, [(.tmp 5)], (.seq (.ops [oI 4 (.boxL (tI 0)), iE 5 false]) (.seq (.ops [iL 8 1 1, iD 9 .add 8 1, gN (jV 1 1 9)]) (.seq (.seq (.ops [iL 10 1 2, iL 11 1 1, iD 12 .sub 11 1, iT 13 3 4, oI 14 (.call .true (tI 10) [(tI 12), (tI 13)]), iU 15 14]) (.cond (tI 15) (.seq (.ops [iE 5 false]) .ret) .skip)) (.seq (.seq (.ops [iF 16 2 4, iL 17 1 16, iN 18 17, iC 19 0]) (.block 0 (.loop [3, 17, 18, 19] ir52_l0))) (.seq (.ops [iE 5 true]) .ret)))))⟩
theorem ir52_ok : compFn prog (shOf sh [4, 7]) [[3, 17, 18, 19]] f52 = some ir52 := by kernel_rfl
def ir53 : IFun :=
  ⟨9, [(.cell 4 .false 1)], (.seq (.ops [oI 2 (.box 25 (tI 0)), oI 4 (.alloc 26 [zZ])]) (.seq .bad (.seq (.ops [iT 6 3 2, iM 7 1, oI 8 (.call .true (.c (.fn 72 [])) [(tI 6), (cI 16384), (tI 7)])]) (.seq (.ops [gN (.store 1 (tI 4) (cI 0))]) .ret))))⟩
theorem ir53_ok : compFn prog (shOf sh []) [] f53 = some ir53 := by kernel_rfl
def ir54 : IFun :=
  ⟨32, [], (.seq (.ops [oI 2 (.box 25 (tI 0))]) (.seq (.ops [iF 3 0 2, iL 4 1 3, oI 5 (.bin .lss (tI 4) (cI (-1))), iM 6 5, gF 7 6 (jF 0 2), gF 8 6 (jL 1 7), gF 9 6 (jD .gtr 8 2147483647), iP 10 6 9, iM 11 10, gF 12 11 (jF 0 2), gF 13 11 (jL 1 12), ⟨(.some 14), (.bin .eql (tI 13) (cI (-1))), (.some (11, .false))⟩, gF 15 11 (jM 14), gT 16 15 (jF 2 2), gT 17 15 (jL 1 16), gT 18 15 (jN 17), gT 19 15 (jD .gtr 18 0), gF 20 11 (jQ 15 19), iP 21 11 20, iM 22 21, gF 23 22 (jF 0 2), gF 24 22 (jL 1 23), gF 25 22 (jD .geq 24 0), gF 26 22 (jM 25), gT 27 26 (jF 1 2), gT 28 26 (jL 1 27), ⟨(.some 29), (.bin .neq (tI 28) (.c (.p (.val (.int .u8 0))))), (.some (26, .true))⟩, gF 30 22 (jQ 26 29), iP 31 22 30]) (.cond (tI 31) (.ops [gN (.store 1 (tI 1) (cB true))]) .skip)))⟩
theorem ir54_ok : compFn prog (shOf sh []) [] f54 = some ir54 := by kernel_rfl
def ir56_l0 : IC :=
  (.seq (.ops [iB 44 .lss 43 42]) (.seq (.cond (tI 44) .skip (.exit 2)) (.seq (.block 3 (.seq (.ops [iX 45 3 41 43, iT 46 3 45, oI 12 (.alloc 25 [zZ, (.z (.val (.int .u8 0))), (.r 25 3)]), gN (jV 3 12 46)]) (.seq (.ops [iT 48 3 12, iK 49 47 48, iM 47 49, oI 50 (.extract (tI 47) 0), oI 51 (.extract (tI 47) 1), oI 52 (.extract (tI 47) 2), iM 13 50, iM 14 51, iM 15 52]) (.ops [iM 53 8, iM 54 14, iB 55 .add 53 54, iM 8 55])))) (.ops [iD 56 .add 43 1, iM 43 56]))))
def ir56_l1 : IC :=
  (.seq (.ops [iB 25 .lss 24 23]) (.seq (.cond (tI 25) .skip (.exit 0)) (.seq (.block 1 (.seq (.ops [iX 26 1 22 24, iL 27 1 26, iM 10 27]) (.seq (.seq (.ops [iM 28 10, iD 29 .lss 28 0, iM 30 29, gF 31 30 (jM 10), gF 32 30 (jF 2 2), gF 33 30 (jL 1 32), gF 34 30 (jN 33), gF 35 30 (jB .geq 31 34), iP 36 30 35]) (.cond (tI 36) (.seq (.ops [oI 37 (.build [z6, (.val (.int .u8 0)), (.lst 3 [])] []), gN (jV 3 4 37), iC 5 0, iC 6 5]) .ret) .skip)) (.seq (.seq (.ops [iF 38 2 2, iL 39 1 38, iM 40 10, oI 41 (.slice 3 (tI 39) .none (.some (tI 40))), iN 42 41, iC 43 0]) (.block 2 (.loop [2, 4, 8, 10, 22, 23, 24, 41, 42, 43] ir56_l0))) (.ops [iF 57 2 2, iL 58 1 57, iM 59 10, iX 60 3 58 59, iT 61 3 60, gN (jV 3 2 61)]))))) (.ops [iD 62 .add 24 1, iM 24 62]))))
def ir56 : IFun :=
  ⟨65, [(.cell 4 .true 3), (.tmp 5), (.tmp 6)], (.seq (.ops [oI 2 (.box 25 (tI 0)), oI 4 (.alloc 25 [zZ, (.z (.val (.int .u8 0))), (.r 25 3)]), iC 5 0, iC 6 0]) (.seq (.seq (.ops [iT 16 3 2, iK 17 23 16, iM 7 17]) (.seq (.ops [iM 18 7, iD 19 .neq 18 0]) (.cond (tI 19) (.seq (.ops [oI 20 (.build [z6, (.val (.int .u8 0)), (.lst 3 [])] []), iM 21 7, gN (jV 3 4 20), iC 5 0, iM 6 21]) .ret) .skip))) (.seq (.ops [iC 8 0]) (.seq (.seq (.ops [iM 22 1, iN 23 22, iC 24 0]) (.block 0 (.loop [2, 4, 8, 22, 23, 24] ir56_l1))) (.seq (.ops [iT 63 3 2, iM 64 8, gN (jV 3 4 63), iM 5 64, iC 6 0]) .ret)))))⟩
theorem ir56_ok : compFn prog (shOf sh [20, 37]) [[2, 4, 8, 22, 23, 24], [2, 4, 8, 10, 22, 23, 24, 41, 42, 43]] f56 = some ir56 := by kernel_rfl
def ir58 : IFun :=
  ⟨2, [], (.ops [oI 1 (.box 25 (tI 0))])⟩
theorem ir58_ok : compFn prog (shOf sh []) [] f58 = some ir58 := by kernel_rfl
def ir60 : IFun :=
  ⟨15, [(.tmp 4), (.tmp 5)], (.seq (.ops [⟨(.some 4), (.mv (.c (.p (.val (.string ⟨([] : List UInt8).toArray⟩))))), .none⟩, iE 5 false]) (.seq (.seq (.ops [iM 6 0, iM 7 1, oI 8 (.call .false (.c (.fn 66 [])) [(tI 6), (tI 7)]), iU 9 8]) (.cond (tI 9) (.seq (.ops [iM 10 0, iM 4 10, iE 5 false]) .ret) .skip)) (.seq (.ops [iM 11 0, iM 12 1, iS 13 12, oI 14 (.sliceS (tI 11) (.some (tI 13)) .none), iM 4 14, iE 5 true]) .ret)))⟩
theorem ir60_ok : compFn prog (shOf sh []) [] f60 = some ir60 := by kernel_rfl
def ir61 : IFun :=
  ⟨8, [(.tmp 4)], (.seq (.ops [iC 4 0]) (.seq (.ops [iM 5 0, iM 6 1, oI 7 (.ixb (tI 5) (tI 6)), iM 4 7]) .ret))⟩
theorem ir61_ok : compFn prog (shOf sh []) [] f61 = some ir61 := by kernel_rfl
def ir62 : IFun :=
  ⟨23, [(.tmp 4), (.tmp 5), (.tmp 6)], (.seq (.ops [⟨(.some 4), (.mv (.c (.p (.val (.string ⟨([] : List UInt8).toArray⟩))))), .none⟩, ⟨(.some 5), (.mv (.c (.p (.val (.string ⟨([] : List UInt8).toArray⟩))))), .none⟩, iE 6 false]) (.seq (.seq (.ops [iM 8 0, iM 9 1, oI 10 (.call .false (.c (.fn 75 [])) [(tI 8), (tI 9)]), iM 7 10]) (.seq (.ops [iM 11 7, iD 12 .geq 11 0]) (.cond (tI 12) (.seq (.ops [iM 13 0, iM 14 7, oI 15 (.sliceS (tI 13) .none (.some (tI 14))), iM 16 0, iM 17 7, iM 18 1, iS 19 18, iB 20 .add 17 19, oI 21 (.sliceS (tI 16) (.some (tI 20)) .none), iM 4 15, iM 5 21, iE 6 true]) .ret) .skip))) (.seq (.ops [iM 22 0, iM 4 22, ⟨(.some 5), (.mv (.c (.p (.val (.string ⟨([] : List UInt8).toArray⟩))))), .none⟩, iE 6 false]) .ret)))⟩
theorem ir62_ok : compFn prog (shOf sh []) [] f62 = some ir62 := by kernel_rfl
def ir66 : IFun :=
  ⟨18, [(.tmp 4)], (.seq (.ops [iE 4 false]) (.seq (.ops [iM 5 0, iS 6 5, iM 7 1, iS 8 7, iB 9 .geq 6 8, iM 10 9, gT 11 10 (jM 0), gT 12 10 (jM 1), gT 13 10 (jS 12), ⟨(.some 14), (.sliceS (tI 11) .none (.some (tI 13))), (.some (10, .true))⟩, gT 15 10 (jM 1), gT 16 10 (jB .eql 14 15), iQ 17 10 16, iM 4 17]) .ret))⟩
theorem ir66_ok : compFn prog (shOf sh []) [] f66 = some ir66 := by kernel_rfl
def ir68 : IFun :=
  ⟨19, [(.tmp 4), (.tmp 5)], (.seq (.ops [iC 4 0, oI 5 (.mv (.c (.p (.val .nilIface))))]) (.seq (.ops [iM 6 0, oI 7 (.call .true (.c (.fn 82 [])) [(tI 6)])]) (.seq (.ops [iM 8 0, iM 9 0, oI 10 (.nilChk (tI 9)), iF 11 1 10, iL 12 1 11, iM 13 1, oI 14 (.append 5 1 1 [(.val (.int .u8 0))] (tI 12) (tI 13)), oI 15 (.nilChk (tI 8)), iF 16 1 15, gN (jV 1 16 14)]) (.seq (.ops [iM 17 1, iN 18 17, iM 4 18, oI 5 (.mv (.c (.p (.val .nilIface))))]) .ret))))⟩
theorem ir68_ok : compFn prog (shOf sh []) [] f68 = some ir68 := by kernel_rfl
def ir69 : IFun :=
  ⟨19, [(.tmp 4), (.tmp 5)], (.seq (.ops [iC 4 0, oI 5 (.mv (.c (.p (.val .nilIface))))]) (.seq (.ops [iM 6 0, oI 7 (.call .true (.c (.fn 82 [])) [(tI 6)])]) (.seq (.ops [iM 8 0, iM 9 0, oI 10 (.nilChk (tI 9)), iF 11 1 10, iL 12 1 11, iM 13 1, oI 14 (.append 5 1 1 [(.val (.int .u8 0))] (tI 12) (tI 13)), oI 15 (.nilChk (tI 8)), iF 16 1 15, gN (jV 1 16 14)]) (.seq (.ops [iM 17 1, iS 18 17, iM 4 18, oI 5 (.mv (.c (.p (.val .nilIface))))]) .ret))))⟩
theorem ir69_ok : compFn prog (shOf sh []) [] f69 = some ir69 := by kernel_rfl
def ir70 : IFun :=
  ⟨17, [(.tmp 4)], (.seq (.ops [oI 4 (.mv (.c (.p (.val .nilIface))))]) (.seq (.ops [iM 5 0, oI 6 (.call .true (.c (.fn 82 [])) [(tI 5)])]) (.seq (.ops [iM 7 0, iM 8 0, oI 9 (.nilChk (tI 8)), iF 10 1 9, iL 11 1 10, iM 12 1, oI 13 (.buildS 5 1 [(.val (.int .u8 0))] 1 [(0, (tI 12))]), oI 14 (.append 5 1 1 [(.val (.int .u8 0))] (tI 11) (tI 13)), oI 15 (.nilChk (tI 7)), iF 16 1 15, gN (jV 1 16 14)]) (.seq (.ops [oI 4 (.mv (.c (.p (.val .nilIface))))]) .ret))))⟩
theorem ir70_ok : compFn prog (shOf sh []) [] f70 = some ir70 := by kernel_rfl
def ir72_l0 : IC :=
  (.seq (.ops [iB 19 .lss 18 17]) (.seq (.cond (tI 19) .skip (.exit 0)) (.seq (.block 1 (.seq (.ops [iX 20 3 16 18, iT 21 3 20, oI 7 (.alloc 25 [zZ, (.z (.val (.int .u8 0))), (.r 25 3)]), gN (jV 3 7 21)]) (.ops [iT 22 3 7, iM 23 1, iD 24 .sub 23 1, iM 25 2, oI 26 (.call .true (.c (.fn 72 [])) [(tI 22), (tI 24), (tI 25)])]))) (.ops [iD 27 .add 18 1, iM 18 27]))))
def ir72 : IFun :=
  ⟨28, [], (.seq (.ops [oI 3 (.box 25 (tI 0))]) (.seq (.seq (.ops [iM 8 1, iD 9 .eql 8 0]) (.cond (tI 9) .bad .skip)) (.seq (.ops [iM 12 2, iT 13 3 3, oI 14 (.call .true (tI 12) [(tI 13)])]) (.seq (.ops [iF 15 2 3, iL 16 1 15, iN 17 16, iC 18 0]) (.block 0 (.loop [1, 2, 16, 17, 18] ir72_l0))))))⟩
theorem ir72_ok : compFn prog (shOf sh []) [[1, 2, 16, 17, 18]] f72 = some ir72 := by kernel_rfl
def ir73 : IFun :=
  ⟨8, [(.tmp 2)], (.seq (.ops [oI 2 (.nilrow 25 3)]) (.seq (.seq (.ops [iM 3 0, oI 4 (.eqS .false (tI 3))]) (.cond (tI 4) (.seq (.ops [oI 2 (.nilrow 25 3)]) .ret) .skip)) (.seq (.ops [oI 5 (.buildS 25 3 [z6, (.val (.int .u8 0)), zM] 0 []), iM 6 0, oI 7 (.append 25 3 40 [z6, (.val (.int .u8 0)), zM] (tI 5) (tI 6)), iM 2 7]) .ret)))⟩
theorem ir73_ok : compFn prog (shOf sh []) [] f73 = some ir73 := by kernel_rfl
def ir75_l0 : IC :=
  (.seq (.seq (.ops [iM 57 8, iM 58 9, iB 59 .lss 57 58]) (.cond (tI 59) .skip (.exit 1))) (.block 2 (.seq (.seq (.ops [iM 60 0, iM 61 8, oI 62 (.indexS (tI 60) (tI 61)), iM 63 6, iB 64 .neq 62 63]) (.cond (tI 64) (.seq (.ops [iM 65 0, iM 66 8, iD 67 .add 66 1, iM 68 9, oI 69 (.sliceS (tI 65) (.some (tI 67)) (.some (tI 68))), iM 70 6, oI 71 (.call .false (.c (.fn 61 [])) [(tI 69), (tI 70)]), iM 11 71]) (.seq (.seq (.ops [iM 72 11, iD 73 .lss 72 0]) (.cond (tI 73) (.seq (.ops [oI 4 (.mv (cI (-1)))]) .ret) .skip)) (.ops [iM 74 8, iM 75 11, iD 76 .add 75 1, iB 77 .add 74 76, iM 8 77]))) .skip)) (.seq (.seq (.ops [iM 78 0, iM 79 8, iD 80 .add 79 1, oI 81 (.indexS (tI 78) (tI 80)), iM 82 7, iB 83 .eql 81 82, iM 84 83, gT 85 84 (jM 0), gT 86 84 (jM 8), gT 87 84 (jM 8), gT 88 84 (jM 5), gT 89 84 (jB .add 87 88), ⟨(.some 90), (.sliceS (tI 85) (.some (tI 86)) (.some (tI 89))), (.some (84, .true))⟩, gT 91 84 (jM 1), gT 92 84 (jB .eql 90 91), iQ 93 84 92]) (.cond (tI 93) (.seq (.ops [iM 94 8, iM 4 94]) .ret) .skip)) (.seq (.ops [iM 95 8, iD 96 .add 95 1, iM 8 96]) (.seq (.ops [iM 97 10, iD 98 .add 97 1, iM 10 98]) (.seq (.ops [iM 99 5, oI 100 (.load .false 1 (.g 0)), iB 101 .leq 99 100, iM 102 101, gT 103 102 (jM 10), gT 104 102 (jM 8), gT 105 102 (jK 84 104), gT 106 102 (jB .gtr 103 105), iQ 107 102 106]) (.cond (tI 107) (.seq .bad (.seq (.seq (.ops [iM 113 12, iD 114 .geq 113 0]) (.cond (tI 114) (.seq (.ops [iM 115 12, iM 116 8, iB 117 .add 115 116, iM 4 117]) .ret) .skip)) (.seq (.ops [oI 4 (.mv (cI (-1)))]) .ret))) (.seq (.ops [iM 118 5, oI 119 (.load .false 1 (.g 0)), iB 120 .gtr 118 119, iM 121 120, gT 122 121 (jM 10), gT 123 121 (jM 8), ⟨(.some 124), (.bin .shr (tI 123) (.c (.p (.val (.int .u64 4))))), (.some (121, .true))⟩, gT 125 121 (.bin .add (cI 4) (tI 124)), gT 126 121 (jB .geq 122 125), iQ 127 121 126, iM 128 127, gT 129 128 (jM 8), gT 130 128 (jM 9), gT 131 128 (jB .lss 129 130), iQ 132 128 131]) (.cond (tI 132) (.seq (.ops [iM 133 0, iM 134 8, oI 135 (.sliceS (tI 133) (.some (tI 134)) .none), iM 136 1, oI 137 (.call .false (.c (.fn 85 [])) [(tI 135), (tI 136)]), iM 13 137]) (.seq (.seq (.ops [iM 138 13, iD 139 .lss 138 0]) (.cond (tI 139) (.seq (.ops [oI 4 (.mv (cI (-1)))]) .ret) .skip)) (.seq (.ops [iM 140 8, iM 141 13, iB 142 .add 140 141, iM 4 142]) .ret))) .skip))))))))))
def ir75 : IFun :=
  ⟨143, [(.tmp 4)], (.seq (.ops [iC 4 0]) (.seq (.ops [iM 14 1, iS 15 14, iM 5 15]) (.seq (.block 0 (.seq (.ops [iM 17 5, iD 18 .eql 17 0, iM 19 18, gF 20 19 (jM 1), gF 21 19 (jM 0), gF 22 19 (jB .eql 20 21), iP 23 19 22, iM 16 23]) (.cond (tI 16) (.seq (.ops [iC 4 0]) .ret) (.seq (.ops [iM 25 5, iD 26 .eql 25 1, iM 24 26]) (.cond (tI 24) (.seq (.ops [iM 27 0, iM 28 1, oI 29 (.indexS (tI 28) (cI 0)), oI 30 (.call .false (.c (.fn 61 [])) [(tI 27), (tI 29)]), iM 4 30]) .ret) (.seq (.ops [iM 32 5, iM 33 0, iS 34 33, iB 35 .geq 32 34, iM 31 35]) (.cond (tI 31) (.seq (.ops [oI 4 (.mv (cI (-1)))]) .ret) (.seq (.ops [iM 37 5, oI 38 (.load .false 1 (.g 0)), iB 39 .leq 37 38, iM 40 39, gT 41 40 (jM 0), gT 42 40 (jS 41), gT 43 40 (jD .leq 42 64), iQ 44 40 43, iM 36 44]) (.cond (tI 36) (.seq .bad .ret) .skip))))))))) (.seq (.ops [iM 48 1, oI 49 (.indexS (tI 48) (cI 0)), iM 6 49]) (.seq (.ops [iM 50 1, oI 51 (.indexS (tI 50) (cI 1)), iM 7 51]) (.seq (.ops [iC 8 0]) (.seq (.ops [iM 52 0, iS 53 52, iM 54 5, iB 55 .sub 53 54, iD 56 .add 55 1, iM 9 56]) (.seq (.ops [iC 10 0]) (.seq (.block 1 (.loop [0, 1, 5, 6, 7, 8, 9, 10] ir75_l0)) (.seq (.ops [oI 4 (.mv (cI (-1)))]) .ret))))))))))⟩
theorem ir75_ok : compFn prog (shOf sh []) [[0, 1, 5, 6, 7, 8, 9, 10]] f75 = some ir75 := by kernel_rfl
def ir82 : IFun :=
  ⟨20, [], (.seq (.ops [iM 2 0, oI 3 (.nilChk (tI 2)), iF 4 0 3, iL 5 1 4, oI 6 (.eqP .false (tI 5) (.c (.p (.val (.pointer .none)))))]) (.cond (tI 6) (.ops [iM 7 0, iM 8 0, oI 9 (.cvU (tI 8)), iM 10 9, oI 11 (.cvP [(87, (2, 0))] (tI 10)), oI 12 (.nilChk (tI 7)), iF 13 0 12, gN (jV 1 13 11)]) (.seq (.ops [iM 14 0, oI 15 (.nilChk (tI 14)), iF 16 0 15, iL 17 1 16, iM 18 0, oI 19 (.eqP .true (tI 17) (tI 18))]) (.cond (tI 19) .bad .skip))))⟩
theorem ir82_ok : compFn prog (shOf sh []) [] f82 = some ir82 := by kernel_rfl
def fns : Nat → Option IFun
  | 11 => some ir11
  | 14 => some ir14
  | 15 => some ir15
  | 19 => some ir19
  | 20 => some ir20
  | 21 => some ir21
  | 23 => some ir23
  | 32 => some ir32
  | 34 => some ir34
  | 38 => some ir38
  | 39 => some ir39
  | 40 => some ir40
  | 43 => some ir43
  | 47 => some ir47
  | 48 => some ir48
  | 49 => some ir49
  | 50 => some ir50
  | 51 => some ir51
  | 52 => some ir52
  | 53 => some ir53
  | 54 => some ir54
  | 56 => some ir56
  | 58 => some ir58
  | 60 => some ir60
  | 61 => some ir61
  | 62 => some ir62
  | 66 => some ir66
  | 68 => some ir68
  | 69 => some ir69
  | 70 => some ir70
  | 72 => some ir72
  | 73 => some ir73
  | 75 => some ir75
  | 82 => some ir82
  | _ => none
theorem fns_ok : ∀ f F, fns f = some F → ∃ shf fd ann, prog.funcs[f]? = some fd ∧ compFn prog shf ann fd = some F := by
  intro f F h
  unfold fns at h
  split at h
  · injection h with h; subst h; exact ⟨_, _, _, func11, ir11_ok⟩
  · injection h with h; subst h; exact ⟨_, _, _, func14, ir14_ok⟩
  · injection h with h; subst h; exact ⟨_, _, _, func15, ir15_ok⟩
  · injection h with h; subst h; exact ⟨_, _, _, func19, ir19_ok⟩
  · injection h with h; subst h; exact ⟨_, _, _, func20, ir20_ok⟩
  · injection h with h; subst h; exact ⟨_, _, _, func21, ir21_ok⟩
  · injection h with h; subst h; exact ⟨_, _, _, func23, ir23_ok⟩
  · injection h with h; subst h; exact ⟨_, _, _, func32, ir32_ok⟩
  · injection h with h; subst h; exact ⟨_, _, _, func34, ir34_ok⟩
  · injection h with h; subst h; exact ⟨_, _, _, func38, ir38_ok⟩
  · injection h with h; subst h; exact ⟨_, _, _, func39, ir39_ok⟩
  · injection h with h; subst h; exact ⟨_, _, _, func40, ir40_ok⟩
  · injection h with h; subst h; exact ⟨_, _, _, func43, ir43_ok⟩
  · injection h with h; subst h; exact ⟨_, _, _, func47, ir47_ok⟩
  · injection h with h; subst h; exact ⟨_, _, _, func48, ir48_ok⟩
  · injection h with h; subst h; exact ⟨_, _, _, func49, ir49_ok⟩
  · injection h with h; subst h; exact ⟨_, _, _, func50, ir50_ok⟩
  · injection h with h; subst h; exact ⟨_, _, _, func51, ir51_ok⟩
  · injection h with h; subst h; exact ⟨_, _, _, func52, ir52_ok⟩
  · injection h with h; subst h; exact ⟨_, _, _, func53, ir53_ok⟩
  · injection h with h; subst h; exact ⟨_, _, _, func54, ir54_ok⟩
  · injection h with h; subst h; exact ⟨_, _, _, func56, ir56_ok⟩
  · injection h with h; subst h; exact ⟨_, _, _, func58, ir58_ok⟩
  · injection h with h; subst h; exact ⟨_, _, _, func60, ir60_ok⟩
  · injection h with h; subst h; exact ⟨_, _, _, func61, ir61_ok⟩
  · injection h with h; subst h; exact ⟨_, _, _, func62, ir62_ok⟩
  · injection h with h; subst h; exact ⟨_, _, _, func66, ir66_ok⟩
  · injection h with h; subst h; exact ⟨_, _, _, func68, ir68_ok⟩
  · injection h with h; subst h; exact ⟨_, _, _, func69, ir69_ok⟩
  · injection h with h; subst h; exact ⟨_, _, _, func70, ir70_ok⟩
  · injection h with h; subst h; exact ⟨_, _, _, func72, ir72_ok⟩
  · injection h with h; subst h; exact ⟨_, _, _, func73, ir73_ok⟩
  · injection h with h; subst h; exact ⟨_, _, _, func75, ir75_ok⟩
  · injection h with h; subst h; exact ⟨_, _, _, func82, ir82_ok⟩
  · cases h
end Go.Proofs.Tryd
