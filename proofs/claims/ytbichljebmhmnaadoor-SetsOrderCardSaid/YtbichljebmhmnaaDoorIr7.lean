/- The instructions of the functions, as the program has them. -/
import Derived.Test.YtbichljebmhmnaaDoorProg
import Derived.Test.YtbichljebmhmnaaDoorVD
namespace Go.Proofs.Tryd
open Go Go.Vs
def oI (d : Nat) (i : Ins) : IOp := ⟨some d, i, none⟩
def cI (n : Int) : Opd := .c (.p (.val (.int .i64 n)))
def cB (b : Bool) : Opd := .c (.p (.val (.bool b)))
abbrev tI (n : Nat) : Opd := .t n
def jM (a : Nat) : Ins := .mv (.t a)
def iM (d : Nat) (a : Nat) : IOp := ⟨some d, jM a, none⟩
def jC (a : Int) : Ins := .mv (cI a)
def iC (d : Nat) (a : Int) : IOp := ⟨some d, jC a, none⟩
def jE (a : Bool) : Ins := .mv (cB a)
def iE (d : Nat) (a : Bool) : IOp := ⟨some d, jE a, none⟩
def jL (s a : Nat) : Ins := .load false s (.t a)
def iL (d : Nat) (s a : Nat) : IOp := ⟨some d, jL s a, none⟩
def jT (s a : Nat) : Ins := .load true s (.t a)
def iT (d : Nat) (s a : Nat) : IOp := ⟨some d, jT s a, none⟩
def jF (k a : Nat) : Ins := .fieldA k (.t a)
def iF (d : Nat) (k a : Nat) : IOp := ⟨some d, jF k a, none⟩
def jX (s a b : Nat) : Ins := .indexA none s (.t a) (.t b)
def iX (d : Nat) (s a b : Nat) : IOp := ⟨some d, jX s a b, none⟩
def jN (a : Nat) : Ins := .len (.t a)
def iN (d : Nat) (a : Nat) : IOp := ⟨some d, jN a, none⟩
def jS (a : Nat) : Ins := .lenS (.t a)
def iS (d : Nat) (a : Nat) : IOp := ⟨some d, jS a, none⟩
def jB (o : BinOp) (a b : Nat) : Ins := .bin o (.t a) (.t b)
def iB (d : Nat) (o : BinOp) (a b : Nat) : IOp := ⟨some d, jB o a b, none⟩
def jD (o : BinOp) (a : Nat) (n : Int) : Ins := .bin o (.t a) (cI n)
def iD (d : Nat) (o : BinOp) (a : Nat) (n : Int) : IOp := ⟨some d, jD o a n, none⟩
def jP (a b : Nat) : Ins := .pick (.t a) (cB true) (.t b)
def iP (d : Nat) (a b : Nat) : IOp := ⟨some d, jP a b, none⟩
def jQ (a b : Nat) : Ins := .pick (.t a) (.t b) (cB false)
def iQ (d : Nat) (a b : Nat) : IOp := ⟨some d, jQ a b, none⟩
def jU (a : Nat) : Ins := .un .not (.t a)
def iU (d : Nat) (a : Nat) : IOp := ⟨some d, jU a, none⟩
def jK (f a : Nat) : Ins := .call false (.c (.fn f [])) [.t a]
def iK (d : Nat) (f a : Nat) : IOp := ⟨some d, jK f a, none⟩
def jV (s a b : Nat) : Ins := .store s (.t a) (.t b)
def gT (d g : Nat) (i : Ins) : IOp := ⟨some d, i, some (g, true)⟩
def gF (d g : Nat) (i : Ins) : IOp := ⟨some d, i, some (g, false)⟩
def gN (i : Ins) : IOp := ⟨none, i, none⟩
def z6 : PV := .val (.int .i64 0)
def zU : PV := .val (.int .u64 0)
def sh : List Nat := [33, 41, 45, 46, 48, 54]
def ir7_l0 : IC :=
  (.seq (.seq (.ops [iM 83 11, iM 84 8, iN 85 84, iB 86 .lss 83 85]) (.cond (tI 86) .skip (.exit 6))) (.seq (.block 7 (.seq (.ops [iM 89 5, iM 90 9, iX 91 4 89 90, iT 92 4 91, iM 93 8, iM 94 11, iX 95 4 93 94, iT 96 4 95, oI 97 (.call .false (.c (.fn 22 [])) [(tI 92), (tI 96)])]) (.cond (tI 97) (.ops [iM 98 10, iD 99 .add 98 1, iM 10 99]) .skip))) (.ops [iM 87 11, iD 88 .add 87 1, iM 11 88])))
def ir7_l1 : IC :=
  (.seq (.seq (.ops [iM 77 9, iM 78 5, iN 79 78, iB 80 .lss 77 79]) (.cond (tI 80) .skip (.exit 4))) (.seq (.block 5 (.seq (.ops [iC 10 0]) (.seq (.seq (.ops [iC 11 0]) (.block 6 (.loop [5, 8, 9, 10, 11] ir7_l0))) (.seq (.ops [iM 100 10, iD 101 .neq 100 1]) (.cond (tI 101) (.seq (.ops [iE 2 false]) .ret) .skip))))) (.ops [iM 81 9, iD 82 .add 81 1, iM 9 82])))
def ir7_l2 : IC :=
  (.seq (.seq (.ops [iM 50 7, iM 51 5, iN 52 51, iB 53 .lss 50 52]) (.cond (tI 53) .skip (.exit 2))) (.seq (.block 3 (.seq (.ops [iM 56 5, iM 57 7, iX 58 4 56 57, iT 59 4 58, iM 60 6, iM 61 7, iX 62 4 60 61, iT 63 4 62, oI 64 (.eqA .true [1, 1, 1, 1] .true (tI 59) (tI 63))]) (.cond (tI 64) (.seq (.ops [iE 2 false]) .ret) .skip))) (.ops [iM 54 7, iD 55 .add 54 1, iM 7 55])))
def ir7_l3 : IC :=
  (.seq (.seq (.ops [iM 19 4, iD 20 .geq 19 0]) (.cond (tI 20) .skip (.exit 0))) (.seq (.block 1 (.ops [iM 23 3, iM 24 0, iM 25 4, iX 26 4 24 25, iT 27 4 26, iM 28 0, iM 29 4, iX 30 4 28 29, iT 31 4 30, oI 32 (.buildL 4 [zU, zU, zU, zU] 2 [(0, (tI 27)), (1, (tI 31))]), oI 33 (.append 29 4 32 [zU, zU, zU, zU] (tI 23) (tI 32)), iM 3 33])) (.ops [iM 21 4, iD 22 .sub 21 1, iM 4 22])))
def ir7 : IFun :=
  ⟨110, [(.tmp 2)], (.seq (.ops [iE 2 false]) (.seq (.seq (.ops [iM 12 0, iN 13 12, iD 14 .gtr 13 12]) (.cond (tI 14) (.seq (.ops [oI 15 (.call .false (.c (.fn 8 [])) []), iM 2 15]) .ret) .skip)) (.seq (.ops [oI 3 (.nilrow 29 4)]) (.seq (.seq (.ops [iM 16 0, iN 17 16, iD 18 .sub 17 1, iM 4 18]) (.seq (.block 0 (.loop [0, 3, 4, 5000003] ir7_l3)) (.frzS [3] [] []))) (.seq (.ops [iM 34 0, iK 35 33 34, iM 36 3, iK 37 33 36, iM 5 35, iM 6 37]) (.seq (.seq (.ops [iM 38 5, iN 39 38, iM 40 6, iN 41 40, iB 42 .neq 39 41, iM 43 42, gF 44 43 (jM 0), gF 45 43 (jK 20 44), gF 46 43 (jM 3), gF 47 43 (jK 20 46), gF 48 43 (.eqA .true [1, 1, 1, 1] .true (tI 45) (tI 47)), iP 49 43 48]) (.cond (tI 49) (.seq (.ops [iE 2 false]) .ret) .skip)) (.seq (.seq (.ops [iC 7 0]) (.block 2 (.loop [0, 5, 6, 7] ir7_l2))) (.seq (.seq (.ops [iM 65 0, iN 66 65, iD 67 .eql 66 0]) (.cond (tI 67) (.seq (.ops [iM 68 5, iN 69 68, iD 70 .eql 69 1, iM 71 70, ⟨(.some 72), (.call .false (.c (.fn 8 [])) []), (.some (71, .true))⟩, iQ 73 71 72, iM 2 73]) .ret) .skip)) (.seq (.ops [iM 74 0, oI 75 (.slice 4 (tI 74) (.some (cI 1)) .none), iK 76 33 75, iM 8 76]) (.seq (.seq (.ops [iC 9 0]) (.block 4 (.loop [5, 8, 9] ir7_l1))) (.seq (.ops [iM 102 8, iN 103 102, iM 104 5, iN 105 104, iB 106 .leq 103 105, iM 107 106, ⟨(.some 108), (.call .false (.c (.fn 8 [])) []), (.some (107, .true))⟩, iQ 109 107 108, iM 2 109]) .ret)))))))))))⟩
theorem ir7_ok : compFn prog (shOf [41, 45, 46, 48, 54] [32]) [[0, 3, 4, 5000003], [0, 5, 6, 7], [5, 8, 9], [5, 8, 9, 10, 11]] f7 = some ir7 := by kernel_rfl
def ir8 : IFun :=
  ⟨62, [(.tmp 0)], (.seq (.ops [iE 0 false]) (.seq (.ops [⟨(.some 8), (.build [(.val (.int .u8 0)), (.val (.int .u8 0))] [(0, (1, (.c (.p (.val (.int .u8 97)))))), (1, (1, (.c (.p (.val (.int .u8 122))))))]), .none⟩, ⟨(.some 9), (.build [(.val (.int .u8 0)), (.val (.int .u8 0))] [(0, (1, (.c (.p (.val (.int .u8 10)))))), (1, (1, (.c (.p (.val (.int .u8 10))))))]), .none⟩, oI 10 (.buildS 26 2 [(.val (.int .u8 0)), (.val (.int .u8 0))] 2 [(0, (tI 8)), (1, (tI 9))]), iK 11 9 10, iM 7 11, oI 12 (.extract (tI 7) 0), oI 13 (.extract (tI 7) 1), oI 1 (.alloc 29 [(.z zU), (.z zU), (.z zU), (.z zU)]), gN (jV 4 1 12), iM 2 13]) (.seq (.ops [⟨(.some 15), (.call .false (.c (.fn 35 [])) [(.c (.p (.val (.string ⟨([91, 92, 110, 97, 45, 122, 93] : List UInt8).toArray⟩))))]), .none⟩, iM 14 15, oI 16 (.extract (tI 14) 0), oI 17 (.extract (tI 14) 1), oI 3 (.alloc 29 [(.z zU), (.z zU), (.z zU), (.z zU)]), gN (jV 4 3 16), iM 4 17]) (.seq (.ops [⟨(.some 19), (.call .false (.c (.fn 35 [])) [(.c (.p (.val (.string ⟨([91, 122, 45, 97, 93] : List UInt8).toArray⟩))))]), .none⟩, iM 18 19, oI 20 (.extract (tI 18) 0), oI 21 (.extract (tI 18) 1), oI 5 (.alloc 29 [(.z zU), (.z zU), (.z zU), (.z zU)]), gN (jV 4 5 20), iM 6 21]) (.seq (.ops [iM 22 2, iK 23 12 22, iM 24 4, iK 25 12 24, iB 26 .add 23 25, iD 27 .eql 26 0, iM 28 27, gT 29 28 (jT 4 1), gT 30 28 (jT 4 3), gT 31 28 (.eqA .true [1, 1, 1, 1] .false (tI 29) (tI 30)), iQ 32 28 31, iM 33 32, gT 34 33 (jT 4 1), gT 35 33 (jK 36 34), ⟨(.some 36), (.bin .eql (tI 35) (.c (.p (.val (.string ⟨([91, 92, 110, 97, 45, 122, 93] : List UInt8).toArray⟩))))), (.some (33, .true))⟩, iQ 37 33 36, iM 38 37, gT 39 38 (jM 6), gT 40 38 (jK 12 39), gT 41 38 (jD .eql 40 120), iQ 42 38 41, iM 43 42, gT 44 43 (jT 4 1), gT 45 43 (jK 30 44), gT 46 43 (jD .eql 45 27), iQ 47 43 46, iM 48 47, gT 49 48 (jT 4 1), ⟨(.some 50), (.call .false (.c (.fn 14 [])) [(tI 49), (.c (.p (.val (.int .u8 113))))]), (.some (48, .true))⟩, iQ 51 48 50, iM 52 51, gT 53 52 (jT 4 1), ⟨(.some 54), (.call .false (.c (.fn 14 [])) [(tI 53), (.c (.p (.val (.int .u8 81))))]), (.some (52, .true))⟩, gT 55 52 (jU 54), iQ 56 52 55, iM 57 56, gT 58 57 (jT 4 1), gT 59 57 (jK 31 58), gT 60 57 (.eqN .true (tI 59)), iQ 61 57 60, iM 0 61]) .ret)))))⟩
theorem ir8_ok : compFn prog (shOf sh []) [] f8 = some ir8 := by kernel_rfl
def ir9_l0 : IC :=
  (.seq (.seq (.ops [iM 23 7, iF 24 1 6, iL 25 1 24, oI 26 (.convI .i64 (tI 25)), iB 27 .leq 23 26]) (.cond (tI 27) .skip (.exit 2))) (.seq (.block 3 (.ops [iM 30 7, oI 31 (.bin .shr (tI 30) (.c (.p (.val (.int .u64 6))))), oI 32 (.indexA (.some 4) 1 (tI 4) (tI 31)), iL 33 1 32, iM 34 7, iD 35 .and 34 63, oI 36 (.bin .shl (.c (.p (.val (.int .u64 1)))) (tI 35)), iB 37 .or 33 36, oI 38 (.indexA (.some 4) 1 (tI 4) (tI 31)), gN (jV 1 38 37)])) (.ops [iM 28 7, iD 29 .add 28 1, iM 7 29])))
def ir9_l1 : IC :=
  (.seq (.ops [iB 11 .lss 10 9]) (.seq (.cond (tI 11) .skip (.exit 0)) (.seq (.block 1 (.seq (.ops [iX 12 2 8 10, iT 13 2 12, oI 6 (.alloc 26 [(.z (.val (.int .u8 0))), (.z (.val (.int .u8 0)))]), gN (jV 2 6 13)]) (.seq (.seq (.ops [iF 14 0 6, iL 15 1 14, iF 16 1 6, iL 17 1 16, iB 18 .gtr 15 17]) (.cond (tI 18) (.seq (.ops [oI 19 (.build [zU, zU, zU, zU] []), gN (jV 4 2 19), iC 3 4]) .ret) .skip)) (.seq (.ops [iF 20 0 6, iL 21 1 20, oI 22 (.convI .i64 (tI 21)), iM 7 22]) (.block 2 (.loop [2, 4, 6, 7, 8, 9, 10] ir9_l0)))))) (.ops [iD 39 .add 10 1, iM 10 39]))))
def ir9 : IFun :=
  ⟨41, [(.cell 2 .true 4), (.tmp 3)], (.seq (.ops [oI 2 (.alloc 29 [(.z zU), (.z zU), (.z zU), (.z zU)]), iC 3 0]) (.seq (.ops [oI 4 (.alloc 29 [(.z zU), (.z zU), (.z zU), (.z zU)])]) (.seq (.seq (.ops [iM 8 0, iN 9 8, iC 10 0]) (.block 0 (.loop [2, 4, 8, 9, 10] ir9_l1))) (.seq (.ops [iT 40 4 4, gN (jV 4 2 40), iC 3 0]) .ret))))⟩
theorem ir9_ok : compFn prog (shOf sh []) [[2, 4, 8, 9, 10], [2, 4, 6, 7, 8, 9, 10]] f9 = some ir9 := by kernel_rfl
def ir12 : IFun :=
  ⟨4, [(.tmp 2)], (.seq (.ops [iC 2 0]) (.seq (.ops [iM 3 0, iM 2 3]) .ret))⟩
theorem ir12_ok : compFn prog (shOf sh []) [] f12 = some ir12 := by kernel_rfl
def ir14 : IFun :=
  ⟨14, [(.tmp 4)], (.seq (.ops [oI 2 (.box 29 (tI 0)), iE 4 false]) (.seq (.ops [iM 5 1, oI 6 (.bin .shr (tI 5) (.c (.p (.val (.int .u64 6))))), oI 7 (.indexA (.some 4) 1 (tI 2) (tI 6)), iL 8 1 7, iM 9 1, oI 10 (.bin .and (tI 9) (.c (.p (.val (.int .u8 63))))), iB 11 .shr 8 10, oI 12 (.bin .and (tI 11) (.c (.p (.val (.int .u64 1))))), oI 13 (.bin .eql (tI 12) (.c (.p (.val (.int .u64 1))))), iM 4 13]) .ret))⟩
theorem ir14_ok : compFn prog (shOf sh []) [] f14 = some ir14 := by kernel_rfl
def ir16 : IFun :=
  ⟨3, [(.cell 0 .true 4)], (.seq (.ops [oI 0 (.alloc 29 [(.z zU), (.z zU), (.z zU), (.z zU)])]) (.seq (.ops [oI 1 (.build [zU, zU, zU, zU] []), iK 2 29 1, gN (jV 4 0 2)]) .ret))⟩
theorem ir16_ok : compFn prog (shOf sh []) [] f16 = some ir16 := by kernel_rfl
def ir18_l0 : IC :=
  (.seq (.ops [iD 7 .lss 6 4]) (.seq (.cond (tI 7) .skip (.exit 0)) (.seq (.block 1 (.seq (.ops [iM 8 6, iM 5 8]) (.ops [iM 9 5, oI 10 (.indexA (.some 4) 1 (tI 2) (tI 9)), iL 11 1 10, iM 12 5, oI 13 (.indexA (.some 4) 1 (tI 3) (tI 12)), iL 14 1 13, iB 15 .and 11 14, oI 16 (.indexA (.some 4) 1 (tI 2) (tI 9)), gN (jV 1 16 15)]))) (.ops [iD 17 .add 6 1, iM 6 17]))))
def ir18 : IFun :=
  ⟨19, [(.cell 4 .true 4)], (.seq (.ops [oI 2 (.box 29 (tI 0)), oI 3 (.box 29 (tI 1)), oI 4 (.alloc 29 [(.z zU), (.z zU), (.z zU), (.z zU)])]) (.seq (.seq (.ops [iC 6 0]) (.block 0 (.loop [2, 3, 4, 6] ir18_l0))) (.seq (.ops [iT 18 4 2, gN (jV 4 4 18)]) .ret)))⟩
theorem ir18_ok : compFn prog (shOf sh []) [[2, 3, 4, 6]] f18 = some ir18 := by kernel_rfl
def ir20_l0 : IC :=
  (.seq (.ops [iD 14 .lss 13 4]) (.seq (.cond (tI 14) .skip (.exit 2)) (.seq (.block 3 (.seq (.ops [iM 15 13, iM 6 15]) (.ops [iM 16 6, oI 17 (.indexA (.some 4) 1 (tI 3) (tI 16)), iL 18 1 17, iM 19 6, oI 20 (.indexA (.some 4) 1 (tI 5) (tI 19)), iL 21 1 20, iB 22 .or 18 21, oI 23 (.indexA (.some 4) 1 (tI 3) (tI 16)), gN (jV 1 23 22)]))) (.ops [iD 24 .add 13 1, iM 13 24]))))
def ir20_l1 : IC :=
  (.seq (.ops [iB 10 .lss 9 8]) (.seq (.cond (tI 10) .skip (.exit 0)) (.seq (.block 1 (.seq (.ops [iX 11 4 7 9, iT 12 4 11, oI 5 (.alloc 29 [(.z zU), (.z zU), (.z zU), (.z zU)]), gN (jV 4 5 12)]) (.seq (.ops [iC 13 0]) (.block 2 (.loop [2, 3, 5, 7, 8, 9, 13] ir20_l0))))) (.ops [iD 25 .add 9 1, iM 9 25]))))
def ir20 : IFun :=
  ⟨27, [(.cell 2 .true 4)], (.seq (.ops [oI 2 (.alloc 29 [(.z zU), (.z zU), (.z zU), (.z zU)])]) (.seq (.ops [oI 3 (.alloc 29 [(.z zU), (.z zU), (.z zU), (.z zU)])]) (.seq (.seq (.ops [iM 7 0, iN 8 7, iC 9 0]) (.block 0 (.loop [2, 3, 7, 8, 9] ir20_l1))) (.seq (.ops [iT 26 4 3, gN (jV 4 2 26)]) .ret))))⟩
theorem ir20_ok : compFn prog (shOf sh []) [[2, 3, 7, 8, 9], [2, 3, 5, 7, 8, 9, 13]] f20 = some ir20 := by kernel_rfl
def ir21_l0 : IC :=
  (.seq (.ops [iD 7 .lss 6 4]) (.seq (.cond (tI 7) .skip (.exit 0)) (.seq (.block 1 (.seq (.ops [iM 8 6, iM 5 8]) (.ops [iM 9 5, oI 10 (.indexA (.some 4) 1 (tI 2) (tI 9)), iL 11 1 10, iM 12 5, oI 13 (.indexA (.some 4) 1 (tI 3) (tI 12)), iL 14 1 13, iB 15 .andNot 11 14, oI 16 (.indexA (.some 4) 1 (tI 2) (tI 9)), gN (jV 1 16 15)]))) (.ops [iD 17 .add 6 1, iM 6 17]))))
def ir21 : IFun :=
  ⟨19, [(.cell 4 .true 4)], (.seq (.ops [oI 2 (.box 29 (tI 0)), oI 3 (.box 29 (tI 1)), oI 4 (.alloc 29 [(.z zU), (.z zU), (.z zU), (.z zU)])]) (.seq (.seq (.ops [iC 6 0]) (.block 0 (.loop [2, 3, 4, 6] ir21_l0))) (.seq (.ops [iT 18 4 2, gN (jV 4 4 18)]) .ret)))⟩
theorem ir21_ok : compFn prog (shOf sh []) [[2, 3, 4, 6]] f21 = some ir21 := by kernel_rfl
def ir22 : IFun :=
  ⟨10, [(.tmp 4)], (.seq (.ops [oI 2 (.box 29 (tI 0)), oI 3 (.box 29 (tI 1)), iE 4 false]) (.seq (.ops [iT 5 4 2, iT 6 4 3, oI 7 (.call .false (.c (.fn 21 [])) [(tI 5), (tI 6)]), oI 8 (.build [zU, zU, zU, zU] []), oI 9 (.eqA .true [1, 1, 1, 1] .false (tI 7) (tI 8)), iM 4 9]) .ret))⟩
theorem ir22_ok : compFn prog (shOf sh []) [] f22 = some ir22 := by kernel_rfl
def ir24_a0 : IC :=
  (.ops [iM 4 7])
def ir24_b0 : IC :=
  (.block 1 (.seq (.ops [iM 8 4, gN (jV 1 2 8), gN (.store 1 (tI 3) (cB true))]) .ret))
def ir24 : IFun :=
  ⟨9, [(.cell 2 .false 1), (.cell 3 .false 1)], (.seq (.ops [oI 1 (.box 29 (tI 0)), oI 2 (.alloc 5 [(.z (.val (.int .u8 0)))]), oI 3 (.alloc 4 [(.z (.val (.bool .false)))])]) (.seq (.seq (.ops [iT 5 4 1, iK 6 31 5]) (.block 0 (.rangeF (tI 6) [7] ir24_a0 ir24_b0))) (.seq (.ops [⟨.none, (.store 1 (tI 2) (.c (.p (.val (.int .u8 0))))), .none⟩, gN (.store 1 (tI 3) (cB false))]) .ret)))⟩
theorem ir24_ok : compFn prog (shOf sh []) [] f24 = some ir24 := by kernel_rfl
def ir25_a0 : IC :=
  (.ops [iM 4 8])
def ir25_b0 : IC :=
  (.block 1 (.seq (.seq (.ops [iL 9 1 3, iN 10 9, iM 5 10]) (.seq (.ops [iM 11 5, iD 12 .gtr 11 0, iM 13 12, gT 14 13 (jL 1 3), gT 15 13 (jM 5), gT 16 13 (jD .sub 15 1), gT 17 13 (jX 2 14 16), gT 18 13 (jF 1 17), gT 19 13 (jL 1 18), gT 20 13 (jM 4), ⟨(.some 21), (.bin .sub (tI 20) (.c (.p (.val (.int .u8 1))))), (.some (13, .true))⟩, gT 22 13 (jB .eql 19 21), iQ 23 13 22, iM 24 23, gT 25 24 (jM 4), ⟨(.some 26), (.bin .gtr (tI 25) (.c (.p (.val (.int .u8 0))))), (.some (24, .true))⟩, iQ 27 24 26]) (.cond (tI 27) (.seq (.ops [iL 28 1 3, iM 29 5, iD 30 .sub 29 1, iM 31 4, iX 32 2 28 30, iF 33 1 32, gN (jV 1 33 31)]) (.exit 1)) .skip))) (.ops [iL 34 1 3, iM 35 4, iM 36 4, oI 37 (.build [(.val (.int .u8 0)), (.val (.int .u8 0))] [(0, (1, (tI 35))), (1, (1, (tI 36)))]), oI 38 (.buildS 26 2 [(.val (.int .u8 0)), (.val (.int .u8 0))] 1 [(0, (tI 37))]), oI 39 (.append 26 2 2 [(.val (.int .u8 0)), (.val (.int .u8 0))] (tI 34) (tI 38)), gN (jV 1 3 39)])))
def ir25 : IFun :=
  ⟨41, [(.tmp 2)], (.seq (.ops [oI 1 (.box 29 (tI 0)), oI 2 (.nilrow 26 2)]) (.seq (.ops [oI 3 (.alloc 22 [(.r 26 2)])]) (.seq (.seq (.ops [iT 6 4 1, iK 7 31 6]) (.block 0 (.rangeF (tI 7) [8] ir25_a0 ir25_b0))) (.seq (.ops [iL 40 1 3, iM 2 40]) .ret))))⟩
theorem ir25_ok : compFn prog (shOf sh []) [] f25 = some ir25 := by kernel_rfl
def ir29_l0 : IC :=
  (.seq (.ops [iD 5 .lss 4 4]) (.seq (.cond (tI 5) .skip (.exit 0)) (.seq (.block 1 (.seq (.ops [iM 6 4, iM 3 6]) (.ops [iM 7 3, iM 8 3, oI 9 (.indexA (.some 4) 1 (tI 1) (tI 8)), iL 10 1 9, oI 11 (.un .xor (tI 10)), oI 12 (.indexA (.some 4) 1 (tI 1) (tI 7)), gN (jV 1 12 11)]))) (.ops [iD 13 .add 4 1, iM 4 13]))))
def ir29 : IFun :=
  ⟨15, [(.cell 2 .true 4)], (.seq (.ops [oI 1 (.box 29 (tI 0)), oI 2 (.alloc 29 [(.z zU), (.z zU), (.z zU), (.z zU)])]) (.seq (.seq (.ops [iC 4 0]) (.block 0 (.loop [1, 2, 4] ir29_l0))) (.seq (.ops [iT 14 4 1, gN (jV 4 2 14)]) .ret)))⟩
theorem ir29_ok : compFn prog (shOf sh []) [[1, 2, 4]] f29 = some ir29 := by kernel_rfl
def ir30_l0 : IC :=
  (.seq (.ops [iD 8 .lss 7 4]) (.seq (.cond (tI 8) .skip (.exit 0)) (.seq (.block 1 (.seq (.ops [oI 9 (.index .false 4 1 (tI 6) (tI 7)), iM 5 9]) (.ops [iM 10 3, iM 11 5, iK 12 38 11, iB 13 .add 10 12, iM 3 13]))) (.ops [iD 14 .add 7 1, iM 7 14]))))
def ir30 : IFun :=
  ⟨16, [(.tmp 2)], (.seq (.ops [oI 1 (.box 29 (tI 0)), iC 2 0]) (.seq (.ops [iC 3 0]) (.seq (.seq (.ops [iT 6 4 1, iC 7 0]) (.block 0 (.loop [3, 6, 7] ir30_l0))) (.seq (.ops [iM 15 3, iM 2 15]) .ret))))⟩
theorem ir30_ok : compFn prog (shOf sh []) [[3, 6, 7]] f30 = some ir30 := by kernel_rfl
def ir31 : IFun :=
  ⟨4, [(.tmp 2)], (.seq (.ops [oI 1 (.box 29 (tI 0)), oI 2 (.mv (.c (.p (.val .nilFunc))))]) (.seq (.ops [oI 3 (.mkfn 39 [(tI 1)]), iM 2 3]) .ret))⟩
theorem ir31_ok : compFn prog (shOf sh []) [] f31 = some ir31 := by kernel_rfl
def ir33_l0 : IC :=
  (.seq (.ops [iB 36 .lss 35 34]) (.seq (.cond (tI 36) .skip (.exit 4)) (.seq (.block 5 (.seq (.ops [iX 37 4 33 35, iT 38 4 37, oI 11 (.alloc 29 [(.z zU), (.z zU), (.z zU), (.z zU)]), gN (jV 4 11 38)]) (.seq (.opsR 0 [(.mk (iM 39 6) 0 0 []), (.mk (iT 40 4 11) 0 0 []), (.mk (oI 41 (.lkUp [1, 1, 1, 1] .true .false [z6] .false (tI 39) (tI 40))) 0 0 []), (.mk (iD 42 .add 41 1) 0 0 []), (.mk (oI 43 (.mapEn [1, 1, 1, 1] .true .false [z6] (tI 39) (tI 40))) 0 0 [2]), (.mk (oI 44 (.extract (tI 43) 1)) 0 0 []), (.mk (gN (.entSt (tI 39) (tI 44) (tI 42))) 0 0 [])]) (.seq (.ops [iT 45 4 11, oI 46 (.build [zU, zU, zU, zU] []), oI 47 (.eqA .true [1, 1, 1, 1] .true (tI 45) (tI 46)), iM 48 47, gT 49 48 (jM 6), gT 50 48 (jT 4 11), ⟨(.some 51), (.lkUp [1, 1, 1, 1] .true .false [z6] .false (tI 49) (tI 50)), (.some (48, .true))⟩, gT 52 48 (jD .eql 51 1), iQ 53 48 52]) (.cond (tI 53) (.ops [iM 54 7, iT 55 4 11, oI 56 (.buildL 4 [zU, zU, zU, zU] 1 [(0, (tI 55))]), oI 57 (.append 29 4 32 [zU, zU, zU, zU] (tI 54) (tI 56)), iM 7 57]) .skip))))) (.ops [iD 58 .add 35 1, iM 35 58]))))
def ir33_l1 : IC :=
  (.seq (.ops [iB 24 .lss 23 22]) (.seq (.cond (tI 24) .skip (.exit 2)) (.seq (.block 3 (.seq (.ops [iX 25 4 21 23, iT 26 4 25, oI 9 (.alloc 29 [(.z zU), (.z zU), (.z zU), (.z zU)]), gN (jV 4 9 26)]) (.seq (.ops [iT 27 4 9, iT 28 4 5, oI 29 (.call .false (.c (.fn 18 [])) [(tI 27), (tI 28)]), iT 30 4 9, iT 31 4 5, oI 32 (.call .false (.c (.fn 21 [])) [(tI 30), (tI 31)]), oI 33 (.buildL 4 [zU, zU, zU, zU] 2 [(0, (tI 29)), (1, (tI 32))]), iN 34 33, iC 35 0]) (.block 4 (.loop [5, 6, 7, 14, 15, 16, 21, 22, 23, 33, 34, 35] ir33_l0))))) (.ops [iD 59 .add 23 1, iM 23 59]))))
def ir33_l2 : IC :=
  (.seq (.ops [iB 17 .lss 16 15]) (.seq (.cond (tI 17) .skip (.exit 0)) (.seq (.block 1 (.seq (.ops [iX 18 4 14 16, iT 19 4 18, oI 5 (.alloc 29 [(.z zU), (.z zU), (.z zU), (.z zU)]), gN (jV 4 5 19)]) (.seq (.ops [⟨(.some 20), .mkMap, .none⟩, iM 6 20]) (.seq (.ops [oI 7 (.nilrow 29 4)]) (.seq (.seq (.ops [iM 21 3, iN 22 21, iC 23 0]) (.seq (.block 2 (.loop [5, 6, 7, 14, 15, 16, 21, 22, 23, 2000798002100] ir33_l1)) (.frzS [] [] [(7, (98, (21, 0)))]))) (.ops [iM 60 7, iM 3 60])))))) (.ops [iD 61 .add 16 1, iM 16 61]))))
def ir33 : IFun :=
  ⟨65, [(.tmp 2)], (.seq (.ops [oI 2 (.nilrow 29 4)]) (.seq (.ops [oI 12 (.call .false (.c (.fn 16 [])) []), oI 13 (.buildS 29 4 [zU, zU, zU, zU] 1 [(0, (tI 12))]), iM 3 13]) (.seq (.seq (.ops [iM 14 0, iN 15 14, iC 16 0]) (.block 0 (.loop [3, 14, 15, 16] ir33_l2))) (.seq (.ops [iM 62 3, oI 63 (.call .true (.c (.fn 41 [])) [(tI 62), (.c (.fn 42 []))])]) (.seq (.ops [iM 64 3, iM 2 64]) .ret)))))⟩
theorem ir33_ok : compFn prog (shOf sh [33, 56]) [[3, 14, 15, 16], [5, 6, 7, 14, 15, 16, 21, 22, 23, 2000798002100], [5, 6, 7, 14, 15, 16, 21, 22, 23, 33, 34, 35]] f33 = some ir33 := by kernel_rfl
def ir35_l0 : IC :=
  (.seq (.seq (.ops [iM 23 5, iM 24 23, gT 25 24 (jM 4), ⟨(.some 26), (.bin .neq (tI 25) (.c (.p (.val (.string ⟨([93] : List UInt8).toArray⟩))))), (.some (24, .true))⟩, iQ 27 24 26]) (.cond (tI 27) .skip (.exit 0))) (.block 1 (.seq (.ops [oI 8 (.alloc 26 [(.z (.val (.int .u8 0))), (.z (.val (.int .u8 0)))])]) (.seq (.seq (.ops [iM 29 4, iK 30 44 29, iM 28 30, oI 31 (.extract (tI 28) 0), oI 32 (.extract (tI 28) 1), oI 33 (.extract (tI 28) 2), iF 34 0 8, gN (jV 1 34 31), iM 4 32, iM 5 33]) (.seq (.ops [iM 35 5, iU 36 35]) (.cond (tI 36) (.exit 0) .skip))) (.seq (.ops [iF 37 0 8, iL 38 1 37, iF 39 1 8, gN (jV 1 39 38)]) (.seq (.seq (.ops [iM 41 4, ⟨(.some 42), (.call .false (.c (.fn 43 [])) [(tI 41), (.c (.p (.val (.string ⟨([45] : List UInt8).toArray⟩))))]), .none⟩, iM 40 42, oI 43 (.extract (tI 40) 0), oI 44 (.extract (tI 40) 1), iM 9 43, iM 10 44]) (.seq (.ops [iM 45 10]) (.cond (tI 45) (.ops [iM 47 9, iK 48 44 47, iM 46 48, oI 49 (.extract (tI 46) 0), oI 50 (.extract (tI 46) 1), oI 51 (.extract (tI 46) 2), iF 52 1 8, gN (jV 1 52 49), iM 4 50, iM 5 51]) .skip))) (.ops [iM 53 7, iT 54 2 8, oI 55 (.buildS 26 2 [(.val (.int .u8 0)), (.val (.int .u8 0))] 1 [(0, (tI 54))]), oI 56 (.append 26 2 2 [(.val (.int .u8 0)), (.val (.int .u8 0))] (tI 53) (tI 55)), iM 7 56])))))))
def ir35_l1 : IC :=
  (.block 1000000 (.seq (.seq (.block 0 (.loop [2, 4, 5, 6, 7] ir35_l0)) (.seq (.ops [iM 58 7, iK 59 9 58, iM 57 59, oI 60 (.extract (tI 57) 0), oI 61 (.extract (tI 57) 1), oI 11 (.alloc 29 [(.z zU), (.z zU), (.z zU), (.z zU)]), gN (jV 4 11 60), iM 12 61]) (.seq (.block 2 (.seq (.ops [iM 63 5, iU 64 63, iM 65 64, gF 66 65 (jM 12), gF 67 65 (jD .neq 66 0), iP 68 65 67, iM 62 68]) (.cond (tI 62) (.seq (.ops [oI 69 (.build [zU, zU, zU, zU] []), gN (jV 4 2 69), iC 3 120]) .ret) (.seq (.ops [iM 71 6, iM 70 71]) (.cond (tI 70) (.ops [iT 72 4 11, iK 73 29 72, gN (jV 4 11 73)]) .skip))))) (.seq (.ops [iT 74 4 11, gN (jV 4 2 74), iC 3 0]) .ret)))) (.exit 2000000)))
def ir35 : IFun :=
  ⟨75, [(.cell 2 .true 4), (.tmp 3)], (.seq (.ops [oI 2 (.alloc 29 [(.z zU), (.z zU), (.z zU), (.z zU)]), iC 3 0]) (.seq (.ops [iM 14 0, ⟨(.some 15), (.call .false (.c (.fn 43 [])) [(tI 14), (.c (.p (.val (.string ⟨([91] : List UInt8).toArray⟩))))]), .none⟩, iM 13 15, oI 16 (.extract (tI 13) 0), oI 17 (.extract (tI 13) 1), iM 4 16, iM 5 17]) (.seq (.ops [iM 19 4, ⟨(.some 20), (.call .false (.c (.fn 43 [])) [(tI 19), (.c (.p (.val (.string ⟨([94] : List UInt8).toArray⟩))))]), .none⟩, iM 18 20, oI 21 (.extract (tI 18) 0), oI 22 (.extract (tI 18) 1), iM 4 21, iM 6 22]) (.seq (.ops [oI 7 (.nilrow 26 2)]) (.block 2000000 (.loop [2, 4, 5, 6, 7] ir35_l1))))))⟩
theorem ir35_ok : compFn prog (shOf sh []) [[2, 4, 5, 6, 7], [2, 4, 5, 6, 7]] f35 = some ir35 := by kernel_rfl
def ir36_l0 : IC :=
  (.seq (.ops [iB 17 .lss 16 15]) (.seq (.cond (tI 17) .skip (.exit 0)) (.seq (.block 1 (.seq (.ops [iX 18 2 14 16, iT 19 2 18, oI 5 (.alloc 26 [(.z (.val (.int .u8 0))), (.z (.val (.int .u8 0)))]), gN (jV 2 5 19)]) (.seq (.ops [iF 20 0 5, iL 21 1 20, iK 22 47 21, oI 23 (.call .true (.c (.fn 46 [])) [(tI 3), (tI 22)])]) (.seq (.seq (.ops [iF 24 1 5, iL 25 1 24, iF 26 0 5, iL 27 1 26, iB 28 .sub 25 27, oI 29 (.bin .gtr (tI 28) (.c (.p (.val (.int .u8 1)))))]) (.cond (tI 29) (.ops [oI 30 (.call .true (.c (.fn 45 [])) [(tI 3), (.c (.p (.val (.int .u8 45))))])]) .skip)) (.seq (.ops [iF 31 1 5, iL 32 1 31, iF 33 0 5, iL 34 1 33, iB 35 .neq 32 34]) (.cond (tI 35) (.ops [iF 36 1 5, iL 37 1 36, iK 38 47 37, oI 39 (.call .true (.c (.fn 46 [])) [(tI 3), (tI 38)])]) .skip)))))) (.ops [iD 40 .add 16 1, iM 16 40]))))
def ir36 : IFun :=
  ⟨43, [(.tmp 2)], (.seq (.ops [oI 1 (.box 29 (tI 0)), ⟨(.some 2), (.mv (.c (.p (.val (.string ⟨([] : List UInt8).toArray⟩))))), .none⟩]) (.seq (.ops [oI 3 (.alloc 79 [(.z (.val (.pointer .none))), (.r 5 1)])]) (.seq (.ops [oI 6 (.call .true (.c (.fn 45 [])) [(tI 3), (.c (.p (.val (.int .u8 91))))])]) (.seq (.seq (.ops [iT 7 4 1, iK 8 30 7, iD 9 .gtr 8 128]) (.cond (tI 9) (.seq (.ops [oI 10 (.call .true (.c (.fn 45 [])) [(tI 3), (.c (.p (.val (.int .u8 94))))])]) (.ops [iT 11 4 1, iK 12 29 11, gN (jV 4 1 12)])) .skip)) (.seq (.seq (.ops [iT 13 4 1, iK 14 25 13, iN 15 14, iC 16 0]) (.block 0 (.loop [3, 14, 15, 16] ir36_l0))) (.seq (.ops [oI 41 (.call .true (.c (.fn 45 [])) [(tI 3), (.c (.p (.val (.int .u8 93))))])]) (.seq (.ops [oI 42 (.call .true (.c (.fn 48 [])) [(tI 3)]), iM 2 42]) .ret)))))))⟩
theorem ir36_ok : compFn prog (shOf sh []) [[3, 14, 15, 16]] f36 = some ir36 := by kernel_rfl
def ir38 : IFun :=
  ⟨35, [(.tmp 2)], (.seq (.ops [iC 2 0]) (.seq (.ops [iM 3 0, oI 4 (.bin .shr (tI 3) (.c (.p (.val (.int .u64 1))))), oI 5 (.bin .and (tI 4) (.c (.p (.val (.int .u64 6148914691236517205))))), iM 6 0, oI 7 (.bin .and (tI 6) (.c (.p (.val (.int .u64 6148914691236517205))))), iB 8 .add 5 7, iM 0 8]) (.seq (.ops [iM 9 0, oI 10 (.bin .shr (tI 9) (.c (.p (.val (.int .u64 2))))), oI 11 (.bin .and (tI 10) (.c (.p (.val (.int .u64 3689348814741910323))))), iM 12 0, oI 13 (.bin .and (tI 12) (.c (.p (.val (.int .u64 3689348814741910323))))), iB 14 .add 11 13, iM 0 14]) (.seq (.ops [iM 15 0, oI 16 (.bin .shr (tI 15) (.c (.p (.val (.int .u64 4))))), iM 17 0, iB 18 .add 16 17, oI 19 (.bin .and (tI 18) (.c (.p (.val (.int .u64 1085102592571150095))))), iM 0 19]) (.seq (.ops [iM 20 0, iM 21 0, oI 22 (.bin .shr (tI 21) (.c (.p (.val (.int .u64 8))))), iB 23 .add 20 22, iM 0 23]) (.seq (.ops [iM 24 0, iM 25 0, oI 26 (.bin .shr (tI 25) (.c (.p (.val (.int .u64 16))))), iB 27 .add 24 26, iM 0 27]) (.seq (.ops [iM 28 0, iM 29 0, oI 30 (.bin .shr (tI 29) (.c (.p (.val (.int .u64 32))))), iB 31 .add 28 30, iM 0 31]) (.seq (.ops [iM 32 0, oI 33 (.convI .i64 (tI 32)), iD 34 .and 33 127, iM 2 34]) .ret))))))))⟩
theorem ir38_ok : compFn prog (shOf sh []) [] f38 = some ir38 := by kernel_rfl
def ir39_l0 : IC :=
  (.seq (.seq (.ops [iM 10 4, oI 11 (.bin .neq (tI 10) (.c (.p zU)))]) (.cond (tI 11) .skip (.exit 2))) (.seq (.block 3 (.seq (.ops [iM 16 0, iM 17 3, oI 18 (.bin .shl (tI 17) (.c (.p (.val (.int .u64 6))))), iM 19 4, iK 20 40 19, iB 21 .add 18 20, oI 22 (.convI .u8 (tI 21)), oI 23 (.call .true (tI 16) [(tI 22)]), iU 24 23]) (.cond (tI 24) .ret .skip))) (.ops [iM 12 4, iM 13 4, oI 14 (.bin .sub (tI 13) (.c (.p (.val (.int .u64 1))))), iB 15 .and 12 14, iM 4 15])))
def ir39_l1 : IC :=
  (.seq (.ops [iD 7 .lss 6 4]) (.seq (.cond (tI 7) .skip (.exit 0)) (.seq (.block 1 (.seq (.ops [iM 8 6, oI 9 (.index .false 4 1 (tI 5) (tI 6)), iM 3 8, iM 4 9]) (.block 2 (.loop [0, 3, 4, 5, 6] ir39_l0)))) (.ops [iD 25 .add 6 1, iM 6 25]))))
def ir39 : IFun :=
  ⟨26, [], (.seq (.ops [iT 5 4 1, iC 6 0]) (.block 0 (.loop [0, 5, 6] ir39_l1)))⟩
theorem ir39_ok : compFn prog (shOf sh []) [[0, 5, 6], [0, 3, 4, 5, 6]] f39 = some ir39 := by kernel_rfl
def ir40 : IFun :=
  ⟨14, [(.tmp 2)], (.seq (.ops [iC 2 0]) (.seq (.seq (.ops [iM 3 0, oI 4 (.bin .eql (tI 3) (.c (.p zU)))]) (.cond (tI 4) (.seq (.ops [iC 2 64]) .ret) .skip)) (.seq (.ops [iM 5 0, iM 6 0, oI 7 (.un .neg (tI 6)), iB 8 .and 5 7, oI 9 (.bin .mul (tI 8) (.c (.p (.val (.int .u64 285870213051353865))))), oI 10 (.bin .shr (tI 9) (.c (.p (.val (.int .u64 58))))), oI 11 (.indexA (.some 64) 1 (.g 0) (tI 10)), iL 12 1 11, oI 13 (.convI .i64 (tI 12)), iM 2 13]) .ret)))⟩
theorem ir40_ok : compFn prog (shOf sh []) [] f40 = some ir40 := by kernel_rfl
def ir42 : IFun :=
  ⟨24, [(.tmp 4)], (.seq (.ops [oI 2 (.box 29 (tI 0)), oI 3 (.box 29 (tI 1)), iC 4 0]) (.seq (.ops [iT 10 4 2, iK 11 24 10, iM 9 11, oI 12 (.extract (tI 9) 0), oI 13 (.extract (tI 9) 1), iM 5 12, iM 6 13]) (.seq (.ops [iT 15 4 3, iK 16 24 15, iM 14 16, oI 17 (.extract (tI 14) 0), oI 18 (.extract (tI 14) 1), iM 7 17, iM 8 18]) (.seq (.ops [iM 19 5, oI 20 (.convI .i64 (tI 19)), iM 21 7, oI 22 (.convI .i64 (tI 21)), iB 23 .sub 20 22, iM 4 23]) .ret))))⟩
theorem ir42_ok : compFn prog (shOf sh []) [] f42 = some ir42 := by kernel_rfl
def ir43 : IFun :=
  ⟨11, [(.tmp 4), (.tmp 5)], (.seq (.ops [⟨(.some 4), (.mv (.c (.p (.val (.string ⟨([] : List UInt8).toArray⟩))))), .none⟩, iE 5 false]) (.seq (.ops [iM 6 0, iM 7 1, oI 8 (.call .false (.c (.fn 51 [])) [(tI 6), (tI 7)]), oI 9 (.extract (tI 8) 0), oI 10 (.extract (tI 8) 1), iM 4 9, iM 5 10]) .ret))⟩
theorem ir43_ok : compFn prog (shOf sh []) [] f43 = some ir43 := by kernel_rfl
def ir44 : IFun :=
  ⟨77, [(.tmp 2), (.tmp 3), (.tmp 4)], (.seq (.ops [oI 2 (.mv (.c (.p (.val (.int .u8 0))))), ⟨(.some 3), (.mv (.c (.p (.val (.string ⟨([] : List UInt8).toArray⟩))))), .none⟩, iE 4 false]) (.seq (.block 0 (.seq (.ops [iM 8 0, ⟨(.some 9), (.bin .eql (tI 8) (.c (.p (.val (.string ⟨([] : List UInt8).toArray⟩))))), .none⟩, iM 7 9]) (.cond (tI 7) .skip (.seq (.ops [iM 11 0, oI 12 (.indexS (tI 11) (cI 0)), oI 13 (.bin .neq (tI 12) (.c (.p (.val (.int .u8 92))))), iM 10 13]) (.cond (tI 10) (.seq (.ops [iM 14 0, oI 15 (.indexS (tI 14) (cI 0)), iM 16 0, oI 17 (.sliceS (tI 16) (.some (cI 1)) .none), iM 18 0, oI 19 (.indexS (tI 18) (cI 0)), oI 20 (.bin .geq (tI 19) (.c (.p (.val (.int .u8 32))))), iM 21 20, gT 22 21 (jM 0), gT 23 21 (.indexS (tI 22) (cI 0)), ⟨(.some 24), (.bin .lss (tI 23) (.c (.p (.val (.int .u8 127))))), (.some (21, .true))⟩, iQ 25 21 24, iM 26 25, gT 27 26 (jM 0), gT 28 26 (.indexS (tI 27) (cI 0)), ⟨(.some 29), (.call .false (.c (.fn 52 [])) [(.c (.p (.val (.string ⟨([9, 10, 13, 92, 91, 93, 45, 94] : List UInt8).toArray⟩)))), (tI 28)]), (.some (26, .true))⟩, gT 30 26 (jD .lss 29 0), iQ 31 26 30, iM 2 15, iM 3 17, iM 4 31]) .ret) (.seq (.ops [iM 33 0, iS 34 33, iD 35 .gtr 34 1, iM 36 35, gT 37 36 (jM 0), gT 38 36 (.indexS (tI 37) (cI 1)), ⟨(.some 39), (.call .false (.c (.fn 52 [])) [(.c (.p (.val (.string ⟨([116, 110, 114, 92, 91, 93, 45, 94] : List UInt8).toArray⟩)))), (tI 38)]), (.some (36, .true))⟩, gT 40 36 (jD .geq 39 0), iQ 41 36 40, iM 32 41]) (.cond (tI 32) (.seq (.ops [iM 42 0, oI 43 (.indexS (tI 42) (cI 1)), ⟨(.some 44), (.call .false (.c (.fn 52 [])) [(.c (.p (.val (.string ⟨([116, 110, 114, 92, 91, 93, 45, 94] : List UInt8).toArray⟩)))), (tI 43)]), .none⟩, ⟨(.some 45), (.indexS (.c (.p (.val (.string ⟨([9, 10, 13, 92, 91, 93, 45, 94] : List UInt8).toArray⟩)))) (tI 44)), .none⟩, iM 46 0, oI 47 (.sliceS (tI 46) (.some (cI 2)) .none), iM 2 45, iM 3 47, iE 4 true]) .ret) (.seq (.ops [iM 49 0, iS 50 49, iD 51 .gtr 50 3, iM 52 51, gT 53 52 (jM 0), gT 54 52 (.indexS (tI 53) (cI 1)), ⟨(.some 55), (.bin .eql (tI 54) (.c (.p (.val (.int .u8 120))))), (.some (52, .true))⟩, iQ 56 52 55, iM 48 56]) (.cond (tI 48) (.seq (.ops [iM 57 0, oI 58 (.indexS (tI 57) (cI 2)), iK 59 53 58, iM 60 0, oI 61 (.indexS (tI 60) (cI 3)), iK 62 53 61, iM 5 59, iM 6 62]) (.seq (.ops [iM 63 5, oI 64 (.bin .shl (tI 63) (.c (.p (.val (.int .u64 4))))), iM 65 6, iB 66 .or 64 65, oI 67 (.convI .u8 (tI 66)), iM 68 0, oI 69 (.sliceS (tI 68) (.some (cI 4)) .none), iM 70 5, iD 71 .geq 70 0, iM 72 71, gT 73 72 (jM 6), gT 74 72 (jD .geq 73 0), iQ 75 72 74, iM 2 67, iM 3 69, iM 4 75]) .ret)) .skip))))))))) (.seq (.ops [iM 76 0, oI 2 (.mv (.c (.p (.val (.int .u8 0))))), iM 3 76, iE 4 false]) .ret)))⟩
theorem ir44_ok : compFn prog (shOf sh []) [] f44 = some ir44 := by kernel_rfl
def ir45 : IFun :=
  ⟨17, [(.tmp 4)], (.seq (.ops [oI 4 (.mv (.c (.p (.val .nilIface))))]) (.seq (.ops [iM 5 0, oI 6 (.call .true (.c (.fn 54 [])) [(tI 5)])]) (.seq (.ops [iM 7 0, iM 8 0, oI 9 (.nilChk (tI 8)), iF 10 1 9, iL 11 1 10, iM 12 1, oI 13 (.buildS 5 1 [(.val (.int .u8 0))] 1 [(0, (tI 12))]), oI 14 (.append 5 1 1 [(.val (.int .u8 0))] (tI 11) (tI 13)), oI 15 (.nilChk (tI 7)), iF 16 1 15, gN (jV 1 16 14)]) (.seq (.ops [oI 4 (.mv (.c (.p (.val .nilIface))))]) .ret))))⟩
theorem ir45_ok : compFn prog (shOf sh []) [] f45 = some ir45 := by kernel_rfl
def ir46 : IFun :=
  ⟨19, [(.tmp 4), (.tmp 5)], (.seq (.ops [iC 4 0, oI 5 (.mv (.c (.p (.val .nilIface))))]) (.seq (.ops [iM 6 0, oI 7 (.call .true (.c (.fn 54 [])) [(tI 6)])]) (.seq (.ops [iM 8 0, iM 9 0, oI 10 (.nilChk (tI 9)), iF 11 1 10, iL 12 1 11, iM 13 1, oI 14 (.append 5 1 1 [(.val (.int .u8 0))] (tI 12) (tI 13)), oI 15 (.nilChk (tI 8)), iF 16 1 15, gN (jV 1 16 14)]) (.seq (.ops [iM 17 1, iS 18 17, iM 4 18, oI 5 (.mv (.c (.p (.val .nilIface))))]) .ret))))⟩
theorem ir46_ok : compFn prog (shOf sh []) [] f46 = some ir46 := by kernel_rfl
def ir47 : IFun :=
  ⟨36, [(.tmp 2)], (.seq (.ops [⟨(.some 2), (.mv (.c (.p (.val (.string ⟨([] : List UInt8).toArray⟩))))), .none⟩]) (.seq (.seq (.ops [iM 4 0, ⟨(.some 5), (.call .false (.c (.fn 52 [])) [(.c (.p (.val (.string ⟨([9, 10, 13, 92, 91, 93, 45, 94] : List UInt8).toArray⟩)))), (tI 4)]), .none⟩, iM 3 5]) (.seq (.ops [iM 6 3, iD 7 .geq 6 0]) (.cond (tI 7) (.seq (.ops [iM 8 3, iM 9 3, iD 10 .add 9 1, ⟨(.some 11), (.sliceS (.c (.p (.val (.string ⟨([116, 110, 114, 92, 91, 93, 45, 94] : List UInt8).toArray⟩)))) (.some (tI 8)) (.some (tI 10))), .none⟩, ⟨(.some 12), (.bin .add (.c (.p (.val (.string ⟨([92] : List UInt8).toArray⟩)))) (tI 11)), .none⟩, iM 2 12]) .ret) .skip))) (.seq (.seq (.ops [iM 13 0, oI 14 (.bin .gtr (tI 13) (.c (.p (.val (.int .u8 32))))), iM 15 14, gT 16 15 (jM 0), ⟨(.some 17), (.bin .lss (tI 16) (.c (.p (.val (.int .u8 127))))), (.some (15, .true))⟩, iQ 18 15 17]) (.cond (tI 18) (.seq (.ops [iM 19 0, oI 20 (.convI .i32 (tI 19)), oI 21 (.convS (tI 20)), iM 2 21]) .ret) .skip)) (.seq (.ops [iM 22 0, oI 23 (.bin .shr (tI 22) (.c (.p (.val (.int .u64 4))))), iM 24 0, oI 25 (.bin .shr (tI 24) (.c (.p (.val (.int .u64 4))))), oI 26 (.bin .add (tI 25) (.c (.p (.val (.int .u8 1))))), ⟨(.some 27), (.sliceS (.c (.p (.val (.string ⟨([48, 49, 50, 51, 52, 53, 54, 55, 56, 57, 97, 98, 99, 100, 101, 102] : List UInt8).toArray⟩)))) (.some (tI 23)) (.some (tI 26))), .none⟩, ⟨(.some 28), (.bin .add (.c (.p (.val (.string ⟨([92, 120] : List UInt8).toArray⟩)))) (tI 27)), .none⟩, iM 29 0, oI 30 (.bin .and (tI 29) (.c (.p (.val (.int .u8 15))))), iM 31 0, oI 32 (.bin .and (tI 31) (.c (.p (.val (.int .u8 15))))), oI 33 (.bin .add (tI 32) (.c (.p (.val (.int .u8 1))))), ⟨(.some 34), (.sliceS (.c (.p (.val (.string ⟨([48, 49, 50, 51, 52, 53, 54, 55, 56, 57, 97, 98, 99, 100, 101, 102] : List UInt8).toArray⟩)))) (.some (tI 30)) (.some (tI 33))), .none⟩, iB 35 .add 28 34, iM 2 35]) .ret))))⟩
theorem ir47_ok : compFn prog (shOf sh []) [] f47 = some ir47 := by kernel_rfl
def ir48 : IFun :=
  ⟨14, [(.tmp 2)], (.seq (.ops [⟨(.some 2), (.mv (.c (.p (.val (.string ⟨([] : List UInt8).toArray⟩))))), .none⟩]) (.seq (.ops [iM 3 0, oI 4 (.nilChk (tI 3)), iF 5 1 4, iL 6 1 5, oI 7 (.slData (tI 6)), iM 8 0, oI 9 (.nilChk (tI 8)), iF 10 1 9, iL 11 1 10, iN 12 11, oI 13 (.uStr 5 (tI 7) (tI 12)), iM 2 13]) .ret))⟩
theorem ir48_ok : compFn prog (shOf sh []) [] f48 = some ir48 := by kernel_rfl
def ir51 : IFun :=
  ⟨15, [(.tmp 4), (.tmp 5)], (.seq (.ops [⟨(.some 4), (.mv (.c (.p (.val (.string ⟨([] : List UInt8).toArray⟩))))), .none⟩, iE 5 false]) (.seq (.seq (.ops [iM 6 0, iM 7 1, oI 8 (.call .false (.c (.fn 65 [])) [(tI 6), (tI 7)]), iU 9 8]) (.cond (tI 9) (.seq (.ops [iM 10 0, iM 4 10, iE 5 false]) .ret) .skip)) (.seq (.ops [iM 11 0, iM 12 1, iS 13 12, oI 14 (.sliceS (tI 11) (.some (tI 13)) .none), iM 4 14, iE 5 true]) .ret)))⟩
theorem ir51_ok : compFn prog (shOf sh []) [] f51 = some ir51 := by kernel_rfl
def ir52 : IFun :=
  ⟨8, [(.tmp 4)], (.seq (.ops [iC 4 0]) (.seq (.ops [iM 5 0, iM 6 1, oI 7 (.call .false (.c (.fn 66 [])) [(tI 5), (tI 6)]), iM 4 7]) .ret))⟩
theorem ir52_ok : compFn prog (shOf sh []) [] f52 = some ir52 := by kernel_rfl
def ir53 : IFun :=
  ⟨13, [(.tmp 2)], (.seq (.ops [iC 2 0]) (.seq (.seq (.ops [iM 3 0, oI 4 (.bin .leq (.c (.p (.val (.int .u8 65)))) (tI 3)), iM 5 4, gT 6 5 (jM 0), ⟨(.some 7), (.bin .leq (tI 6) (.c (.p (.val (.int .u8 70))))), (.some (5, .true))⟩, iQ 8 5 7]) (.cond (tI 8) (.ops [iM 9 0, oI 10 (.bin .add (tI 9) (.c (.p (.val (.int .u8 32))))), iM 0 10]) .skip)) (.seq (.ops [iM 11 0, ⟨(.some 12), (.call .false (.c (.fn 52 [])) [(.c (.p (.val (.string ⟨([48, 49, 50, 51, 52, 53, 54, 55, 56, 57, 97, 98, 99, 100, 101, 102] : List UInt8).toArray⟩)))), (tI 11)]), .none⟩, iM 2 12]) .ret)))⟩
theorem ir53_ok : compFn prog (shOf sh []) [] f53 = some ir53 := by kernel_rfl
def ir54 : IFun :=
  ⟨20, [], (.seq (.ops [iM 2 0, oI 3 (.nilChk (tI 2)), iF 4 0 3, iL 5 1 4, oI 6 (.eqP .false (tI 5) (.c (.p (.val (.pointer .none)))))]) (.cond (tI 6) (.ops [iM 7 0, iM 8 0, oI 9 (.cvU (tI 8)), iM 10 9, oI 11 (.cvP [(79, (2, 0))] (tI 10)), oI 12 (.nilChk (tI 7)), iF 13 0 12, gN (jV 1 13 11)]) (.seq (.ops [iM 14 0, oI 15 (.nilChk (tI 14)), iF 16 0 15, iL 17 1 16, iM 18 0, oI 19 (.eqP .true (tI 17) (tI 18))]) (.cond (tI 19) .bad .skip))))⟩
theorem ir54_ok : compFn prog (shOf sh []) [] f54 = some ir54 := by kernel_rfl
def ir65 : IFun :=
  ⟨18, [(.tmp 4)], (.seq (.ops [iE 4 false]) (.seq (.ops [iM 5 0, iS 6 5, iM 7 1, iS 8 7, iB 9 .geq 6 8, iM 10 9, gT 11 10 (jM 0), gT 12 10 (jM 1), gT 13 10 (jS 12), ⟨(.some 14), (.sliceS (tI 11) .none (.some (tI 13))), (.some (10, .true))⟩, gT 15 10 (jM 1), gT 16 10 (jB .eql 14 15), iQ 17 10 16, iM 4 17]) .ret))⟩
theorem ir65_ok : compFn prog (shOf sh []) [] f65 = some ir65 := by kernel_rfl
def ir66 : IFun :=
  ⟨8, [(.tmp 4)], (.seq (.ops [iC 4 0]) (.seq (.ops [iM 5 0, iM 6 1, oI 7 (.ixb (tI 5) (tI 6)), iM 4 7]) .ret))⟩
theorem ir66_ok : compFn prog (shOf sh []) [] f66 = some ir66 := by kernel_rfl
def fns : Nat → Option IFun
  | 7 => some ir7
  | 8 => some ir8
  | 9 => some ir9
  | 12 => some ir12
  | 14 => some ir14
  | 16 => some ir16
  | 18 => some ir18
  | 20 => some ir20
  | 21 => some ir21
  | 22 => some ir22
  | 24 => some ir24
  | 25 => some ir25
  | 29 => some ir29
  | 30 => some ir30
  | 31 => some ir31
  | 33 => some ir33
  | 35 => some ir35
  | 36 => some ir36
  | 38 => some ir38
  | 39 => some ir39
  | 40 => some ir40
  | 42 => some ir42
  | 43 => some ir43
  | 44 => some ir44
  | 45 => some ir45
  | 46 => some ir46
  | 47 => some ir47
  | 48 => some ir48
  | 51 => some ir51
  | 52 => some ir52
  | 53 => some ir53
  | 54 => some ir54
  | 65 => some ir65
  | 66 => some ir66
  | _ => none
theorem fns_ok : ∀ f F, fns f = some F → ∃ shf fd ann, prog.funcs[f]? = some fd ∧ compFn prog shf ann fd = some F := by
  intro f F h
  unfold fns at h
  split at h
  · injection h with h; subst h; exact ⟨_, _, _, func7, ir7_ok⟩
  · injection h with h; subst h; exact ⟨_, _, _, func8, ir8_ok⟩
  · injection h with h; subst h; exact ⟨_, _, _, func9, ir9_ok⟩
  · injection h with h; subst h; exact ⟨_, _, _, func12, ir12_ok⟩
  · injection h with h; subst h; exact ⟨_, _, _, func14, ir14_ok⟩
  · injection h with h; subst h; exact ⟨_, _, _, func16, ir16_ok⟩
  · injection h with h; subst h; exact ⟨_, _, _, func18, ir18_ok⟩
  · injection h with h; subst h; exact ⟨_, _, _, func20, ir20_ok⟩
  · injection h with h; subst h; exact ⟨_, _, _, func21, ir21_ok⟩
  · injection h with h; subst h; exact ⟨_, _, _, func22, ir22_ok⟩
  · injection h with h; subst h; exact ⟨_, _, _, func24, ir24_ok⟩
  · injection h with h; subst h; exact ⟨_, _, _, func25, ir25_ok⟩
  · injection h with h; subst h; exact ⟨_, _, _, func29, ir29_ok⟩
  · injection h with h; subst h; exact ⟨_, _, _, func30, ir30_ok⟩
  · injection h with h; subst h; exact ⟨_, _, _, func31, ir31_ok⟩
  · injection h with h; subst h; exact ⟨_, _, _, func33, ir33_ok⟩
  · injection h with h; subst h; exact ⟨_, _, _, func35, ir35_ok⟩
  · injection h with h; subst h; exact ⟨_, _, _, func36, ir36_ok⟩
  · injection h with h; subst h; exact ⟨_, _, _, func38, ir38_ok⟩
  · injection h with h; subst h; exact ⟨_, _, _, func39, ir39_ok⟩
  · injection h with h; subst h; exact ⟨_, _, _, func40, ir40_ok⟩
  · injection h with h; subst h; exact ⟨_, _, _, func42, ir42_ok⟩
  · injection h with h; subst h; exact ⟨_, _, _, func43, ir43_ok⟩
  · injection h with h; subst h; exact ⟨_, _, _, func44, ir44_ok⟩
  · injection h with h; subst h; exact ⟨_, _, _, func45, ir45_ok⟩
  · injection h with h; subst h; exact ⟨_, _, _, func46, ir46_ok⟩
  · injection h with h; subst h; exact ⟨_, _, _, func47, ir47_ok⟩
  · injection h with h; subst h; exact ⟨_, _, _, func48, ir48_ok⟩
  · injection h with h; subst h; exact ⟨_, _, _, func51, ir51_ok⟩
  · injection h with h; subst h; exact ⟨_, _, _, func52, ir52_ok⟩
  · injection h with h; subst h; exact ⟨_, _, _, func53, ir53_ok⟩
  · injection h with h; subst h; exact ⟨_, _, _, func54, ir54_ok⟩
  · injection h with h; subst h; exact ⟨_, _, _, func65, ir65_ok⟩
  · injection h with h; subst h; exact ⟨_, _, _, func66, ir66_ok⟩
  · cases h
end Go.Proofs.Tryd
