/- The instructions of the functions, as the program has them. -/
import Derived.Test.YtekoieoheaddgaaProg
import Derived.Test.YtekoieoheaddgaaVD
namespace Go.Proofs.Try
open Go Go.Vs
def oI (d : Nat) (i : Ins) : IOp := ⟨some d, i, none⟩
def cI (n : Int) : Opd := .c (.p (.val (.int .i64 n)))
def cB (b : Bool) : Opd := .c (.p (.val (.bool b)))
def zZ : ZC := .z (.val (.int .i64 0))
abbrev tI (n : Nat) : Opd := .t n
def jM (a : Nat) : Ins := .mv (.t a)
def iM (d : Nat) (a : Nat) : IOp := ⟨some d, jM a, none⟩
def jC (a : Int) : Ins := .mv (cI a)
def iC (d : Nat) (a : Int) : IOp := ⟨some d, jC a, none⟩
def jE (a : Bool) : Ins := .mv (cB a)
def iE (d : Nat) (a : Bool) : IOp := ⟨some d, jE a, none⟩
def jL (s a : Nat) : Ins := .load false s (.t a)
def iL (d : Nat) (s a : Nat) : IOp := ⟨some d, jL s a, none⟩
def jT (s a : Nat) : Ins := .load true s (.t a)
def iT (d : Nat) (s a : Nat) : IOp := ⟨some d, jT s a, none⟩
def jF (k a : Nat) : Ins := .fieldA k (.t a)
def iF (d : Nat) (k a : Nat) : IOp := ⟨some d, jF k a, none⟩
def jX (s a b : Nat) : Ins := .indexA none s (.t a) (.t b)
def iX (d : Nat) (s a b : Nat) : IOp := ⟨some d, jX s a b, none⟩
def jN (a : Nat) : Ins := .len (.t a)
def iN (d : Nat) (a : Nat) : IOp := ⟨some d, jN a, none⟩
def jS (a : Nat) : Ins := .lenS (.t a)
def iS (d : Nat) (a : Nat) : IOp := ⟨some d, jS a, none⟩
def jB (o : BinOp) (a b : Nat) : Ins := .bin o (.t a) (.t b)
def iB (d : Nat) (o : BinOp) (a b : Nat) : IOp := ⟨some d, jB o a b, none⟩
def jD (o : BinOp) (a : Nat) (n : Int) : Ins := .bin o (.t a) (cI n)
def iD (d : Nat) (o : BinOp) (a : Nat) (n : Int) : IOp := ⟨some d, jD o a n, none⟩
def jP (a b : Nat) : Ins := .pick (.t a) (cB true) (.t b)
def iP (d : Nat) (a b : Nat) : IOp := ⟨some d, jP a b, none⟩
def jQ (a b : Nat) : Ins := .pick (.t a) (.t b) (cB false)
def iQ (d : Nat) (a b : Nat) : IOp := ⟨some d, jQ a b, none⟩
def jU (a : Nat) : Ins := .un .not (.t a)
def iU (d : Nat) (a : Nat) : IOp := ⟨some d, jU a, none⟩
def jK (f a : Nat) : Ins := .call false (.c (.fn f [])) [.t a]
def iK (d : Nat) (f a : Nat) : IOp := ⟨some d, jK f a, none⟩
def jV (s a b : Nat) : Ins := .store s (.t a) (.t b)
def gT (d g : Nat) (i : Ins) : IOp := ⟨some d, i, some (g, true)⟩
def gF (d g : Nat) (i : Ins) : IOp := ⟨some d, i, some (g, false)⟩
def gN (i : Ins) : IOp := ⟨none, i, none⟩
def z6 : PV := .val (.int .i64 0)
def zU : PV := .val (.int .u64 0)
def zN : AV := .p (.val (.slice none 0 0))
def zM : PV := .val (.slice none 0 0)
def sh : List Nat := [81, 82, 80, 84, 86, 36, 30, 31, 43, 44, 45, 46, 47, 57, 71, 72, 79, 85, 87, 88, 89, 90, 91, 69, 52]
def ir4_l0 : IC :=
  (.seq (.seq (.ops [iM 42 7, iF 43 1 3, iL 44 1 43, iN 45 44, iB 46 .lss 42 45]) (.cond (tI 46) .skip (.exit 0))) (.seq (.block 1 (.seq (.ops [iF 49 1 3, iL 50 1 49, iM 51 7, iX 52 7 50 51, iF 53 1 52, iL 54 1 53, iN 55 54, iD 56 .gtr 55 200]) (.cond (tI 56) (.seq (.ops [oI 57 (.call .false (.c (.fn 10 [])) []), iM 6 57]) .ret) .skip))) (.ops [iM 47 7, iD 48 .add 47 1, iM 7 48])))
def ir4 : IFun :=
  ⟨159, [(.tmp 6)], (.seq (.ops [oI 3 (.box 27 (tI 0)), oI 5 (.box 48 (tI 2)), iE 6 false]) (.seq (.seq (.ops [iF 13 0 3, iL 14 1 13, iN 15 14, iD 16 .gtr 15 12, iM 17 16, gF 18 17 (jF 1 3), gF 19 17 (jL 1 18), gF 20 17 (jN 19), gF 21 17 (jD .gtr 20 25), iP 22 17 21, iM 23 22, gF 24 23 (jF 0 5), gF 25 23 (jL 1 24), gF 26 23 (jS 25), gF 27 23 (jD .gtr 26 200), iP 28 23 27, iM 29 28, gF 30 29 (jF 3 3), gF 31 29 (jL 1 30), gF 32 29 (jN 31), gF 33 29 (jD .gtr 32 30), iP 34 29 33, iM 35 34, gF 36 35 (jF 4 3), gF 37 35 (jL 1 36), gF 38 35 (jN 37), gF 39 35 (jD .gtr 38 12), iP 40 35 39]) (.cond (tI 40) (.seq (.ops [oI 41 (.call .false (.c (.fn 10 [])) []), iM 6 41]) .ret) .skip)) (.seq (.seq (.ops [iC 7 0]) (.block 0 (.loop [1, 3, 5, 7] ir4_l0))) (.seq (.ops [iT 59 5 3, iM 60 1, iF 61 0 5, iL 62 1 61, oI 63 (.call .false (.c (.fn 17 [])) [(tI 59), (tI 60), (tI 62)]), iM 58 63, oI 64 (.extract (tI 58) 0), oI 65 (.extract (tI 58) 1), iM 8 64, iM 9 65]) (.seq (.ops [iT 67 5 3, iM 68 1, iF 69 0 5, iL 70 1 69, iF 71 1 5, iL 72 1 71, oI 73 (.call .false (.c (.fn 18 [])) [(tI 67), (tI 68), (tI 70), (tI 72)]), iM 66 73, oI 74 (.extract (tI 66) 0), oI 75 (.extract (tI 66) 1), iM 10 74, iM 11 75]) (.seq (.ops [iT 76 5 3, iK 77 9 76, iM 12 77]) (.seq (.seq (.ops [iM 78 12, iD 79 .eql 78 0, iM 80 79, gT 81 80 (jM 1), gT 82 80 (jD .lss 81 0), gT 83 80 (jM 82), gF 84 83 (jM 1), gF 85 83 (jF 0 3), gF 86 83 (jL 1 85), gF 87 83 (jN 86), gF 88 83 (jB .geq 84 87), gT 89 80 (jP 83 88), iQ 90 80 89]) (.cond (tI 90) (.ops [iC 12 4]) .skip)) (.seq (.seq (.ops [iM 91 12, iD 92 .neq 91 0]) (.cond (tI 92) (.seq (.ops [iM 93 8, iU 94 93, iM 95 94, gT 96 95 (jM 10), gT 97 95 (jU 96), iQ 98 95 97, iM 99 98, gT 100 99 (jM 9), gT 101 99 (jM 12), gT 102 99 (jB .eql 100 101), iQ 103 99 102, iM 104 103, gT 105 104 (jM 11), gT 106 104 (jM 12), gT 107 104 (jB .eql 105 106), iQ 108 104 107, iM 109 108, ⟨(.some 110), (.call .false (.c (.fn 10 [])) []), (.some (109, .true))⟩, iQ 111 109 110, iM 6 111]) .ret) .skip)) (.seq (.seq (.ops [iM 112 8, iT 113 5 3, iM 114 1, iF 115 0 5, iL 116 1 115, oI 117 (.call .false (.c (.fn 19 [])) [(tI 113), (tI 114), (tI 116)]), oI 118 (.eqA .false [0] .true (tI 112) (tI 117)), iM 119 118, gF 120 119 (jM 9), gF 121 119 (jD .neq 120 0), iP 122 119 121]) (.cond (tI 122) (.seq (.ops [iE 6 false]) .ret) .skip)) (.seq (.seq (.ops [iF 123 1 5, iL 124 1 123, iD 125 .lss 124 0, iM 126 125, gF 127 126 (jF 1 5), gF 128 126 (jL 1 127), gF 129 126 (jF 0 5), gF 130 126 (jL 1 129), gF 131 126 (jS 130), gF 132 126 (jB .gtr 128 131), iP 133 126 132]) (.cond (tI 133) (.seq (.ops [iM 134 10, iU 135 134, iM 136 135, gT 137 136 (jM 11), gT 138 136 (jD .eql 137 4), iQ 139 136 138, iM 140 139, ⟨(.some 141), (.call .false (.c (.fn 10 [])) []), (.some (140, .true))⟩, iQ 142 140 141, iM 6 142]) .ret) .skip)) (.seq (.ops [iM 143 10, iT 144 5 3, iM 145 1, iF 146 0 5, iL 147 1 146, iF 148 1 5, iL 149 1 148, oI 150 (.call .false (.c (.fn 20 [])) [(tI 144), (tI 145), (tI 147), (tI 149)]), oI 151 (.eqA .false [0] .false (tI 143) (tI 150)), iM 152 151, gT 153 152 (jM 11), gT 154 152 (jD .eql 153 0), iQ 155 152 154, iM 156 155, ⟨(.some 157), (.call .false (.c (.fn 10 [])) []), (.some (156, .true))⟩, iQ 158 156 157, iM 6 158]) .ret)))))))))))⟩
theorem ir4_ok : compFn prog (shOf sh []) [[1, 3, 5, 7]] f4 = some ir4 := by kernel_rfl
def ir9_l0 : IC :=
  (.seq (.seq (.ops [iM 142 9, iM 143 8, iB 144 .lss 142 143]) (.cond (tI 144) .skip (.exit 12))) (.seq (.block 13 (.seq (.ops [iF 147 4 1, iL 148 1 147, iM 149 9, iX 150 5 148 149, iF 151 0 150, iL 152 1 151, iF 153 4 1, iL 154 1 153, iM 155 8, iX 156 5 154 155, iF 157 0 156, iL 158 1 157, iB 159 .eql 152 158]) (.cond (tI 159) (.seq (.ops [iC 2 160]) .ret) .skip))) (.ops [iM 145 9, iD 146 .add 145 1, iM 9 146])))
def ir9_l1 : IC :=
  (.seq (.seq (.ops [iM 117 8, iF 118 4 1, iL 119 1 118, iN 120 119, iB 121 .lss 117 120]) (.cond (tI 121) .skip (.exit 10))) (.seq (.block 11 (.seq (.seq (.ops [iT 124 5 1, iF 125 4 1, iL 126 1 125, iM 127 8, iX 128 5 126 127, iF 129 0 128, iL 130 1 129, oI 131 (.call .false (.c (.fn 22 [])) [(tI 124), (tI 130)]), iU 132 131, iM 133 132, gF 134 133 (jF 4 1), gF 135 133 (jL 1 134), gF 136 133 (jM 8), gF 137 133 (jX 5 135 136), gF 138 133 (jF 1 137), gF 139 133 (jT 4 138), gF 140 133 (jK 25 139), iP 141 133 140]) (.cond (tI 141) (.seq (.ops [iC 2 160]) .ret) .skip)) (.seq (.ops [iC 9 0]) (.block 12 (.loop [1, 8, 9] ir9_l0))))) (.ops [iM 122 8, iD 123 .add 122 1, iM 8 123])))
def ir9_l2 : IC :=
  (.seq (.seq (.ops [iM 101 7, iM 102 6, iB 103 .lss 101 102]) (.cond (tI 103) .skip (.exit 8))) (.seq (.block 9 (.seq (.ops [iF 106 3 1, iL 107 1 106, iM 108 7, iX 109 3 107 108, iT 110 3 109, iF 111 3 1, iL 112 1 111, iM 113 6, iX 114 3 112 113, iT 115 3 114, oI 116 (.eqA .true [1, 1, 1] .false (tI 110) (tI 115))]) (.cond (tI 116) (.seq (.ops [iC 2 160]) .ret) .skip))) (.ops [iM 104 7, iD 105 .add 104 1, iM 7 105])))
def ir9_l3 : IC :=
  (.seq (.seq (.ops [iM 86 6, iF 87 3 1, iL 88 1 87, iN 89 88, iB 90 .lss 86 89]) (.cond (tI 90) .skip (.exit 6))) (.seq (.block 7 (.seq (.seq (.ops [iT 93 5 1, iF 94 3 1, iL 95 1 94, iM 96 6, iX 97 3 95 96, iT 98 3 97, oI 99 (.call .false (.c (.fn 24 [])) [(tI 93), (tI 98)]), iU 100 99]) (.cond (tI 100) (.seq (.ops [iC 2 160]) .ret) .skip)) (.seq (.ops [iC 7 0]) (.block 8 (.loop [1, 6, 7] ir9_l2))))) (.ops [iM 91 6, iD 92 .add 91 1, iM 6 92])))
def ir9_l4 : IC :=
  (.seq (.seq (.ops [iM 71 5, iF 72 1 1, iL 73 1 72, iN 74 73, iB 75 .lss 71 74]) (.cond (tI 75) .skip (.exit 4))) (.seq (.block 5 (.seq (.ops [iT 78 5 1, iF 79 1 1, iL 80 1 79, iM 81 5, iX 82 7 80 81, iT 83 7 82, oI 84 (.call .false (.c (.fn 23 [])) [(tI 78), (tI 83)]), iU 85 84]) (.cond (tI 85) (.seq (.ops [iC 2 160]) .ret) .skip))) (.ops [iM 76 5, iD 77 .add 76 1, iM 5 77])))
def ir9_l5 : IC :=
  (.seq (.seq (.ops [iM 55 4, iM 56 3, iB 57 .lss 55 56]) (.cond (tI 57) .skip (.exit 2))) (.seq (.block 3 (.seq (.ops [iF 60 0 1, iL 61 1 60, iM 62 4, iX 63 1 61 62, iL 64 1 63, iF 65 0 1, iL 66 1 65, iM 67 3, iX 68 1 66 67, iL 69 1 68, iB 70 .eql 64 69]) (.cond (tI 70) (.seq (.ops [iC 2 160]) .ret) .skip))) (.ops [iM 58 4, iD 59 .add 58 1, iM 4 59])))
def ir9_l6 : IC :=
  (.seq (.seq (.ops [iM 33 3, iF 34 0 1, iL 35 1 34, iN 36 35, iB 37 .lss 33 36]) (.cond (tI 37) .skip (.exit 0))) (.seq (.block 1 (.seq (.seq (.ops [iF 40 0 1, iL 41 1 40, iM 42 3, iX 43 1 41 42, iL 44 1 43, ⟨(.some 45), (.bin .eql (tI 44) (.c (.p (.val (.string ⟨([] : List UInt8).toArray⟩))))), .none⟩, iM 46 45, gF 47 46 (jF 0 1), gF 48 46 (jL 1 47), gF 49 46 (jM 3), gF 50 46 (jX 1 48 49), gF 51 46 (jL 1 50), gF 52 46 (jS 51), gF 53 46 (jD .gtr 52 1000), iP 54 46 53]) (.cond (tI 54) (.seq (.ops [iC 2 160]) .ret) .skip)) (.seq (.ops [iC 4 0]) (.block 2 (.loop [1, 3, 4] ir9_l5))))) (.ops [iM 38 3, iD 39 .add 38 1, iM 3 39])))
def ir9 : IFun :=
  ⟨160, [(.tmp 2)], (.seq (.ops [oI 1 (.box 27 (tI 0)), iC 2 0]) (.seq (.seq (.ops [iF 10 0 1, iL 11 1 10, iN 12 11, iD 13 .lss 12 1, iM 14 13, gF 15 14 (jF 0 1), gF 16 14 (jL 1 15), gF 17 14 (jN 16), gF 18 14 (jD .gtr 17 1000), iP 19 14 18, iM 20 19, gF 21 20 (jF 1 1), gF 22 20 (jL 1 21), gF 23 20 (jN 22), gF 24 20 (jD .gtr 23 1000), iP 25 20 24, iM 26 25, gF 27 26 (jT 5 1), gF 28 26 (jF 2 1), gF 29 26 (jL 1 28), ⟨(.some 30), (.call .false (.c (.fn 22 [])) [(tI 27), (tI 29)]), (.some (26, .false))⟩, gF 31 26 (jU 30), iP 32 26 31]) (.cond (tI 32) (.seq (.ops [iC 2 160]) .ret) .skip)) (.seq (.seq (.ops [iC 3 0]) (.block 0 (.loop [1, 3] ir9_l6))) (.seq (.seq (.ops [iC 5 0]) (.block 4 (.loop [1, 5] ir9_l4))) (.seq (.seq (.ops [iC 6 0]) (.block 6 (.loop [1, 6] ir9_l3))) (.seq (.seq (.ops [iC 8 0]) (.block 10 (.loop [1, 8] ir9_l1))) (.seq (.ops [iC 2 0]) .ret)))))))⟩
theorem ir9_ok : compFn prog (shOf sh []) [[1, 3], [1, 3, 4], [1, 5], [1, 6], [1, 6, 7], [1, 8], [1, 8, 9]] f9 = some ir9 := by kernel_rfl
def ir10 : IFun :=
  ⟨123, [(.tmp 0)], (.seq (.ops [iE 0 false]) (.seq (.ops [oI 17 (.call .false (.c (.fn 26 [])) [(.c (.p (.val (.int .u8 97))))]), oI 18 (.build [z6, zU, zU, zU, zU, z6] [(1, (4, (tI 17)))]), oI 1 (.alloc 75 [zZ, (.z zU), (.z zU), (.z zU), (.z zU), zZ]), gN (jV 6 1 18)]) (.seq (.opsR 11 [(.mk ⟨(.some 19), (.buildS 9 1 [(.val (.string ⟨([] : List UInt8).toArray⟩))] 1 [(0, (.c (.p (.val (.string ⟨([83] : List UInt8).toArray⟩)))))]), .none⟩ 0 1 [] 0), (.mk (iT 20 6 1) 1 0 [0] 0), (.mk (oI 21 (.buildS 75 6 [z6, zU, zU, zU, zU, z6] 1 [(0, (tI 20))])) 1 1 [0] 0), (.mk ⟨(.some 22), (.build [z6, zM, (.val (.string ⟨([] : List UInt8).toArray⟩)), z6, (.val (.bool .false)), (.val (.bool .false)), z6] [(1, (1, (tI 21))), (6, (1, (cI (-1))))]), .none⟩ 2 0 [] 0), (.mk (iT 23 6 1) 2 0 [0, 1, 2] 0), (.mk (iT 24 6 1) 2 0 [0, 1, 2, 4] 0), (.mk (oI 25 (.buildS 75 6 [z6, zU, zU, zU, zU, z6] 2 [(0, (tI 23)), (1, (tI 24))])) 2 1 [0, 1, 2] 0), (.mk ⟨(.some 26), (.build [z6, zM, (.val (.string ⟨([] : List UInt8).toArray⟩)), z6, (.val (.bool .false)), (.val (.bool .false)), z6] [(1, (1, (tI 25))), (6, (1, (cI (-1))))]), .none⟩ 3 0 [] 0), (.mk (iT 27 6 1) 3 0 [0, 1, 2, 4, 5, 6] 0), (.mk (oI 28 (.buildS 75 6 [z6, zU, zU, zU, zU, z6] 1 [(0, (tI 27))])) 3 1 [0, 1, 2, 4, 5, 6] 0), (.mk ⟨(.some 29), (.build [z6, zM, (.val (.string ⟨([] : List UInt8).toArray⟩)), z6, (.val (.bool .false)), (.val (.bool .false)), z6] [(1, (1, (tI 28))), (3, (1, (cI 11))), (6, (1, (cI (-1))))]), .none⟩ 4 0 [] 0), (.mk ⟨(.some 30), (.buildS 52 7 [z6, zM, (.val (.string ⟨([] : List UInt8).toArray⟩)), z6, (.val (.bool .false)), (.val (.bool .false)), z6] 3 [(0, (tI 22)), (1, (tI 26)), (2, (tI 29))]), .none⟩ 4 1 [0] 0), (.mk (oI 31 (.call .false (.c (.fn 26 [])) [(.c (.p (.val (.int .u8 98))))])) 5 0 [0, 1, 2, 4, 5, 6, 8, 9, 11] 0), (.mk (oI 32 (.build [z6, zU, zU, zU, zU] [(1, (4, (tI 31)))])) 5 0 [] 0), (.mk (oI 33 (.buildS 70 5 [z6, zU, zU, zU, zU] 1 [(0, (tI 32))])) 5 1 [0, 1, 2, 4, 5, 6, 8, 9, 11] 0), (.mk (oI 34 (.build [zM, zM, z6, zM, zM] [(0, (1, (tI 19))), (1, (1, (tI 30))), (4, (1, (tI 33)))])) 6 0 [] 0), (.mk (oI 2 (.alloc 27 [(.r 9 1), (.r 52 7), zZ, (.r 65 3), (.r 70 5)])) 6 5 [0, 1, 2, 4, 5, 6, 8, 9, 11, 12, 14] 0), (.mk (gN (jV 5 2 34)) 11 0 [] 0)]) (.seq (.ops [oI 35 (.buildS 3 1 [z6] 1 [(0, (cI 1))]), ⟨(.some 36), (.build [z6, z6, z6, z6, zM] [(2, (1, (cI 1))), (3, (1, (cI 0))), (4, (1, (tI 35)))]), .none⟩, oI 37 (.buildS 35 5 [z6, z6, z6, z6, zM] 1 [(0, (tI 36))]), iM 3 37]) (.seq (.ops [oI 38 (.buildS 3 1 [z6] 2 [(0, (cI 1)), (1, (cI 2))]), ⟨(.some 39), (.build [z6, z6, z6, z6, zM] [(2, (1, (cI 2))), (3, (1, (cI 1))), (4, (1, (tI 38)))]), .none⟩, oI 40 (.buildS 35 5 [z6, z6, z6, z6, zM] 1 [(0, (tI 39))]), iM 4 40]) (.seq (.frzS [2, 3, 4] [] [(2, (97, (0, 0))), (3, (97, (0, 0))), (4, (97, (0, 0)))]) (.seq (.ops [iT 42 5 2, iM 43 3, ⟨(.some 44), (.call .false (.c (.fn 12 [])) [(tI 42), (.c (.p (.val (.string ⟨([97] : List UInt8).toArray⟩)))), (tI 43)]), .none⟩, iM 41 44, oI 45 (.extract (tI 41) 0), oI 46 (.extract (tI 41) 1), iM 5 45, iM 6 46]) (.seq (.ops [iT 48 5 2, iM 49 4, ⟨(.some 50), (.call .false (.c (.fn 12 [])) [(tI 48), (.c (.p (.val (.string ⟨([97, 97] : List UInt8).toArray⟩)))), (tI 49)]), .none⟩, iM 47 50, oI 51 (.extract (tI 47) 0), oI 52 (.extract (tI 47) 1), iM 7 51, iM 8 52]) (.seq (.ops [iT 54 5 2, iM 55 4, ⟨(.some 56), (.call .false (.c (.fn 13 [])) [(tI 54), (.c (.p (.val (.string ⟨([97, 97, 98] : List UInt8).toArray⟩)))), (tI 55)]), .none⟩, iM 53 56, oI 57 (.extract (tI 53) 0), oI 58 (.extract (tI 53) 1), iM 9 57, iM 10 58]) (.seq (.ops [iT 60 5 2, ⟨(.some 61), (.call .false (.c (.fn 17 [])) [(tI 60), (cI 0), (.c (.p (.val (.string ⟨([97] : List UInt8).toArray⟩))))]), .none⟩, iM 59 61, oI 62 (.extract (tI 59) 0), oI 63 (.extract (tI 59) 1), iM 11 62, iM 12 63]) (.seq (.ops [iT 65 5 2, ⟨(.some 66), (.call .false (.c (.fn 18 [])) [(tI 65), (cI 0), (.c (.p (.val (.string ⟨([97, 98] : List UInt8).toArray⟩)))), (cI 1)]), .none⟩, iM 64 66, oI 67 (.extract (tI 64) 0), oI 68 (.extract (tI 64) 1), iM 13 67, iM 14 68]) (.seq (.ops [iT 70 5 2, ⟨(.some 71), (.call .false (.c (.fn 17 [])) [(tI 70), (cI 1), (.c (.p (.val (.string ⟨([97] : List UInt8).toArray⟩))))]), .none⟩, iM 69 71, oI 72 (.extract (tI 69) 0), oI 73 (.extract (tI 69) 1), iM 15 72, iM 16 73]) (.seq (.ops [iM 74 5, iN 75 74, iD 76 .eql 75 0, iM 77 76, gT 78 77 (jM 6), gT 79 77 (jD .eql 78 0), iQ 80 77 79, iM 81 80, gT 82 81 (jM 7), gT 83 81 (jN 82), gT 84 81 (jD .eql 83 1), iQ 85 81 84, iM 86 85, gT 87 86 (jM 8), gT 88 86 (jD .eql 87 0), iQ 89 86 88, iM 90 89, gT 91 90 (jM 9), gT 92 90 (jN 91), gT 93 90 (jD .eql 92 1), iQ 94 90 93, iM 95 94, gT 96 95 (jM 9), gT 97 95 (.indexA .none 1 (tI 96) (cI 0)), gT 98 95 (jL 1 97), gT 99 95 (jD .eql 98 2), iQ 100 95 99, iM 101 100, gT 102 101 (jM 10), gT 103 101 (jD .eql 102 0), iQ 104 101 103, iM 105 104, gT 106 105 (jM 11), iQ 107 105 106, iM 108 107, gT 109 108 (jM 12), gT 110 108 (jD .eql 109 0), iQ 111 108 110, iM 112 111, gT 113 112 (jM 13), iQ 114 112 113, iM 115 114, gT 116 115 (jM 14), gT 117 115 (jD .eql 116 0), iQ 118 115 117, iM 119 118, gT 120 119 (jM 16), gT 121 119 (jD .eql 120 4), iQ 122 119 121, iM 0 122]) .ret)))))))))))))⟩
theorem ir10_ok : compFn prog (shOf sh []) [[3000005, 4000002, 4000003, 4000004, 1000297000000, 1000397000000, 1000497000000]] f10 = some ir10 := by kernel_rfl
def ir12_l0 : IC :=
  (.seq (.ops [iB 27 .lss 26 25]) (.seq (.cond (tI 27) .skip (.exit 0)) (.seq (.block 1 (.seq (.ops [iX 28 5 24 26, iT 29 5 28, oI 12 (.alloc 35 [zZ, zZ, zZ, zZ, (.r 3 1)]), gN (jV 5 12 29)]) (.seq (.ops [iF 30 4 12, iL 31 1 30, oI 32 (.append 3 1 8 [z6] (.c zN) (tI 31)), iF 33 4 12, gN (jV 1 33 32)]) (.ops [iM 34 10, iT 35 5 12, oI 36 (.buildS 35 5 [z6, z6, z6, z6, zM] 1 [(0, (tI 35))]), oI 37 (.append 35 5 56 [z6, z6, z6, z6, zM] (tI 34) (tI 36)), iM 10 37])))) (.ops [iD 38 .add 26 1, iM 26 38]))))
def ir12 : IFun :=
  ⟨40, [(.tmp 6), (.tmp 7)], (.seq (.ops [oI 3 (.box 27 (tI 0)), oI 6 (.nilrow 35 5), iC 7 0]) (.seq (.ops [iT 14 5 3, iM 15 1, iM 16 2, oI 17 (.call .true (.c (.fn 30 [])) [(tI 14), (tI 15), (tI 16)]), iM 13 17, oI 18 (.extract (tI 13) 0), oI 19 (.extract (tI 13) 1), iM 8 18, iM 9 19]) (.seq (.seq (.ops [iM 20 9, iD 21 .neq 20 0]) (.cond (tI 21) (.seq (.ops [iM 22 9, oI 6 (.nilrow 35 5), iM 7 22]) .ret) .skip)) (.seq (.ops [oI 10 (.nilrow 35 5)]) (.seq (.seq (.ops [iM 23 8, oI 24 (.call .true (.c (.fn 31 [])) [(tI 23)]), iN 25 24, iC 26 0]) (.block 0 (.loop [10, 24, 25, 26] ir12_l0))) (.seq (.ops [iM 39 10, iM 6 39, iC 7 0]) .ret))))))⟩
theorem ir12_ok : compFn prog (shOf sh []) [[10, 24, 25, 26]] f12 = some ir12 := by kernel_rfl
def ir13 : IFun :=
  ⟨24, [(.tmp 6), (.tmp 7)], (.seq (.ops [oI 3 (.box 27 (tI 0)), oI 6 (.nilrow 45 1), iC 7 0]) (.seq (.ops [iT 11 5 3, iM 12 1, iM 13 2, oI 14 (.call .true (.c (.fn 30 [])) [(tI 11), (tI 12), (tI 13)]), iM 10 14, oI 15 (.extract (tI 10) 0), oI 16 (.extract (tI 10) 1), iM 8 15, iM 9 16]) (.seq (.seq (.ops [iM 17 9, iD 18 .neq 17 0]) (.cond (tI 18) (.seq (.ops [iM 19 9, oI 6 (.nilrow 45 1), iM 7 19]) .ret) .skip)) (.seq (.ops [iM 20 8, oI 21 (.nilChk (tI 20)), iF 22 7 21, iL 23 1 22, iM 6 23, iC 7 0]) .ret))))⟩
theorem ir13_ok : compFn prog (shOf sh []) [] f13 = some ir13 := by kernel_rfl
def ir17 : IFun :=
  ⟨19, [(.tmp 6), (.tmp 7)], (.seq (.ops [oI 3 (.box 27 (tI 0)), iE 6 false, iC 7 0]) (.seq (.seq (.ops [iT 9 5 3, iM 10 1, oI 11 (.call .false (.c (.fn 33 [])) [(tI 9), (tI 10)]), iM 8 11]) (.seq (.ops [iM 12 8, iD 13 .neq 12 0]) (.cond (tI 13) (.seq (.ops [iM 14 8, iE 6 false, iM 7 14]) .ret) .skip))) (.seq (.ops [iT 15 5 3, iM 16 1, iM 17 2, oI 18 (.call .false (.c (.fn 34 [])) [(tI 15), (tI 16), (tI 17)]), iM 6 18, iC 7 0]) .ret)))⟩
theorem ir17_ok : compFn prog (shOf sh []) [] f17 = some ir17 := by kernel_rfl
def ir18 : IFun :=
  ⟨39, [(.tmp 8), (.tmp 9)], (.seq (.ops [oI 4 (.box 27 (tI 0)), iE 8 false, iC 9 0]) (.seq (.seq (.ops [iT 11 5 4, iM 12 1, oI 13 (.call .false (.c (.fn 33 [])) [(tI 11), (tI 12)]), iM 10 13]) (.seq (.ops [iM 14 10, iD 15 .neq 14 0]) (.cond (tI 15) (.seq (.ops [iM 16 10, iE 8 false, iM 9 16]) .ret) .skip))) (.seq (.seq (.ops [iM 17 3, iD 18 .lss 17 0, iM 19 18, gF 20 19 (jM 3), gF 21 19 (jM 2), gF 22 19 (jS 21), gF 23 19 (jB .gtr 20 22), iP 24 19 23]) (.cond (tI 24) (.seq (.ops [iE 8 false, iC 9 4]) .ret) .skip)) (.seq (.ops [iM 25 3, iM 26 2, iS 27 26, iB 28 .lss 25 27, iM 29 28, gT 30 29 (jT 5 4), ⟨(.some 31), (.call .true (.c (.fn 36 [])) [(tI 30)]), (.some (29, .true))⟩, gT 32 29 (jM 1), ⟨(.some 33), (.lkUp [1] .false .true [zU, zU, zU, zU] .false (tI 31) (tI 32)), (.some (29, .true))⟩, gT 34 29 (jM 2), gT 35 29 (jM 3), gT 36 29 (.indexS (tI 34) (tI 35)), ⟨(.some 37), (.call .false (.c (.fn 35 [])) [(tI 33), (tI 36)]), (.some (29, .true))⟩, iQ 38 29 37, iM 8 38, iC 9 0]) .ret))))⟩
theorem ir18_ok : compFn prog (shOf sh []) [] f18 = some ir18 := by kernel_rfl
def ir19_l0 : IC :=
  (.seq (.seq (.ops [iM 48 10, iM 49 2, iS 50 49, iB 51 .lss 48 50]) (.cond (tI 51) .skip (.exit 2))) (.seq (.block 3 (.ops [iM 54 9, iM 55 54, gT 56 55 (jM 8), gT 57 55 (jM 10), gT 58 55 (jX 6 56 57), gT 59 55 (jF 1 58), gT 60 55 (jT 4 59), gT 61 55 (jM 2), gT 62 55 (jM 10), gT 63 55 (.indexS (tI 61) (tI 62)), ⟨(.some 64), (.call .false (.c (.fn 37 [])) [(tI 60), (tI 63)]), (.some (55, .true))⟩, iQ 65 55 64, iM 9 65])) (.ops [iM 52 10, iD 53 .add 52 1, iM 10 53])))
def ir19_l1 : IC :=
  (.seq (.seq (.ops [iM 11 7, iF 12 1 3, iL 13 1 12, iN 14 13, iB 15 .lss 11 14]) (.cond (tI 15) .skip (.exit 0))) (.seq (.block 1 (.seq (.ops [iF 18 1 3, iL 19 1 18, iM 20 7, iX 21 7 19 20, iF 22 1 21, iL 23 1 22, iM 8 23]) (.seq (.seq (.ops [iF 24 1 3, iL 25 1 24, iM 26 7, iX 27 7 25 26, iF 28 3 27, iL 29 1 28, iD 30 .neq 29 11, iM 31 30, gF 32 31 (jF 1 3), gF 33 31 (jL 1 32), gF 34 31 (jM 7), gF 35 31 (jX 7 33 34), gF 36 31 (jF 0 35), gF 37 31 (jL 1 36), gF 38 31 (jM 1), gF 39 31 (jB .neq 37 38), iP 40 31 39, iM 41 40, gF 42 41 (jM 8), gF 43 41 (jN 42), gF 44 41 (jM 2), gF 45 41 (jS 44), gF 46 41 (jB .neq 43 45), iP 47 41 46]) (.cond (tI 47) (.exit 1) .skip)) (.seq (.ops [iE 9 true]) (.seq (.seq (.ops [iC 10 0]) (.block 2 (.loop [1, 2, 3, 7, 8, 9, 10] ir19_l0))) (.seq (.ops [iM 66 9]) (.cond (tI 66) (.seq (.ops [iE 6 true]) .ret) .skip))))))) (.ops [iM 16 7, iD 17 .add 16 1, iM 7 17])))
def ir19 : IFun :=
  ⟨67, [(.tmp 6)], (.seq (.ops [oI 3 (.box 27 (tI 0)), iE 6 false]) (.seq (.seq (.ops [iC 7 0]) (.block 0 (.loop [1, 2, 3, 7] ir19_l1))) (.seq (.ops [iE 6 false]) .ret)))⟩
theorem ir19_ok : compFn prog (shOf sh []) [[1, 2, 3, 7], [1, 2, 3, 7, 8, 9, 10]] f19 = some ir19 := by kernel_rfl
def ir20_l0 : IC :=
  (.seq (.seq (.ops [iM 10 9, iF 11 4 4, iL 12 1 11, iN 13 12, iB 14 .lss 10 13]) (.cond (tI 14) .skip (.exit 0))) (.seq (.block 1 (.seq (.ops [iF 17 4 4, iL 18 1 17, iM 19 9, iX 20 5 18 19, iF 21 0 20, iL 22 1 21, iM 23 1, iB 24 .eql 22 23, iM 25 24, gT 26 25 (jM 3), gT 27 25 (jM 2), gT 28 25 (jS 27), gT 29 25 (jB .lss 26 28), iQ 30 25 29, iM 31 30, gT 32 31 (jF 4 4), gT 33 31 (jL 1 32), gT 34 31 (jM 9), gT 35 31 (jX 5 33 34), gT 36 31 (jF 1 35), gT 37 31 (jT 4 36), gT 38 31 (jM 2), gT 39 31 (jM 3), gT 40 31 (.indexS (tI 38) (tI 39)), ⟨(.some 41), (.call .false (.c (.fn 37 [])) [(tI 37), (tI 40)]), (.some (31, .true))⟩, iQ 42 31 41]) (.cond (tI 42) (.seq (.ops [iE 8 true]) .ret) .skip))) (.ops [iM 15 9, iD 16 .add 15 1, iM 9 16])))
def ir20 : IFun :=
  ⟨43, [(.tmp 8)], (.seq (.ops [oI 4 (.box 27 (tI 0)), iE 8 false]) (.seq (.seq (.ops [iC 9 0]) (.block 0 (.loop [1, 2, 3, 4, 9] ir20_l0))) (.seq (.ops [iE 8 false]) .ret)))⟩
theorem ir20_ok : compFn prog (shOf sh []) [[1, 2, 3, 4, 9]] f20 = some ir20 := by kernel_rfl
def ir22 : IFun :=
  ⟨14, [(.tmp 4)], (.seq (.ops [oI 2 (.box 27 (tI 0)), iE 4 false]) (.seq (.ops [iM 5 1, iD 6 .geq 5 0, iM 7 6, gT 8 7 (jM 1), gT 9 7 (jF 0 2), gT 10 7 (jL 1 9), gT 11 7 (jN 10), gT 12 7 (jB .lss 8 11), iQ 13 7 12, iM 4 13]) .ret))⟩
theorem ir22_ok : compFn prog (shOf sh []) [] f22 = some ir22 := by kernel_rfl
def ir23_l0 : IC :=
  (.seq (.seq (.ops [iM 57 5, iF 58 1 3, iL 59 1 58, iN 60 59, iB 61 .lss 57 60]) (.cond (tI 61) .skip (.exit 0))) (.seq (.block 1 (.seq (.ops [iF 64 1 3, iL 65 1 64, iM 66 5, iX 67 6 65 66, iT 68 6 67, oI 6 (.alloc 75 [zZ, (.z zU), (.z zU), (.z zU), (.z zU), zZ]), gN (jV 6 6 68)]) (.seq (.seq (.ops [iF 69 0 6, iL 70 1 69, iD 71 .eql 70 0, iM 72 71, gT 73 72 (jF 1 6), gT 74 72 (jT 4 73), gT 75 72 (jK 25 74), gT 76 72 (jM 75), gF 77 76 (jF 5 6), gF 78 76 (jL 1 77), gF 79 76 (jD .neq 78 0), gT 80 72 (jP 76 79), iQ 81 72 80]) (.cond (tI 81) (.seq (.ops [iE 4 false]) .ret) .skip)) (.seq (.seq (.ops [iF 82 0 6, iL 83 1 82, iD 84 .eql 83 1, iM 85 84, gT 86 85 (jF 1 6), gT 87 85 (jT 4 86), gT 88 85 (jK 25 87), gT 89 85 (jU 88), gT 90 85 (jM 89), gF 91 90 (jT 5 2), gF 92 90 (jF 5 6), gF 93 90 (jL 1 92), ⟨(.some 94), (.call .false (.c (.fn 22 [])) [(tI 91), (tI 93)]), (.some (90, .false))⟩, gF 95 90 (jU 94), gT 96 85 (jP 90 95), gT 97 85 (jM 96), gF 98 97 (jF 3 3), gF 99 97 (jL 1 98), gF 100 97 (jD .eql 99 11), gT 101 85 (jP 97 100), iQ 102 85 101]) (.cond (tI 102) (.seq (.ops [iE 4 false]) .ret) .skip)) (.seq (.ops [iF 103 0 6, iL 104 1 103, iD 105 .neq 104 0, iM 106 105, gT 107 106 (jF 0 6), gT 108 106 (jL 1 107), gT 109 106 (jD .neq 108 1), iQ 110 106 109]) (.cond (tI 110) (.seq (.ops [iE 4 false]) .ret) .skip)))))) (.ops [iM 62 5, iD 63 .add 62 1, iM 5 63])))
def ir23 : IFun :=
  ⟨111, [(.tmp 4)], (.seq (.ops [oI 2 (.box 27 (tI 0)), oI 3 (.box 52 (tI 1)), iE 4 false]) (.seq (.seq (.ops [iT 7 5 2, iF 8 0 3, iL 9 1 8, oI 10 (.call .false (.c (.fn 22 [])) [(tI 7), (tI 9)]), iU 11 10, iM 12 11, gF 13 12 (jF 1 3), gF 14 12 (jL 1 13), gF 15 12 (jN 14), gF 16 12 (jD .gtr 15 30), iP 17 12 16, iM 18 17, gF 19 18 (jF 3 3), gF 20 18 (jL 1 19), gF 21 18 (jD .lss 20 0), iP 22 18 21, iM 23 22, gF 24 23 (jF 3 3), gF 25 23 (jL 1 24), gF 26 23 (jD .gtr 25 11), iP 27 23 26, iM 28 27, gF 29 28 (jF 6 3), gF 30 28 (jL 1 29), ⟨(.some 31), (.bin .lss (tI 30) (cI (-1))), (.some (28, .false))⟩, iP 32 28 31, iM 33 32, gF 34 33 (jF 2 3), gF 35 33 (jL 1 34), gF 36 33 (jS 35), gF 37 33 (jD .gtr 36 64), iP 38 33 37, iM 39 38, gF 40 39 (jF 2 3), gF 41 39 (jL 1 40), ⟨(.some 42), (.bin .neq (tI 41) (.c (.p (.val (.string ⟨([] : List UInt8).toArray⟩))))), (.some (39, .false))⟩, gF 43 39 (jM 42), gT 44 43 (jF 3 3), gT 45 43 (jL 1 44), gT 46 43 (jD .neq 45 0), gF 47 39 (jQ 43 46), iP 48 39 47, iM 49 48, gF 50 49 (jF 4 3), gF 51 49 (jL 1 50), gF 52 49 (jM 51), gT 53 52 (jF 5 3), gT 54 52 (jL 1 53), gF 55 49 (jQ 52 54), iP 56 49 55]) (.cond (tI 56) (.seq (.ops [iE 4 false]) .ret) .skip)) (.seq (.seq (.ops [iC 5 0]) (.block 0 (.loop [2, 3, 5] ir23_l0))) (.seq (.ops [iE 4 true]) .ret))))⟩
theorem ir23_ok : compFn prog (shOf sh []) [[2, 3, 5]] f23 = some ir23 := by kernel_rfl
def ir24 : IFun :=
  ⟨93, [(.tmp 4)], (.seq (.ops [oI 2 (.box 27 (tI 0)), oI 3 (.box 65 (tI 1)), iE 4 false]) (.seq (.seq (.ops [iF 6 0 3, iL 7 1 6, iD 8 .lss 7 0, iM 9 8, gF 10 9 (jF 0 3), gF 11 9 (jL 1 10), gF 12 9 (jF 1 2), gF 13 9 (jL 1 12), gF 14 9 (jN 13), gF 15 9 (jB .geq 11 14), iP 16 9 15, iM 17 16, gF 18 17 (jF 2 3), gF 19 17 (jL 1 18), gF 20 17 (jD .lss 19 0), iP 21 17 20, iM 22 21, gF 23 22 (jF 2 3), gF 24 22 (jL 1 23), gF 25 22 (jF 1 2), gF 26 22 (jL 1 25), gF 27 22 (jN 26), gF 28 22 (jB .geq 24 27), iP 29 22 28, iM 30 29, gF 31 30 (jF 1 2), gF 32 30 (jL 1 31), gF 33 30 (jF 0 3), gF 34 30 (jL 1 33), gF 35 30 (jX 7 32 34), gF 36 30 (jF 3 35), gF 37 30 (jL 1 36), gF 38 30 (jD .eql 37 11), iP 39 30 38, iM 40 39, gF 41 40 (jF 1 2), gF 42 40 (jL 1 41), gF 43 40 (jF 2 3), gF 44 40 (jL 1 43), gF 45 40 (jX 7 42 44), gF 46 40 (jF 3 45), gF 47 40 (jL 1 46), gF 48 40 (jD .eql 47 11), iP 49 40 48]) (.cond (tI 49) (.seq (.ops [iE 4 false]) .ret) .skip)) (.seq (.seq (.ops [iF 50 1 3, iL 51 1 50, iD 52 .lss 51 1, iM 53 52, gF 54 53 (jF 1 3), gF 55 53 (jL 1 54), gF 56 53 (jF 1 2), gF 57 53 (jL 1 56), gF 58 53 (jF 0 3), gF 59 53 (jL 1 58), gF 60 53 (jX 7 57 59), gF 61 53 (jF 1 60), gF 62 53 (jL 1 61), gF 63 53 (jN 62), gF 64 53 (jB .gtr 55 63), iP 65 53 64]) (.cond (tI 65) (.seq (.ops [iE 4 false]) .ret) .skip)) (.seq (.ops [iF 66 1 2, iL 67 1 66, iF 68 0 3, iL 69 1 68, iX 70 7 67 69, iF 71 1 70, iL 72 1 71, iF 73 1 3, iL 74 1 73, iD 75 .sub 74 1, iX 76 6 72 75, iT 77 6 76, oI 5 (.alloc 75 [zZ, (.z zU), (.z zU), (.z zU), (.z zU), zZ]), gN (jV 6 5 77)]) (.seq (.ops [iF 78 0 5, iL 79 1 78, iD 80 .eql 79 1, iM 81 80, gT 82 81 (jF 5 5), gT 83 81 (jL 1 82), gT 84 81 (jF 1 2), gT 85 81 (jL 1 84), gT 86 81 (jF 2 3), gT 87 81 (jL 1 86), gT 88 81 (jX 7 85 87), gT 89 81 (jF 0 88), gT 90 81 (jL 1 89), gT 91 81 (jB .eql 83 90), iQ 92 81 91, iM 4 92]) .ret)))))⟩
theorem ir24_ok : compFn prog (shOf sh []) [] f24 = some ir24 := by kernel_rfl
def ir25 : IFun :=
  ⟨15, [(.tmp 2)], (.seq (.ops [oI 1 (.box 68 (tI 0)), iE 2 false]) (.seq (.ops [oI 3 (.indexA (.some 4) 1 (tI 1) (cI 0)), iL 4 1 3, oI 5 (.indexA (.some 4) 1 (tI 1) (cI 1)), iL 6 1 5, iB 7 .or 4 6, oI 8 (.indexA (.some 4) 1 (tI 1) (cI 2)), iL 9 1 8, iB 10 .or 7 9, oI 11 (.indexA (.some 4) 1 (tI 1) (cI 3)), iL 12 1 11, iB 13 .or 10 12, oI 14 (.bin .eql (tI 13) (.c (.p zU))), iM 2 14]) .ret))⟩
theorem ir25_ok : compFn prog (shOf sh []) [] f25 = some ir25 := by kernel_rfl
def ir26 : IFun :=
  ⟨11, [(.cell 2 .true 4)], (.seq (.ops [oI 2 (.alloc 68 [(.z zU), (.z zU), (.z zU), (.z zU)])]) (.seq (.ops [oI 3 (.alloc 68 [(.z zU), (.z zU), (.z zU), (.z zU)])]) (.seq (.ops [iM 4 0, oI 5 (.bin .quo (tI 4) (.c (.p (.val (.int .u8 64))))), iM 6 0, oI 7 (.bin .rem (tI 6) (.c (.p (.val (.int .u8 64))))), oI 8 (.bin .shl (.c (.p (.val (.int .u64 1)))) (tI 7)), oI 9 (.indexA (.some 4) 1 (tI 3) (tI 5)), gN (jV 1 9 8)]) (.seq (.ops [iT 10 4 3, gN (jV 4 2 10)]) .ret))))⟩
theorem ir26_ok : compFn prog (shOf sh []) [] f26 = some ir26 := by kernel_rfl
def ir30_l0 : IC :=
  (.seq (.ops [iD 29 .lss 28 4]) (.seq (.cond (tI 29) .skip (.exit 0)) (.seq (.block 1 (.seq (.ops [oI 30 (.index .false 4 1 (tI 27) (tI 28)), iM 11 30]) (.ops [iM 31 11, iM 32 9, oI 33 (.call .true (tI 31) [(tI 32)])]))) (.ops [iD 34 .add 28 1, iM 28 34]))))
def ir30 : IFun :=
  ⟨36, [(.tmp 6), (.tmp 7)], (.seq (.ops [oI 3 (.box 27 (tI 0)), oI 6 (.mv (.c (.p (.val (.pointer .none))))), iC 7 0]) (.seq (.seq (.ops [iT 12 5 3, iM 13 1, iM 14 2, oI 15 (.call .false (.c (.fn 42 [])) [(tI 12), (tI 13), (tI 14)]), iM 8 15]) (.seq (.ops [iM 16 8, iD 17 .neq 16 0]) (.cond (tI 17) (.seq (.ops [iM 18 8, oI 6 (.mv (.c (.p (.val (.pointer .none))))), iM 7 18]) .ret) .skip))) (.seq (.ops [iT 19 5 3, iM 20 1, iM 21 2, iM 22 2, iN 23 22, oI 24 (.makeS 45 1 8 [z6] (tI 23) (tI 23)), ⟨(.some 25), (.build [zM, zM, z6, zM, zM, (.val (.string ⟨([] : List UInt8).toArray⟩)), zM, zM] [(0, (5, (tI 19))), (5, (1, (tI 20))), (6, (1, (tI 21))), (7, (1, (tI 24)))]), .none⟩, oI 26 (.box 89 (tI 25)), iM 9 26]) (.seq (.seq (.ops [oI 27 (.build [(.val .nilFunc), (.val .nilFunc), (.val .nilFunc), (.val .nilFunc)] [(0, (1, (.c (.fn 43 [])))), (1, (1, (.c (.fn 44 [])))), (2, (1, (.c (.fn 45 [])))), (3, (1, (.c (.fn 46 []))))]), iC 28 0]) (.block 0 (.loop [9, 27, 28] ir30_l0))) (.seq (.ops [iM 35 9, iM 6 35, iC 7 0]) .ret)))))⟩
theorem ir30_ok : compFn prog (shOf sh []) [[9, 27, 28]] f30 = some ir30 := by kernel_rfl
def ir31 : IFun :=
  ⟨8, [(.tmp 2)], (.seq (.ops [oI 2 (.nilrow 35 5)]) (.seq (.ops [oI 3 (.alloc 32 [(.r 35 5)])]) (.seq (.ops [iM 4 0, oI 5 (.mkfn 48 [(tI 3)]), oI 6 (.call .true (.c (.fn 47 [])) [(tI 4), (tI 5)])]) (.seq (.ops [iL 7 1 3, iM 2 7]) .ret))))⟩
theorem ir31_ok : compFn prog (shOf sh []) [] f31 = some ir31 := by kernel_rfl
def ir33 : IFun :=
  ⟨19, [(.tmp 4)], (.seq (.ops [oI 2 (.box 27 (tI 0)), iC 4 0]) (.seq (.block 0 (.seq (.ops [iT 6 5 2, iK 7 49 6, iD 8 .neq 7 0, iM 5 8]) (.cond (tI 5) (.seq (.ops [iC 4 160]) .ret) (.seq (.ops [iM 10 1, iD 11 .lss 10 0, iM 12 11, gF 13 12 (jM 1), gF 14 12 (jF 0 2), gF 15 12 (jL 1 14), gF 16 12 (jN 15), gF 17 12 (jB .geq 13 16), iP 18 12 17, iM 9 18]) (.cond (tI 9) (.seq (.ops [iC 4 4]) .ret) .skip))))) (.seq (.ops [iC 4 0]) .ret)))⟩
theorem ir33_ok : compFn prog (shOf sh []) [] f33 = some ir33 := by kernel_rfl
def ir34_l0 : IC :=
  (.seq (.ops [iB 39 .lss 38 37]) (.seq (.cond (tI 39) .skip (.exit 2)) (.seq (.block 3 (.seq (.ops [iM 40 38, iX 41 6 36 38, iT 42 6 41, oI 10 (.alloc 75 [zZ, (.z zU), (.z zU), (.z zU), (.z zU), zZ]), iM 9 40, gN (jV 6 10 42)]) (.seq (.ops [iF 43 1 10, iT 44 4 43, iM 45 2, iM 46 9, oI 47 (.indexS (tI 45) (tI 46)), oI 48 (.call .false (.c (.fn 35 [])) [(tI 44), (tI 47)]), iU 49 48]) (.cond (tI 49) (.exit 1) .skip)))) (.ops [iD 50 .add 38 1, iM 38 50]))))
def ir34_l1 : IC :=
  (.seq (.ops [iB 15 .lss 14 13]) (.seq (.cond (tI 15) .skip (.exit 0)) (.seq (.block 1 (.seq (.ops [iX 16 7 12 14, iT 17 7 16, ⟨(.some 8), (.alloc 52 [zZ, (.r 75 6), (.z (.val (.string ⟨([] : List UInt8).toArray⟩))), zZ, (.z (.val (.bool .false))), (.z (.val (.bool .false))), zZ]), .none⟩, gN (jV 7 8 17)]) (.seq (.seq (.ops [iF 18 3 8, iL 19 1 18, iD 20 .neq 19 11, iM 21 20, gF 22 21 (jF 0 8), gF 23 21 (jL 1 22), gF 24 21 (jM 1), gF 25 21 (jB .neq 23 24), iP 26 21 25, iM 27 26, gF 28 27 (jF 1 8), gF 29 27 (jL 1 28), gF 30 27 (jN 29), gF 31 27 (jM 2), gF 32 27 (jS 31), gF 33 27 (jB .neq 30 32), iP 34 27 33]) (.cond (tI 34) (.exit 1) .skip)) (.seq (.seq (.ops [iF 35 1 8, iL 36 1 35, iN 37 36, iC 38 0]) (.block 2 (.loop [1, 2, 12, 13, 14, 36, 37, 38] ir34_l0))) (.seq (.ops [iE 6 true]) .ret))))) (.ops [iD 51 .add 14 1, iM 14 51]))))
def ir34 : IFun :=
  ⟨52, [(.tmp 6)], (.seq (.ops [oI 3 (.box 27 (tI 0)), iE 6 false]) (.noGo (.seq .skip (.seq (.seq (.ops [iF 11 1 3, iL 12 1 11, iN 13 12, iC 14 0]) (.block 0 (.loop [1, 2, 12, 13, 14] ir34_l1))) (.seq (.ops [iE 6 false]) .ret)))))⟩
theorem ir34_ok : compFn prog (shOf sh []) [[1, 2, 12, 13, 14], [1, 2, 12, 13, 14, 36, 37, 38]] f34 = some ir34 := by kernel_rfl
def ir35 : IFun :=
  ⟨14, [(.tmp 4)], (.seq (.ops [oI 2 (.box 68 (tI 0)), iE 4 false]) (.seq (.ops [iM 5 1, oI 6 (.bin .shr (tI 5) (.c (.p (.val (.int .u64 6))))), oI 7 (.indexA (.some 4) 1 (tI 2) (tI 6)), iL 8 1 7, iM 9 1, oI 10 (.bin .and (tI 9) (.c (.p (.val (.int .u8 63))))), iB 11 .shr 8 10, oI 12 (.bin .and (tI 11) (.c (.p (.val (.int .u64 1))))), oI 13 (.bin .eql (tI 12) (.c (.p (.val (.int .u64 1))))), iM 4 13]) .ret))⟩
theorem ir35_ok : compFn prog (shOf sh []) [] f35 = some ir35 := by kernel_rfl
def ir36_l0 : IC :=
  (.seq (.ops [iB 11 .lss 10 9]) (.seq (.cond (tI 11) .skip (.exit 0)) (.seq (.block 1 (.seq (.ops [iX 12 5 8 10, iT 13 5 12, oI 5 (.alloc 70 [zZ, (.z zU), (.z zU), (.z zU), (.z zU)]), gN (jV 5 5 13)]) (.ops [iM 14 3, iF 15 0 5, iL 16 1 15, iF 17 1 5, iT 18 4 17, gN (.mapUp [1] .false (tI 14) (tI 16) (tI 18))]))) (.ops [iD 19 .add 10 1, iM 10 19]))))
def ir36 : IFun :=
  ⟨21, [(.tmp 2)], (.seq (.ops [oI 1 (.box 27 (tI 0)), oI 2 (.mv (.c (.p (.val (.map .none)))))]) (.seq (.ops [⟨(.some 6), .mkMap, .none⟩, iM 3 6]) (.seq (.seq (.ops [iF 7 4 1, iL 8 1 7, iN 9 8, iC 10 0]) (.block 0 (.loop [3, 8, 9, 10] ir36_l0))) (.seq (.ops [iM 20 3, iM 2 20]) .ret))))⟩
theorem ir36_ok : compFn prog (shOf sh []) [[3, 8, 9, 10]] f36 = some ir36 := by kernel_rfl
def ir37 : IFun :=
  ⟨14, [(.tmp 4)], (.seq (.ops [oI 2 (.box 68 (tI 0)), iE 4 false]) (.seq (.ops [iM 5 1, oI 6 (.bin .quo (tI 5) (.c (.p (.val (.int .u8 64))))), oI 7 (.indexA (.some 4) 1 (tI 2) (tI 6)), iL 8 1 7, iM 9 1, oI 10 (.bin .rem (tI 9) (.c (.p (.val (.int .u8 64))))), iB 11 .shr 8 10, oI 12 (.bin .rem (tI 11) (.c (.p (.val (.int .u64 2))))), oI 13 (.bin .eql (tI 12) (.c (.p (.val (.int .u64 1))))), iM 4 13]) .ret))⟩
theorem ir37_ok : compFn prog (shOf sh []) [] f37 = some ir37 := by kernel_rfl
def ir42 : IFun :=
  ⟨20, [(.tmp 6)], (.seq (.ops [oI 3 (.box 27 (tI 0)), oI 4 (.box 9 (tI 1)), iC 6 0]) (.seq (.ops [oI 9 (.mkfn 50 [(tI 4)]), iM 7 9]) (.seq (.seq (.ops [iT 10 5 3, iM 11 2, iM 12 7, oI 13 (.call .false (.c (.fn 51 [])) [(tI 10), (tI 11), (tI 12)]), iM 8 13]) (.seq (.ops [iM 14 8, iD 15 .neq 14 0]) (.cond (tI 15) (.seq (.ops [iM 16 8, iM 6 16]) .ret) .skip))) (.seq (.seq (.ops [iM 17 2, oI 18 (.mkfn 53 [(tI 4)]), oI 19 (.call .true (.c (.fn 52 [])) [(tI 17), (tI 18)])]) (.cond (tI 19) (.seq (.ops [iC 6 210]) .ret) .skip)) (.seq (.ops [iC 6 0]) .ret)))))⟩
theorem ir42_ok : compFn prog (shOf sh []) [] f42 = some ir42 := by kernel_rfl
def ir43 : IFun :=
  ⟨7, [], (.seq (.ops [oI 1 (.box 84 (tI 0))]) (.seq (.ops [⟨(.some 3), .mkMap, .none⟩, oI 2 (.alloc 110 [(.z (.val (.map .none)))]), gN (jV 1 2 3)]) (.ops [iL 4 1 1, oI 5 (.mkfn 54 [(tI 2), (tI 1)]), oI 6 (.call .true (.c (.fn 47 [])) [(tI 4), (tI 5)])])))⟩
theorem ir43_ok : compFn prog (shOf sh []) [] f43 = some ir43 := by kernel_rfl
def ir44 : IFun :=
  ⟨11, [], (.seq (.ops [oI 1 (.box 84 (tI 0))]) (.seq (.ops [iL 3 1 1, oI 4 (.nilChk (tI 3)), iF 5 0 4, iT 6 5 5, oI 7 (.call .true (.c (.fn 36 [])) [(tI 6)]), oI 2 (.alloc 93 [(.z (.val (.map .none)))]), gN (jV 1 2 7)]) (.ops [iL 8 1 1, oI 9 (.mkfn 56 [(tI 1), (tI 2)]), oI 10 (.call .true (.c (.fn 47 [])) [(tI 8), (tI 9)])])))⟩
theorem ir44_ok : compFn prog (shOf sh []) [] f44 = some ir44 := by kernel_rfl
def ir45 : IFun :=
  ⟨18, [], (.seq (.ops [oI 1 (.box 84 (tI 0))]) (.seq (.opsR 3 [(.mk (iL 6 1 1) 0 0 [] 0), (.mk (oI 7 (.nilChk (tI 6))) 0 0 [] 0), (.mk (iF 8 0 7) 0 0 [] 0), (.mk (iT 9 5 8) 0 0 [] 0), (.mk (iL 10 1 1) 0 0 [0, 3] 0), (.mk (oI 11 (.call .true (.c (.fn 31 [])) [(tI 10)])) 0 1 [0, 3] 2), (.mk (oI 12 (.call .true (.c (.fn 57 [])) [(tI 9), (tI 11)])) 1 0 [] 3), (.mk (iM 5 12) 1 0 [] 0), (.mk (oI 13 (.extract (tI 5) 0)) 1 0 [] 0), (.mk (oI 14 (.extract (tI 5) 1)) 1 0 [] 0), (.mk (oI 2 (.alloc 81 [(.r 4 1)])) 1 2 [0, 3, 4, 5, 6] 0), (.mk (gN (jV 1 2 13)) 3 0 [] 0), (.mk (iM 3 14) 3 0 [] 0)]) (.seq (.ops [oI 4 (.alloc 3 [zZ]), gN (.store 1 (tI 4) (cI 0))]) (.ops [iL 15 1 1, oI 16 (.mkfn 58 [(tI 2), (tI 4), (tI 1)]), oI 17 (.call .true (.c (.fn 47 [])) [(tI 15), (tI 16)])]))))⟩
theorem ir45_ok : compFn prog (shOf sh [6100031, 7100057]) [] f45 = some ir45 := by kernel_rfl
def ir46 : IFun :=
  ⟨17, [], (.seq (.ops [oI 1 (.box 84 (tI 0))]) (.seq (.ops [⟨(.some 3), .mkMap, .none⟩, oI 2 (.alloc 117 [(.z (.val (.map .none)))]), gN (jV 1 2 3)]) (.seq (.ops [iL 4 1 1, oI 5 (.mkfn 59 [(tI 1), (tI 2)]), oI 6 (.call .true (.c (.fn 47 [])) [(tI 4), (tI 5)])]) (.seq (.ops [iL 7 1 1, oI 8 (.mkfn 60 [(tI 2), (tI 1)]), oI 9 (.call .true (.c (.fn 47 [])) [(tI 7), (tI 8)])]) (.seq (.ops [iL 10 1 2, gN (.clrM (tI 10))]) (.seq (.ops [iL 11 1 1, oI 12 (.mkfn 61 [(tI 1), (tI 2)]), oI 13 (.call .true (.c (.fn 47 [])) [(tI 11), (tI 12)])]) (.ops [iL 14 1 1, oI 15 (.mkfn 62 [(tI 2), (tI 1)]), oI 16 (.call .true (.c (.fn 47 [])) [(tI 14), (tI 15)])])))))))⟩
theorem ir46_ok : compFn prog (shOf sh []) [] f46 = some ir46 := by kernel_rfl
def ir47_l0 : IC :=
  (.seq (.ops [iB 12 .lss 11 10]) (.seq (.cond (tI 12) .skip (.exit 0)) (.seq (.block 1 (.seq (.ops [iM 13 11, iX 14 5 9 11, iT 15 5 14, oI 5 (.alloc 35 [zZ, zZ, zZ, zZ, (.r 3 1)]), iM 4 13, gN (jV 5 5 15)]) (.seq (.ops [iM 16 0, oI 17 (.nilChk (tI 16)), iF 18 7 17, iL 19 1 18, iM 20 4, iX 21 1 19 20, iL 22 1 21, iD 23 .eql 22 0]) (.cond (tI 23) (.ops [iM 24 1, iM 25 4, iT 26 5 5, oI 27 (.call .true (tI 24) [(tI 25), (tI 26)])]) .skip)))) (.ops [iD 28 .add 11 1, iM 11 28]))))
def ir47 : IFun :=
  ⟨29, [], (.seq (.ops [iM 6 0, oI 7 (.nilChk (tI 6)), iF 8 6 7, iL 9 1 8, iN 10 9, iC 11 0]) (.block 0 (.loop [0, 1, 9, 10, 11] ir47_l0)))⟩
theorem ir47_ok : compFn prog (shOf sh []) [[0, 1, 9, 10, 11]] f47 = some ir47 := by kernel_rfl
def ir48 : IFun :=
  ⟨9, [], (.seq (.ops [oI 4 (.box 35 (tI 1))]) (.ops [iL 5 1 2, iT 6 5 4, oI 7 (.buildS 35 5 [z6, z6, z6, z6, zM] 1 [(0, (tI 6))]), oI 8 (.append 35 5 56 [z6, z6, z6, z6, zM] (tI 5) (tI 7)), gN (jV 1 2 8)]))⟩
theorem ir48_ok : compFn prog (shOf sh []) [] f48 = some ir48 := by kernel_rfl
def ir49_l0 : IC :=
  (.seq (.ops [iD 7 .lss 6 4]) (.seq (.cond (tI 7) .skip (.exit 0)) (.seq (.block 1 (.seq (.ops [oI 8 (.index .false 4 1 (tI 5) (tI 6)), iM 4 8]) (.seq (.ops [iM 9 4, iT 10 5 1, oI 11 (.call .false (tI 9) [(tI 10)]), iU 12 11]) (.cond (tI 12) (.seq (.ops [iC 2 160]) .ret) .skip)))) (.ops [iD 13 .add 6 1, iM 6 13]))))
def ir49 : IFun :=
  ⟨14, [(.tmp 2)], (.seq (.ops [oI 1 (.box 27 (tI 0)), iC 2 0]) (.seq (.seq (.ops [oI 5 (.build [(.val .nilFunc), (.val .nilFunc), (.val .nilFunc), (.val .nilFunc)] [(0, (1, (.c (.fn 63 [])))), (1, (1, (.c (.fn 64 [])))), (2, (1, (.c (.fn 65 [])))), (3, (1, (.c (.fn 66 []))))]), iC 6 0]) (.block 0 (.loop [1, 5, 6] ir49_l0))) (.seq (.ops [iC 2 0]) .ret)))⟩
theorem ir49_ok : compFn prog (shOf sh [9]) [[1, 5, 6]] f49 = some ir49 := by kernel_rfl
def ir50 : IFun :=
  ⟨23, [(.tmp 5)], (.seq (.ops [oI 3 (.box 68 (tI 0)), iE 5 false]) (.seq (.seq (.ops [iM 7 1, iL 8 1 2, iS 9 8, iB 10 .geq 7 9]) (.cond (tI 10) (.seq (.ops [iE 5 false]) .ret) .skip)) (.seq (.ops [iL 11 1 2, iM 12 1, oI 13 (.indexS (tI 11) (tI 12)), iM 6 13]) (.seq (.ops [iM 14 6, oI 15 (.bin .shr (tI 14) (.c (.p (.val (.int .u64 6))))), oI 16 (.indexA (.some 4) 1 (tI 3) (tI 15)), iL 17 1 16, iM 18 6, oI 19 (.bin .and (tI 18) (.c (.p (.val (.int .u8 63))))), iB 20 .shr 17 19, oI 21 (.bin .and (tI 20) (.c (.p (.val (.int .u64 1))))), oI 22 (.bin .eql (tI 21) (.c (.p (.val (.int .u64 1))))), iM 5 22]) .ret))))⟩
theorem ir50_ok : compFn prog (shOf sh []) [] f50 = some ir50 := by kernel_rfl
def ir51_l0 : IC :=
  (.seq (.ops [iB 18 .lss 17 16]) (.seq (.cond (tI 18) .skip (.exit 0)) (.seq (.block 1 (.seq (.ops [iM 19 17, iX 20 5 15 17, iT 21 5 20, oI 9 (.alloc 35 [zZ, zZ, zZ, zZ, (.r 3 1)]), iM 8 19, gN (jV 5 9 21)]) (.seq (.ops [iT 22 5 3, iT 23 5 9, iM 24 2, oI 25 (.call .false (.c (.fn 67 [])) [(tI 22), (tI 23), (tI 24)]), iU 26 25, iM 27 26, gF 28 27 (jM 8), gF 29 27 (jD .gtr 28 0), gF 30 27 (jM 29), gT 31 30 (jM 1), gT 32 30 (jM 8), gT 33 30 (jD .sub 32 1), gT 34 30 (jX 5 31 33), gT 35 30 (jT 5 34), gT 36 30 (jT 5 9), ⟨(.some 37), (.call .false (.c (.fn 68 [])) [(tI 35), (tI 36)]), (.some (30, .true))⟩, gT 38 30 (jD .geq 37 0), gF 39 27 (jQ 30 38), iP 40 27 39]) (.cond (tI 40) (.seq (.ops [iC 6 210]) .ret) .skip)))) (.ops [iD 41 .add 17 1, iM 17 41]))))
def ir51 : IFun :=
  ⟨42, [(.tmp 6)], (.seq (.ops [oI 3 (.box 27 (tI 0)), iC 6 0]) (.seq (.seq (.ops [iT 10 5 3, iK 11 49 10, iM 7 11]) (.seq (.ops [iM 12 7, iD 13 .neq 12 0]) (.cond (tI 13) (.seq (.ops [iM 14 7, iM 6 14]) .ret) .skip))) (.seq (.seq (.ops [iM 15 1, iN 16 15, iC 17 0]) (.block 0 (.loop [1, 2, 3, 15, 16, 17] ir51_l0))) (.seq (.ops [iC 6 0]) .ret))))⟩
theorem ir51_ok : compFn prog (shOf sh []) [[1, 2, 3, 15, 16, 17]] f51 = some ir51 := by kernel_rfl
def ir52 : IFun :=
  ⟨9, [(.tmp 4)], (.seq (.ops [iE 4 false]) (.seq (.ops [iM 5 0, iM 6 1, oI 7 (.call .true (.c (.fn 69 [])) [(tI 5), (tI 6)]), iD 8 .geq 7 0, iM 4 8]) .ret))⟩
theorem ir52_ok : compFn prog (shOf sh []) [] f52 = some ir52 := by kernel_rfl
def ir53 : IFun :=
  ⟨9, [(.tmp 3)], (.seq (.ops [oI 2 (.box 35 (tI 0)), iE 3 false]) (.seq (.ops [iF 4 2 2, iL 5 1 4, iL 6 1 1, iS 7 6, iB 8 .gtr 5 7, iM 3 8]) .ret))⟩
theorem ir53_ok : compFn prog (shOf sh []) [] f53 = some ir53 := by kernel_rfl
def ir54 : IFun :=
  ⟨46, [], (.seq (.ops [oI 5 (.box 35 (tI 1))]) (.seq (.ops [iT 9 5 5, iK 10 55 9, oI 6 (.alloc 112 [zZ, zZ, zZ]), gN (jV 3 6 10)]) (.seq (.seq (.ops [iL 12 1 2, iT 13 3 6, oI 14 (.lkUp [1, 1, 1] .true .false [(.val (.bool .false))] .true (tI 12) (tI 13)), iM 11 14, oI 15 (.extract (tI 11) 0), oI 16 (.extract (tI 11) 1), iM 7 15, iM 8 16]) (.seq (.ops [iM 17 8, iU 18 17]) (.cond (tI 18) (.ops [iL 19 1 2, iT 20 3 6, iL 21 1 3, oI 22 (.nilChk (tI 21)), iF 23 0 22, iT 24 5 23, iF 25 0 5, iL 26 1 25, iL 27 1 3, oI 28 (.nilChk (tI 27)), iF 29 5 28, iL 30 1 29, iF 31 1 5, iL 32 1 31, iF 33 2 5, iL 34 1 33, oI 35 (.sliceS (tI 30) (.some (tI 32)) (.some (tI 34))), oI 36 (.call .false (.c (.fn 34 [])) [(tI 24), (tI 26), (tI 35)]), gN (.mapUp [1, 1, 1] .true (tI 19) (tI 20) (tI 36))]) .skip))) (.seq (.ops [iL 37 1 2, iT 38 3 6, oI 39 (.lkUp [1, 1, 1] .true .false [(.val (.bool .false))] .false (tI 37) (tI 38))]) (.cond (tI 39) (.ops [iL 40 1 3, oI 41 (.nilChk (tI 40)), iF 42 7 41, iL 43 1 42, iM 44 0, iX 45 1 43 44, gN (.store 1 (tI 45) (cI 1))]) .skip)))))⟩
theorem ir54_ok : compFn prog (shOf sh []) [] f54 = some ir54 := by kernel_rfl
def ir55 : IFun :=
  ⟨10, [(.cell 2 .true 3)], (.seq (.ops [oI 1 (.box 35 (tI 0)), oI 2 (.alloc 112 [zZ, zZ, zZ])]) (.seq (.ops [iF 3 0 1, iL 4 1 3, iF 5 1 1, iL 6 1 5, iF 7 2 1, iL 8 1 7, oI 9 (.build [z6, z6, z6] [(0, (1, (tI 4))), (1, (1, (tI 6))), (2, (1, (tI 8)))]), gN (jV 3 2 9)]) .ret))⟩
theorem ir55_ok : compFn prog (shOf sh []) [] f55 = some ir55 := by kernel_rfl
def ir56 : IFun :=
  ⟨34, [], (.seq (.ops [oI 5 (.box 35 (tI 1))]) (.seq (.opsR 0 [(.mk (iF 6 2 5) 0 0 [] 0), (.mk (iL 7 1 6) 0 0 [] 0), (.mk (iL 8 1 2) 0 0 [1] 0), (.mk (oI 9 (.nilChk (tI 8))) 0 0 [] 0), (.mk (iF 10 5 9) 0 0 [] 0), (.mk (iL 11 1 10) 0 0 [1] 0), (.mk (iS 12 11) 0 0 [] 0), (.mk (iB 13 .lss 7 12) 0 0 [] 0), (.mk (iM 14 13) 0 0 [] 0), (.mk (gT 15 14 (jL 1 3)) 0 0 [] 0), (.mk (gT 16 14 (jF 0 5)) 0 0 [] 0), (.mk (gT 17 14 (jL 1 16)) 0 0 [9] 0), (.mk ⟨(.some 18), (.lkUp [1] .false .true [zU, zU, zU, zU] .false (tI 15) (tI 17)), (.some (14, .true))⟩ 0 0 [] 0), (.mk (gT 19 14 (jL 1 2)) 0 0 [9, 11, 12] 0), (.mk (gT 20 14 (.nilChk (tI 19))) 0 0 [] 0), (.mk (gT 21 14 (jF 5 20)) 0 0 [] 0), (.mk (gT 22 14 (jL 1 21)) 0 0 [9, 11, 12] 0), (.mk (gT 23 14 (jF 2 5)) 0 0 [] 0), (.mk (gT 24 14 (jL 1 23)) 0 0 [9, 11, 12, 13, 16] 0), (.mk (gT 25 14 (.indexS (tI 22) (tI 24))) 0 0 [] 0), (.mk ⟨(.some 26), (.call .false (.c (.fn 35 [])) [(tI 18), (tI 25)]), (.some (14, .true))⟩ 0 0 [] 0), (.mk (iQ 27 14 26) 0 0 [] 0)]) (.cond (tI 27) (.ops [iL 28 1 2, oI 29 (.nilChk (tI 28)), iF 30 7 29, iL 31 1 30, iM 32 0, iX 33 1 31 32, gN (.store 1 (tI 33) (cI 2))]) .skip)))⟩
theorem ir56_ok : compFn prog (shOf sh []) [] f56 = some ir56 := by kernel_rfl
def ir57_l0 : IC :=
  (.seq (.ops [iB 31 .lss 30 29]) (.seq (.cond (tI 31) .skip (.exit 0)) (.seq (.block 1 (.seq (.ops [iM 32 30, iX 33 1 28 30, iL 34 1 33, iM 9 32, iM 10 34]) (.ops [iM 35 8, iM 36 9, iM 37 10, iD 38 .gtr 37 0, iX 39 1 35 36, gN (jV 1 39 38)]))) (.ops [iD 40 .add 30 1, iM 30 40]))))
def ir57 : IFun :=
  ⟨42, [(.tmp 4), (.tmp 5)], (.seq (.ops [oI 2 (.box 27 (tI 0)), oI 4 (.nilrow 4 1), iC 5 0]) (.seq (.frzS [1] [] []) (.seq (.seq (.ops [iT 11 5 2, iM 12 1, oI 13 (.call .false (.c (.fn 51 [])) [(tI 11), (tI 12), (.c (.fn 70 []))]), iM 6 13]) (.seq (.ops [iM 14 6, iD 15 .neq 14 0]) (.cond (tI 15) (.seq (.ops [iM 16 6, oI 4 (.nilrow 4 1), iM 5 16]) .ret) .skip))) (.seq (.ops [iT 17 5 2, iM 18 1, ⟨(.some 19), (.call .true (.c (.fn 71 [])) [(tI 17), (.c (.p (.val (.string ⟨([] : List UInt8).toArray⟩)))), (tI 18), (cI 0)]), .none⟩, iM 7 19]) (.seq (.ops [iM 20 7, oI 21 (.call .true (.c (.fn 72 [])) [(tI 20)])]) (.seq (.ops [iM 22 1, iN 23 22, oI 24 (.makeS 4 1 1 [(.val (.bool .false))] (tI 23) (tI 23)), iM 8 24]) (.seq (.seq (.ops [iM 25 7, oI 26 (.nilChk (tI 25)), iF 27 10 26, iL 28 1 27, iN 29 28, iC 30 0]) (.seq (.block 0 (.loop [8, 28, 29, 30, 5000008] ir57_l0)) (.frzS [8] [] []))) (.seq (.ops [iM 41 8, iM 4 41, iC 5 0]) .ret))))))))⟩
theorem ir57_ok : compFn prog (shOf sh []) [[3000001, 4000001], [8, 28, 29, 30, 5000008]] f57 = some ir57 := by kernel_rfl
def ir58 : IFun :=
  ⟨20, [], (.seq (.ops [oI 6 (.box 35 (tI 1))]) (.seq (.seq (.ops [iL 7 1 2, iL 8 1 3, iX 9 1 7 8, iL 10 1 9, iU 11 10]) (.cond (tI 11) (.ops [iL 12 1 4, oI 13 (.nilChk (tI 12)), iF 14 7 13, iL 15 1 14, iM 16 0, iX 17 1 15 16, gN (.store 1 (tI 17) (cI 3))]) .skip)) (.ops [iL 18 1 3, iD 19 .add 18 1, gN (jV 1 3 19)])))⟩
theorem ir58_ok : compFn prog (shOf sh []) [] f58 = some ir58 := by kernel_rfl
def ir59 : IFun :=
  ⟨23, [], (.seq (.ops [oI 5 (.box 35 (tI 1))]) (.seq (.ops [iL 6 1 2, oI 7 (.nilChk (tI 6)), iF 8 0 7, iF 9 1 8, iL 10 1 9, iF 11 3 5, iL 12 1 11, iX 13 7 10 12, iF 14 4 13, iL 15 1 14]) (.cond (tI 15) (.opsR 0 [(.mk (iL 16 1 3) 0 0 [] 0), (.mk (iT 17 5 5) 0 0 [0] 0), (.mk (iK 18 55 17) 0 0 [0] 0), (.mk (oI 19 (.lkUp [1, 1, 1] .true .false [z6] .false (tI 16) (tI 18))) 0 0 [] 0), (.mk (iD 20 .add 19 1) 0 0 [] 0), (.mk (oI 21 (.mapEn [1, 1, 1] .true .false [z6] (tI 16) (tI 18))) 0 0 [3] 0), (.mk (oI 22 (.extract (tI 21) 1)) 0 0 [] 0), (.mk (gN (.entSt (tI 16) (tI 22) (tI 20))) 0 0 [] 0)]) .skip)))⟩
theorem ir59_ok : compFn prog (shOf sh []) [] f59 = some ir59 := by kernel_rfl
def ir60 : IFun :=
  ⟨30, [], (.seq (.ops [oI 5 (.box 35 (tI 1))]) (.seq (.ops [iL 6 1 2, iT 7 5 5, iK 8 55 7, oI 9 (.lkUp [1, 1, 1] .true .false [z6] .false (tI 6) (tI 8)), iD 10 .gtr 9 0, iM 11 10, gT 12 11 (jL 1 3), gT 13 11 (.nilChk (tI 12)), gT 14 11 (jF 0 13), gT 15 11 (jF 1 14), gT 16 11 (jL 1 15), gT 17 11 (jF 3 5), gT 18 11 (jL 1 17), gT 19 11 (jX 7 16 18), gT 20 11 (jF 4 19), gT 21 11 (jL 1 20), gT 22 11 (jU 21), iQ 23 11 22]) (.cond (tI 23) (.ops [iL 24 1 3, oI 25 (.nilChk (tI 24)), iF 26 7 25, iL 27 1 26, iM 28 0, iX 29 1 27 28, gN (.store 1 (tI 29) (cI 4))]) .skip)))⟩
theorem ir60_ok : compFn prog (shOf sh []) [] f60 = some ir60 := by kernel_rfl
def ir61 : IFun :=
  ⟨24, [], (.seq (.ops [oI 5 (.box 35 (tI 1))]) (.seq (.ops [iL 6 1 2, oI 7 (.nilChk (tI 6)), iF 8 0 7, iF 9 1 8, iL 10 1 9, iF 11 3 5, iL 12 1 11, iX 13 7 10 12, iF 14 5 13, iL 15 1 14, iU 16 15]) (.cond (tI 16) (.opsR 0 [(.mk (iL 17 1 3) 0 0 [] 0), (.mk (iT 18 5 5) 0 0 [0] 0), (.mk (iK 19 55 18) 0 0 [0] 0), (.mk (oI 20 (.lkUp [1, 1, 1] .true .false [z6] .false (tI 17) (tI 19))) 0 0 [] 0), (.mk (iD 21 .add 20 1) 0 0 [] 0), (.mk (oI 22 (.mapEn [1, 1, 1] .true .false [z6] (tI 17) (tI 19))) 0 0 [3] 0), (.mk (oI 23 (.extract (tI 22) 1)) 0 0 [] 0), (.mk (gN (.entSt (tI 17) (tI 23) (tI 21))) 0 0 [] 0)]) .skip)))⟩
theorem ir61_ok : compFn prog (shOf sh []) [] f61 = some ir61 := by kernel_rfl
def ir62 : IFun :=
  ⟨29, [], (.seq (.ops [oI 5 (.box 35 (tI 1))]) (.seq (.ops [iL 6 1 2, iT 7 5 5, iK 8 55 7, oI 9 (.lkUp [1, 1, 1] .true .false [z6] .false (tI 6) (tI 8)), iD 10 .gtr 9 0, iM 11 10, gT 12 11 (jL 1 3), gT 13 11 (.nilChk (tI 12)), gT 14 11 (jF 0 13), gT 15 11 (jF 1 14), gT 16 11 (jL 1 15), gT 17 11 (jF 3 5), gT 18 11 (jL 1 17), gT 19 11 (jX 7 16 18), gT 20 11 (jF 5 19), gT 21 11 (jL 1 20), iQ 22 11 21]) (.cond (tI 22) (.ops [iL 23 1 3, oI 24 (.nilChk (tI 23)), iF 25 7 24, iL 26 1 25, iM 27 0, iX 28 1 26 27, gN (.store 1 (tI 28) (cI 5))]) .skip)))⟩
theorem ir62_ok : compFn prog (shOf sh []) [] f62 = some ir62 := by kernel_rfl
def ir63_l0 : IC :=
  (.seq (.ops [iB 11 .lss 10 9]) (.seq (.cond (tI 11) .skip (.exit 0)) (.seq (.block 1 (.seq (.ops [iX 12 1 8 10, iL 13 1 12, iM 5 13]) (.seq (.ops [iM 14 3, iM 15 5, oI 16 (.lkUp [2] .false .false [z6] .false (tI 14) (tI 15)), iD 17 .add 16 1, gN (.mapUp [2] .false (tI 14) (tI 15) (tI 17))]) (.seq (.ops [iM 18 5, ⟨(.some 19), (.bin .eql (tI 18) (.c (.p (.val (.string ⟨([] : List UInt8).toArray⟩))))), .none⟩, iM 20 19, gF 21 20 (jM 5), gF 22 20 (jS 21), gF 23 20 (jD .gtr 22 1000), iP 24 20 23, iM 25 24, gF 26 25 (jM 3), gF 27 25 (jM 5), ⟨(.some 28), (.lkUp [2] .false .false [z6] .false (tI 26) (tI 27)), (.some (25, .false))⟩, gF 29 25 (jD .gtr 28 1), iP 30 25 29]) (.cond (tI 30) (.seq (.ops [iE 2 false]) .ret) .skip))))) (.ops [iD 31 .add 10 1, iM 10 31]))))
def ir63 : IFun :=
  ⟨55, [(.tmp 2)], (.seq (.ops [oI 1 (.box 27 (tI 0)), iE 2 false]) (.seq (.ops [⟨(.some 6), .mkMap, .none⟩, iM 3 6]) (.seq (.seq (.ops [iF 7 0 1, iL 8 1 7, iN 9 8, iC 10 0]) (.block 0 (.loop [1, 3, 8, 9, 10] ir63_l0))) (.seq (.ops [iF 32 0 1, iL 33 1 32, iN 34 33, iD 35 .geq 34 1, iM 36 35, gT 37 36 (jF 0 1), gT 38 36 (jL 1 37), gT 39 36 (jN 38), gT 40 36 (jD .leq 39 1000), iQ 41 36 40, iM 42 41, gT 43 42 (jF 2 1), gT 44 42 (jL 1 43), gT 45 42 (jD .geq 44 0), iQ 46 42 45, iM 47 46, gT 48 47 (jF 2 1), gT 49 47 (jL 1 48), gT 50 47 (jF 0 1), gT 51 47 (jL 1 50), gT 52 47 (jN 51), gT 53 47 (jB .lss 49 52), iQ 54 47 53, iM 2 54]) .ret))))⟩
theorem ir63_ok : compFn prog (shOf sh []) [[1, 3, 8, 9, 10]] f63 = some ir63 := by kernel_rfl
def ir64_l0 : IC :=
  (.seq (.ops [iB 70 .lss 69 68]) (.seq (.cond (tI 70) .skip (.exit 2)) (.seq (.block 3 (.seq (.ops [iX 71 6 67 69, iT 72 6 71, oI 7 (.alloc 75 [zZ, (.z zU), (.z zU), (.z zU), (.z zU), zZ]), gN (jV 6 7 72)]) (.seq (.ops [iF 73 0 7, iL 74 1 73]) (.block 4 (.seq (.ops [iD 76 .eql 74 0, iM 75 76]) (.cond (tI 75) (.seq (.ops [iF 77 1 7, iT 78 4 77, oI 79 (.build [zU, zU, zU, zU] []), oI 80 (.eqA .true [1, 1, 1, 1] .false (tI 78) (tI 79)), iM 81 80, gF 82 81 (jF 5 7), gF 83 81 (jL 1 82), gF 84 81 (jD .neq 83 0), iP 85 81 84]) (.cond (tI 85) (.seq (.ops [iE 2 false]) .ret) .skip)) (.seq (.ops [iD 87 .eql 74 1, iM 86 87]) (.cond (tI 86) (.seq (.ops [iF 88 1 7, iT 89 4 88, oI 90 (.build [zU, zU, zU, zU] []), oI 91 (.eqA .true [1, 1, 1, 1] .true (tI 89) (tI 90)), iM 92 91, gF 93 92 (jM 3), gF 94 92 (jF 5 7), gF 95 92 (jL 1 94), gF 96 92 (.call .false (tI 93) [(tI 95)]), gF 97 92 (jU 96), iP 98 92 97, iM 99 98, gF 100 99 (jF 3 5), gF 101 99 (jL 1 100), gF 102 99 (jD .eql 101 11), iP 103 99 102]) (.cond (tI 103) (.seq (.ops [iE 2 false]) .ret) .skip)) (.seq (.ops [iE 2 false]) .ret))))))))) (.ops [iD 104 .add 69 1, iM 69 104]))))
def ir64_l1 : IC :=
  (.seq (.ops [iB 13 .lss 12 11]) (.seq (.cond (tI 13) .skip (.exit 0)) (.seq (.block 1 (.seq (.ops [iX 14 7 10 12, iT 15 7 14, ⟨(.some 5), (.alloc 52 [zZ, (.r 75 6), (.z (.val (.string ⟨([] : List UInt8).toArray⟩))), zZ, (.z (.val (.bool .false))), (.z (.val (.bool .false))), zZ]), .none⟩, gN (jV 7 5 15)]) (.seq (.seq (.ops [iM 16 3, iF 17 0 5, iL 18 1 17, oI 19 (.call .false (tI 16) [(tI 18)]), iU 20 19, iM 21 20, gF 22 21 (jF 1 5), gF 23 21 (jL 1 22), gF 24 21 (jN 23), gF 25 21 (jD .gtr 24 30), iP 26 21 25, iM 27 26, gF 28 27 (jF 3 5), gF 29 27 (jL 1 28), gF 30 27 (jD .lss 29 0), iP 31 27 30, iM 32 31, gF 33 32 (jF 3 5), gF 34 32 (jL 1 33), gF 35 32 (jD .gtr 34 11), iP 36 32 35, iM 37 36, gF 38 37 (jF 6 5), gF 39 37 (jL 1 38), ⟨(.some 40), (.bin .lss (tI 39) (cI (-1))), (.some (37, .false))⟩, iP 41 37 40, iM 42 41, gF 43 42 (jF 2 5), gF 44 42 (jL 1 43), gF 45 42 (jS 44), gF 46 42 (jD .gtr 45 64), iP 47 42 46, iM 48 47, gF 49 48 (jF 2 5), gF 50 48 (jL 1 49), ⟨(.some 51), (.bin .neq (tI 50) (.c (.p (.val (.string ⟨([] : List UInt8).toArray⟩))))), (.some (48, .false))⟩, gF 52 48 (jM 51), gT 53 52 (jF 3 5), gT 54 52 (jL 1 53), gT 55 52 (jD .neq 54 0), gF 56 48 (jQ 52 55), iP 57 48 56, iM 58 57, gF 59 58 (jF 4 5), gF 60 58 (jL 1 59), gF 61 58 (jM 60), gT 62 61 (jF 5 5), gT 63 61 (jL 1 62), gF 64 58 (jQ 61 63), iP 65 58 64]) (.cond (tI 65) (.seq (.ops [iE 2 false]) .ret) .skip)) (.seq (.ops [iF 66 1 5, iL 67 1 66, iN 68 67, iC 69 0]) (.block 2 (.loop [1, 3, 5, 10, 11, 12, 67, 68, 69] ir64_l0)))))) (.ops [iD 105 .add 12 1, iM 12 105]))))
def ir64 : IFun :=
  ⟨110, [(.tmp 2)], (.seq (.ops [oI 1 (.box 27 (tI 0)), iE 2 false]) (.seq (.ops [oI 8 (.mkfn 73 [(tI 1)]), iM 3 8]) (.seq (.seq (.ops [iF 9 1 1, iL 10 1 9, iN 11 10, iC 12 0]) (.block 0 (.loop [1, 3, 10, 11, 12] ir64_l1))) (.seq (.ops [iF 106 1 1, iL 107 1 106, iN 108 107, iD 109 .leq 108 1000, iM 2 109]) .ret))))⟩
theorem ir64_ok : compFn prog (shOf sh [16, 93]) [[1, 3, 10, 11, 12], [1, 3, 5, 10, 11, 12, 67, 68, 69]] f64 = some ir64 := by kernel_rfl
def ir65_l0 : IC :=
  (.seq (.ops [iB 14 .lss 13 12]) (.seq (.cond (tI 14) .skip (.exit 0)) (.seq (.block 1 (.seq (.ops [iX 15 3 11 13, iT 16 3 15, oI 6 (.alloc 65 [zZ, zZ, zZ]), gN (jV 3 6 16)]) (.seq (.opsR 0 [(.mk (iM 17 3) 0 0 [] 0), (.mk (iT 18 3 6) 0 0 [] 0), (.mk (oI 19 (.lkUp [1, 1, 1] .true .false [z6] .false (tI 17) (tI 18))) 0 0 [] 0), (.mk (iD 20 .add 19 1) 0 0 [] 0), (.mk (oI 21 (.mapEn [1, 1, 1] .true .false [z6] (tI 17) (tI 18))) 0 0 [2] 0), (.mk (oI 22 (.extract (tI 21) 1)) 0 0 [] 0), (.mk (gN (.entSt (tI 17) (tI 22) (tI 20))) 0 0 [] 0)]) (.seq (.seq (.ops [iM 23 3, iT 24 3 6, oI 25 (.lkUp [1, 1, 1] .true .false [z6] .false (tI 23) (tI 24)), iD 26 .gtr 25 1, iM 27 26, gF 28 27 (jM 4), gF 29 27 (jF 0 6), gF 30 27 (jL 1 29), gF 31 27 (.call .false (tI 28) [(tI 30)]), gF 32 27 (jU 31), iP 33 27 32, iM 34 33, gF 35 34 (jM 4), gF 36 34 (jF 2 6), gF 37 34 (jL 1 36), gF 38 34 (.call .false (tI 35) [(tI 37)]), gF 39 34 (jU 38), iP 40 34 39, iM 41 40, gF 42 41 (jF 1 6), gF 43 41 (jL 1 42), gF 44 41 (jD .lss 43 1), iP 45 41 44, iM 46 45, gF 47 46 (jF 1 6), gF 48 46 (jL 1 47), gF 49 46 (jF 1 1), gF 50 46 (jL 1 49), gF 51 46 (jF 0 6), gF 52 46 (jL 1 51), gF 53 46 (jX 7 50 52), gF 54 46 (jF 1 53), gF 55 46 (jL 1 54), gF 56 46 (jN 55), gF 57 46 (jB .gtr 48 56), iP 58 46 57]) (.cond (tI 58) (.seq (.ops [iE 2 false]) .ret) .skip)) (.seq (.ops [iF 59 1 1, iL 60 1 59, iF 61 0 6, iL 62 1 61, iX 63 7 60 62, iF 64 1 63, iL 65 1 64, iF 66 1 6, iL 67 1 66, iD 68 .sub 67 1, iX 69 6 65 68, iT 70 6 69, oI 7 (.alloc 75 [zZ, (.z zU), (.z zU), (.z zU), (.z zU), zZ]), gN (jV 6 7 70)]) (.seq (.ops [iF 71 0 7, iL 72 1 71, iD 73 .neq 72 1, iM 74 73, gF 75 74 (jF 5 7), gF 76 74 (jL 1 75), gF 77 74 (jF 1 1), gF 78 74 (jL 1 77), gF 79 74 (jF 2 6), gF 80 74 (jL 1 79), gF 81 74 (jX 7 78 80), gF 82 74 (jF 0 81), gF 83 74 (jL 1 82), gF 84 74 (jB .neq 76 83), iP 85 74 84]) (.cond (tI 85) (.seq (.ops [iE 2 false]) .ret) .skip))))))) (.ops [iD 86 .add 13 1, iM 13 86]))))
def ir65 : IFun :=
  ⟨87, [(.tmp 2)], (.seq (.ops [oI 1 (.box 27 (tI 0)), iE 2 false]) (.seq (.ops [⟨(.some 8), .mkMap, .none⟩, iM 3 8]) (.seq (.ops [oI 9 (.mkfn 74 [(tI 1)]), iM 4 9]) (.seq (.seq (.ops [iF 10 3 1, iL 11 1 10, iN 12 11, iC 13 0]) (.block 0 (.loop [1, 3, 4, 11, 12, 13] ir65_l0))) (.seq (.ops [iE 2 true]) .ret)))))⟩
theorem ir65_ok : compFn prog (shOf sh [28, 35]) [[1, 3, 4, 11, 12, 13]] f65 = some ir65 := by kernel_rfl
def ir66_l0 : IC :=
  (.seq (.ops [iB 11 .lss 10 9]) (.seq (.cond (tI 11) .skip (.exit 0)) (.seq (.block 1 (.seq (.ops [iX 12 5 8 10, iT 13 5 12, oI 5 (.alloc 70 [zZ, (.z zU), (.z zU), (.z zU), (.z zU)]), gN (jV 5 5 13)]) (.seq (.ops [iM 14 3, iF 15 0 5, iL 16 1 15, oI 17 (.lkUp [1] .false .false [z6] .false (tI 14) (tI 16)), iD 18 .add 17 1, gN (.mapUp [1] .false (tI 14) (tI 16) (tI 18))]) (.seq (.ops [iM 19 3, iF 20 0 5, iL 21 1 20, oI 22 (.lkUp [1] .false .false [z6] .false (tI 19) (tI 21)), iD 23 .gtr 22 1, iM 24 23, gF 25 24 (jF 0 5), gF 26 24 (jL 1 25), gF 27 24 (jD .lss 26 0), iP 28 24 27, iM 29 28, gF 30 29 (jF 0 5), gF 31 29 (jL 1 30), gF 32 29 (jF 0 1), gF 33 29 (jL 1 32), gF 34 29 (jN 33), gF 35 29 (jB .geq 31 34), iP 36 29 35, iM 37 36, gF 38 37 (jF 1 5), gF 39 37 (jT 4 38), ⟨(.some 40), (.build [zU, zU, zU, zU] []), (.some (37, .false))⟩, gF 41 37 (.eqA .true [1, 1, 1, 1] .false (tI 39) (tI 40)), iP 42 37 41]) (.cond (tI 42) (.seq (.ops [iE 2 false]) .ret) .skip))))) (.ops [iD 43 .add 10 1, iM 10 43]))))
def ir66 : IFun :=
  ⟨44, [(.tmp 2)], (.seq (.ops [oI 1 (.box 27 (tI 0)), iE 2 false]) (.seq (.ops [⟨(.some 6), .mkMap, .none⟩, iM 3 6]) (.seq (.seq (.ops [iF 7 4 1, iL 8 1 7, iN 9 8, iC 10 0]) (.block 0 (.loop [1, 3, 8, 9, 10] ir66_l0))) (.seq (.ops [iE 2 true]) .ret))))⟩
theorem ir66_ok : compFn prog (shOf sh []) [[1, 3, 8, 9, 10]] f66 = some ir66 := by kernel_rfl
def ir67_l0 : IC :=
  (.seq (.ops [iB 59 .lss 58 57]) (.seq (.cond (tI 59) .skip (.exit 0)) (.seq (.block 1 (.seq (.ops [iM 60 58, iX 61 6 56 58, iT 62 6 61, oI 10 (.alloc 75 [zZ, (.z zU), (.z zU), (.z zU), (.z zU), zZ]), iM 9 60, gN (jV 6 10 62)]) (.seq (.ops [iF 63 4 4, iL 64 1 63, iM 65 9, iX 66 1 64 65, iL 67 1 66, iM 11 67]) (.seq (.seq (.ops [iM 68 11, iM 69 8, iB 70 .lss 68 69, iM 71 70, gF 72 71 (jF 0 10), gF 73 71 (jL 1 72), gF 74 71 (jD .eql 73 0), gF 75 71 (jM 74), gT 76 75 (jM 11), gT 77 75 (jM 8), gT 78 75 (jD .add 77 1), gT 79 75 (jB .neq 76 78), gT 80 75 (jM 79), gF 81 80 (jM 2), gF 82 80 (jF 1 10), gF 83 80 (jT 4 82), gF 84 80 (jM 8), gF 85 80 (.call .false (tI 81) [(tI 83), (tI 84)]), gF 86 80 (jU 85), gT 87 75 (jP 80 86), gF 88 71 (jQ 75 87), iP 89 71 88]) (.cond (tI 89) (.seq (.ops [iE 6 false]) .ret) .skip)) (.ops [iM 90 11, iM 8 90]))))) (.ops [iD 91 .add 58 1, iM 58 91]))))
def ir67 : IFun :=
  ⟨96, [(.tmp 6)], (.seq (.ops [oI 3 (.box 27 (tI 0)), oI 4 (.box 35 (tI 1)), iE 6 false]) (.seq (.seq (.ops [iF 12 3 4, iL 13 1 12, iD 14 .lss 13 0, iM 15 14, gF 16 15 (jF 3 4), gF 17 15 (jL 1 16), gF 18 15 (jF 1 3), gF 19 15 (jL 1 18), gF 20 15 (jN 19), gF 21 15 (jB .geq 17 20), iP 22 15 21, iM 23 22, gF 24 23 (jF 1 4), gF 25 23 (jL 1 24), gF 26 23 (jD .lss 25 0), iP 27 23 26]) (.cond (tI 27) (.seq (.ops [iE 6 false]) .ret) .skip)) (.seq (.ops [iF 28 1 3, iL 29 1 28, iF 30 3 4, iL 31 1 30, iX 32 7 29 31, iT 33 7 32, ⟨(.some 7), (.alloc 52 [zZ, (.r 75 6), (.z (.val (.string ⟨([] : List UInt8).toArray⟩))), zZ, (.z (.val (.bool .false))), (.z (.val (.bool .false))), zZ]), .none⟩, gN (jV 7 7 33)]) (.seq (.seq (.ops [iF 34 3 7, iL 35 1 34, iD 36 .eql 35 11, iM 37 36, gF 38 37 (jF 0 7), gF 39 37 (jL 1 38), gF 40 37 (jF 0 4), gF 41 37 (jL 1 40), gF 42 37 (jB .neq 39 41), iP 43 37 42, iM 44 43, gF 45 44 (jF 1 7), gF 46 44 (jL 1 45), gF 47 44 (jN 46), gF 48 44 (jF 4 4), gF 49 44 (jL 1 48), gF 50 44 (jN 49), gF 51 44 (jB .neq 47 50), iP 52 44 51]) (.cond (tI 52) (.seq (.ops [iE 6 false]) .ret) .skip)) (.seq (.ops [iF 53 1 4, iL 54 1 53, iM 8 54]) (.seq (.seq (.ops [iF 55 1 7, iL 56 1 55, iN 57 56, iC 58 0]) (.block 0 (.loop [2, 4, 8, 56, 57, 58] ir67_l0))) (.seq (.ops [iM 92 8, iF 93 2 4, iL 94 1 93, iB 95 .eql 92 94, iM 6 95]) .ret)))))))⟩
theorem ir67_ok : compFn prog (shOf sh [81]) [[2, 4, 8, 56, 57, 58]] f67 = some ir67 := by kernel_rfl
def ir68 : IFun :=
  ⟨32, [(.tmp 4)], (.seq (.ops [oI 2 (.box 35 (tI 0)), oI 3 (.box 35 (tI 1)), iC 4 0]) (.seq (.ops [iF 5 0 2, iL 6 1 5, iF 7 0 3, iL 8 1 7, oI 9 (.call .false (.c (.fn 76 [])) [(tI 6), (tI 8)]), iF 10 1 2, iL 11 1 10, iF 12 1 3, iL 13 1 12, oI 14 (.call .false (.c (.fn 76 [])) [(tI 11), (tI 13)]), iF 15 2 2, iL 16 1 15, iF 17 2 3, iL 18 1 17, oI 19 (.call .false (.c (.fn 76 [])) [(tI 16), (tI 18)]), iF 20 3 2, iL 21 1 20, iF 22 3 3, iL 23 1 22, oI 24 (.call .false (.c (.fn 76 [])) [(tI 21), (tI 23)]), iF 25 4 2, iL 26 1 25, iF 27 4 3, iL 28 1 27, oI 29 (.call .false (.c (.fn 77 [])) [(tI 26), (tI 28)]), oI 30 (.buildS 3 1 [z6] 5 [(0, (tI 9)), (1, (tI 14)), (2, (tI 19)), (3, (tI 24)), (4, (tI 29))]), iK 31 75 30, iM 4 31]) .ret))⟩
theorem ir68_ok : compFn prog (shOf sh []) [] f68 = some ir68 := by kernel_rfl
def ir69_l0 : IC :=
  (.seq (.ops [iB 9 .lss 8 7]) (.seq (.cond (tI 9) .skip (.exit 0)) (.seq (.block 1 (.seq (.ops [iM 10 8, iM 5 10]) (.seq (.ops [iM 11 1, iM 12 0, iM 13 5, iX 14 5 12 13, iT 15 5 14, oI 16 (.call .true (tI 11) [(tI 15)])]) (.cond (tI 16) (.seq (.ops [iM 17 5, iM 4 17]) .ret) .skip)))) (.ops [iD 18 .add 8 1, iM 8 18]))))
def ir69 : IFun :=
  ⟨19, [(.tmp 4)], (.seq (.ops [iC 4 0]) (.seq (.seq (.ops [iM 6 0, iN 7 6, iC 8 0]) (.block 0 (.loop [0, 1, 7, 8] ir69_l0))) (.seq (.ops [oI 4 (.mv (cI (-1)))]) .ret)))⟩
theorem ir69_ok : compFn prog (shOf sh []) [[0, 1, 7, 8]] f69 = some ir69 := by kernel_rfl
def ir70 : IFun :=
  ⟨5, [(.tmp 4)], (.seq (.ops [oI 2 (.box 68 (tI 0)), iE 4 false]) (.seq (.ops [iE 4 true]) .ret))⟩
theorem ir70_ok : compFn prog (shOf sh []) [] f70 = some ir70 := by kernel_rfl
def ir71_l0 : IC :=
  (.seq (.ops [iB 56 .lss 55 54]) (.seq (.cond (tI 56) .skip (.exit 2)) (.seq (.block 3 (.seq (.ops [iX 57 3 53 55, iT 58 3 57, oI 13 (.alloc 65 [zZ, zZ, zZ]), gN (jV 3 13 58)]) (.opsR 0 [(.mk (iM 59 9) 0 0 [] 0), (.mk (oI 60 (.nilChk (tI 59))) 0 0 [] 0), (.mk (iF 61 8 60) 0 0 [] 0), (.mk (iL 62 1 61) 0 0 [] 0), (.mk (iT 63 3 13) 0 0 [3] 0), (.mk (oI 64 (.lkUp [1, 1, 1] .true .false [z6] .false (tI 62) (tI 63))) 0 0 [] 0), (.mk (iD 65 .add 64 1) 0 0 [] 0), (.mk (oI 66 (.mapEn [1, 1, 1] .true .false [z6] (tI 62) (tI 63))) 0 0 [5] 0), (.mk (oI 67 (.extract (tI 66) 1)) 0 0 [] 0), (.mk (gN (.entSt (tI 62) (tI 67) (tI 65))) 0 0 [] 0)]))) (.ops [iD 68 .add 55 1, iM 55 68]))))
def ir71_l1 : IC :=
  (.seq (.ops [iB 31 .lss 30 29]) (.seq (.cond (tI 31) .skip (.exit 0)) (.seq (.block 1 (.seq (.ops [iM 32 30, iX 33 5 28 30, iT 34 5 33, oI 11 (.alloc 35 [zZ, zZ, zZ, zZ, (.r 3 1)]), iM 10 32, gN (jV 5 11 34)]) (.opsR 1 [(.mk (iM 35 9) 0 0 [] 0), (.mk (oI 36 (.nilChk (tI 35))) 0 0 [] 0), (.mk (iF 37 7 36) 0 0 [] 0), (.mk (iL 38 1 37) 0 0 [] 0), (.mk (iT 39 5 11) 0 0 [3] 0), (.mk (iK 40 78 39) 0 0 [3] 0), (.mk (iM 41 9) 0 0 [] 0), (.mk (oI 42 (.nilChk (tI 41))) 0 0 [] 0), (.mk (iF 43 7 42) 0 0 [] 0), (.mk (iL 44 1 43) 0 0 [3, 4, 5] 0), (.mk (iT 45 5 11) 0 0 [3, 4, 5, 9] 0), (.mk (iK 46 78 45) 0 0 [3, 9] 0), (.mk (oI 47 (.lkUp [1, 1, 1] .true .false [zM] .false (tI 44) (tI 46))) 0 0 [3] 0), (.mk (iM 48 10) 0 0 [] 0), (.mk (oI 49 (.buildL 1 [z6] 1 [(0, (tI 48))])) 0 0 [] 0), (.mk (oI 50 (.appN 3 1 8 (tI 47) (tI 49))) 0 1 [3] 0), (.mk (gN (.mapUp [1, 1, 1] .true (tI 38) (tI 40) (tI 50))) 1 0 [] 0)]))) (.ops [iD 51 .add 30 1, iM 30 51]))))
def ir71 : IFun :=
  ⟨70, [(.tmp 8)], (.seq (.ops [oI 4 (.box 27 (tI 0)), oI 8 (.mv (.c (.p (.val (.pointer .none)))))]) (.seq (.opsR 5 [(.mk (iT 14 5 4) 0 0 [] 0), (.mk (iM 15 1) 0 0 [] 0), (.mk (iM 16 2) 0 0 [] 0), (.mk ⟨(.some 17), .mkMap, .none⟩ 0 1 [0] 0), (.mk ⟨(.some 18), .mkMap, .none⟩ 1 1 [0, 3] 0), (.mk (iM 19 2) 2 0 [] 0), (.mk (iN 20 19) 2 0 [] 0), (.mk (oI 21 (.makeS 164 1 24 [zM] (tI 20) (tI 20))) 2 1 [0, 3, 4] 0), (.mk (iM 22 2) 3 0 [] 0), (.mk (iN 23 22) 3 0 [] 0), (.mk (oI 24 (.makeS 3 1 8 [z6] (tI 23) (tI 23))) 3 1 [0, 3, 4, 7] 0), (.mk (iM 25 3) 4 0 [] 0), (.mk ⟨(.some 26), (.build [zM, zM, z6, zM, zM, (.val (.string ⟨([] : List UInt8).toArray⟩)), zM, (.val (.map .none)), (.val (.map .none)), zM, zM, z6] [(0, (5, (tI 14))), (5, (1, (tI 15))), (6, (1, (tI 16))), (7, (1, (tI 17))), (8, (1, (tI 18))), (9, (1, (tI 21))), (10, (1, (tI 24))), (11, (1, (tI 25)))]), .none⟩ 4 0 [] 0), (.mk (oI 27 (.box 129 (tI 26))) 4 1 [] 0), (.mk (iM 9 27) 5 0 [] 0)]) (.seq (.seq (.ops [iM 28 2, iN 29 28, iC 30 0]) (.block 0 (.loop [4, 9, 28, 29, 30] ir71_l1))) (.seq (.seq (.ops [iF 52 3 4, iL 53 1 52, iN 54 53, iC 55 0]) (.block 2 (.loop [9, 53, 54, 55] ir71_l0))) (.seq (.ops [iM 69 9, iM 8 69]) .ret)))))⟩
theorem ir71_ok : compFn prog (shOf sh [47, 49]) [[4, 9, 28, 29, 30], [9, 53, 54, 55]] f71 = some ir71 := by kernel_rfl
def ir72 : IFun :=
  ⟨5, [], (.seq (.ops [oI 1 (.box 123 (tI 0))]) (.ops [iL 2 1 1, oI 3 (.mkfn 80 [(tI 1)]), oI 4 (.call .true (.c (.fn 79 [])) [(tI 2), (tI 3)])]))⟩
theorem ir72_ok : compFn prog (shOf sh []) [] f72 = some ir72 := by kernel_rfl
def ir73 : IFun :=
  ⟨13, [(.tmp 3)], (.seq (.ops [iE 3 false]) (.seq (.ops [iM 4 0, iD 5 .geq 4 0, iM 6 5, gT 7 6 (jM 0), gT 8 6 (jF 0 1), gT 9 6 (jL 1 8), gT 10 6 (jN 9), gT 11 6 (jB .lss 7 10), iQ 12 6 11, iM 3 12]) .ret))⟩
theorem ir73_ok : compFn prog (shOf sh []) [] f73 = some ir73 := by kernel_rfl
def ir74 : IFun :=
  ⟨22, [(.tmp 3)], (.seq (.ops [iE 3 false]) (.seq (.ops [iM 4 0, iD 5 .geq 4 0, iM 6 5, gT 7 6 (jM 0), gT 8 6 (jF 1 1), gT 9 6 (jL 1 8), gT 10 6 (jN 9), gT 11 6 (jB .lss 7 10), iQ 12 6 11, iM 13 12, gT 14 13 (jF 1 1), gT 15 13 (jL 1 14), gT 16 13 (jM 0), gT 17 13 (jX 7 15 16), gT 18 13 (jF 3 17), gT 19 13 (jL 1 18), gT 20 13 (jD .neq 19 11), iQ 21 13 20, iM 3 21]) .ret))⟩
theorem ir74_ok : compFn prog (shOf sh []) [] f74 = some ir74 := by kernel_rfl
def ir75_l0 : IC :=
  (.seq (.ops [iB 9 .lss 8 7]) (.seq (.cond (tI 9) .skip (.exit 0)) (.seq (.block 1 (.seq (.ops [iX 10 1 6 8, iL 11 1 10, iM 5 11]) (.seq (.ops [iM 12 5, iM 13 3, iB 14 .neq 12 13]) (.cond (tI 14) (.seq (.ops [iM 15 5, iM 2 15]) .ret) .skip)))) (.ops [iD 16 .add 8 1, iM 8 16]))))
def ir75 : IFun :=
  ⟨18, [(.tmp 2)], (.seq (.ops [iC 2 0]) (.seq (.ops [iC 3 0]) (.seq (.seq (.ops [iM 6 0, iN 7 6, iC 8 0]) (.block 0 (.loop [3, 6, 7, 8] ir75_l0))) (.seq (.ops [iM 17 3, iM 2 17]) .ret))))⟩
theorem ir75_ok : compFn prog (shOf sh []) [[3, 6, 7, 8]] f75 = some ir75 := by kernel_rfl
def ir76 : IFun :=
  ⟨20, [(.tmp 4)], (.seq (.ops [iC 4 0]) (.seq (.ops [iM 7 0, iK 8 83 7, iM 5 8]) (.seq (.ops [iM 9 1, iK 10 83 9, iM 6 10]) (.seq (.seq (.ops [iM 11 5]) (.cond (tI 11) (.seq (.seq (.ops [iM 12 6]) (.cond (tI 12) (.seq (.ops [iC 4 0]) .ret) .skip)) (.seq (.ops [oI 4 (.mv (cI (-1)))]) .ret)) .skip)) (.seq (.seq (.ops [iM 13 6]) (.cond (tI 13) (.seq (.ops [iC 4 1]) .ret) .skip)) (.seq (.seq (.ops [iM 14 0, iM 15 1, iB 16 .lss 14 15]) (.cond (tI 16) (.seq (.ops [oI 4 (.mv (cI (-1)))]) .ret) .skip)) (.seq (.seq (.ops [iM 17 0, iM 18 1, iB 19 .gtr 17 18]) (.cond (tI 19) (.seq (.ops [iC 4 1]) .ret) .skip)) (.seq (.ops [iC 4 0]) .ret))))))))⟩
theorem ir76_ok : compFn prog (shOf sh []) [] f76 = some ir76 := by kernel_rfl
def ir77_l0 : IC :=
  (.seq (.ops [iB 12 .lss 11 10]) (.seq (.cond (tI 12) .skip (.exit 0)) (.seq (.block 1 (.seq (.ops [iM 13 11, iX 14 1 9 11, iL 15 1 14, iM 5 13, iM 6 15]) (.seq (.seq (.ops [iM 16 5, iM 17 1, iN 18 17, iB 19 .geq 16 18]) (.cond (tI 19) (.seq (.ops [iC 4 1]) .ret) .skip)) (.seq (.ops [iM 20 1, iM 21 5, iX 22 1 20 21, iL 23 1 22, iM 7 23]) (.seq (.ops [iM 24 6, iM 25 7, oI 26 (.call .false (.c (.fn 76 [])) [(tI 24), (tI 25)]), iM 8 26]) (.seq (.ops [iM 27 8, iD 28 .neq 27 0]) (.cond (tI 28) (.seq (.ops [iM 29 8, iM 4 29]) .ret) .skip))))))) (.ops [iD 30 .add 11 1, iM 11 30]))))
def ir77 : IFun :=
  ⟨36, [(.tmp 4)], (.seq (.ops [iC 4 0]) (.seq (.seq (.ops [iM 9 0, iN 10 9, iC 11 0]) (.block 0 (.loop [0, 1, 9, 10, 11] ir77_l0))) (.seq (.seq (.ops [iM 31 0, iN 32 31, iM 33 1, iN 34 33, iB 35 .lss 32 34]) (.cond (tI 35) (.seq (.ops [oI 4 (.mv (cI (-1)))]) .ret) .skip)) (.seq (.ops [iC 4 0]) .ret))))⟩
theorem ir77_ok : compFn prog (shOf sh []) [[0, 1, 9, 10, 11]] f77 = some ir77 := by kernel_rfl
def ir78 : IFun :=
  ⟨10, [(.cell 2 .true 3)], (.seq (.ops [oI 1 (.box 35 (tI 0)), oI 2 (.alloc 137 [zZ, zZ, zZ])]) (.seq (.ops [iF 3 0 1, iL 4 1 3, iF 5 1 1, iL 6 1 5, iF 7 2 1, iL 8 1 7, oI 9 (.build [z6, z6, z6] [(0, (1, (tI 4))), (1, (1, (tI 6))), (2, (1, (tI 8)))]), gN (jV 3 2 9)]) .ret))⟩
theorem ir78_ok : compFn prog (shOf sh []) [] f78 = some ir78 := by kernel_rfl
def ir79_l0 : IC :=
  (.seq (.ops [iB 59 .lss 58 57]) (.seq (.cond (tI 59) .skip (.exit 8)) (.seq (.block 9 (.seq (.ops [iX 60 1 56 58, iL 61 1 60, iM 10 61]) (.seq (.ops [iM 62 1, iM 63 10, oI 64 (.call .true (tI 62) [(tI 63)])]) (.cond (tI 64) (.ops [iE 8 true]) .skip)))) (.ops [iD 65 .add 58 1, iM 58 65]))))
def ir79_l1 : IC :=
  (.block 7 (.seq (.ops [iE 8 false]) (.seq (.seq (.ops [iM 54 4, iM 55 7, oI 56 (.slice 1 (tI 54) .none (.some (tI 55))), iN 57 56, iC 58 0]) (.block 8 (.loop [1, 4, 6, 7, 8, 56, 57, 58] ir79_l0))) (.seq (.ops [iM 66 8, iU 67 66]) (.cond (tI 67) (.exit 6) .skip)))))
def ir79_l2 : IC :=
  (.seq (.seq (.opsR 0 [(.mk (iM 34 7) 0 0 [] 0), (.mk (iM 35 4) 0 0 [] 0), (.mk (iN 36 35) 0 0 [] 0), (.mk (iB 37 .lss 34 36) 0 0 [] 0), (.mk (iM 38 37) 0 0 [] 0), (.mk (gT 39 38 (jL 1 6)) 0 0 [] 0), (.mk (gT 40 38 (jM 4)) 0 0 [] 0), (.mk (gT 41 38 (jM 7)) 0 0 [] 0), (.mk (gT 42 38 (jX 1 40 41)) 0 0 [] 0), (.mk (gT 43 38 (jL 1 42)) 0 0 [5] 0), (.mk (gT 44 38 (.call .true (tI 39) [(tI 43)])) 0 0 [] 1), (.mk (gT 45 38 (jL 1 6)) 0 0 [5, 9, 10] 0), (.mk (gT 46 38 (jM 4)) 0 0 [] 0), (.mk (gT 47 38 (.indexA .none 1 (tI 46) (cI 0))) 0 0 [] 0), (.mk (gT 48 38 (jL 1 47)) 0 0 [5, 9, 10, 11] 0), (.mk (gT 49 38 (.call .true (tI 45) [(tI 48)])) 0 0 [] 1), (.mk (gT 50 38 (jB .eql 44 49)) 0 0 [] 0), (.mk (iQ 51 38 50) 0 0 [] 0)]) (.cond (tI 51) .skip (.exit 4))) (.block 5 (.ops [iM 52 7, iD 53 .add 52 1, iM 7 53])))
def ir79_l3 : IC :=
  (.seq (.seq (.ops [iM 31 4, iN 32 31, iD 33 .gtr 32 0]) (.cond (tI 33) .skip (.exit 2))) (.block 3 (.noGo (.seq (.ops [iC 7 1]) (.seq (.block 4 (.loop [1, 4, 6, 7] ir79_l2)) (.seq .skip (.seq (.block 6 (.loop [1, 4, 6, 7] ir79_l1)) (.ops [iM 68 4, iM 69 7, oI 70 (.slice 1 (tI 68) (.some (tI 69)) .none), iM 4 70]))))))))
def ir79_l4 : IC :=
  (.seq (.ops [iB 20 .lss 19 18]) (.seq (.cond (tI 20) .skip (.exit 0)) (.seq (.block 1 (.seq (.ops [iM 21 19, iM 5 21]) (.ops [iM 22 4, iM 23 5, iM 24 5, iX 25 1 22 23, gN (jV 1 25 24)]))) (.ops [iD 26 .add 19 1, iM 19 26]))))
def ir79 : IFun :=
  ⟨71, [], (.seq (.ops [oI 2 (.box 123 (tI 0))]) (.seq (.ops [iL 11 1 2, oI 12 (.nilChk (tI 11)), iF 13 6 12, iL 14 1 13, iN 15 14, oI 16 (.makeS 3 1 8 [z6] (tI 15) (tI 15)), iM 4 16]) (.seq (.seq (.ops [iM 17 4, iN 18 17, iC 19 0]) (.block 0 (.loop [1, 2, 4, 18, 19] ir79_l4))) (.seq (.ops [oI 27 (.mkfn 84 [(tI 2)]), oI 6 (.alloc 143 [(.z (.val .nilFunc))]), gN (jV 1 6 27)]) (.seq (.ops [iM 28 4, oI 29 (.mkfn 86 [(tI 6)]), oI 30 (.call .true (.c (.fn 85 [])) [(tI 28), (tI 29)])]) (.block 2 (.loop [1, 4, 6] ir79_l3)))))))⟩
theorem ir79_ok : compFn prog (shOf sh [5000039, 5000045]) [[1, 2, 4, 18, 19], [1, 4, 6], [1, 4, 6, 7], [1, 4, 6, 7], [1, 4, 6, 7, 8, 56, 57, 58]] f79 = some ir79 := by kernel_rfl
def ir80_l0 : IC :=
  (.seq (.ops [iB 41 .lss 40 39]) (.seq (.cond (tI 41) .skip (.exit 2)) (.seq (.block 3 (.seq (.ops [iX 42 1 38 40, iL 43 1 42, iM 11 43]) (.ops [iM 44 9, iL 45 1 1, oI 46 (.nilChk (tI 45)), iF 47 10 46, iL 48 1 47, iM 49 11, iX 50 1 48 49, iL 51 1 50, iB 52 .add 44 51, oI 53 (.min2 .false (cI 2) (tI 52)), iM 9 53]))) (.ops [iD 54 .add 40 1, iM 40 54]))))
def ir80_l1 : IC :=
  (.seq (.ops [iB 23 .lss 22 21]) (.seq (.cond (tI 23) .skip (.exit 0)) (.seq (.block 1 (.seq (.ops [iM 24 22, iM 6 24]) (.seq (.ops [iL 26 1 1, iT 27 5 4, iM 28 6, oI 29 (.call .true (.c (.fn 81 [])) [(tI 26), (tI 27), (tI 28)]), iM 25 29, oI 30 (.extract (tI 25) 0), oI 31 (.extract (tI 25) 1), oI 7 (.alloc 137 [zZ, zZ, zZ]), gN (jV 3 7 30), iM 8 31]) (.seq (.seq (.ops [iM 32 8, iU 33 32]) (.cond (tI 33) (.exit 1) .skip)) (.seq (.ops [iC 9 0]) (.seq (.seq (.ops [iL 34 1 1, iT 35 5 4, iM 36 6, iT 37 3 7, oI 38 (.call .true (.c (.fn 82 [])) [(tI 34), (tI 35), (tI 36), (tI 37)]), iN 39 38, iC 40 0]) (.block 2 (.loop [0, 1, 4, 5, 9, 21, 22, 38, 39, 40] ir80_l0))) (.ops [iM 55 5, iM 56 9, iB 57 .mul 55 56, oI 58 (.min2 .false (cI 2) (tI 57)), iM 5 58]))))))) (.ops [iD 59 .add 22 1, iM 22 59]))))
def ir80 : IFun :=
  ⟨76, [(.tmp 3)], (.seq (.ops [iE 3 false]) (.seq (.ops [iL 12 1 1, oI 13 (.nilChk (tI 12)), iF 14 6 13, iL 15 1 14, iM 16 0, iX 17 5 15 16, iT 18 5 17, oI 4 (.alloc 35 [zZ, zZ, zZ, zZ, (.r 3 1)]), gN (jV 5 4 18)]) (.seq (.ops [iC 5 1]) (.seq (.seq (.ops [iF 19 4 4, iL 20 1 19, iN 21 20, iC 22 0]) (.block 0 (.loop [0, 1, 4, 5, 21, 22] ir80_l1))) (.seq (.seq (.ops [iM 60 5, iL 61 1 1, oI 62 (.nilChk (tI 61)), iF 63 10 62, iL 64 1 63, iM 65 0, iX 66 1 64 65, iL 67 1 66, iB 68 .eql 60 67]) (.cond (tI 68) (.seq (.ops [iE 3 false]) .ret) .skip)) (.seq (.ops [iL 69 1 1, oI 70 (.nilChk (tI 69)), iF 71 10 70, iL 72 1 71, iM 73 0, iM 74 5, iX 75 1 72 73, gN (jV 1 75 74)]) (.seq (.ops [iE 3 true]) .ret)))))))⟩
theorem ir80_ok : compFn prog (shOf sh []) [[0, 1, 4, 5, 21, 22], [0, 1, 4, 5, 9, 21, 22, 38, 39, 40]] f80 = some ir80 := by kernel_rfl
def ir81 : IFun :=
  ⟨45, [(.cell 6 .true 3), (.tmp 7)], (.seq (.ops [oI 4 (.box 35 (tI 1)), oI 6 (.alloc 137 [zZ, zZ, zZ]), iE 7 false]) (.seq (.ops [iF 10 1 4, iL 11 1 10, iM 8 11]) (.seq (.seq (.ops [iM 12 2, iD 13 .gtr 12 0]) (.cond (tI 13) (.ops [iF 14 4 4, iL 15 1 14, iM 16 2, iD 17 .sub 16 1, iX 18 1 15 17, iL 19 1 18, iM 8 19]) .skip)) (.seq (.ops [iM 20 0, oI 21 (.nilChk (tI 20)), iF 22 0 21, iF 23 1 22, iL 24 1 23, iF 25 3 4, iL 26 1 25, iX 27 7 24 26, iF 28 1 27, iL 29 1 28, iM 30 2, iX 31 6 29 30, iT 32 6 31, oI 9 (.alloc 75 [zZ, (.z zU), (.z zU), (.z zU), (.z zU), zZ]), gN (jV 6 9 32)]) (.seq (.opsR 0 [(.mk (iF 33 5 9) 0 0 [] 0), (.mk (iL 34 1 33) 0 0 [] 0), (.mk (iM 35 8) 0 0 [] 0), (.mk (iF 36 4 4) 0 0 [] 0), (.mk (iL 37 1 36) 0 0 [1] 0), (.mk (iM 38 2) 0 0 [] 0), (.mk (iX 39 1 37 38) 0 0 [] 0), (.mk (iL 40 1 39) 0 0 [1] 0), (.mk (oI 41 (.build [z6, z6, z6] [(0, (1, (tI 34))), (1, (1, (tI 35))), (2, (1, (tI 40)))])) 0 0 [] 0), (.mk (iF 42 0 9) 0 0 [] 0), (.mk (iL 43 1 42) 0 0 [1, 4, 7] 0), (.mk (iD 44 .eql 43 1) 0 0 [] 0), (.mk (gN (jV 3 6 41)) 0 0 [10] 0), (.mk (iM 7 44) 0 0 [] 0)]) .ret)))))⟩
theorem ir81_ok : compFn prog (shOf sh []) [] f81 = some ir81 := by kernel_rfl
def ir82_l0 : IC :=
  (.seq (.ops [iB 20 .lss 19 18]) (.seq (.cond (tI 20) .skip (.exit 0)) (.seq (.block 1 (.seq (.ops [iX 21 1 17 19, iL 22 1 21, iM 11 22]) (.seq (.ops [iM 23 0, oI 24 (.nilChk (tI 23)), iF 25 8 24, iL 26 1 25, iF 27 3 5, iL 28 1 27, iM 29 2, iD 30 .add 29 1, iM 31 0, oI 32 (.nilChk (tI 31)), iF 33 6 32, iL 34 1 33, iM 35 11, iX 36 5 34 35, iF 37 3 36, iL 38 1 37, oI 39 (.build [z6, z6, z6] [(0, (1, (tI 28))), (1, (1, (tI 30))), (2, (1, (tI 38)))]), oI 40 (.lkUp [1, 1, 1] .true .false [z6] .false (tI 26) (tI 39)), iD 41 .eql 40 0]) (.cond (tI 41) (.ops [iM 42 9, iM 43 11, oI 44 (.buildS 3 1 [z6] 1 [(0, (tI 43))]), oI 45 (.append 3 1 8 [z6] (tI 42) (tI 44)), iM 9 45]) .skip)))) (.ops [iD 46 .add 19 1, iM 19 46]))))
def ir82 : IFun :=
  ⟨48, [(.tmp 8)], (.seq (.ops [oI 5 (.box 35 (tI 1)), oI 7 (.box 137 (tI 3)), oI 8 (.nilrow 3 1)]) (.seq (.ops [oI 9 (.nilrow 3 1)]) (.seq (.seq (.ops [iM 12 0, oI 13 (.nilChk (tI 12)), iF 14 7 13, iL 15 1 14, iT 16 3 7, oI 17 (.lkUp [1, 1, 1] .true .false [(.lst 1 [])] .false (tI 15) (tI 16)), iN 18 17, iC 19 0]) (.block 0 (.loop [0, 2, 5, 9, 17, 18, 19] ir82_l0))) (.seq (.ops [iM 47 9, iM 8 47]) .ret))))⟩
theorem ir82_ok : compFn prog (shOf sh []) [[0, 2, 5, 9, 17, 18, 19]] f82 = some ir82 := by kernel_rfl
def ir83 : IFun :=
  ⟨6, [(.tmp 2)], (.seq (.ops [iE 2 false]) (.seq (.ops [iM 3 0, iM 4 0, iB 5 .neq 3 4, iM 2 5]) .ret))⟩
theorem ir83_ok : compFn prog (shOf sh []) [] f83 = some ir83 := by kernel_rfl
def ir84 : IFun :=
  ⟨21, [(.tmp 3)], (.seq (.ops [iC 3 0]) (.seq (.ops [iL 4 1 1, oI 5 (.nilChk (tI 4)), iF 6 6 5, iL 7 1 6, iM 8 0, iX 9 5 7 8, iF 10 2 9, iL 11 1 10, iL 12 1 1, oI 13 (.nilChk (tI 12)), iF 14 6 13, iL 15 1 14, iM 16 0, iX 17 5 15 16, iF 18 1 17, iL 19 1 18, iB 20 .sub 11 19, iM 3 20]) .ret))⟩
theorem ir84_ok : compFn prog (shOf sh []) [] f84 = some ir84 := by kernel_rfl
def ir85 : IFun :=
  ⟨9, [], (.ops [iM 4 0, iM 5 0, iN 6 5, iM 7 1, oI 8 (.call .true (.c (.fn 87 [])) [(tI 4), (tI 6), (tI 7)])])⟩
theorem ir85_ok : compFn prog (shOf sh []) [] f85 = some ir85 := by kernel_rfl
def ir86 : IFun :=
  ⟨13, [(.tmp 5)], (.seq (.ops [iC 5 0]) (.seq (.opsR 0 [(.mk (iL 6 1 2) 0 0 [] 0), (.mk (iM 7 0) 0 0 [] 0), (.mk (oI 8 (.call .true (tI 6) [(tI 7)])) 0 0 [] 1), (.mk (iL 9 1 2) 0 0 [0, 2] 0), (.mk (iM 10 1) 0 0 [] 0), (.mk (oI 11 (.call .true (tI 9) [(tI 10)])) 0 0 [] 1), (.mk (iB 12 .sub 8 11) 0 0 [] 0), (.mk (iM 5 12) 0 0 [] 0)]) .ret))⟩
theorem ir86_ok : compFn prog (shOf sh [5000006, 5000009]) [] f86 = some ir86 := by kernel_rfl
def ir87_l0 : IC :=
  (.seq (.seq (.ops [iM 33 8, iM 34 1, iB 35 .leq 33 34]) (.cond (tI 35) .skip (.exit 4))) (.block 5 (.seq (.ops [iM 36 0, iM 37 7, iM 38 7, iM 39 6, iB 40 .add 38 39, iM 41 8, iM 42 2, oI 43 (.call .true (.c (.fn 89 [])) [(tI 36), (tI 37), (tI 40), (tI 41), (tI 42)])]) (.seq (.ops [iM 44 8, iM 7 44]) (.ops [iM 45 8, iM 46 6, oI 47 (.bin .mul (cI 2) (tI 46)), iB 48 .add 45 47, iM 8 48])))))
def ir87_l1 : IC :=
  (.seq (.seq (.ops [iM 28 6, iM 29 1, iB 30 .lss 28 29]) (.cond (tI 30) .skip (.exit 2))) (.block 3 (.seq (.ops [iM 31 6, oI 32 (.bin .mul (cI 2) (tI 31)), iC 7 0, iM 8 32]) (.seq (.block 4 (.loop [0, 1, 2, 6, 7, 8] ir87_l0)) (.seq (.seq (.ops [iM 49 7, iM 50 6, iB 51 .add 49 50, iM 9 51]) (.seq (.ops [iM 52 9, iM 53 1, iB 54 .lss 52 53]) (.cond (tI 54) (.ops [iM 55 0, iM 56 7, iM 57 9, iM 58 1, iM 59 2, oI 60 (.call .true (.c (.fn 89 [])) [(tI 55), (tI 56), (tI 57), (tI 58), (tI 59)])]) .skip))) (.ops [iM 61 6, iD 62 .mul 61 2, iM 6 62]))))))
def ir87_l2 : IC :=
  (.seq (.seq (.ops [iM 11 8, iM 12 1, iB 13 .leq 11 12]) (.cond (tI 13) .skip (.exit 0))) (.block 1 (.seq (.ops [iM 14 0, iM 15 7, iM 16 8, iM 17 2, oI 18 (.call .true (.c (.fn 88 [])) [(tI 14), (tI 15), (tI 16), (tI 17)])]) (.seq (.ops [iM 19 8, iM 7 19]) (.ops [iM 20 8, iM 21 6, iB 22 .add 20 21, iM 8 22])))))
def ir87 : IFun :=
  ⟨63, [], (.seq (.ops [iC 6 20]) (.seq (.ops [iM 10 6, iC 7 0, iM 8 10]) (.seq (.block 0 (.loop [0, 1, 2, 6, 7, 8] ir87_l2)) (.seq (.ops [iM 23 0, iM 24 7, iM 25 1, iM 26 2, oI 27 (.call .true (.c (.fn 88 [])) [(tI 23), (tI 24), (tI 25), (tI 26)])]) (.block 2 (.loop [0, 1, 2, 6] ir87_l1))))))⟩
theorem ir87_ok : compFn prog (shOf sh []) [[0, 1, 2, 6, 7, 8], [0, 1, 2, 6], [0, 1, 2, 6, 7, 8]] f87 = some ir87 := by kernel_rfl
def ir88_l0 : IC :=
  (.seq (.seq (.ops [iM 18 9, iM 19 1, iB 20 .gtr 18 19, iM 21 20, gT 22 21 (jM 3), gT 23 21 (jM 0), gT 24 21 (jM 9), gT 25 21 (jX 1 23 24), gT 26 21 (jL 1 25), gT 27 21 (jM 0), gT 28 21 (jM 9), gT 29 21 (jD .sub 28 1), gT 30 21 (jX 1 27 29), gT 31 21 (jL 1 30), gT 32 21 (.call .true (tI 22) [(tI 26), (tI 31)]), gT 33 21 (jD .lss 32 0), iQ 34 21 33]) (.cond (tI 34) .skip (.exit 2))) (.seq (.block 3 (.ops [iM 37 0, iM 38 9, iM 39 0, iM 40 9, iD 41 .sub 40 1, iM 42 0, iM 43 9, iD 44 .sub 43 1, iX 45 1 42 44, iL 46 1 45, iM 47 0, iM 48 9, iX 49 1 47 48, iL 50 1 49, iX 51 1 37 38, gN (jV 1 51 46), iX 52 1 39 41, gN (jV 1 52 50)])) (.ops [iM 35 9, iD 36 .sub 35 1, iM 9 36])))
def ir88_l1 : IC :=
  (.seq (.seq (.ops [iM 12 8, iM 13 2, iB 14 .lss 12 13]) (.cond (tI 14) .skip (.exit 0))) (.seq (.block 1 (.seq (.ops [iM 17 8, iM 9 17]) (.block 2 (.loop [0, 1, 2, 3, 8, 9] ir88_l0)))) (.ops [iM 15 8, iD 16 .add 15 1, iM 8 16])))
def ir88 : IFun :=
  ⟨53, [], (.seq (.ops [iM 10 1, iD 11 .add 10 1, iM 8 11]) (.block 0 (.loop [0, 1, 2, 3, 8] ir88_l1)))⟩
theorem ir88_ok : compFn prog (shOf sh []) [[0, 1, 2, 3, 8], [0, 1, 2, 3, 8, 9]] f88 = some ir88 := by kernel_rfl
def ir89_l0 : IC :=
  (.seq (.seq (.ops [iM 149 20, iM 150 21, iB 151 .lss 149 150]) (.cond (tI 151) .skip (.exit 8))) (.block 9 (.seq (.ops [iM 152 20, iM 153 21, iB 154 .add 152 153, oI 155 (.convI .u64 (tI 154)), oI 156 (.bin .shr (tI 155) (.c (.p (.val (.int .u64 1))))), oI 157 (.convI .i64 (tI 156)), iM 23 157]) (.seq (.ops [iM 158 4, iM 159 0, iM 160 22, iM 161 23, iB 162 .sub 160 161, iX 163 1 159 162, iL 164 1 163, iM 165 0, iM 166 23, iX 167 1 165 166, iL 168 1 167, oI 169 (.call .true (tI 158) [(tI 164), (tI 168)]), iD 170 .lss 169 0, iU 171 170]) (.cond (tI 171) (.ops [iM 172 23, iD 173 .add 172 1, iM 20 173]) (.ops [iM 174 23, iM 21 174]))))))
def ir89_l1 : IC :=
  (.seq (.seq (.ops [iM 108 17, iM 109 14, iB 110 .gtr 108 109]) (.cond (tI 110) .skip (.exit 6))) (.seq (.block 7 (.ops [iM 113 0, iM 114 17, iM 115 0, iM 116 17, iD 117 .sub 116 1, iM 118 0, iM 119 17, iD 120 .sub 119 1, iX 121 1 118 120, iL 122 1 121, iM 123 0, iM 124 17, iX 125 1 123 124, iL 126 1 125, iX 127 1 113 114, gN (jV 1 127 122), iX 128 1 115 117, gN (jV 1 128 126)])) (.ops [iM 111 17, iD 112 .sub 111 1, iM 17 112])))
def ir89_l2 : IC :=
  (.seq (.seq (.ops [iM 83 14, iM 84 15, iB 85 .lss 83 84]) (.cond (tI 85) .skip (.exit 4))) (.block 5 (.seq (.ops [iM 86 14, iM 87 15, iB 88 .add 86 87, oI 89 (.convI .u64 (tI 88)), oI 90 (.bin .shr (tI 89) (.c (.p (.val (.int .u64 1))))), oI 91 (.convI .i64 (tI 90)), iM 16 91]) (.seq (.ops [iM 92 4, iM 93 0, iM 94 2, iX 95 1 93 94, iL 96 1 95, iM 97 0, iM 98 16, iX 99 1 97 98, iL 100 1 99, oI 101 (.call .true (tI 92) [(tI 96), (tI 100)]), iD 102 .lss 101 0, iU 103 102]) (.cond (tI 103) (.ops [iM 104 16, iD 105 .add 104 1, iM 14 105]) (.ops [iM 106 16, iM 15 106]))))))
def ir89_l3 : IC :=
  (.seq (.seq (.ops [iM 55 13, iM 56 10, iD 57 .sub 56 1, iB 58 .lss 55 57]) (.cond (tI 58) .skip (.exit 2))) (.seq (.block 3 (.ops [iM 61 0, iM 62 13, iM 63 0, iM 64 13, iD 65 .add 64 1, iM 66 0, iM 67 13, iD 68 .add 67 1, iX 69 1 66 68, iL 70 1 69, iM 71 0, iM 72 13, iX 73 1 71 72, iL 74 1 73, iX 75 1 61 62, gN (jV 1 75 70), iX 76 1 63 65, gN (jV 1 76 74)])) (.ops [iM 59 13, iD 60 .add 59 1, iM 13 60])))
def ir89_l4 : IC :=
  (.seq (.seq (.ops [iM 31 10, iM 32 11, iB 33 .lss 31 32]) (.cond (tI 33) .skip (.exit 0))) (.block 1 (.seq (.ops [iM 34 10, iM 35 11, iB 36 .add 34 35, oI 37 (.convI .u64 (tI 36)), oI 38 (.bin .shr (tI 37) (.c (.p (.val (.int .u64 1))))), oI 39 (.convI .i64 (tI 38)), iM 12 39]) (.seq (.ops [iM 40 4, iM 41 0, iM 42 12, iX 43 1 41 42, iL 44 1 43, iM 45 0, iM 46 1, iX 47 1 45 46, iL 48 1 47, oI 49 (.call .true (tI 40) [(tI 44), (tI 48)]), iD 50 .lss 49 0]) (.cond (tI 50) (.ops [iM 51 12, iD 52 .add 51 1, iM 10 52]) (.ops [iM 53 12, iM 11 53]))))))
def ir89 : IFun :=
  ⟨220, [], (.seq (.seq (.ops [iM 25 2, iM 26 1, iB 27 .sub 25 26, iD 28 .eql 27 1]) (.cond (tI 28) (.seq (.ops [iM 29 2, iM 10 29]) (.seq (.ops [iM 30 3, iM 11 30]) (.seq (.block 0 (.loop [0, 1, 4, 10, 11] ir89_l4)) (.seq (.seq (.ops [iM 54 1, iM 13 54]) (.block 2 (.loop [0, 10, 13] ir89_l3))) .ret)))) .skip)) (.seq (.seq (.ops [iM 77 3, iM 78 2, iB 79 .sub 77 78, iD 80 .eql 79 1]) (.cond (tI 80) (.seq (.ops [iM 81 1, iM 14 81]) (.seq (.ops [iM 82 2, iM 15 82]) (.seq (.block 4 (.loop [0, 2, 4, 14, 15] ir89_l2)) (.seq (.seq (.ops [iM 107 2, iM 17 107]) (.block 6 (.loop [0, 14, 17] ir89_l1))) .ret)))) .skip)) (.seq (.ops [iM 129 1, iM 130 3, iB 131 .add 129 130, oI 132 (.convI .u64 (tI 131)), oI 133 (.bin .shr (tI 132) (.c (.p (.val (.int .u64 1))))), oI 134 (.convI .i64 (tI 133)), iM 18 134]) (.seq (.ops [iM 135 18, iM 136 2, iB 137 .add 135 136, iM 19 137]) (.seq (.ops [iC 20 0, iC 21 0]) (.seq (.seq (.ops [iM 138 2, iM 139 18, iB 140 .gtr 138 139]) (.cond (tI 140) (.seq (.ops [iM 141 19, iM 142 3, iB 143 .sub 141 142, iM 20 143]) (.ops [iM 144 18, iM 21 144])) (.seq (.ops [iM 145 1, iM 20 145]) (.ops [iM 146 2, iM 21 146])))) (.seq (.ops [iM 147 19, iD 148 .sub 147 1, iM 22 148]) (.seq (.block 8 (.loop [0, 1, 2, 3, 4, 18, 19, 20, 21, 22] ir89_l0)) (.seq (.ops [iM 175 19, iM 176 20, iB 177 .sub 175 176, iM 24 177]) (.seq (.seq (.ops [iM 178 20, iM 179 2, iB 180 .lss 178 179, iM 181 180, gT 182 181 (jM 2), gT 183 181 (jM 24), gT 184 181 (jB .lss 182 183), iQ 185 181 184]) (.cond (tI 185) (.ops [iM 186 0, iM 187 20, iM 188 2, iM 189 24, iM 190 4, oI 191 (.call .true (.c (.fn 90 [])) [(tI 186), (tI 187), (tI 188), (tI 189), (tI 190)])]) .skip)) (.seq (.seq (.ops [iM 192 1, iM 193 20, iB 194 .lss 192 193, iM 195 194, gT 196 195 (jM 20), gT 197 195 (jM 18), gT 198 195 (jB .lss 196 197), iQ 199 195 198]) (.cond (tI 199) (.ops [iM 200 0, iM 201 1, iM 202 20, iM 203 18, iM 204 4, oI 205 (.call .true (.c (.fn 89 [])) [(tI 200), (tI 201), (tI 202), (tI 203), (tI 204)])]) .skip)) (.seq (.ops [iM 206 18, iM 207 24, iB 208 .lss 206 207, iM 209 208, gT 210 209 (jM 24), gT 211 209 (jM 3), gT 212 209 (jB .lss 210 211), iQ 213 209 212]) (.cond (tI 213) (.ops [iM 214 0, iM 215 18, iM 216 24, iM 217 3, iM 218 4, oI 219 (.call .true (.c (.fn 89 [])) [(tI 214), (tI 215), (tI 216), (tI 217), (tI 218)])]) .skip)))))))))))))⟩
theorem ir89_ok : compFn prog (shOf sh []) [[0, 1, 4, 10, 11], [0, 10, 13], [0, 2, 4, 14, 15], [0, 14, 17], [0, 1, 2, 3, 4, 18, 19, 20, 21, 22]] f89 = some ir89 := by kernel_rfl
def ir90_l0 : IC :=
  (.seq (.seq (.ops [iM 18 10, iM 19 11, iB 20 .neq 18 19]) (.cond (tI 20) .skip (.exit 0))) (.block 1 (.seq (.ops [iM 21 10, iM 22 11, iB 23 .gtr 21 22]) (.cond (tI 23) (.seq (.ops [iM 24 0, iM 25 2, iM 26 10, iB 27 .sub 25 26, iM 28 2, iM 29 11, iM 30 4, oI 31 (.call .true (.c (.fn 91 [])) [(tI 24), (tI 27), (tI 28), (tI 29), (tI 30)])]) (.ops [iM 32 10, iM 33 11, iB 34 .sub 32 33, iM 10 34])) (.seq (.ops [iM 35 0, iM 36 2, iM 37 10, iB 38 .sub 36 37, iM 39 2, iM 40 11, iB 41 .add 39 40, iM 42 10, iB 43 .sub 41 42, iM 44 10, iM 45 4, oI 46 (.call .true (.c (.fn 91 [])) [(tI 35), (tI 38), (tI 43), (tI 44), (tI 45)])]) (.ops [iM 47 11, iM 48 10, iB 49 .sub 47 48, iM 11 49]))))))
def ir90 : IFun :=
  ⟨58, [], (.seq (.ops [iM 12 2, iM 13 1, iB 14 .sub 12 13, iM 10 14]) (.seq (.ops [iM 15 3, iM 16 2, iB 17 .sub 15 16, iM 11 17]) (.seq (.block 0 (.loop [0, 2, 4, 10, 11] ir90_l0)) (.ops [iM 50 0, iM 51 2, iM 52 10, iB 53 .sub 51 52, iM 54 2, iM 55 10, iM 56 4, oI 57 (.call .true (.c (.fn 91 [])) [(tI 50), (tI 53), (tI 54), (tI 55), (tI 56)])]))))⟩
theorem ir90_ok : compFn prog (shOf sh []) [[0, 2, 4, 10, 11]] f90 = some ir90 := by kernel_rfl
def ir91_l0 : IC :=
  (.seq (.seq (.ops [iM 11 10, iM 12 3, iB 13 .lss 11 12]) (.cond (tI 13) .skip (.exit 0))) (.seq (.block 1 (.ops [iM 16 0, iM 17 1, iM 18 10, iB 19 .add 17 18, iM 20 0, iM 21 2, iM 22 10, iB 23 .add 21 22, iM 24 0, iM 25 2, iM 26 10, iB 27 .add 25 26, iX 28 1 24 27, iL 29 1 28, iM 30 0, iM 31 1, iM 32 10, iB 33 .add 31 32, iX 34 1 30 33, iL 35 1 34, iX 36 1 16 19, gN (jV 1 36 29), iX 37 1 20 23, gN (jV 1 37 35)])) (.ops [iM 14 10, iD 15 .add 14 1, iM 10 15])))
def ir91 : IFun :=
  ⟨38, [], (.seq (.ops [iC 10 0]) (.block 0 (.loop [0, 1, 2, 3, 10] ir91_l0)))⟩
theorem ir91_ok : compFn prog (shOf sh []) [[0, 1, 2, 3, 10]] f91 = some ir91 := by kernel_rfl
def fns : Nat → Option IFun
  | 4 => some ir4
  | 9 => some ir9
  | 10 => some ir10
  | 12 => some ir12
  | 13 => some ir13
  | 17 => some ir17
  | 18 => some ir18
  | 19 => some ir19
  | 20 => some ir20
  | 22 => some ir22
  | 23 => some ir23
  | 24 => some ir24
  | 25 => some ir25
  | 26 => some ir26
  | 30 => some ir30
  | 31 => some ir31
  | 33 => some ir33
  | 34 => some ir34
  | 35 => some ir35
  | 36 => some ir36
  | 37 => some ir37
  | 42 => some ir42
  | 43 => some ir43
  | 44 => some ir44
  | 45 => some ir45
  | 46 => some ir46
  | 47 => some ir47
  | 48 => some ir48
  | 49 => some ir49
  | 50 => some ir50
  | 51 => some ir51
  | 52 => some ir52
  | 53 => some ir53
  | 54 => some ir54
  | 55 => some ir55
  | 56 => some ir56
  | 57 => some ir57
  | 58 => some ir58
  | 59 => some ir59
  | 60 => some ir60
  | 61 => some ir61
  | 62 => some ir62
  | 63 => some ir63
  | 64 => some ir64
  | 65 => some ir65
  | 66 => some ir66
  | 67 => some ir67
  | 68 => some ir68
  | 69 => some ir69
  | 70 => some ir70
  | 71 => some ir71
  | 72 => some ir72
  | 73 => some ir73
  | 74 => some ir74
  | 75 => some ir75
  | 76 => some ir76
  | 77 => some ir77
  | 78 => some ir78
  | 79 => some ir79
  | 80 => some ir80
  | 81 => some ir81
  | 82 => some ir82
  | 83 => some ir83
  | 84 => some ir84
  | 85 => some ir85
  | 86 => some ir86
  | 87 => some ir87
  | 88 => some ir88
  | 89 => some ir89
  | 90 => some ir90
  | 91 => some ir91
  | _ => none
theorem fns_ok : ∀ f F, fns f = some F → ∃ shf fd ann, prog.funcs[f]? = some fd ∧ compFn prog shf ann fd = some F := by
  intro f F h
  unfold fns at h
  split at h
  · injection h with h; subst h; exact ⟨_, _, _, func4, ir4_ok⟩
  · injection h with h; subst h; exact ⟨_, _, _, func9, ir9_ok⟩
  · injection h with h; subst h; exact ⟨_, _, _, func10, ir10_ok⟩
  · injection h with h; subst h; exact ⟨_, _, _, func12, ir12_ok⟩
  · injection h with h; subst h; exact ⟨_, _, _, func13, ir13_ok⟩
  · injection h with h; subst h; exact ⟨_, _, _, func17, ir17_ok⟩
  · injection h with h; subst h; exact ⟨_, _, _, func18, ir18_ok⟩
  · injection h with h; subst h; exact ⟨_, _, _, func19, ir19_ok⟩
  · injection h with h; subst h; exact ⟨_, _, _, func20, ir20_ok⟩
  · injection h with h; subst h; exact ⟨_, _, _, func22, ir22_ok⟩
  · injection h with h; subst h; exact ⟨_, _, _, func23, ir23_ok⟩
  · injection h with h; subst h; exact ⟨_, _, _, func24, ir24_ok⟩
  · injection h with h; subst h; exact ⟨_, _, _, func25, ir25_ok⟩
  · injection h with h; subst h; exact ⟨_, _, _, func26, ir26_ok⟩
  · injection h with h; subst h; exact ⟨_, _, _, func30, ir30_ok⟩
  · injection h with h; subst h; exact ⟨_, _, _, func31, ir31_ok⟩
  · injection h with h; subst h; exact ⟨_, _, _, func33, ir33_ok⟩
  · injection h with h; subst h; exact ⟨_, _, _, func34, ir34_ok⟩
  · injection h with h; subst h; exact ⟨_, _, _, func35, ir35_ok⟩
  · injection h with h; subst h; exact ⟨_, _, _, func36, ir36_ok⟩
  · injection h with h; subst h; exact ⟨_, _, _, func37, ir37_ok⟩
  · injection h with h; subst h; exact ⟨_, _, _, func42, ir42_ok⟩
  · injection h with h; subst h; exact ⟨_, _, _, func43, ir43_ok⟩
  · injection h with h; subst h; exact ⟨_, _, _, func44, ir44_ok⟩
  · injection h with h; subst h; exact ⟨_, _, _, func45, ir45_ok⟩
  · injection h with h; subst h; exact ⟨_, _, _, func46, ir46_ok⟩
  · injection h with h; subst h; exact ⟨_, _, _, func47, ir47_ok⟩
  · injection h with h; subst h; exact ⟨_, _, _, func48, ir48_ok⟩
  · injection h with h; subst h; exact ⟨_, _, _, func49, ir49_ok⟩
  · injection h with h; subst h; exact ⟨_, _, _, func50, ir50_ok⟩
  · injection h with h; subst h; exact ⟨_, _, _, func51, ir51_ok⟩
  · injection h with h; subst h; exact ⟨_, _, _, func52, ir52_ok⟩
  · injection h with h; subst h; exact ⟨_, _, _, func53, ir53_ok⟩
  · injection h with h; subst h; exact ⟨_, _, _, func54, ir54_ok⟩
  · injection h with h; subst h; exact ⟨_, _, _, func55, ir55_ok⟩
  · injection h with h; subst h; exact ⟨_, _, _, func56, ir56_ok⟩
  · injection h with h; subst h; exact ⟨_, _, _, func57, ir57_ok⟩
  · injection h with h; subst h; exact ⟨_, _, _, func58, ir58_ok⟩
  · injection h with h; subst h; exact ⟨_, _, _, func59, ir59_ok⟩
  · injection h with h; subst h; exact ⟨_, _, _, func60, ir60_ok⟩
  · injection h with h; subst h; exact ⟨_, _, _, func61, ir61_ok⟩
  · injection h with h; subst h; exact ⟨_, _, _, func62, ir62_ok⟩
  · injection h with h; subst h; exact ⟨_, _, _, func63, ir63_ok⟩
  · injection h with h; subst h; exact ⟨_, _, _, func64, ir64_ok⟩
  · injection h with h; subst h; exact ⟨_, _, _, func65, ir65_ok⟩
  · injection h with h; subst h; exact ⟨_, _, _, func66, ir66_ok⟩
  · injection h with h; subst h; exact ⟨_, _, _, func67, ir67_ok⟩
  · injection h with h; subst h; exact ⟨_, _, _, func68, ir68_ok⟩
  · injection h with h; subst h; exact ⟨_, _, _, func69, ir69_ok⟩
  · injection h with h; subst h; exact ⟨_, _, _, func70, ir70_ok⟩
  · injection h with h; subst h; exact ⟨_, _, _, func71, ir71_ok⟩
  · injection h with h; subst h; exact ⟨_, _, _, func72, ir72_ok⟩
  · injection h with h; subst h; exact ⟨_, _, _, func73, ir73_ok⟩
  · injection h with h; subst h; exact ⟨_, _, _, func74, ir74_ok⟩
  · injection h with h; subst h; exact ⟨_, _, _, func75, ir75_ok⟩
  · injection h with h; subst h; exact ⟨_, _, _, func76, ir76_ok⟩
  · injection h with h; subst h; exact ⟨_, _, _, func77, ir77_ok⟩
  · injection h with h; subst h; exact ⟨_, _, _, func78, ir78_ok⟩
  · injection h with h; subst h; exact ⟨_, _, _, func79, ir79_ok⟩
  · injection h with h; subst h; exact ⟨_, _, _, func80, ir80_ok⟩
  · injection h with h; subst h; exact ⟨_, _, _, func81, ir81_ok⟩
  · injection h with h; subst h; exact ⟨_, _, _, func82, ir82_ok⟩
  · injection h with h; subst h; exact ⟨_, _, _, func83, ir83_ok⟩
  · injection h with h; subst h; exact ⟨_, _, _, func84, ir84_ok⟩
  · injection h with h; subst h; exact ⟨_, _, _, func85, ir85_ok⟩
  · injection h with h; subst h; exact ⟨_, _, _, func86, ir86_ok⟩
  · injection h with h; subst h; exact ⟨_, _, _, func87, ir87_ok⟩
  · injection h with h; subst h; exact ⟨_, _, _, func88, ir88_ok⟩
  · injection h with h; subst h; exact ⟨_, _, _, func89, ir89_ok⟩
  · injection h with h; subst h; exact ⟨_, _, _, func90, ir90_ok⟩
  · injection h with h; subst h; exact ⟨_, _, _, func91, ir91_ok⟩
  · cases h
end Go.Proofs.Try
