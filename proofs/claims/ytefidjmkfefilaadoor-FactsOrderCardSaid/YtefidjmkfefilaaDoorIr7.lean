/- The instructions of the functions, as the program has them. -/
import Derived.Test.YtefidjmkfefilaaDoorProg
import Derived.Test.YtefidjmkfefilaaDoorVD
namespace Go.Proofs.Tryd
open Go Go.Vs
def oI (d : Nat) (i : Ins) : IOp := ⟨some d, i, none⟩
def cI (n : Int) : Opd := .c (.p (.val (.int .i64 n)))
def cB (b : Bool) : Opd := .c (.p (.val (.bool b)))
def zZ : ZC := .z (.val (.int .i64 0))
abbrev tI (n : Nat) : Opd := .t n
def jM (a : Nat) : Ins := .mv (.t a)
def iM (d : Nat) (a : Nat) : IOp := ⟨some d, jM a, none⟩
def jC (a : Int) : Ins := .mv (cI a)
def iC (d : Nat) (a : Int) : IOp := ⟨some d, jC a, none⟩
def jE (a : Bool) : Ins := .mv (cB a)
def iE (d : Nat) (a : Bool) : IOp := ⟨some d, jE a, none⟩
def jL (s a : Nat) : Ins := .load false s (.t a)
def iL (d : Nat) (s a : Nat) : IOp := ⟨some d, jL s a, none⟩
def jT (s a : Nat) : Ins := .load true s (.t a)
def iT (d : Nat) (s a : Nat) : IOp := ⟨some d, jT s a, none⟩
def jF (k a : Nat) : Ins := .fieldA k (.t a)
def iF (d : Nat) (k a : Nat) : IOp := ⟨some d, jF k a, none⟩
def jX (s a b : Nat) : Ins := .indexA none s (.t a) (.t b)
def iX (d : Nat) (s a b : Nat) : IOp := ⟨some d, jX s a b, none⟩
def jN (a : Nat) : Ins := .len (.t a)
def iN (d : Nat) (a : Nat) : IOp := ⟨some d, jN a, none⟩
def jS (a : Nat) : Ins := .lenS (.t a)
def jB (o : BinOp) (a b : Nat) : Ins := .bin o (.t a) (.t b)
def iB (d : Nat) (o : BinOp) (a b : Nat) : IOp := ⟨some d, jB o a b, none⟩
def jD (o : BinOp) (a : Nat) (n : Int) : Ins := .bin o (.t a) (cI n)
def iD (d : Nat) (o : BinOp) (a : Nat) (n : Int) : IOp := ⟨some d, jD o a n, none⟩
def jP (a b : Nat) : Ins := .pick (.t a) (cB true) (.t b)
def iP (d : Nat) (a b : Nat) : IOp := ⟨some d, jP a b, none⟩
def jQ (a b : Nat) : Ins := .pick (.t a) (.t b) (cB false)
def iQ (d : Nat) (a b : Nat) : IOp := ⟨some d, jQ a b, none⟩
def jU (a : Nat) : Ins := .un .not (.t a)
def iU (d : Nat) (a : Nat) : IOp := ⟨some d, jU a, none⟩
def jK (f a : Nat) : Ins := .call false (.c (.fn f [])) [.t a]
def iK (d : Nat) (f a : Nat) : IOp := ⟨some d, jK f a, none⟩
def jV (s a b : Nat) : Ins := .store s (.t a) (.t b)
def gT (d g : Nat) (i : Ins) : IOp := ⟨some d, i, some (g, true)⟩
def gF (d g : Nat) (i : Ins) : IOp := ⟨some d, i, some (g, false)⟩
def gN (i : Ins) : IOp := ⟨none, i, none⟩
def z6 : PV := .val (.int .i64 0)
def zU : PV := .val (.int .u64 0)
def zN : AV := .p (.val (.slice none 0 0))
def zM : PV := .val (.slice none 0 0)
def sh : List Nat := [46, 53, 39, 67, 68, 81]
def ir7_l0 : IC :=
  (.seq (.seq (.ops [iM 188 21, iM 189 5, iN 190 189, iB 191 .lss 188 190]) (.cond (tI 191) .skip (.exit 2))) (.seq (.block 3 (.seq (.seq (.ops [iM 194 5, iM 195 21, iX 196 4 194 195, iT 197 4 196, iM 198 7, iM 199 21, iX 200 4 198 199, iT 201 4 200, oI 202 (.eqA .true [1, 1, 1, 1] .true (tI 197) (tI 201)), iM 203 202, gF 204 203 (jM 9), gF 205 203 (jM 21), gF 206 203 (jX 4 204 205), gF 207 203 (jT 4 206), gF 208 203 (jM 11), gF 209 203 (jM 21), gF 210 203 (jX 4 208 209), gF 211 203 (jT 4 210), gF 212 203 (.eqA .true [1, 1, 1, 1] .true (tI 207) (tI 211)), iP 213 203 212, iM 214 213, gF 215 214 (jM 13), gF 216 214 (jM 21), gF 217 214 (jX 1 215 216), gF 218 214 (jL 1 217), gF 219 214 (jM 15), gF 220 214 (jM 21), gF 221 214 (jX 1 219 220), gF 222 214 (jL 1 221), gF 223 214 (jB .neq 218 222), iP 224 214 223, iM 225 224, gF 226 225 (jM 17), gF 227 225 (jM 21), gF 228 225 (jX 1 226 227), gF 229 225 (jL 1 228), gF 230 225 (jM 19), gF 231 225 (jM 21), gF 232 225 (jX 1 230 231), gF 233 225 (jL 1 232), gF 234 225 (.eqA .false [0] .true (tI 229) (tI 233)), iP 235 225 234]) (.cond (tI 235) (.seq (.ops [iE 2 false]) .ret) .skip)) (.seq (.ops [iM 236 13, iM 237 21, iX 238 1 236 237, iL 239 1 238, iD 240 .geq 239 0, iM 241 240, gT 242 241 (jM 13), gT 243 241 (jM 21), gT 244 241 (jX 1 242 243), gT 245 241 (jL 1 244), gT 246 241 (jD .leq 245 2000), iQ 247 241 246]) (.cond (tI 247) (.seq (.ops [iT 249 5 1, iM 250 21, oI 251 (.call .false (.c (.fn 14 [])) [(tI 249), (tI 250)]), iM 248 251, oI 252 (.extract (tI 248) 0), oI 253 (.extract (tI 248) 1), iM 22 252, iM 23 253]) (.seq (.ops [iT 255 5 3, iM 256 21, oI 257 (.call .false (.c (.fn 14 [])) [(tI 255), (tI 256)]), iM 254 257, oI 258 (.extract (tI 254) 0), oI 259 (.extract (tI 254) 1), iM 24 258, iM 25 259]) (.seq (.ops [iM 260 22, iM 261 24, iB 262 .neq 260 261, iM 263 262, gF 264 263 (jM 23), gF 265 263 (jK 15 264), gF 266 263 (jM 25), gF 267 263 (jK 15 266), gF 268 263 (jB .add 265 267), gF 269 263 (jD .neq 268 0), iP 270 263 269]) (.cond (tI 270) (.seq (.ops [iE 2 false]) .ret) .skip)))) .skip)))) (.ops [iM 192 21, iD 193 .add 192 1, iM 21 193])))
def ir7_l1 : IC :=
  (.seq (.seq (.ops [iM 48 4, iD 49 .geq 48 0]) (.cond (tI 49) .skip (.exit 0))) (.seq (.block 1 (.ops [iF 52 1 3, iL 53 1 52, iF 54 1 1, iL 55 1 54, iM 56 4, iX 57 7 55 56, iT 58 7 57, iF 59 1 1, iL 60 1 59, iM 61 4, iX 62 7 60 61, iT 63 7 62, ⟨(.some 64), (.buildS 53 7 [z6, zM, (.val (.string ⟨([] : List UInt8).toArray⟩)), z6, (.val (.bool .false)), (.val (.bool .false)), z6] 2 [(0, (tI 58)), (1, (tI 63))]), .none⟩, ⟨(.some 65), (.append 53 7 72 [z6, zM, (.val (.string ⟨([] : List UInt8).toArray⟩)), z6, (.val (.bool .false)), (.val (.bool .false)), z6] (tI 53) (tI 64)), .none⟩, iF 66 1 3, gN (jV 1 66 65)])) (.ops [iM 50 4, iD 51 .sub 50 1, iM 4 51])))
def ir7 : IFun :=
  ⟨272, [(.tmp 2)], (.seq (.ops [oI 1 (.box 27 (tI 0)), iE 2 false]) (.seq (.ops [iF 26 3 1, ⟨.none, (.store 1 (tI 26) (.c zN)), .none⟩]) (.seq (.frzS [1] [(1, (3, 3))] []) (.seq (.seq (.ops [iT 27 5 1, iK 28 10 27, iM 29 28, gF 30 29 (jF 1 1), gF 31 29 (jL 1 30), gF 32 29 (jN 31), gF 33 29 (jD .gtr 32 40), iP 34 29 33, iM 35 34, gF 36 35 (jT 5 1), gF 37 35 (jK 29 36), gF 38 35 (jK 15 37), gF 39 35 (jD .neq 38 0), iP 40 35 39]) (.cond (tI 40) (.seq (.ops [oI 41 (.call .false (.c (.fn 11 [])) []), iM 2 41]) .ret) .skip)) (.seq (.ops [iT 42 5 1, oI 3 (.alloc 27 [(.r 9 1), (.r 53 7), zZ, (.r 85 3), (.r 87 5)]), gN (jV 5 3 42)]) (.seq (.ops [iF 43 1 3, ⟨.none, (.store 1 (tI 43) (.c zN)), .none⟩]) (.seq (.seq (.ops [iF 44 1 1, iL 45 1 44, iN 46 45, iD 47 .sub 46 1, iM 4 47]) (.seq (.seq (.frzS [] [] [(3, (1, (53, 7)))]) (.block 0 (.loop [1, 3, 4, 1000301005307, 5000003] ir7_l1))) (.frzS [3] [] []))) (.seq (.ops [iT 68 5 1, iK 69 30 68, iM 67 69, oI 70 (.extract (tI 67) 0), oI 71 (.extract (tI 67) 1), iM 5 70, iM 6 71]) (.seq (.ops [iT 73 5 3, iK 74 30 73, iM 72 74, oI 75 (.extract (tI 72) 0), oI 76 (.extract (tI 72) 1), iM 7 75, iM 8 76]) (.seq (.ops [iT 78 5 1, iK 79 32 78, iM 77 79, oI 80 (.extract (tI 77) 0), oI 81 (.extract (tI 77) 1), iM 9 80, iM 10 81]) (.seq (.ops [iT 83 5 3, iK 84 32 83, iM 82 84, oI 85 (.extract (tI 82) 0), oI 86 (.extract (tI 82) 1), iM 11 85, iM 12 86]) (.seq (.ops [iT 88 5 1, iK 89 13 88, iM 87 89, oI 90 (.extract (tI 87) 0), oI 91 (.extract (tI 87) 1), iM 13 90, iM 14 91]) (.seq (.ops [iT 93 5 3, iK 94 13 93, iM 92 94, oI 95 (.extract (tI 92) 0), oI 96 (.extract (tI 92) 1), iM 15 95, iM 16 96]) (.seq (.ops [iT 98 5 1, iK 99 23 98, iM 97 99, oI 100 (.extract (tI 97) 0), oI 101 (.extract (tI 97) 1), iM 17 100, iM 18 101]) (.seq (.ops [iT 103 5 3, iK 104 23 103, iM 102 104, oI 105 (.extract (tI 102) 0), oI 106 (.extract (tI 102) 1), iM 19 105, iM 20 106]) (.seq (.seq (.ops [iM 107 6, iK 108 15 107, iM 109 8, iK 110 15 109, iB 111 .add 108 110, iM 112 10, iK 113 15 112, iB 114 .add 111 113, iM 115 12, iK 116 15 115, iB 117 .add 114 116, iM 118 14, iK 119 15 118, iB 120 .add 117 119, iM 121 16, iK 122 15 121, iB 123 .add 120 122, iM 124 18, iK 125 15 124, iB 126 .add 123 125, iM 127 20, iK 128 15 127, iB 129 .add 126 128, iD 130 .neq 129 0, iM 131 130, gF 132 131 (jM 5), gF 133 131 (jN 132), gF 134 131 (jF 0 1), gF 135 131 (jL 1 134), gF 136 131 (jN 135), gF 137 131 (jB .neq 133 136), iP 138 131 137, iM 139 138, gF 140 139 (jM 7), gF 141 139 (jN 140), gF 142 139 (jM 5), gF 143 139 (jN 142), gF 144 139 (jB .neq 141 143), iP 145 139 144, iM 146 145, gF 147 146 (jM 9), gF 148 146 (jN 147), gF 149 146 (jM 5), gF 150 146 (jN 149), gF 151 146 (jB .neq 148 150), iP 152 146 151, iM 153 152, gF 154 153 (jM 11), gF 155 153 (jN 154), gF 156 153 (jM 5), gF 157 153 (jN 156), gF 158 153 (jB .neq 155 157), iP 159 153 158, iM 160 159, gF 161 160 (jM 13), gF 162 160 (jN 161), gF 163 160 (jM 5), gF 164 160 (jN 163), gF 165 160 (jB .neq 162 164), iP 166 160 165, iM 167 166, gF 168 167 (jM 15), gF 169 167 (jN 168), gF 170 167 (jM 5), gF 171 167 (jN 170), gF 172 167 (jB .neq 169 171), iP 173 167 172, iM 174 173, gF 175 174 (jM 17), gF 176 174 (jN 175), gF 177 174 (jM 5), gF 178 174 (jN 177), gF 179 174 (jB .neq 176 178), iP 180 174 179, iM 181 180, gF 182 181 (jM 19), gF 183 181 (jN 182), gF 184 181 (jM 5), gF 185 181 (jN 184), gF 186 181 (jB .neq 183 185), iP 187 181 186]) (.cond (tI 187) (.seq (.ops [iE 2 false]) .ret) .skip)) (.seq (.seq (.ops [iC 21 0]) (.block 2 (.loop [1, 3, 5, 7, 9, 11, 13, 15, 17, 19, 21] ir7_l0))) (.seq (.ops [oI 271 (.call .false (.c (.fn 11 [])) []), iM 2 271]) .ret))))))))))))))))))⟩
theorem ir7_ok : compFn prog (shOf sh []) [[3000002, 4000001, 10010303], [1, 3, 4, 1000301005307, 5000003], [1, 3, 5, 7, 9, 11, 13, 15, 17, 19, 21]] f7 = some ir7 := by kernel_rfl
def ir10_l0 : IC :=
  (.seq (.seq (.ops [iM 26 3, iF 27 1 1, iL 28 1 27, iN 29 28, iB 30 .lss 26 29]) (.cond (tI 30) .skip (.exit 0))) (.seq (.block 1 (.seq (.ops [iF 33 1 1, iL 34 1 33, iM 35 3, iX 36 7 34 35, iF 37 1 36, iL 38 1 37, iN 39 38, iD 40 .gtr 39 31, iM 41 40, gF 42 41 (jF 1 1), gF 43 41 (jL 1 42), gF 44 41 (jM 3), gF 45 41 (jX 7 43 44), gF 46 41 (jF 2 45), gF 47 41 (jL 1 46), gF 48 41 (jS 47), gF 49 41 (jD .gtr 48 200), iP 50 41 49]) (.cond (tI 50) (.seq (.ops [iE 2 true]) .ret) .skip))) (.ops [iM 31 3, iD 32 .add 31 1, iM 3 32])))
def ir10 : IFun :=
  ⟨51, [(.tmp 2)], (.seq (.ops [oI 1 (.box 27 (tI 0)), iE 2 false]) (.seq (.seq (.ops [iF 4 0 1, iL 5 1 4, iN 6 5, iD 7 .gtr 6 40, iM 8 7, gF 9 8 (jF 1 1), gF 10 8 (jL 1 9), gF 11 8 (jN 10), gF 12 8 (jD .gtr 11 80), iP 13 8 12, iM 14 13, gF 15 14 (jF 3 1), gF 16 14 (jL 1 15), gF 17 14 (jN 16), gF 18 14 (jD .gtr 17 200), iP 19 14 18, iM 20 19, gF 21 20 (jF 4 1), gF 22 20 (jL 1 21), gF 23 20 (jN 22), gF 24 20 (jD .gtr 23 200), iP 25 20 24]) (.cond (tI 25) (.seq (.ops [iE 2 true]) .ret) .skip)) (.seq (.seq (.ops [iC 3 0]) (.block 0 (.loop [1, 3] ir10_l0))) (.seq (.ops [iE 2 false]) .ret))))⟩
theorem ir10_ok : compFn prog (shOf sh []) [[1, 3]] f10 = some ir10 := by kernel_rfl
def ir11 : IFun :=
  ⟨120, [(.tmp 0)], (.seq (.ops [iE 0 false]) (.seq (.ops [oI 12 (.call .false (.c (.fn 40 [])) []), oI 1 (.alloc 27 [(.r 9 1), (.r 53 7), zZ, (.r 85 3), (.r 87 5)]), gN (jV 5 1 12)]) (.seq (.ops [iT 14 5 1, iK 15 13 14, iM 13 15, oI 16 (.extract (tI 13) 0), oI 17 (.extract (tI 13) 1), iM 2 16, iM 3 17]) (.seq (.ops [iT 19 5 1, iK 20 23 19, iM 18 20, oI 21 (.extract (tI 18) 0), oI 22 (.extract (tI 18) 1), iM 4 21, iM 5 22]) (.seq (.ops [iT 24 5 1, iK 25 22 24, iM 23 25, oI 26 (.extract (tI 23) 0), oI 27 (.extract (tI 23) 1), iM 6 26, iM 7 27]) (.seq (.ops [iT 29 5 1, oI 30 (.call .false (.c (.fn 14 [])) [(tI 29), (cI 0)]), iM 28 30, oI 31 (.extract (tI 28) 0), oI 32 (.extract (tI 28) 1), iM 8 31, iM 9 32]) (.seq (.ops [iT 34 5 1, oI 35 (.call .false (.c (.fn 14 [])) [(tI 34), (cI 2)]), iM 33 35, oI 36 (.extract (tI 33) 0), oI 37 (.extract (tI 33) 1), iM 10 36, iM 11 37]) (.seq (.ops [iM 38 3, iK 39 15 38, iM 40 5, iK 41 15 40, iB 42 .add 39 41, iM 43 7, iK 44 15 43, iB 45 .add 42 44, iM 46 9, iK 47 15 46, iB 48 .add 45 47, iD 49 .eql 48 0, iM 50 49, gT 51 50 (jM 2), gT 52 50 (jN 51), gT 53 50 (jD .eql 52 3), iQ 54 50 53, iM 55 54, gT 56 55 (jM 2), gT 57 55 (.indexA .none 1 (tI 56) (cI 0)), gT 58 55 (jL 1 57), gT 59 55 (jD .eql 58 1), iQ 60 55 59, iM 61 60, gT 62 61 (jM 2), gT 63 61 (.indexA .none 1 (tI 62) (cI 1)), gT 64 61 (jL 1 63), gT 65 61 (jD .eql 64 0), iQ 66 61 65, iM 67 66, gT 68 67 (jM 2), gT 69 67 (.indexA .none 1 (tI 68) (cI 2)), gT 70 67 (jL 1 69), ⟨(.some 71), (.bin .eql (tI 70) (cI (-1))), (.some (67, .true))⟩, iQ 72 67 71, iM 73 72, gT 74 73 (jM 4), gT 75 73 (jN 74), gT 76 73 (jD .eql 75 3), iQ 77 73 76, iM 78 77, gT 79 78 (jM 4), gT 80 78 (.indexA .none 1 (tI 79) (cI 0)), gT 81 78 (jL 1 80), iQ 82 78 81, iM 83 82, gT 84 83 (jM 4), gT 85 83 (.indexA .none 1 (tI 84) (cI 1)), gT 86 83 (jL 1 85), gT 87 83 (jU 86), iQ 88 83 87, iM 89 88, gT 90 89 (jM 4), gT 91 89 (.indexA .none 1 (tI 90) (cI 2)), gT 92 89 (jL 1 91), gT 93 89 (jU 92), iQ 94 89 93, iM 95 94, gT 96 95 (jM 6), gT 97 95 (jN 96), gT 98 95 (jD .eql 97 3), iQ 99 95 98, iM 100 99, gT 101 100 (jM 6), gT 102 100 (.indexA .none 1 (tI 101) (cI 1)), gT 103 100 (jL 1 102), iQ 104 100 103, iM 105 104, gT 106 105 (jM 6), gT 107 105 (.indexA .none 1 (tI 106) (cI 0)), gT 108 105 (jL 1 107), gT 109 105 (jU 108), iQ 110 105 109, iM 111 110, gT 112 111 (jM 8), ⟨(.some 113), (.bin .eql (tI 112) (.c (.p (.val (.string ⟨([120] : List UInt8).toArray⟩))))), (.some (111, .true))⟩, iQ 114 111 113, iM 115 114, gT 116 115 (jM 11), gT 117 115 (jK 15 116), gT 118 115 (jD .eql 117 161), iQ 119 115 118, iM 0 119]) .ret))))))))⟩
theorem ir11_ok : compFn prog (shOf sh []) [] f11 = some ir11 := by kernel_rfl
def ir13 : IFun :=
  ⟨18, [(.tmp 2), (.tmp 3)], (.seq (.ops [oI 1 (.box 27 (tI 0)), oI 2 (.nilrow 3 1), iC 3 0]) (.seq (.ops [iT 7 5 1, iK 8 45 7, iM 6 8, oI 9 (.extract (tI 6) 0), oI 10 (.extract (tI 6) 1), iM 4 9, iM 5 10]) (.seq (.seq (.ops [iM 11 5, iD 12 .neq 11 0]) (.cond (tI 12) (.seq (.ops [iM 13 5, oI 2 (.nilrow 3 1), iM 3 13]) .ret) .skip)) (.seq (.ops [iM 14 4, oI 15 (.nilChk (tI 14)), iF 16 5 15, iL 17 1 16, iM 2 17, iC 3 0]) .ret))))⟩
theorem ir13_ok : compFn prog (shOf sh []) [] f13 = some ir13 := by kernel_rfl
def ir14 : IFun :=
  ⟨53, [(.tmp 4), (.tmp 5)], (.seq (.ops [oI 2 (.box 27 (tI 0)), oI 3 (.box 3 (tI 1)), ⟨(.some 4), (.mv (.c (.p (.val (.string ⟨([] : List UInt8).toArray⟩))))), .none⟩, iC 5 0]) (.seq (.ops [iT 10 5 2, iK 11 45 10, iM 9 11, oI 12 (.extract (tI 9) 0), oI 13 (.extract (tI 9) 1), oI 6 (.alloc 89 [(.z (.val (.pointer .none)))]), gN (jV 1 6 12), iM 7 13]) (.seq (.block 0 (.seq (.ops [iM 15 7, iD 16 .neq 15 0, iM 14 16]) (.cond (tI 14) (.seq (.ops [iM 17 7, ⟨(.some 4), (.mv (.c (.p (.val (.string ⟨([] : List UInt8).toArray⟩))))), .none⟩, iM 5 17]) .ret) (.seq (.ops [iL 19 1 3, iD 20 .lss 19 0, iM 21 20, gF 22 21 (jL 1 3), gF 23 21 (jF 0 2), gF 24 21 (jL 1 23), gF 25 21 (jN 24), gF 26 21 (jB .geq 22 25), iP 27 21 26, iM 18 27]) (.cond (tI 18) (.seq (.ops [⟨(.some 4), (.mv (.c (.p (.val (.string ⟨([] : List UInt8).toArray⟩))))), .none⟩, iC 5 4]) .ret) (.seq (.ops [iL 29 1 6, oI 30 (.nilChk (tI 29)), iF 31 5 30, iL 32 1 31, iL 33 1 3, iX 34 1 32 33, iL 35 1 34, iD 36 .lss 35 0, iM 28 36]) (.cond (tI 28) (.seq (.ops [⟨(.some 4), (.mv (.c (.p (.val (.string ⟨([] : List UInt8).toArray⟩))))), .none⟩, iC 5 161]) .ret) (.seq (.ops [iL 38 1 6, oI 39 (.nilChk (tI 38)), iF 40 5 39, iL 41 1 40, iL 42 1 3, iX 43 1 41 42, iL 44 1 43, iD 45 .gtr 44 1048576, iM 37 45]) (.cond (tI 37) (.seq (.ops [⟨(.some 4), (.mv (.c (.p (.val (.string ⟨([] : List UInt8).toArray⟩))))), .none⟩, iC 5 3]) .ret) .skip))))))))) (.seq (.ops [⟨(.some 46), .mkMap, .none⟩, oI 8 (.alloc 94 [(.z (.val (.map .none)))]), gN (jV 1 8 46)]) (.seq (.ops [iL 47 1 6, oI 48 (.mkfn 47 [(tI 6), (tI 3), (tI 8)]), oI 49 (.call .true (.c (.fn 46 [])) [(tI 47), (tI 48)])]) (.seq (.ops [iL 50 1 8, iL 51 1 3, ⟨(.some 52), (.lkUp [1] .false .false [(.val (.string ⟨([] : List UInt8).toArray⟩))] .false (tI 50) (tI 51)), .none⟩, iM 4 52, iC 5 0]) .ret))))))⟩
theorem ir14_ok : compFn prog (shOf sh []) [] f14 = some ir14 := by kernel_rfl
def ir15 : IFun :=
  ⟨4, [(.tmp 2)], (.seq (.ops [iC 2 0]) (.seq (.ops [iM 3 0, iM 2 3]) .ret))⟩
theorem ir15_ok : compFn prog (shOf sh []) [] f15 = some ir15 := by kernel_rfl
def ir18 : IFun :=
  ⟨5, [(.cell 2 .true 6)], (.seq (.ops [oI 2 (.alloc 48 [zZ, (.z zU), (.z zU), (.z zU), (.z zU), zZ])]) (.seq (.ops [iM 3 0, ⟨(.some 4), (.build [z6, zU, zU, zU, zU, z6] [(0, (1, (cI 1))), (5, (1, (tI 3)))]), .none⟩, gN (jV 6 2 4)]) .ret))⟩
theorem ir18_ok : compFn prog (shOf sh []) [] f18 = some ir18 := by kernel_rfl
def ir19 : IFun :=
  ⟨12, [(.cell 2 .true 6)], (.seq (.ops [oI 2 (.alloc 48 [zZ, (.z zU), (.z zU), (.z zU), (.z zU), zZ])]) (.seq (.ops [oI 3 (.alloc 46 [(.z zU), (.z zU), (.z zU), (.z zU)])]) (.seq (.ops [iM 4 0, oI 5 (.bin .quo (tI 4) (.c (.p (.val (.int .u8 64))))), iM 6 0, oI 7 (.bin .rem (tI 6) (.c (.p (.val (.int .u8 64))))), oI 8 (.bin .shl (.c (.p (.val (.int .u64 1)))) (tI 7)), oI 9 (.indexA (.some 4) 1 (tI 3) (tI 5)), gN (jV 1 9 8)]) (.seq (.ops [iT 10 4 3, oI 11 (.build [z6, zU, zU, zU, zU, z6] [(1, (4, (tI 10)))]), gN (jV 6 2 11)]) .ret))))⟩
theorem ir19_ok : compFn prog (shOf sh []) [] f19 = some ir19 := by kernel_rfl
def ir22 : IFun :=
  ⟨18, [(.tmp 2), (.tmp 3)], (.seq (.ops [oI 1 (.box 27 (tI 0)), oI 2 (.nilrow 4 1), iC 3 0]) (.seq (.ops [iT 7 5 1, iK 8 45 7, iM 6 8, oI 9 (.extract (tI 6) 0), oI 10 (.extract (tI 6) 1), iM 4 9, iM 5 10]) (.seq (.seq (.ops [iM 11 5, iD 12 .neq 11 0]) (.cond (tI 12) (.seq (.ops [iM 13 5, oI 2 (.nilrow 4 1), iM 3 13]) .ret) .skip)) (.seq (.ops [iM 14 4, oI 15 (.nilChk (tI 14)), iF 16 6 15, iL 17 1 16, iM 2 17, iC 3 0]) .ret))))⟩
theorem ir22_ok : compFn prog (shOf sh []) [] f22 = some ir22 := by kernel_rfl
def ir23_l0 : IC :=
  (.seq (.ops [iB 137 .lss 136 135]) (.seq (.cond (tI 137) .skip (.exit 12)) (.seq (.block 13 (.seq (.ops [iM 138 136, iM 18 138]) (.ops [iM 139 17, iM 140 18, iM 141 6, iM 142 18, iM 143 18, oI 144 (.build [z6, z6] [(0, (1, (tI 142))), (1, (1, (tI 143)))]), oI 145 (.lkUp [1, 1] .true .false [z6] .false (tI 141) (tI 144)), iD 146 .gtr 145 0, iX 147 1 139 140, gN (jV 1 147 146)]))) (.ops [iD 148 .add 136 1, iM 136 148]))))
def ir23_l1 : IC :=
  (.seq (.ops [iB 107 .lss 106 105]) (.seq (.cond (tI 107) .skip (.exit 10)) (.seq (.block 11 (.seq (.ops [iM 108 106, iM 16 108]) (.seq (.ops [iM 109 6, iM 110 15, iM 111 14, oI 112 (.build [z6, z6] [(0, (1, (tI 110))), (1, (1, (tI 111)))]), oI 113 (.lkUp [1, 1] .true .false [z6] .false (tI 109) (tI 112)), iD 114 .gtr 113 0, iM 115 114, gT 116 115 (jM 6), gT 117 115 (jM 14), gT 118 115 (jM 16), ⟨(.some 119), (.build [z6, z6] [(0, (1, (tI 117))), (1, (1, (tI 118)))]), (.some (115, .true))⟩, ⟨(.some 120), (.lkUp [1, 1] .true .false [z6] .false (tI 116) (tI 119)), (.some (115, .true))⟩, gT 121 115 (jD .gtr 120 0), iQ 122 115 121]) (.cond (tI 122) (.ops [iM 123 6, iM 124 15, iM 125 16, oI 126 (.build [z6, z6] [(0, (1, (tI 124))), (1, (1, (tI 125)))]), gN (.mapUp [1, 1] .true (tI 123) (tI 126) (cI 1))]) .skip)))) (.ops [iD 127 .add 106 1, iM 106 127]))))
def ir23_l2 : IC :=
  (.seq (.ops [iB 101 .lss 100 99]) (.seq (.cond (tI 101) .skip (.exit 8)) (.seq (.block 9 (.seq (.ops [iM 102 100, iM 15 102]) (.seq (.ops [iF 103 0 1, iL 104 1 103, iN 105 104, iC 106 0]) (.block 10 (.loop [1, 6, 14, 15, 93, 94, 99, 100, 105, 106] ir23_l1))))) (.ops [iD 128 .add 100 1, iM 100 128]))))
def ir23_l3 : IC :=
  (.seq (.ops [iB 95 .lss 94 93]) (.seq (.cond (tI 95) .skip (.exit 6)) (.seq (.block 7 (.seq (.ops [iM 96 94, iM 14 96]) (.seq (.ops [iF 97 0 1, iL 98 1 97, iN 99 98, iC 100 0]) (.block 8 (.loop [1, 6, 14, 93, 94, 99, 100] ir23_l2))))) (.ops [iD 129 .add 94 1, iM 94 129]))))
def ir23_l4 : IC :=
  (.seq (.ops [iB 66 .lss 65 64]) (.seq (.cond (tI 66) .skip (.exit 4)) (.seq (.block 5 (.seq (.ops [iM 67 65, iX 68 6 63 65, iT 69 6 68, oI 13 (.alloc 48 [zZ, (.z zU), (.z zU), (.z zU), (.z zU), zZ]), iM 12 67, gN (jV 6 13 69)]) (.ops [iM 70 11, iM 71 70, gT 72 71 (jM 12), gT 73 71 (jM 9), gT 74 71 (jB .eql 72 73), gT 75 71 (jM 74), gF 76 75 (jM 4), gF 77 75 (jT 6 13), ⟨(.some 78), (.call .false (.c (.fn 55 [])) [(tI 76), (tI 77)]), (.some (75, .false))⟩, gT 79 71 (jP 75 78), iQ 80 71 79, iM 11 80]))) (.ops [iD 81 .add 65 1, iM 65 81]))))
def ir23_l5 : IC :=
  (.seq (.ops [iB 39 .lss 38 37]) (.seq (.cond (tI 39) .skip (.exit 2)) (.seq (.block 3 (.seq (.ops [iM 40 38, iX 41 6 36 38, iT 42 6 41, oI 10 (.alloc 48 [zZ, (.z zU), (.z zU), (.z zU), (.z zU), zZ]), iM 9 40, gN (jV 6 10 42)]) (.seq (.seq (.ops [iT 43 7 8, iK 44 54 43, iU 45 44, iM 46 45, gF 47 46 (jF 0 10), gF 48 46 (jL 1 47), gF 49 46 (jD .neq 48 1), iP 50 46 49, iM 51 50, gF 52 51 (jM 4), gF 53 51 (.nilChk (tI 52)), gF 54 51 (jF 5 53), gF 55 51 (jL 1 54), gF 56 51 (jF 5 10), gF 57 51 (jL 1 56), gF 58 51 (jX 1 55 57), gF 59 51 (jL 1 58), gF 60 51 (jD .lss 59 0), iP 61 51 60]) (.cond (tI 61) (.exit 3) .skip)) (.seq (.ops [iE 11 true]) (.seq (.seq (.ops [iF 62 1 8, iL 63 1 62, iN 64 63, iC 65 0]) (.block 4 (.loop [1, 4, 6, 8, 9, 10, 11, 29, 30, 31, 36, 37, 38, 63, 64, 65] ir23_l4))) (.seq (.ops [iM 82 11]) (.cond (tI 82) (.ops [iM 83 6, iF 84 0 8, iL 85 1 84, iF 86 5 10, iL 87 1 86, oI 88 (.build [z6, z6] [(0, (1, (tI 85))), (1, (1, (tI 87)))]), gN (.mapUp [1, 1] .true (tI 83) (tI 88) (cI 1))]) .skip))))))) (.ops [iD 89 .add 38 1, iM 38 89]))))
def ir23_l6 : IC :=
  (.seq (.ops [iB 32 .lss 31 30]) (.seq (.cond (tI 32) .skip (.exit 0)) (.seq (.block 1 (.seq (.ops [iX 33 7 29 31, iT 34 7 33, ⟨(.some 8), (.alloc 53 [zZ, (.r 48 6), (.z (.val (.string ⟨([] : List UInt8).toArray⟩))), zZ, (.z (.val (.bool .false))), (.z (.val (.bool .false))), zZ]), .none⟩, gN (jV 7 8 34)]) (.seq (.ops [iF 35 1 8, iL 36 1 35, iN 37 36, iC 38 0]) (.block 2 (.loop [1, 4, 6, 8, 29, 30, 31, 36, 37, 38] ir23_l5))))) (.ops [iD 90 .add 31 1, iM 31 90]))))
def ir23 : IFun :=
  ⟨150, [(.tmp 2), (.tmp 3)], (.seq (.ops [oI 1 (.box 27 (tI 0)), oI 2 (.nilrow 4 1), iC 3 0]) (.seq (.ops [iT 20 5 1, iK 21 45 20, iM 19 21, oI 22 (.extract (tI 19) 0), oI 23 (.extract (tI 19) 1), iM 4 22, iM 5 23]) (.seq (.seq (.ops [iM 24 5, iD 25 .neq 24 0]) (.cond (tI 25) (.seq (.ops [iM 26 5, oI 2 (.nilrow 4 1), iM 3 26]) .ret) .skip)) (.seq (.ops [⟨(.some 27), .mkMap, .none⟩, iM 6 27]) (.seq (.seq (.ops [iF 28 1 1, iL 29 1 28, iN 30 29, iC 31 0]) (.block 0 (.loop [1, 4, 6, 29, 30, 31] ir23_l6))) (.seq (.seq (.ops [iF 91 0 1, iL 92 1 91, iN 93 92, iC 94 0]) (.block 6 (.loop [1, 6, 93, 94] ir23_l3))) (.seq (.ops [iF 130 0 1, iL 131 1 130, iN 132 131, oI 133 (.makeS 4 1 1 [(.val (.bool .false))] (tI 132) (tI 132)), iM 17 133]) (.seq (.seq (.ops [iM 134 17, iN 135 134, iC 136 0]) (.block 12 (.loop [6, 17, 135, 136] ir23_l0))) (.seq (.ops [iM 149 17, iM 2 149, iC 3 0]) .ret)))))))))⟩
theorem ir23_ok : compFn prog (shOf sh []) [[1, 4, 6, 29, 30, 31], [1, 4, 6, 8, 29, 30, 31, 36, 37, 38], [1, 4, 6, 8, 9, 10, 11, 29, 30, 31, 36, 37, 38, 63, 64, 65], [1, 6, 93, 94], [1, 6, 14, 93, 94, 99, 100], [1, 6, 14, 15, 93, 94, 99, 100, 105, 106], [6, 17, 135, 136]] f23 = some ir23 := by kernel_rfl
def ir29_l0 : IC :=
  (.seq (.ops [iD 7 .lss 6 4]) (.seq (.cond (tI 7) .skip (.exit 0)) (.seq (.block 1 (.seq (.ops [oI 8 (.index .false 4 1 (tI 5) (tI 6)), iM 4 8]) (.seq (.ops [iM 9 4, iT 10 5 1, oI 11 (.call .false (tI 9) [(tI 10)]), iU 12 11]) (.cond (tI 12) (.seq (.ops [iC 2 160]) .ret) .skip)))) (.ops [iD 13 .add 6 1, iM 6 13]))))
def ir29 : IFun :=
  ⟨14, [(.tmp 2)], (.seq (.ops [oI 1 (.box 27 (tI 0)), iC 2 0]) (.seq (.seq (.ops [oI 5 (.build [(.val .nilFunc), (.val .nilFunc), (.val .nilFunc), (.val .nilFunc)] [(0, (1, (.c (.fn 57 [])))), (1, (1, (.c (.fn 58 [])))), (2, (1, (.c (.fn 59 [])))), (3, (1, (.c (.fn 60 []))))]), iC 6 0]) (.block 0 (.loop [1, 5, 6] ir29_l0))) (.seq (.ops [iC 2 0]) .ret)))⟩
theorem ir29_ok : compFn prog (shOf sh [9]) [[1, 5, 6]] f29 = some ir29 := by kernel_rfl
def ir30 : IFun :=
  ⟨16, [(.tmp 2), (.tmp 3)], (.seq (.ops [oI 1 (.box 27 (tI 0)), oI 2 (.nilrow 46 4), iC 3 0]) (.seq (.ops [iT 7 5 1, iK 8 45 7, iM 6 8, oI 9 (.extract (tI 6) 0), oI 10 (.extract (tI 6) 1), iM 4 9, iM 5 10]) (.seq (.seq (.ops [iM 11 5, iD 12 .neq 11 0]) (.cond (tI 12) (.seq (.ops [iM 13 5, oI 2 (.nilrow 46 4), iM 3 13]) .ret) .skip)) (.seq (.ops [iM 14 4, iK 15 61 14, iM 2 15, iC 3 0]) .ret))))⟩
theorem ir30_ok : compFn prog (shOf sh []) [] f30 = some ir30 := by kernel_rfl
def ir32 : IFun :=
  ⟨22, [(.tmp 2), (.tmp 3)], (.seq (.ops [oI 1 (.box 27 (tI 0)), oI 2 (.nilrow 46 4), iC 3 0]) (.seq (.ops [iT 9 5 1, iK 10 45 9, iM 8 10, oI 11 (.extract (tI 8) 0), oI 12 (.extract (tI 8) 1), iM 4 11, iM 5 12]) (.seq (.seq (.ops [iM 13 5, iD 14 .neq 13 0]) (.cond (tI 14) (.seq (.ops [iM 15 5, oI 2 (.nilrow 46 4), iM 3 15]) .ret) .skip)) (.seq (.ops [iM 17 4, iK 18 62 17, iM 16 18, oI 19 (.extract (tI 16) 0), oI 20 (.extract (tI 16) 1), iM 6 19, iM 7 20]) (.seq (.ops [iM 21 6, iM 2 21, iC 3 0]) .ret)))))⟩
theorem ir32_ok : compFn prog (shOf sh []) [] f32 = some ir32 := by kernel_rfl
def ir40 : IFun :=
  ⟨19, [(.cell 0 .true 5)], (.seq (.ops [oI 0 (.alloc 27 [(.r 9 1), (.r 53 7), zZ, (.r 85 3), (.r 87 5)])]) (.seq (.ops [⟨(.some 1), (.buildS 9 1 [(.val (.string ⟨([] : List UInt8).toArray⟩))] 3 [(0, (.c (.p (.val (.string ⟨([83] : List UInt8).toArray⟩))))), (1, (.c (.p (.val (.string ⟨([65] : List UInt8).toArray⟩))))), (2, (.c (.p (.val (.string ⟨([66] : List UInt8).toArray⟩)))))]), .none⟩, oI 2 (.call .false (.c (.fn 18 [])) [(cI 1)]), oI 3 (.call .false (.c (.fn 18 [])) [(cI 0)]), oI 4 (.buildS 48 6 [z6, zU, zU, zU, zU, z6] 2 [(0, (tI 2)), (1, (tI 3))]), ⟨(.some 5), (.build [z6, zM, (.val (.string ⟨([] : List UInt8).toArray⟩)), z6, (.val (.bool .false)), (.val (.bool .false)), z6] [(1, (1, (tI 4))), (6, (1, (cI (-1))))]), .none⟩, oI 6 (.call .false (.c (.fn 19 [])) [(.c (.p (.val (.int .u8 120))))]), oI 7 (.buildS 48 6 [z6, zU, zU, zU, zU, z6] 1 [(0, (tI 6))]), ⟨(.some 8), (.build [z6, zM, (.val (.string ⟨([] : List UInt8).toArray⟩)), z6, (.val (.bool .false)), (.val (.bool .false)), z6] [(1, (1, (tI 7))), (6, (1, (cI (-1))))]), .none⟩, ⟨(.some 9), (.build [z6, zM, (.val (.string ⟨([] : List UInt8).toArray⟩)), z6, (.val (.bool .false)), (.val (.bool .false)), z6] [(0, (1, (cI 1))), (6, (1, (cI (-1))))]), .none⟩, oI 10 (.call .false (.c (.fn 19 [])) [(.c (.p (.val (.int .u8 97))))]), oI 11 (.call .false (.c (.fn 18 [])) [(cI 1)]), oI 12 (.buildS 48 6 [z6, zU, zU, zU, zU, z6] 2 [(0, (tI 10)), (1, (tI 11))]), ⟨(.some 13), (.build [z6, zM, (.val (.string ⟨([] : List UInt8).toArray⟩)), z6, (.val (.bool .false)), (.val (.bool .false)), z6] [(0, (1, (cI 1))), (1, (1, (tI 12))), (6, (1, (cI (-1))))]), .none⟩, oI 14 (.call .false (.c (.fn 18 [])) [(cI 2)]), oI 15 (.buildS 48 6 [z6, zU, zU, zU, zU, z6] 1 [(0, (tI 14))]), ⟨(.some 16), (.build [z6, zM, (.val (.string ⟨([] : List UInt8).toArray⟩)), z6, (.val (.bool .false)), (.val (.bool .false)), z6] [(0, (1, (cI 2))), (1, (1, (tI 15))), (6, (1, (cI (-1))))]), .none⟩, ⟨(.some 17), (.buildS 53 7 [z6, zM, (.val (.string ⟨([] : List UInt8).toArray⟩)), z6, (.val (.bool .false)), (.val (.bool .false)), z6] 5 [(0, (tI 5)), (1, (tI 8)), (2, (tI 9)), (3, (tI 13)), (4, (tI 16))]), .none⟩, oI 18 (.build [zM, zM, z6, zM, zM] [(0, (1, (tI 1))), (1, (1, (tI 17)))]), gN (jV 5 0 18)]) .ret))⟩
theorem ir40_ok : compFn prog (shOf sh []) [] f40 = some ir40 := by kernel_rfl
def ir45_l0 : IC :=
  (.seq (.ops [iB 29 .lss 28 27]) (.seq (.cond (tI 29) .skip (.exit 0)) (.seq (.block 1 (.seq (.ops [iM 30 28, iM 6 30]) (.ops [iL 31 1 5, oI 32 (.nilChk (tI 31)), iF 33 5 32, iL 34 1 33, iM 35 6, iX 36 1 34 35, ⟨.none, (.store 1 (tI 36) (cI (-1))), .none⟩]))) (.ops [iD 37 .add 28 1, iM 28 37]))))
def ir45 : IFun :=
  ⟨42, [(.tmp 2), (.tmp 3)], (.seq (.ops [oI 1 (.box 27 (tI 0)), oI 2 (.mv (.c (.p (.val (.pointer .none))))), iC 3 0]) (.seq (.seq (.ops [iT 7 5 1, iK 8 29 7, iM 4 8]) (.seq (.ops [iM 9 4, iD 10 .neq 9 0]) (.cond (tI 10) (.seq (.ops [iM 11 4, oI 2 (.mv (.c (.p (.val (.pointer .none))))), iM 3 11]) .ret) .skip))) (.seq (.opsR 4 [(.mk (iT 12 5 1) 0 0 []), (.mk (iF 13 0 1) 0 0 []), (.mk (iL 14 1 13) 0 0 [0]), (.mk (iN 15 14) 0 0 []), (.mk (oI 16 (.makeS 3 1 8 [z6] (tI 15) (tI 15))) 0 1 [0]), (.mk (iF 17 0 1) 1 0 []), (.mk (iL 18 1 17) 1 0 [0, 2, 4]), (.mk (iN 19 18) 1 0 []), (.mk (oI 20 (.makeS 4 1 1 [(.val (.bool .false))] (tI 19) (tI 19))) 1 1 [0, 2, 4]), (.mk (oI 21 (.build [zM, zM, z6, zM, zM, zM, zM] [(0, (5, (tI 12))), (5, (1, (tI 16))), (6, (1, (tI 20)))])) 2 0 []), (.mk (oI 22 (.box 93 (tI 21))) 2 1 []), (.mk (oI 5 (.alloc 89 [(.z (.val (.pointer .none)))])) 3 1 [0, 2, 4, 6, 8, 10]), (.mk (gN (jV 1 5 22)) 4 0 [])]) (.seq (.seq (.ops [iL 23 1 5, oI 24 (.nilChk (tI 23)), iF 25 5 24, iL 26 1 25, iN 27 26, iC 28 0]) (.block 0 (.loop [5, 27, 28] ir45_l0))) (.seq (.ops [iL 38 1 5, oI 39 (.mkfn 69 [(tI 5)]), oI 40 (.call .true (.c (.fn 46 [])) [(tI 38), (tI 39)])]) (.seq (.ops [iL 41 1 5, iM 2 41, iC 3 0]) .ret))))))⟩
theorem ir45_ok : compFn prog (shOf sh []) [[5, 27, 28]] f45 = some ir45 := by kernel_rfl
def ir46_l0 : IC :=
  (.seq (.ops [iB 14 .lss 13 12]) (.seq (.cond (tI 14) .skip (.exit 2)) (.seq (.block 3 (.seq (.ops [iX 15 7 11 13, iT 16 7 15, ⟨(.some 6), (.alloc 53 [zZ, (.r 48 6), (.z (.val (.string ⟨([] : List UInt8).toArray⟩))), zZ, (.z (.val (.bool .false))), (.z (.val (.bool .false))), zZ]), .none⟩, gN (jV 7 6 16)]) (.seq (.ops [iT 17 7 6, iK 18 54 17, iM 19 18, gT 20 19 (jM 1), gT 21 19 (jT 7 6), gT 22 19 (.call .true (tI 20) [(tI 21)]), iQ 23 19 22]) (.cond (tI 23) (.ops [iE 4 true]) .skip)))) (.ops [iD 24 .add 13 1, iM 13 24]))))
def ir46_l1 : IC :=
  (.block 1 (.seq (.ops [iE 4 false]) (.seq (.seq (.ops [iM 7 0, oI 8 (.nilChk (tI 7)), iF 9 0 8, iF 10 1 9, iL 11 1 10, iN 12 11, iC 13 0]) (.block 2 (.loop [0, 1, 4, 11, 12, 13] ir46_l0))) (.seq (.ops [iM 25 4, iU 26 25]) (.cond (tI 26) (.exit 0) .skip)))))
def ir46_l2 : IC :=
  (.block 1000000 (.seq (.block 0 (.loop [0, 1] ir46_l1)) (.exit 2000000)))
def ir46 : IFun :=
  ⟨27, [], (.block 2000000 (.loop [0, 1] ir46_l2))⟩
theorem ir46_ok : compFn prog (shOf sh []) [[0, 1], [0, 1], [0, 1, 4, 11, 12, 13]] f46 = some ir46 := by kernel_rfl
def ir47_l0 : IC :=
  (.seq (.ops [iB 48 .lss 47 46]) (.seq (.cond (tI 48) .skip (.exit 0)) (.seq (.block 1 (.seq (.ops [iX 49 6 45 47, iT 50 6 49, oI 9 (.alloc 48 [zZ, (.z zU), (.z zU), (.z zU), (.z zU), zZ]), gN (jV 6 9 50)]) (.seq (.seq (.ops [iF 51 0 9, iL 52 1 51, iD 53 .eql 52 0]) (.cond (tI 53) (.seq (.ops [iF 55 1 9, iT 56 4 55, iK 57 49 56, iM 54 57, oI 58 (.extract (tI 54) 0), oI 59 (.extract (tI 54) 1), iM 10 58, iM 11 59]) (.seq (.ops [iM 60 7, iM 61 10, oI 62 (.buildS 5 1 [(.val (.int .u8 0))] 1 [(0, (tI 61))]), oI 63 (.convB (tI 62)), iB 64 .add 60 63, iM 7 64]) (.exit 1))) .skip)) (.seq (.ops [iL 66 1 3, iF 67 5 9, iL 68 1 67, ⟨(.some 69), (.lkUp [1] .false .false [(.val (.string ⟨([] : List UInt8).toArray⟩))] .true (tI 66) (tI 68)), .none⟩, iM 65 69, oI 70 (.extract (tI 65) 0), oI 71 (.extract (tI 65) 1), iM 12 70, iM 13 71]) (.seq (.seq (.ops [iM 72 13, iU 73 72]) (.cond (tI 73) (.seq (.ops [iE 5 false]) .ret) .skip)) (.ops [iM 74 7, iM 75 12, iB 76 .add 74 75, iM 7 76])))))) (.ops [iD 77 .add 47 1, iM 47 77]))))
def ir47 : IFun :=
  ⟨95, [(.tmp 5)], (.seq (.ops [oI 4 (.box 53 (tI 0)), iE 5 false]) (.seq (.seq (.ops [iL 16 1 1, iT 17 7 4, oI 18 (.call .false (.c (.fn 48 [])) [(tI 16), (tI 17)]), iM 6 18]) (.seq (.ops [iM 19 6, iD 20 .lss 19 0, iM 21 20, gF 22 21 (jM 6), gF 23 21 (jL 1 1), gF 24 21 (.nilChk (tI 23)), gF 25 21 (jF 5 24), gF 26 21 (jL 1 25), gF 27 21 (jL 1 2), gF 28 21 (jX 1 26 27), gF 29 21 (jL 1 28), gF 30 21 (jB .gtr 22 29), iP 31 21 30, iM 32 31, gF 33 32 (jM 6), gF 34 32 (jL 1 1), gF 35 32 (.nilChk (tI 34)), gF 36 32 (jF 5 35), gF 37 32 (jL 1 36), gF 38 32 (jF 0 4), gF 39 32 (jL 1 38), gF 40 32 (jX 1 37 39), gF 41 32 (jL 1 40), gF 42 32 (jB .neq 33 41), iP 43 32 42]) (.cond (tI 43) (.seq (.ops [iE 5 false]) .ret) .skip))) (.seq (.ops [⟨(.some 7), (.mv (.c (.p (.val (.string ⟨([] : List UInt8).toArray⟩))))), .none⟩]) (.seq (.seq (.ops [iF 44 1 4, iL 45 1 44, iN 46 45, iC 47 0]) (.block 0 (.loop [3, 4, 7, 45, 46, 47] ir47_l0))) (.seq (.ops [iL 79 1 3, iF 80 0 4, iL 81 1 80, ⟨(.some 82), (.lkUp [1] .false .false [(.val (.string ⟨([] : List UInt8).toArray⟩))] .true (tI 79) (tI 81)), .none⟩, iM 78 82, oI 83 (.extract (tI 78) 0), oI 84 (.extract (tI 78) 1), iM 14 83, iM 15 84]) (.seq (.seq (.ops [iM 85 15, iM 86 85, gT 87 86 (jM 14), gT 88 86 (jM 7), gT 89 86 (jB .leq 87 88), iQ 90 86 89]) (.cond (tI 90) (.seq (.ops [iE 5 false]) .ret) .skip)) (.seq (.ops [iL 91 1 3, iF 92 0 4, iL 93 1 92, iM 94 7, gN (.mapUp [1] .false (tI 91) (tI 93) (tI 94))]) (.seq (.ops [iE 5 true]) .ret))))))))⟩
theorem ir47_ok : compFn prog (shOf sh []) [[3, 4, 7, 45, 46, 47]] f47 = some ir47 := by kernel_rfl
def ir48_l0 : IC :=
  (.seq (.ops [iB 13 .lss 12 11]) (.seq (.cond (tI 13) .skip (.exit 0)) (.seq (.block 1 (.seq (.ops [iX 14 6 10 12, iT 15 6 14, oI 7 (.alloc 48 [zZ, (.z zU), (.z zU), (.z zU), (.z zU), zZ]), gN (jV 6 7 15)]) (.seq (.ops [iC 8 1]) (.seq (.seq (.ops [iF 16 0 7, iL 17 1 16, iD 18 .eql 17 1]) (.cond (tI 18) (.ops [iM 19 0, oI 20 (.nilChk (tI 19)), iF 21 5 20, iL 22 1 21, iF 23 5 7, iL 24 1 23, iX 25 1 22 24, iL 26 1 25, iM 8 26]) .skip)) (.seq (.seq (.ops [iM 27 8, iD 28 .lss 27 0]) (.cond (tI 28) (.seq (.ops [oI 4 (.mv (cI (-1)))]) .ret) .skip)) (.ops [iM 29 5, iM 30 8, iB 31 .add 29 30, oI 32 (.min2 .false (tI 31) (cI 1048577)), iM 5 32])))))) (.ops [iD 33 .add 12 1, iM 12 33]))))
def ir48 : IFun :=
  ⟨35, [(.tmp 4)], (.seq (.ops [oI 3 (.box 53 (tI 1)), iC 4 0]) (.seq (.ops [iC 5 0]) (.seq (.seq (.ops [iF 9 1 3, iL 10 1 9, iN 11 10, iC 12 0]) (.block 0 (.loop [0, 5, 10, 11, 12] ir48_l0))) (.seq (.ops [iM 34 5, iM 4 34]) .ret))))⟩
theorem ir48_ok : compFn prog (shOf sh []) [[0, 5, 10, 11, 12]] f48 = some ir48 := by kernel_rfl
def ir49_a0 : IC :=
  (.ops [iM 4 7])
def ir49_b0 : IC :=
  (.block 1 (.seq (.ops [iM 8 4, gN (jV 1 2 8), gN (.store 1 (tI 3) (cB true))]) .ret))
def ir49 : IFun :=
  ⟨9, [(.cell 2 .false 1), (.cell 3 .false 1)], (.seq (.ops [oI 1 (.box 46 (tI 0)), oI 2 (.alloc 5 [(.z (.val (.int .u8 0)))]), oI 3 (.alloc 4 [(.z (.val (.bool .false)))])]) (.seq (.seq (.ops [iT 5 4 1, iK 6 70 5]) (.block 0 (.rangeF (tI 6) [7] ir49_a0 ir49_b0))) (.seq (.ops [⟨.none, (.store 1 (tI 2) (.c (.p (.val (.int .u8 0))))), .none⟩, gN (.store 1 (tI 3) (cB false))]) .ret)))⟩
theorem ir49_ok : compFn prog (shOf sh []) [] f49 = some ir49 := by kernel_rfl
def ir53 : IFun :=
  ⟨24, [(.tmp 4)], (.seq (.ops [oI 3 (.box 100 (tI 1)), oI 4 (.nilrow 4 1)]) (.seq (.ops [iM 6 0, oI 7 (.nilChk (tI 6)), iF 8 0 7, iF 9 0 8, iL 10 1 9, iN 11 10, oI 12 (.makeS 4 1 1 [(.val (.bool .false))] (tI 11) (tI 11)), oI 5 (.alloc 56 [(.r 4 1)]), gN (jV 1 5 12)]) (.seq (.ops [iL 13 1 5, iM 14 0, oI 15 (.nilChk (tI 14)), iF 16 0 15, iF 17 2 16, iL 18 1 17, iX 19 1 13 18, gN (.store 1 (tI 19) (cB true))]) (.seq (.ops [iM 20 0, oI 21 (.mkfn 72 [(tI 5), (tI 3)]), oI 22 (.call .true (.c (.fn 46 [])) [(tI 20), (tI 21)])]) (.seq (.ops [iL 23 1 5, iM 4 23]) .ret)))))⟩
theorem ir53_ok : compFn prog (shOf sh []) [] f53 = some ir53 := by kernel_rfl
def ir54 : IFun :=
  ⟨6, [(.tmp 2)], (.seq (.ops [oI 1 (.box 53 (tI 0)), iE 2 false]) (.seq (.ops [iF 3 3 1, iL 4 1 3, iD 5 .neq 4 11, iM 2 5]) .ret))⟩
theorem ir54_ok : compFn prog (shOf sh []) [] f54 = some ir54 := by kernel_rfl
def ir55 : IFun :=
  ⟨18, [(.tmp 4)], (.seq (.ops [oI 3 (.box 48 (tI 1)), iE 4 false]) (.seq (.ops [iF 5 0 3, iL 6 1 5, iD 7 .eql 6 1, iM 8 7, gT 9 8 (jM 0), gT 10 8 (.nilChk (tI 9)), gT 11 8 (jF 6 10), gT 12 8 (jL 1 11), gT 13 8 (jF 5 3), gT 14 8 (jL 1 13), gT 15 8 (jX 1 12 14), gT 16 8 (jL 1 15), iQ 17 8 16, iM 4 17]) .ret))⟩
theorem ir55_ok : compFn prog (shOf sh []) [] f55 = some ir55 := by kernel_rfl
def ir57_l0 : IC :=
  (.seq (.ops [iB 11 .lss 10 9]) (.seq (.cond (tI 11) .skip (.exit 0)) (.seq (.block 1 (.seq (.ops [iX 12 1 8 10, iL 13 1 12, iM 5 13]) (.seq (.ops [iM 14 3, iM 15 5, oI 16 (.lkUp [2] .false .false [z6] .false (tI 14) (tI 15)), iD 17 .add 16 1, gN (.mapUp [2] .false (tI 14) (tI 15) (tI 17))]) (.seq (.ops [iM 18 5, ⟨(.some 19), (.bin .eql (tI 18) (.c (.p (.val (.string ⟨([] : List UInt8).toArray⟩))))), .none⟩, iM 20 19, gF 21 20 (jM 5), gF 22 20 (jS 21), gF 23 20 (jD .gtr 22 1000), iP 24 20 23, iM 25 24, gF 26 25 (jM 3), gF 27 25 (jM 5), ⟨(.some 28), (.lkUp [2] .false .false [z6] .false (tI 26) (tI 27)), (.some (25, .false))⟩, gF 29 25 (jD .gtr 28 1), iP 30 25 29]) (.cond (tI 30) (.seq (.ops [iE 2 false]) .ret) .skip))))) (.ops [iD 31 .add 10 1, iM 10 31]))))
def ir57 : IFun :=
  ⟨55, [(.tmp 2)], (.seq (.ops [oI 1 (.box 27 (tI 0)), iE 2 false]) (.seq (.ops [⟨(.some 6), .mkMap, .none⟩, iM 3 6]) (.seq (.seq (.ops [iF 7 0 1, iL 8 1 7, iN 9 8, iC 10 0]) (.block 0 (.loop [1, 3, 8, 9, 10] ir57_l0))) (.seq (.ops [iF 32 0 1, iL 33 1 32, iN 34 33, iD 35 .geq 34 1, iM 36 35, gT 37 36 (jF 0 1), gT 38 36 (jL 1 37), gT 39 36 (jN 38), gT 40 36 (jD .leq 39 1000), iQ 41 36 40, iM 42 41, gT 43 42 (jF 2 1), gT 44 42 (jL 1 43), gT 45 42 (jD .geq 44 0), iQ 46 42 45, iM 47 46, gT 48 47 (jF 2 1), gT 49 47 (jL 1 48), gT 50 47 (jF 0 1), gT 51 47 (jL 1 50), gT 52 47 (jN 51), gT 53 47 (jB .lss 49 52), iQ 54 47 53, iM 2 54]) .ret))))⟩
theorem ir57_ok : compFn prog (shOf sh []) [[1, 3, 8, 9, 10]] f57 = some ir57 := by kernel_rfl
def ir58_l0 : IC :=
  (.seq (.ops [iB 70 .lss 69 68]) (.seq (.cond (tI 70) .skip (.exit 2)) (.seq (.block 3 (.seq (.ops [iX 71 6 67 69, iT 72 6 71, oI 7 (.alloc 48 [zZ, (.z zU), (.z zU), (.z zU), (.z zU), zZ]), gN (jV 6 7 72)]) (.seq (.ops [iF 73 0 7, iL 74 1 73]) (.block 4 (.seq (.ops [iD 76 .eql 74 0, iM 75 76]) (.cond (tI 75) (.seq (.ops [iF 77 1 7, iT 78 4 77, oI 79 (.build [zU, zU, zU, zU] []), oI 80 (.eqA .true [1, 1, 1, 1] .false (tI 78) (tI 79)), iM 81 80, gF 82 81 (jF 5 7), gF 83 81 (jL 1 82), gF 84 81 (jD .neq 83 0), iP 85 81 84]) (.cond (tI 85) (.seq (.ops [iE 2 false]) .ret) .skip)) (.seq (.ops [iD 87 .eql 74 1, iM 86 87]) (.cond (tI 86) (.seq (.ops [iF 88 1 7, iT 89 4 88, oI 90 (.build [zU, zU, zU, zU] []), oI 91 (.eqA .true [1, 1, 1, 1] .true (tI 89) (tI 90)), iM 92 91, gF 93 92 (jM 3), gF 94 92 (jF 5 7), gF 95 92 (jL 1 94), gF 96 92 (.call .false (tI 93) [(tI 95)]), gF 97 92 (jU 96), iP 98 92 97, iM 99 98, gF 100 99 (jF 3 5), gF 101 99 (jL 1 100), gF 102 99 (jD .eql 101 11), iP 103 99 102]) (.cond (tI 103) (.seq (.ops [iE 2 false]) .ret) .skip)) (.seq (.ops [iE 2 false]) .ret))))))))) (.ops [iD 104 .add 69 1, iM 69 104]))))
def ir58_l1 : IC :=
  (.seq (.ops [iB 13 .lss 12 11]) (.seq (.cond (tI 13) .skip (.exit 0)) (.seq (.block 1 (.seq (.ops [iX 14 7 10 12, iT 15 7 14, ⟨(.some 5), (.alloc 53 [zZ, (.r 48 6), (.z (.val (.string ⟨([] : List UInt8).toArray⟩))), zZ, (.z (.val (.bool .false))), (.z (.val (.bool .false))), zZ]), .none⟩, gN (jV 7 5 15)]) (.seq (.seq (.ops [iM 16 3, iF 17 0 5, iL 18 1 17, oI 19 (.call .false (tI 16) [(tI 18)]), iU 20 19, iM 21 20, gF 22 21 (jF 1 5), gF 23 21 (jL 1 22), gF 24 21 (jN 23), gF 25 21 (jD .gtr 24 30), iP 26 21 25, iM 27 26, gF 28 27 (jF 3 5), gF 29 27 (jL 1 28), gF 30 27 (jD .lss 29 0), iP 31 27 30, iM 32 31, gF 33 32 (jF 3 5), gF 34 32 (jL 1 33), gF 35 32 (jD .gtr 34 11), iP 36 32 35, iM 37 36, gF 38 37 (jF 6 5), gF 39 37 (jL 1 38), ⟨(.some 40), (.bin .lss (tI 39) (cI (-1))), (.some (37, .false))⟩, iP 41 37 40, iM 42 41, gF 43 42 (jF 2 5), gF 44 42 (jL 1 43), gF 45 42 (jS 44), gF 46 42 (jD .gtr 45 64), iP 47 42 46, iM 48 47, gF 49 48 (jF 2 5), gF 50 48 (jL 1 49), ⟨(.some 51), (.bin .neq (tI 50) (.c (.p (.val (.string ⟨([] : List UInt8).toArray⟩))))), (.some (48, .false))⟩, gF 52 48 (jM 51), gT 53 52 (jF 3 5), gT 54 52 (jL 1 53), gT 55 52 (jD .neq 54 0), gF 56 48 (jQ 52 55), iP 57 48 56, iM 58 57, gF 59 58 (jF 4 5), gF 60 58 (jL 1 59), gF 61 58 (jM 60), gT 62 61 (jF 5 5), gT 63 61 (jL 1 62), gF 64 58 (jQ 61 63), iP 65 58 64]) (.cond (tI 65) (.seq (.ops [iE 2 false]) .ret) .skip)) (.seq (.ops [iF 66 1 5, iL 67 1 66, iN 68 67, iC 69 0]) (.block 2 (.loop [1, 3, 5, 10, 11, 12, 67, 68, 69] ir58_l0)))))) (.ops [iD 105 .add 12 1, iM 12 105]))))
def ir58 : IFun :=
  ⟨110, [(.tmp 2)], (.seq (.ops [oI 1 (.box 27 (tI 0)), iE 2 false]) (.seq (.ops [oI 8 (.mkfn 73 [(tI 1)]), iM 3 8]) (.seq (.seq (.ops [iF 9 1 1, iL 10 1 9, iN 11 10, iC 12 0]) (.block 0 (.loop [1, 3, 10, 11, 12] ir58_l1))) (.seq (.ops [iF 106 1 1, iL 107 1 106, iN 108 107, iD 109 .leq 108 1000, iM 2 109]) .ret))))⟩
theorem ir58_ok : compFn prog (shOf sh [16, 93]) [[1, 3, 10, 11, 12], [1, 3, 5, 10, 11, 12, 67, 68, 69]] f58 = some ir58 := by kernel_rfl
def ir59_l0 : IC :=
  (.seq (.ops [iB 14 .lss 13 12]) (.seq (.cond (tI 14) .skip (.exit 0)) (.seq (.block 1 (.seq (.ops [iX 15 3 11 13, iT 16 3 15, oI 6 (.alloc 85 [zZ, zZ, zZ]), gN (jV 3 6 16)]) (.seq (.opsR 0 [(.mk (iM 17 3) 0 0 []), (.mk (iT 18 3 6) 0 0 []), (.mk (oI 19 (.lkUp [1, 1, 1] .true .false [z6] .false (tI 17) (tI 18))) 0 0 []), (.mk (iD 20 .add 19 1) 0 0 []), (.mk (oI 21 (.mapEn [1, 1, 1] .true .false [z6] (tI 17) (tI 18))) 0 0 [2]), (.mk (oI 22 (.extract (tI 21) 1)) 0 0 []), (.mk (gN (.entSt (tI 17) (tI 22) (tI 20))) 0 0 [])]) (.seq (.seq (.ops [iM 23 3, iT 24 3 6, oI 25 (.lkUp [1, 1, 1] .true .false [z6] .false (tI 23) (tI 24)), iD 26 .gtr 25 1, iM 27 26, gF 28 27 (jM 4), gF 29 27 (jF 0 6), gF 30 27 (jL 1 29), gF 31 27 (.call .false (tI 28) [(tI 30)]), gF 32 27 (jU 31), iP 33 27 32, iM 34 33, gF 35 34 (jM 4), gF 36 34 (jF 2 6), gF 37 34 (jL 1 36), gF 38 34 (.call .false (tI 35) [(tI 37)]), gF 39 34 (jU 38), iP 40 34 39, iM 41 40, gF 42 41 (jF 1 6), gF 43 41 (jL 1 42), gF 44 41 (jD .lss 43 1), iP 45 41 44, iM 46 45, gF 47 46 (jF 1 6), gF 48 46 (jL 1 47), gF 49 46 (jF 1 1), gF 50 46 (jL 1 49), gF 51 46 (jF 0 6), gF 52 46 (jL 1 51), gF 53 46 (jX 7 50 52), gF 54 46 (jF 1 53), gF 55 46 (jL 1 54), gF 56 46 (jN 55), gF 57 46 (jB .gtr 48 56), iP 58 46 57]) (.cond (tI 58) (.seq (.ops [iE 2 false]) .ret) .skip)) (.seq (.ops [iF 59 1 1, iL 60 1 59, iF 61 0 6, iL 62 1 61, iX 63 7 60 62, iF 64 1 63, iL 65 1 64, iF 66 1 6, iL 67 1 66, iD 68 .sub 67 1, iX 69 6 65 68, iT 70 6 69, oI 7 (.alloc 48 [zZ, (.z zU), (.z zU), (.z zU), (.z zU), zZ]), gN (jV 6 7 70)]) (.seq (.ops [iF 71 0 7, iL 72 1 71, iD 73 .neq 72 1, iM 74 73, gF 75 74 (jF 5 7), gF 76 74 (jL 1 75), gF 77 74 (jF 1 1), gF 78 74 (jL 1 77), gF 79 74 (jF 2 6), gF 80 74 (jL 1 79), gF 81 74 (jX 7 78 80), gF 82 74 (jF 0 81), gF 83 74 (jL 1 82), gF 84 74 (jB .neq 76 83), iP 85 74 84]) (.cond (tI 85) (.seq (.ops [iE 2 false]) .ret) .skip))))))) (.ops [iD 86 .add 13 1, iM 13 86]))))
def ir59 : IFun :=
  ⟨87, [(.tmp 2)], (.seq (.ops [oI 1 (.box 27 (tI 0)), iE 2 false]) (.seq (.ops [⟨(.some 8), .mkMap, .none⟩, iM 3 8]) (.seq (.ops [oI 9 (.mkfn 74 [(tI 1)]), iM 4 9]) (.seq (.seq (.ops [iF 10 3 1, iL 11 1 10, iN 12 11, iC 13 0]) (.block 0 (.loop [1, 3, 4, 11, 12, 13] ir59_l0))) (.seq (.ops [iE 2 true]) .ret)))))⟩
theorem ir59_ok : compFn prog (shOf sh [28, 35]) [[1, 3, 4, 11, 12, 13]] f59 = some ir59 := by kernel_rfl
def ir60_l0 : IC :=
  (.seq (.ops [iB 11 .lss 10 9]) (.seq (.cond (tI 11) .skip (.exit 0)) (.seq (.block 1 (.seq (.ops [iX 12 5 8 10, iT 13 5 12, oI 5 (.alloc 87 [zZ, (.z zU), (.z zU), (.z zU), (.z zU)]), gN (jV 5 5 13)]) (.seq (.ops [iM 14 3, iF 15 0 5, iL 16 1 15, oI 17 (.lkUp [1] .false .false [z6] .false (tI 14) (tI 16)), iD 18 .add 17 1, gN (.mapUp [1] .false (tI 14) (tI 16) (tI 18))]) (.seq (.ops [iM 19 3, iF 20 0 5, iL 21 1 20, oI 22 (.lkUp [1] .false .false [z6] .false (tI 19) (tI 21)), iD 23 .gtr 22 1, iM 24 23, gF 25 24 (jF 0 5), gF 26 24 (jL 1 25), gF 27 24 (jD .lss 26 0), iP 28 24 27, iM 29 28, gF 30 29 (jF 0 5), gF 31 29 (jL 1 30), gF 32 29 (jF 0 1), gF 33 29 (jL 1 32), gF 34 29 (jN 33), gF 35 29 (jB .geq 31 34), iP 36 29 35, iM 37 36, gF 38 37 (jF 1 5), gF 39 37 (jT 4 38), ⟨(.some 40), (.build [zU, zU, zU, zU] []), (.some (37, .false))⟩, gF 41 37 (.eqA .true [1, 1, 1, 1] .false (tI 39) (tI 40)), iP 42 37 41]) (.cond (tI 42) (.seq (.ops [iE 2 false]) .ret) .skip))))) (.ops [iD 43 .add 10 1, iM 10 43]))))
def ir60 : IFun :=
  ⟨44, [(.tmp 2)], (.seq (.ops [oI 1 (.box 27 (tI 0)), iE 2 false]) (.seq (.ops [⟨(.some 6), .mkMap, .none⟩, iM 3 6]) (.seq (.seq (.ops [iF 7 4 1, iL 8 1 7, iN 9 8, iC 10 0]) (.block 0 (.loop [1, 3, 8, 9, 10] ir60_l0))) (.seq (.ops [iE 2 true]) .ret))))⟩
theorem ir60_ok : compFn prog (shOf sh []) [[1, 3, 8, 9, 10]] f60 = some ir60 := by kernel_rfl
def ir61 : IFun :=
  ⟨15, [(.tmp 2)], (.seq (.ops [oI 1 (.box 89 (tI 0)), oI 2 (.nilrow 46 4)]) (.seq (.ops [iL 4 1 1, oI 5 (.nilChk (tI 4)), iF 6 0 5, iF 7 0 6, iL 8 1 7, iN 9 8, oI 10 (.makeS 46 4 32 [zU, zU, zU, zU] (tI 9) (tI 9)), oI 3 (.alloc 63 [(.r 46 4)]), gN (jV 1 3 10)]) (.seq (.ops [iL 11 1 1, oI 12 (.mkfn 75 [(tI 1), (tI 3)]), oI 13 (.call .true (.c (.fn 46 [])) [(tI 11), (tI 12)])]) (.seq (.ops [iL 14 1 3, iM 2 14]) .ret))))⟩
theorem ir61_ok : compFn prog (shOf sh []) [] f61 = some ir61 := by kernel_rfl
def ir62 : IFun :=
  ⟨53, [(.tmp 2), (.tmp 3)], (.seq (.ops [oI 1 (.box 89 (tI 0)), oI 2 (.nilrow 46 4), oI 3 (.nilrow 4 1)]) (.seq (.ops [iL 9 1 1, iK 10 61 9, oI 4 (.alloc 63 [(.r 46 4)]), gN (jV 1 4 10)]) (.seq (.ops [oI 11 (.mkfn 77 [(tI 1)]), oI 5 (.alloc 100 [(.z (.val .nilFunc))]), gN (jV 1 5 11)]) (.seq (.ops [iL 12 1 1, iL 13 1 5, oI 14 (.call .true (.c (.fn 53 [])) [(tI 12), (tI 13)]), oI 6 (.alloc 56 [(.r 4 1)]), gN (jV 1 6 14)]) (.seq (.opsR 6 [(.mk (iL 15 1 1) 0 0 []), (.mk (oI 16 (.nilChk (tI 15))) 0 0 []), (.mk (iF 17 0 16) 0 0 []), (.mk (iF 18 0 17) 0 0 []), (.mk (iL 19 1 18) 0 0 []), (.mk (iN 20 19) 0 0 []), (.mk (oI 21 (.makeS 46 4 32 [zU, zU, zU, zU] (tI 20) (tI 20))) 0 1 []), (.mk (iL 22 1 1) 1 0 [0, 4, 6]), (.mk (oI 23 (.nilChk (tI 22))) 1 0 []), (.mk (iF 24 0 23) 1 0 []), (.mk (iF 25 0 24) 1 0 []), (.mk (iL 26 1 25) 1 0 [0, 4, 6]), (.mk (iN 27 26) 1 0 []), (.mk (oI 28 (.makeS 4 1 1 [(.val (.bool .false))] (tI 27) (tI 27))) 1 1 [0, 4, 6]), (.mk (oI 7 (.alloc 63 [(.r 46 4)])) 2 2 [0, 4, 6, 7, 11, 13]), (.mk (oI 8 (.alloc 56 [(.r 4 1)])) 4 2 [0, 4, 6, 7, 11, 13, 14]), (.mk (gN (jV 1 7 21)) 6 0 [7, 11, 13]), (.mk (gN (jV 1 8 28)) 6 0 [])]) (.seq (.ops [iL 29 1 8, iL 30 1 1, oI 31 (.nilChk (tI 30)), iF 32 0 31, iF 33 2 32, iL 34 1 33, iL 35 1 1, oI 36 (.nilChk (tI 35)), iF 37 5 36, iL 38 1 37, iL 39 1 1, oI 40 (.nilChk (tI 39)), iF 41 0 40, iF 42 2 41, iL 43 1 42, iX 44 1 38 43, iL 45 1 44, iD 46 .geq 45 0, iX 47 1 29 34, gN (jV 1 47 46)]) (.seq (.ops [iL 48 1 1, oI 49 (.mkfn 78 [(tI 6), (tI 5), (tI 1), (tI 7), (tI 8), (tI 4)]), oI 50 (.call .true (.c (.fn 46 [])) [(tI 48), (tI 49)])]) (.seq (.ops [iL 51 1 7, iL 52 1 8, iM 2 51, iM 3 52]) .ret))))))))⟩
theorem ir62_ok : compFn prog (shOf sh []) [] f62 = some ir62 := by kernel_rfl
def ir69 : IFun :=
  ⟨45, [(.tmp 3)], (.seq (.ops [oI 2 (.box 53 (tI 0)), iE 3 false]) (.seq (.ops [iL 6 1 1, iT 7 7 2, oI 8 (.call .false (.c (.fn 48 [])) [(tI 6), (tI 7)]), iM 4 8]) (.seq (.ops [iL 9 1 1, oI 10 (.nilChk (tI 9)), iF 11 5 10, iL 12 1 11, iF 13 0 2, iL 14 1 13, iX 15 1 12 14, iL 16 1 15, iM 5 16]) (.seq (.seq (.ops [iM 17 4, iD 18 .lss 17 0, iM 19 18, gF 20 19 (jM 5), gF 21 19 (jD .geq 20 0), gF 22 19 (jM 21), gT 23 22 (jM 5), gT 24 22 (jM 4), gT 25 22 (jB .leq 23 24), gF 26 19 (jQ 22 25), iP 27 19 26]) (.cond (tI 27) (.seq (.ops [iE 3 false]) .ret) .skip)) (.seq (.ops [iL 28 1 1, oI 29 (.nilChk (tI 28)), iF 30 5 29, iL 31 1 30, iF 32 0 2, iL 33 1 32, iM 34 4, iX 35 1 31 33, gN (jV 1 35 34)]) (.seq (.ops [iL 36 1 1, oI 37 (.nilChk (tI 36)), iF 38 6 37, iL 39 1 38, iF 40 0 2, iL 41 1 40, iM 42 4, iD 43 .eql 42 0, iX 44 1 39 41, gN (jV 1 44 43)]) (.seq (.ops [iE 3 true]) .ret)))))))⟩
theorem ir69_ok : compFn prog (shOf sh []) [] f69 = some ir69 := by kernel_rfl
def ir70 : IFun :=
  ⟨4, [(.tmp 2)], (.seq (.ops [oI 1 (.box 46 (tI 0)), oI 2 (.mv (.c (.p (.val .nilFunc))))]) (.seq (.ops [oI 3 (.mkfn 82 [(tI 1)]), iM 2 3]) .ret))⟩
theorem ir70_ok : compFn prog (shOf sh []) [] f70 = some ir70 := by kernel_rfl
def ir72_l0 : IC :=
  (.seq (.ops [iB 12 .lss 11 10]) (.seq (.cond (tI 12) .skip (.exit 0)) (.seq (.block 1 (.seq (.ops [iX 13 6 9 11, iT 14 6 13, oI 7 (.alloc 48 [zZ, (.z zU), (.z zU), (.z zU), (.z zU), zZ]), gN (jV 6 7 14)]) (.seq (.ops [iF 15 0 7, iL 16 1 15, iD 17 .eql 16 1, iM 18 17, gT 19 18 (jL 1 1), gT 20 18 (jF 0 3), gT 21 18 (jL 1 20), gT 22 18 (jX 1 19 21), gT 23 18 (jL 1 22), iQ 24 18 23, iM 25 24, gT 26 25 (jL 1 2), gT 27 25 (jT 7 3), gT 28 25 (.call .true (tI 26) [(tI 27)]), iQ 29 25 28, iM 30 29, gT 31 30 (jL 1 1), gT 32 30 (jF 5 7), gT 33 30 (jL 1 32), gT 34 30 (jX 1 31 33), gT 35 30 (jL 1 34), gT 36 30 (jU 35), iQ 37 30 36]) (.cond (tI 37) (.seq (.ops [iL 38 1 1, iF 39 5 7, iL 40 1 39, iX 41 1 38 40, gN (.store 1 (tI 41) (cB true))]) (.ops [iE 5 true])) .skip)))) (.ops [iD 42 .add 11 1, iM 11 42]))))
def ir72 : IFun :=
  ⟨44, [(.tmp 4)], (.seq (.ops [oI 3 (.box 53 (tI 0)), iE 4 false]) (.seq (.ops [iE 5 false]) (.seq (.seq (.ops [iF 8 1 3, iL 9 1 8, iN 10 9, iC 11 0]) (.block 0 (.loop [1, 2, 3, 5, 9, 10, 11] ir72_l0))) (.seq (.ops [iM 43 5, iM 4 43]) .ret))))⟩
theorem ir72_ok : compFn prog (shOf sh []) [[1, 2, 3, 5, 9, 10, 11]] f72 = some ir72 := by kernel_rfl
def ir73 : IFun :=
  ⟨13, [(.tmp 3)], (.seq (.ops [iE 3 false]) (.seq (.ops [iM 4 0, iD 5 .geq 4 0, iM 6 5, gT 7 6 (jM 0), gT 8 6 (jF 0 1), gT 9 6 (jL 1 8), gT 10 6 (jN 9), gT 11 6 (jB .lss 7 10), iQ 12 6 11, iM 3 12]) .ret))⟩
theorem ir73_ok : compFn prog (shOf sh []) [] f73 = some ir73 := by kernel_rfl
def ir74 : IFun :=
  ⟨22, [(.tmp 3)], (.seq (.ops [iE 3 false]) (.seq (.ops [iM 4 0, iD 5 .geq 4 0, iM 6 5, gT 7 6 (jM 0), gT 8 6 (jF 1 1), gT 9 6 (jL 1 8), gT 10 6 (jN 9), gT 11 6 (jB .lss 7 10), iQ 12 6 11, iM 13 12, gT 14 13 (jF 1 1), gT 15 13 (jL 1 14), gT 16 13 (jM 0), gT 17 13 (jX 7 15 16), gT 18 13 (jF 3 17), gT 19 13 (jL 1 18), gT 20 13 (jD .neq 19 11), iQ 21 13 20, iM 3 21]) .ret))⟩
theorem ir74_ok : compFn prog (shOf sh []) [] f74 = some ir74 := by kernel_rfl
def ir75_l0 : IC :=
  (.seq (.ops [iB 21 .lss 20 19]) (.seq (.cond (tI 21) .skip (.exit 0)) (.seq (.block 1 (.seq (.ops [iX 22 6 18 20, iT 23 6 22, oI 7 (.alloc 48 [zZ, (.z zU), (.z zU), (.z zU), (.z zU), zZ]), gN (jV 6 7 23)]) (.seq (.seq (.ops [iF 24 0 7, iL 25 1 24, iD 26 .eql 25 0]) (.cond (tI 26) (.seq (.ops [iL 27 1 2, iF 28 0 3, iL 29 1 28, iL 30 1 2, iF 31 0 3, iL 32 1 31, iX 33 4 30 32, iT 34 4 33, iF 35 1 7, iT 36 4 35, oI 37 (.buildS 46 4 [zU, zU, zU, zU] 2 [(0, (tI 34)), (1, (tI 36))]), iK 38 76 37, iX 39 4 27 29, gN (jV 4 39 38)]) (.exit 0)) .skip)) (.seq (.ops [iL 40 1 2, iF 41 0 3, iL 42 1 41, iL 43 1 2, iF 44 0 3, iL 45 1 44, iX 46 4 43 45, iT 47 4 46, iL 48 1 2, iF 49 5 7, iL 50 1 49, iX 51 4 48 50, iT 52 4 51, oI 53 (.buildS 46 4 [zU, zU, zU, zU] 2 [(0, (tI 47)), (1, (tI 52))]), iK 54 76 53, iX 55 4 40 42, gN (jV 4 55 54)]) (.seq (.ops [iL 56 1 1, iT 57 6 7, oI 58 (.call .false (.c (.fn 55 [])) [(tI 56), (tI 57)]), iU 59 58]) (.cond (tI 59) (.exit 0) .skip)))))) (.ops [iD 60 .add 20 1, iM 20 60]))))
def ir75 : IFun :=
  ⟨68, [(.tmp 4)], (.seq (.ops [oI 3 (.box 53 (tI 0)), iE 4 false]) (.seq (.seq (.ops [iL 8 1 1, iT 9 7 3, oI 10 (.call .false (.c (.fn 48 [])) [(tI 8), (tI 9)]), iD 11 .lss 10 0]) (.cond (tI 11) (.seq (.ops [iE 4 false]) .ret) .skip)) (.seq (.ops [iL 12 1 2, iF 13 0 3, iL 14 1 13, iX 15 4 12 14, iT 16 4 15, oI 5 (.alloc 46 [(.z zU), (.z zU), (.z zU), (.z zU)]), gN (jV 4 5 16)]) (.seq (.seq (.ops [iF 17 1 3, iL 18 1 17, iN 19 18, iC 20 0]) (.block 0 (.loop [1, 2, 3, 5, 18, 19, 20] ir75_l0))) (.seq (.ops [iL 61 1 2, iF 62 0 3, iL 63 1 62, iX 64 4 61 63, iT 65 4 64, iT 66 4 5, oI 67 (.eqA .true [1, 1, 1, 1] .true (tI 65) (tI 66)), iM 4 67]) .ret)))))⟩
theorem ir75_ok : compFn prog (shOf sh []) [[1, 2, 3, 5, 18, 19, 20]] f75 = some ir75 := by kernel_rfl
def ir76_l0 : IC :=
  (.seq (.ops [iD 14 .lss 13 4]) (.seq (.cond (tI 14) .skip (.exit 2)) (.seq (.block 3 (.seq (.ops [iM 15 13, iM 6 15]) (.ops [iM 16 6, oI 17 (.indexA (.some 4) 1 (tI 3) (tI 16)), iL 18 1 17, iM 19 6, oI 20 (.indexA (.some 4) 1 (tI 5) (tI 19)), iL 21 1 20, iB 22 .or 18 21, oI 23 (.indexA (.some 4) 1 (tI 3) (tI 16)), gN (jV 1 23 22)]))) (.ops [iD 24 .add 13 1, iM 13 24]))))
def ir76_l1 : IC :=
  (.seq (.ops [iB 10 .lss 9 8]) (.seq (.cond (tI 10) .skip (.exit 0)) (.seq (.block 1 (.seq (.ops [iX 11 4 7 9, iT 12 4 11, oI 5 (.alloc 46 [(.z zU), (.z zU), (.z zU), (.z zU)]), gN (jV 4 5 12)]) (.seq (.ops [iC 13 0]) (.block 2 (.loop [2, 3, 5, 7, 8, 9, 13] ir76_l0))))) (.ops [iD 25 .add 9 1, iM 9 25]))))
def ir76 : IFun :=
  ⟨27, [(.cell 2 .true 4)], (.seq (.ops [oI 2 (.alloc 46 [(.z zU), (.z zU), (.z zU), (.z zU)])]) (.seq (.ops [oI 3 (.alloc 46 [(.z zU), (.z zU), (.z zU), (.z zU)])]) (.seq (.seq (.ops [iM 7 0, iN 8 7, iC 9 0]) (.block 0 (.loop [2, 3, 7, 8, 9] ir76_l1))) (.seq (.ops [iT 26 4 3, gN (jV 4 2 26)]) .ret))))⟩
theorem ir76_ok : compFn prog (shOf sh []) [[2, 3, 7, 8, 9], [2, 3, 5, 7, 8, 9, 13]] f76 = some ir76 := by kernel_rfl
def ir77 : IFun :=
  ⟨8, [(.tmp 3)], (.seq (.ops [oI 2 (.box 53 (tI 0)), iE 3 false]) (.seq (.ops [iL 4 1 1, iT 5 7 2, oI 6 (.call .false (.c (.fn 48 [])) [(tI 4), (tI 5)]), iD 7 .geq 6 0, iM 3 7]) .ret))⟩
theorem ir77_ok : compFn prog (shOf sh []) [] f77 = some ir77 := by kernel_rfl
def ir78_l0 : IC :=
  (.seq (.seq (.ops [iM 55 12, iD 56 .geq 55 0]) (.cond (tI 56) .skip (.exit 0))) (.seq (.block 1 (.seq (.ops [iF 59 1 7, iL 60 1 59, iM 61 12, iX 62 6 60 61, iT 63 6 62, oI 13 (.alloc 48 [zZ, (.z zU), (.z zU), (.z zU), (.z zU), zZ]), gN (jV 6 13 63)]) (.seq (.seq (.ops [iF 64 0 13, iL 65 1 64, iD 66 .eql 65 0]) (.cond (tI 66) (.seq (.ops [iF 67 1 13, iT 68 4 67, gN (jV 4 10 68), iE 11 false]) (.exit 1)) .skip)) (.seq (.opsR 1 [(.mk (iL 69 1 4) 0 0 []), (.mk (iF 70 5 13) 0 0 []), (.mk (iL 71 1 70) 0 0 [0]), (.mk (iX 72 4 69 71) 0 0 []), (.mk (iT 73 4 72) 0 0 []), (.mk (iT 74 4 10) 0 0 [0, 2, 4]), (.mk (oI 75 (.buildL 4 [zU, zU, zU, zU] 2 [(0, (tI 73)), (1, (tI 74))])) 0 0 []), (.mk (iK 76 76 75) 0 0 []), (.mk (oI 14 (.alloc 46 [(.z zU), (.z zU), (.z zU), (.z zU)])) 0 1 [0, 2, 4, 5, 7]), (.mk (gN (jV 4 14 76)) 1 0 [])]) (.seq (.ops [iM 77 9, iM 78 77, gF 79 78 (jT 4 14), gF 80 78 (jL 1 4), gF 81 78 (jF 5 13), gF 82 78 (jL 1 81), gF 83 78 (jX 4 80 82), gF 84 78 (jT 4 83), gF 85 78 (.eqA .true [1, 1, 1, 1] .true (tI 79) (tI 84)), iP 86 78 85, iM 87 86, gF 88 87 (jM 11), gF 89 87 (jM 88), gT 90 89 (jL 1 5), gT 91 89 (jF 5 13), gT 92 89 (jL 1 91), gT 93 89 (jX 1 90 92), gT 94 89 (jL 1 93), gT 95 89 (jU 94), gF 96 87 (jQ 89 95), iP 97 87 96, iM 9 97]) (.seq (.ops [iL 98 1 4, iF 99 5 13, iL 100 1 99, iT 101 4 14, iX 102 4 98 100, gN (jV 4 102 101)]) (.seq (.ops [iL 103 1 5, iF 104 5 13, iL 105 1 104, iL 106 1 5, iF 107 5 13, iL 108 1 107, iX 109 1 106 108, iL 110 1 109, iM 111 110, gF 112 111 (jM 11), iP 113 111 112, iX 114 1 103 105, gN (jV 1 114 113)]) (.seq (.seq (.ops [iL 115 1 3, iT 116 6 13, oI 117 (.call .false (.c (.fn 55 [])) [(tI 115), (tI 116)])]) (.cond (tI 117) (.seq (.ops [iT 118 4 10, iL 119 1 6, iF 120 5 13, iL 121 1 120, iX 122 4 119 121, iT 123 4 122, oI 124 (.buildL 4 [zU, zU, zU, zU] 2 [(0, (tI 118)), (1, (tI 123))]), iK 125 76 124, gN (jV 4 10 125)]) (.exit 1)) .skip)) (.ops [iL 126 1 6, iF 127 5 13, iL 128 1 127, iX 129 4 126 128, iT 130 4 129, gN (jV 4 10 130), iE 11 false]))))))))) (.ops [iM 57 12, iD 58 .sub 57 1, iM 12 58])))
def ir78 : IFun :=
  ⟨132, [(.tmp 8)], (.seq (.ops [oI 7 (.box 53 (tI 0)), iE 8 false]) (.seq (.seq (.ops [iL 15 1 1, iF 16 0 7, iL 17 1 16, iX 18 1 15 17, iL 19 1 18, iU 20 19, iM 21 20, gF 22 21 (jL 1 2), gF 23 21 (jT 7 7), gF 24 21 (.call .true (tI 22) [(tI 23)]), gF 25 21 (jU 24), iP 26 21 25, iM 27 26, gF 28 27 (jL 1 3), gF 29 27 (.nilChk (tI 28)), gF 30 27 (jF 5 29), gF 31 27 (jL 1 30), gF 32 27 (jL 1 3), gF 33 27 (.nilChk (tI 32)), gF 34 27 (jF 0 33), gF 35 27 (jF 2 34), gF 36 27 (jL 1 35), gF 37 27 (jX 1 31 36), gF 38 27 (jL 1 37), gF 39 27 (jD .lss 38 0), iP 40 27 39]) (.cond (tI 40) (.seq (.ops [iE 8 false]) .ret) .skip)) (.seq (.ops [iE 9 false]) (.seq (.opsR 1 [(.mk (iL 41 1 4) 0 0 []), (.mk (iF 42 0 7) 0 0 []), (.mk (iL 43 1 42) 0 0 [0]), (.mk (iX 44 4 41 43) 0 0 []), (.mk (iT 45 4 44) 0 0 []), (.mk (iL 46 1 5) 0 0 [0, 2, 4]), (.mk (iF 47 0 7) 0 0 []), (.mk (iL 48 1 47) 0 0 [0, 2, 4, 5]), (.mk (iX 49 1 46 48) 0 0 []), (.mk (iL 50 1 49) 0 0 [0, 2, 4]), (.mk (oI 10 (.alloc 46 [(.z zU), (.z zU), (.z zU), (.z zU)])) 0 1 [0, 2, 4, 5, 7, 9]), (.mk (gN (jV 4 10 45)) 1 0 [5, 7, 9]), (.mk (iM 11 50) 1 0 [])]) (.seq (.seq (.ops [iF 51 1 7, iL 52 1 51, iN 53 52, iD 54 .sub 53 1, iM 12 54]) (.block 0 (.loop [3, 4, 5, 6, 7, 9, 10, 11, 12] ir78_l0))) (.seq (.ops [iM 131 9, iM 8 131]) .ret))))))⟩
theorem ir78_ok : compFn prog (shOf sh [75, 124]) [[3, 4, 5, 6, 7, 9, 10, 11, 12]] f78 = some ir78 := by kernel_rfl
def ir82_l0 : IC :=
  (.seq (.seq (.ops [iM 10 4, oI 11 (.bin .neq (tI 10) (.c (.p zU)))]) (.cond (tI 11) .skip (.exit 2))) (.seq (.block 3 (.seq (.ops [iM 16 0, iM 17 3, oI 18 (.bin .shl (tI 17) (.c (.p (.val (.int .u64 6))))), iM 19 4, iK 20 83 19, iB 21 .add 18 20, oI 22 (.convI .u8 (tI 21)), oI 23 (.call .true (tI 16) [(tI 22)]), iU 24 23]) (.cond (tI 24) .ret .skip))) (.ops [iM 12 4, iM 13 4, oI 14 (.bin .sub (tI 13) (.c (.p (.val (.int .u64 1))))), iB 15 .and 12 14, iM 4 15])))
def ir82_l1 : IC :=
  (.seq (.ops [iD 7 .lss 6 4]) (.seq (.cond (tI 7) .skip (.exit 0)) (.seq (.block 1 (.seq (.ops [iM 8 6, oI 9 (.index .false 4 1 (tI 5) (tI 6)), iM 3 8, iM 4 9]) (.block 2 (.loop [0, 3, 4, 5, 6] ir82_l0)))) (.ops [iD 25 .add 6 1, iM 6 25]))))
def ir82 : IFun :=
  ⟨26, [], (.seq (.ops [iT 5 4 1, iC 6 0]) (.block 0 (.loop [0, 5, 6] ir82_l1)))⟩
theorem ir82_ok : compFn prog (shOf sh []) [[0, 5, 6], [0, 3, 4, 5, 6]] f82 = some ir82 := by kernel_rfl
def ir83 : IFun :=
  ⟨14, [(.tmp 2)], (.seq (.ops [iC 2 0]) (.seq (.seq (.ops [iM 3 0, oI 4 (.bin .eql (tI 3) (.c (.p zU)))]) (.cond (tI 4) (.seq (.ops [iC 2 64]) .ret) .skip)) (.seq (.ops [iM 5 0, iM 6 0, oI 7 (.un .neg (tI 6)), iB 8 .and 5 7, oI 9 (.bin .mul (tI 8) (.c (.p (.val (.int .u64 285870213051353865))))), oI 10 (.bin .shr (tI 9) (.c (.p (.val (.int .u64 58))))), oI 11 (.indexA (.some 64) 1 (.g 0) (tI 10)), iL 12 1 11, oI 13 (.convI .i64 (tI 12)), iM 2 13]) .ret)))⟩
theorem ir83_ok : compFn prog (shOf sh []) [] f83 = some ir83 := by kernel_rfl
def fns : Nat → Option IFun
  | 7 => some ir7
  | 10 => some ir10
  | 11 => some ir11
  | 13 => some ir13
  | 14 => some ir14
  | 15 => some ir15
  | 18 => some ir18
  | 19 => some ir19
  | 22 => some ir22
  | 23 => some ir23
  | 29 => some ir29
  | 30 => some ir30
  | 32 => some ir32
  | 40 => some ir40
  | 45 => some ir45
  | 46 => some ir46
  | 47 => some ir47
  | 48 => some ir48
  | 49 => some ir49
  | 53 => some ir53
  | 54 => some ir54
  | 55 => some ir55
  | 57 => some ir57
  | 58 => some ir58
  | 59 => some ir59
  | 60 => some ir60
  | 61 => some ir61
  | 62 => some ir62
  | 69 => some ir69
  | 70 => some ir70
  | 72 => some ir72
  | 73 => some ir73
  | 74 => some ir74
  | 75 => some ir75
  | 76 => some ir76
  | 77 => some ir77
  | 78 => some ir78
  | 82 => some ir82
  | 83 => some ir83
  | _ => none
theorem fns_ok : ∀ f F, fns f = some F → ∃ shf fd ann, prog.funcs[f]? = some fd ∧ compFn prog shf ann fd = some F := by
  intro f F h
  unfold fns at h
  split at h
  · injection h with h; subst h; exact ⟨_, _, _, func7, ir7_ok⟩
  · injection h with h; subst h; exact ⟨_, _, _, func10, ir10_ok⟩
  · injection h with h; subst h; exact ⟨_, _, _, func11, ir11_ok⟩
  · injection h with h; subst h; exact ⟨_, _, _, func13, ir13_ok⟩
  · injection h with h; subst h; exact ⟨_, _, _, func14, ir14_ok⟩
  · injection h with h; subst h; exact ⟨_, _, _, func15, ir15_ok⟩
  · injection h with h; subst h; exact ⟨_, _, _, func18, ir18_ok⟩
  · injection h with h; subst h; exact ⟨_, _, _, func19, ir19_ok⟩
  · injection h with h; subst h; exact ⟨_, _, _, func22, ir22_ok⟩
  · injection h with h; subst h; exact ⟨_, _, _, func23, ir23_ok⟩
  · injection h with h; subst h; exact ⟨_, _, _, func29, ir29_ok⟩
  · injection h with h; subst h; exact ⟨_, _, _, func30, ir30_ok⟩
  · injection h with h; subst h; exact ⟨_, _, _, func32, ir32_ok⟩
  · injection h with h; subst h; exact ⟨_, _, _, func40, ir40_ok⟩
  · injection h with h; subst h; exact ⟨_, _, _, func45, ir45_ok⟩
  · injection h with h; subst h; exact ⟨_, _, _, func46, ir46_ok⟩
  · injection h with h; subst h; exact ⟨_, _, _, func47, ir47_ok⟩
  · injection h with h; subst h; exact ⟨_, _, _, func48, ir48_ok⟩
  · injection h with h; subst h; exact ⟨_, _, _, func49, ir49_ok⟩
  · injection h with h; subst h; exact ⟨_, _, _, func53, ir53_ok⟩
  · injection h with h; subst h; exact ⟨_, _, _, func54, ir54_ok⟩
  · injection h with h; subst h; exact ⟨_, _, _, func55, ir55_ok⟩
  · injection h with h; subst h; exact ⟨_, _, _, func57, ir57_ok⟩
  · injection h with h; subst h; exact ⟨_, _, _, func58, ir58_ok⟩
  · injection h with h; subst h; exact ⟨_, _, _, func59, ir59_ok⟩
  · injection h with h; subst h; exact ⟨_, _, _, func60, ir60_ok⟩
  · injection h with h; subst h; exact ⟨_, _, _, func61, ir61_ok⟩
  · injection h with h; subst h; exact ⟨_, _, _, func62, ir62_ok⟩
  · injection h with h; subst h; exact ⟨_, _, _, func69, ir69_ok⟩
  · injection h with h; subst h; exact ⟨_, _, _, func70, ir70_ok⟩
  · injection h with h; subst h; exact ⟨_, _, _, func72, ir72_ok⟩
  · injection h with h; subst h; exact ⟨_, _, _, func73, ir73_ok⟩
  · injection h with h; subst h; exact ⟨_, _, _, func74, ir74_ok⟩
  · injection h with h; subst h; exact ⟨_, _, _, func75, ir75_ok⟩
  · injection h with h; subst h; exact ⟨_, _, _, func76, ir76_ok⟩
  · injection h with h; subst h; exact ⟨_, _, _, func77, ir77_ok⟩
  · injection h with h; subst h; exact ⟨_, _, _, func78, ir78_ok⟩
  · injection h with h; subst h; exact ⟨_, _, _, func82, ir82_ok⟩
  · injection h with h; subst h; exact ⟨_, _, _, func83, ir83_ok⟩
  · cases h
end Go.Proofs.Tryd
