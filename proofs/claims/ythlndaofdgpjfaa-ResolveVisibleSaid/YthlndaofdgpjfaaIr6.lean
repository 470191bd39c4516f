/- The instructions of the functions, as the program has them. -/
import Derived.Test.YthlndaofdgpjfaaProg
import Derived.Test.YthlndaofdgpjfaaVD
namespace Go.Proofs.Try
open Go Go.Vs
def oI (d : Nat) (i : Ins) : IOp := ⟨some d, i, none⟩
def cI (n : Int) : Opd := .c (.p (.val (.int .i64 n)))
def cB (b : Bool) : Opd := .c (.p (.val (.bool b)))
def zZ : ZC := .z (.val (.int .i64 0))
abbrev tI (n : Nat) : Opd := .t n
def jM (a : Nat) : Ins := .mv (.t a)
def iM (d : Nat) (a : Nat) : IOp := ⟨some d, jM a, none⟩
def jC (a : Int) : Ins := .mv (cI a)
def iC (d : Nat) (a : Int) : IOp := ⟨some d, jC a, none⟩
def jE (a : Bool) : Ins := .mv (cB a)
def iE (d : Nat) (a : Bool) : IOp := ⟨some d, jE a, none⟩
def jL (s a : Nat) : Ins := .load false s (.t a)
def iL (d : Nat) (s a : Nat) : IOp := ⟨some d, jL s a, none⟩
def jT (s a : Nat) : Ins := .load true s (.t a)
def iT (d : Nat) (s a : Nat) : IOp := ⟨some d, jT s a, none⟩
def jF (k a : Nat) : Ins := .fieldA k (.t a)
def iF (d : Nat) (k a : Nat) : IOp := ⟨some d, jF k a, none⟩
def jX (s a b : Nat) : Ins := .indexA none s (.t a) (.t b)
def iX (d : Nat) (s a b : Nat) : IOp := ⟨some d, jX s a b, none⟩
def jN (a : Nat) : Ins := .len (.t a)
def iN (d : Nat) (a : Nat) : IOp := ⟨some d, jN a, none⟩
def jB (o : BinOp) (a b : Nat) : Ins := .bin o (.t a) (.t b)
def iB (d : Nat) (o : BinOp) (a b : Nat) : IOp := ⟨some d, jB o a b, none⟩
def jD (o : BinOp) (a : Nat) (n : Int) : Ins := .bin o (.t a) (cI n)
def iD (d : Nat) (o : BinOp) (a : Nat) (n : Int) : IOp := ⟨some d, jD o a n, none⟩
def jP (a b : Nat) : Ins := .pick (.t a) (cB true) (.t b)
def iP (d : Nat) (a b : Nat) : IOp := ⟨some d, jP a b, none⟩
def jQ (a b : Nat) : Ins := .pick (.t a) (.t b) (cB false)
def iQ (d : Nat) (a b : Nat) : IOp := ⟨some d, jQ a b, none⟩
def jU (a : Nat) : Ins := .un .not (.t a)
def iU (d : Nat) (a : Nat) : IOp := ⟨some d, jU a, none⟩
def jK (f a : Nat) : Ins := .call false (.c (.fn f [])) [.t a]
def iK (d : Nat) (f a : Nat) : IOp := ⟨some d, jK f a, none⟩
def jV (s a b : Nat) : Ins := .store s (.t a) (.t b)
def gT (d g : Nat) (i : Ins) : IOp := ⟨some d, i, some (g, true)⟩
def gF (d g : Nat) (i : Ins) : IOp := ⟨some d, i, some (g, false)⟩
def gN (i : Ins) : IOp := ⟨none, i, none⟩
def z6 : PV := .val (.int .i64 0)
def zU : PV := .val (.int .u64 0)
def zN : AV := .p (.val (.slice none 0 0))
def zM : PV := .val (.slice none 0 0)
def sh : List Nat := [23, 24, 25, 28, 29, 32, 34, 35, 36, 37]
def ir6_l0 : IC :=
  (.seq (.seq (.ops [iM 262 25, iM 263 9, iN 264 263, iB 265 .lss 262 264]) (.cond (tI 265) .skip (.exit 12))) (.seq (.block 13 (.seq (.ops [iM 268 9, iM 269 25, iD 270 .sub 269 1, iX 271 1 268 270, iL 272 1 271, iM 273 9, iM 274 25, iX 275 1 273 274, iL 276 1 275, iB 277 .geq 272 276]) (.cond (tI 277) (.seq (.ops [iE 4 false]) .ret) .skip))) (.ops [iM 266 25, iD 267 .add 266 1, iM 25 267])))
def ir6_l1 : IC :=
  (.seq (.seq (.ops [iM 240 24, iM 241 9, iN 242 241, iB 243 .lss 240 242]) (.cond (tI 243) .skip (.exit 10))) (.seq (.block 11 (.ops [iM 246 23, iM 247 246, gF 248 247 (jM 9), gF 249 247 (jM 24), gF 250 247 (jX 1 248 249), gF 251 247 (jL 1 250), gF 252 247 (jF 2 2), gF 253 247 (jL 1 252), gF 254 247 (jM 22), gF 255 247 (jX 5 253 254), gF 256 247 (jF 1 255), gF 257 247 (jL 1 256), gF 258 247 (jB .eql 251 257), iP 259 247 258, iM 23 259])) (.ops [iM 244 24, iD 245 .add 244 1, iM 24 245])))
def ir6_l2 : IC :=
  (.seq (.seq (.ops [iM 233 22, iF 234 2 2, iL 235 1 234, iN 236 235, iB 237 .lss 233 236]) (.cond (tI 237) .skip (.exit 8))) (.seq (.block 9 (.seq (.ops [iE 23 false]) (.seq (.seq (.ops [iC 24 0]) (.block 10 (.loop [2, 9, 22, 23, 24] ir6_l1))) (.seq (.ops [iM 260 23, iU 261 260]) (.cond (tI 261) (.seq (.ops [iE 4 false]) .ret) .skip))))) (.ops [iM 238 22, iD 239 .add 238 1, iM 22 239])))
def ir6_l3 : IC :=
  (.seq (.seq (.ops [iM 215 21, iM 216 9, iN 217 216, iB 218 .lss 215 217]) (.cond (tI 218) .skip (.exit 6))) (.seq (.block 7 (.ops [iM 221 20, iM 222 221, gF 223 222 (jM 9), gF 224 222 (jM 21), gF 225 222 (jX 1 223 224), gF 226 222 (jL 1 225), gF 227 222 (jF 1 17), gF 228 222 (jL 1 227), gF 229 222 (jB .eql 226 228), iP 230 222 229, iM 20 230])) (.ops [iM 219 21, iD 220 .add 219 1, iM 21 220])))
def ir6_l4 : IC :=
  (.seq (.seq (.ops [iM 187 19, iM 188 7, iN 189 188, iB 190 .lss 187 189]) (.cond (tI 190) .skip (.exit 4))) (.seq (.block 5 (.ops [iM 193 18, iM 194 193, gF 195 194 (jM 7), gF 196 194 (jM 19), gF 197 194 (jX 1 195 196), gF 198 194 (jL 1 197), gF 199 194 (jF 2 17), gF 200 194 (jL 1 199), gF 201 194 (jB .eql 198 200), iP 202 194 201, iM 18 202])) (.ops [iM 191 19, iD 192 .add 191 1, iM 19 192])))
def ir6_l5 : IC :=
  (.seq (.seq (.ops [iM 175 16, iF 176 1 2, iL 177 1 176, iN 178 177, iB 179 .lss 175 178]) (.cond (tI 179) .skip (.exit 2))) (.seq (.block 3 (.seq (.ops [iF 182 1 2, iL 183 1 182, iM 184 16, iX 185 5 183 184, iT 186 5 185, ⟨(.some 17), (.alloc 34 [zZ, (.z (.val (.string ⟨([] : List UInt8).toArray⟩))), (.z (.val (.string ⟨([] : List UInt8).toArray⟩))), zZ, zZ]), .none⟩, gN (jV 5 17 186)]) (.seq (.ops [iE 18 false]) (.seq (.seq (.ops [iC 19 0]) (.block 4 (.loop [2, 3, 7, 9, 16, 17, 18, 19] ir6_l4))) (.seq (.seq (.ops [iT 203 3 2, iF 204 0 3, iL 205 1 204, iF 206 1 3, iL 207 1 206, iF 208 2 17, iL 209 1 208, oI 210 (.call .false (.c (.fn 15 [])) [(tI 203), (tI 205), (tI 207), (tI 209)]), iN 211 210, iD 212 .gtr 211 0, iM 213 18, oI 214 (.eqA .false [0] .true (tI 212) (tI 213))]) (.cond (tI 214) (.seq (.ops [iE 4 false]) .ret) .skip)) (.seq (.ops [iE 20 false]) (.seq (.seq (.ops [iC 21 0]) (.block 6 (.loop [2, 3, 7, 9, 16, 17, 20, 21] ir6_l3))) (.seq (.ops [iM 231 20, iU 232 231]) (.cond (tI 232) (.seq (.ops [iE 4 false]) .ret) .skip))))))))) (.ops [iM 180 16, iD 181 .add 180 1, iM 16 181])))
def ir6_l6 : IC :=
  (.seq (.seq (.ops [iM 122 13, iM 123 7, iN 124 123, iB 125 .lss 122 124]) (.cond (tI 125) .skip (.exit 0))) (.seq (.block 1 (.seq (.ops [iT 129 3 2, iF 130 0 3, iL 131 1 130, iF 132 1 3, iL 133 1 132, iM 134 7, iM 135 13, iX 136 1 134 135, iL 137 1 136, oI 138 (.call .false (.c (.fn 16 [])) [(tI 129), (tI 131), (tI 133), (tI 137)]), iM 128 138, oI 139 (.extract (tI 128) 0), oI 140 (.extract (tI 128) 1), iM 14 139, iM 15 140]) (.seq (.seq (.ops [iM 141 13, iD 142 .gtr 141 0, iM 143 142, gT 144 143 (jM 7), gT 145 143 (jM 13), gT 146 143 (jD .sub 145 1), gT 147 143 (jX 1 144 146), gT 148 143 (jL 1 147), gT 149 143 (jM 7), gT 150 143 (jM 13), gT 151 143 (jX 1 149 150), gT 152 143 (jL 1 151), gT 153 143 (jB .geq 148 152), iQ 154 143 153, iM 155 154, gF 156 155 (jM 14), gF 157 155 (jN 156), gF 158 155 (jD .eql 157 0), iP 159 155 158]) (.cond (tI 159) (.seq (.ops [iE 4 false]) .ret) .skip)) (.ops [iM 160 12, iM 161 160, gF 162 161 (jM 7), gF 163 161 (jM 13), gF 164 161 (jX 1 162 163), gF 165 161 (jL 1 164), gF 166 161 (jF 2 3), gF 167 161 (jL 1 166), gF 168 161 (jB .eql 165 167), iP 169 161 168, iM 12 169])))) (.ops [iM 126 13, iD 127 .add 126 1, iM 13 127])))
def ir6 : IFun :=
  ⟨279, [(.tmp 4)], (.seq (.ops [oI 2 (.boxL (tI 0)), oI 3 (.boxL (tI 1)), iE 4 false]) (.seq (.seq (.ops [iT 26 3 2, iK 27 7 26, iU 28 27]) (.cond (tI 28) (.seq (.ops [oI 29 (.call .false (.c (.fn 8 [])) []), iM 4 29]) .ret) .skip)) (.seq (.ops [iT 31 3 2, iF 32 0 3, iL 33 1 32, iF 34 1 3, iL 35 1 34, iF 36 2 3, iL 37 1 36, oI 38 (.call .false (.c (.fn 16 [])) [(tI 31), (tI 33), (tI 35), (tI 37)]), iM 30 38, oI 39 (.extract (tI 30) 0), oI 40 (.extract (tI 30) 1), iM 5 39, iM 6 40]) (.seq (.ops [iT 42 3 2, iF 43 0 3, iL 44 1 43, iF 45 1 3, iL 46 1 45, oI 47 (.call .false (.c (.fn 17 [])) [(tI 42), (tI 44), (tI 46)]), iM 41 47, oI 48 (.extract (tI 41) 0), oI 49 (.extract (tI 41) 1), iM 7 48, iM 8 49]) (.seq (.ops [iT 51 3 2, iK 52 18 51, iM 50 52, oI 53 (.extract (tI 50) 0), oI 54 (.extract (tI 50) 1), iM 9 53, iM 10 54]) (.seq (.ops [iC 11 0]) (.seq (.seq (.ops [iT 55 3 2, iK 56 10 55, iU 57 56]) (.cond (tI 57) (.seq (.ops [iC 11 2]) (.seq (.ops [iM 58 9, iN 59 58, iD 60 .neq 59 0, iM 61 60, gF 62 61 (jM 10), gF 63 61 (jD .neq 62 2), iP 64 61 63]) (.cond (tI 64) (.seq (.ops [iE 4 false]) .ret) .skip))) (.seq (.ops [iF 65 0 3, iL 66 1 65, iD 67 .lss 66 0, iM 68 67, gF 69 68 (jF 0 3), gF 70 68 (jL 1 69), gF 71 68 (jF 0 2), gF 72 68 (jL 1 71), gF 73 68 (jN 72), gF 74 68 (jB .geq 70 73), iP 75 68 74]) (.cond (tI 75) (.ops [iC 11 4]) .skip)))) (.seq (.seq (.ops [iM 76 11, iD 77 .neq 76 0]) (.cond (tI 77) (.seq (.ops [iM 78 5, iN 79 78, iD 80 .eql 79 0, iM 81 80, gT 82 81 (jM 6), gT 83 81 (jM 11), gT 84 81 (jB .eql 82 83), iQ 85 81 84, iM 86 85, gT 87 86 (jM 7), gT 88 86 (jN 87), gT 89 86 (jD .eql 88 0), iQ 90 86 89, iM 91 90, gT 92 91 (jM 8), gT 93 91 (jM 11), gT 94 91 (jB .eql 92 93), iQ 95 91 94, iM 96 95, ⟨(.some 97), (.call .false (.c (.fn 8 [])) []), (.some (96, .true))⟩, iQ 98 96 97, iM 4 98]) .ret) .skip)) (.seq (.seq (.ops [iM 99 5, iT 100 3 2, iF 101 0 3, iL 102 1 101, iF 103 1 3, iL 104 1 103, iF 105 2 3, iL 106 1 105, oI 107 (.call .false (.c (.fn 15 [])) [(tI 100), (tI 102), (tI 104), (tI 106)]), oI 108 (.call .false (.c (.fn 14 [])) [(tI 99), (tI 107)]), iU 109 108, iM 110 109, gF 111 110 (jM 6), gF 112 110 (jD .neq 111 0), iP 113 110 112, iM 114 113, gF 115 114 (jM 8), gF 116 114 (jD .neq 115 0), iP 117 114 116, iM 118 117, gF 119 118 (jM 10), gF 120 118 (jD .neq 119 0), iP 121 118 120]) (.cond (tI 121) (.seq (.ops [iE 4 false]) .ret) .skip)) (.seq (.ops [iE 12 false]) (.seq (.seq (.ops [iC 13 0]) (.block 0 (.loop [2, 3, 5, 7, 9, 12, 13] ir6_l6))) (.seq (.seq (.ops [iM 170 12, iM 171 5, iN 172 171, iD 173 .gtr 172 0, oI 174 (.eqA .false [0] .true (tI 170) (tI 173))]) (.cond (tI 174) (.seq (.ops [iE 4 false]) .ret) .skip)) (.seq (.seq (.ops [iC 16 0]) (.block 2 (.loop [2, 3, 7, 9, 16] ir6_l5))) (.seq (.seq (.ops [iC 22 0]) (.block 8 (.loop [2, 9, 22] ir6_l2))) (.seq (.seq (.ops [iC 25 1]) (.block 12 (.loop [9, 25] ir6_l0))) (.seq (.ops [oI 278 (.call .false (.c (.fn 8 [])) []), iM 4 278]) .ret))))))))))))))))⟩
theorem ir6_ok : compFn prog (shOf sh [2, 3]) [[2, 3, 5, 7, 9, 12, 13], [2, 3, 7, 9, 16], [2, 3, 7, 9, 16, 17, 18, 19], [2, 3, 7, 9, 16, 17, 20, 21], [2, 9, 22], [2, 9, 22, 23, 24], [9, 25]] f6 = some ir6 := by kernel_rfl
def ir7 : IFun :=
  ⟨19, [(.tmp 2)], (.seq (.ops [oI 1 (.box 25 (tI 0)), iE 2 false]) (.seq (.ops [iF 3 0 1, iL 4 1 3, iN 5 4, iD 6 .leq 5 60, iM 7 6, gT 8 7 (jF 1 1), gT 9 7 (jL 1 8), gT 10 7 (jN 9), gT 11 7 (jD .leq 10 60), iQ 12 7 11, iM 13 12, gT 14 13 (jF 2 1), gT 15 13 (jL 1 14), gT 16 13 (jN 15), gT 17 13 (jD .leq 16 60), iQ 18 13 17, iM 2 18]) .ret))⟩
theorem ir7_ok : compFn prog (shOf sh []) [] f7 = some ir7 := by kernel_rfl
def ir8 : IFun :=
  ⟨126, [(.tmp 0)], (.seq (.ops [iE 0 false]) (.seq (.ops [⟨(.some 14), (.build [z6, z6] [(1, (1, (cI 9)))]), .none⟩, ⟨(.some 15), (.build [z6, z6, z6] [(0, (1, (cI (-1)))), (1, (2, (tI 14)))]), .none⟩, ⟨(.some 16), (.build [z6, z6] [(0, (1, (cI 2))), (1, (1, (cI 9)))]), .none⟩, oI 17 (.build [z6, z6, z6] [(1, (2, (tI 16)))]), oI 18 (.buildL 3 [z6, z6, z6] 2 [(0, (tI 15)), (1, (tI 17))]), ⟨(.some 19), (.build [z6, z6] [(1, (1, (cI 1)))]), .none⟩, ⟨(.some 20), (.build [z6, (.val (.string ⟨([] : List UInt8).toArray⟩)), (.val (.string ⟨([] : List UInt8).toArray⟩)), z6, z6] [(1, (1, (.c (.p (.val (.string ⟨([86] : List UInt8).toArray⟩)))))), (2, (1, (.c (.p (.val (.string ⟨([97] : List UInt8).toArray⟩)))))), (3, (2, (tI 19)))]), .none⟩, ⟨(.some 21), (.build [z6, z6] [(0, (1, (cI 3))), (1, (1, (cI 4)))]), .none⟩, ⟨(.some 22), (.build [z6, (.val (.string ⟨([] : List UInt8).toArray⟩)), (.val (.string ⟨([] : List UInt8).toArray⟩)), z6, z6] [(0, (1, (cI 1))), (1, (1, (.c (.p (.val (.string ⟨([86] : List UInt8).toArray⟩)))))), (2, (1, (.c (.p (.val (.string ⟨([97] : List UInt8).toArray⟩)))))), (3, (2, (tI 21)))]), .none⟩, ⟨(.some 23), (.buildL 5 [z6, (.val (.string ⟨([] : List UInt8).toArray⟩)), (.val (.string ⟨([] : List UInt8).toArray⟩)), z6, z6] 2 [(0, (tI 20)), (1, (tI 22))]), .none⟩, ⟨(.some 24), (.build [z6, z6] [(0, (1, (cI 5))), (1, (1, (cI 6)))]), .none⟩, ⟨(.some 25), (.build [z6, (.val (.string ⟨([] : List UInt8).toArray⟩)), (.val (.string ⟨([] : List UInt8).toArray⟩)), z6, z6] [(0, (1, (cI 1))), (1, (1, (.c (.p (.val (.string ⟨([86] : List UInt8).toArray⟩)))))), (2, (1, (.c (.p (.val (.string ⟨([97] : List UInt8).toArray⟩)))))), (3, (2, (tI 24)))]), .none⟩, ⟨(.some 26), (.build [z6, z6] [(0, (1, (cI 7))), (1, (1, (cI 8)))]), .none⟩, ⟨(.some 27), (.build [z6, (.val (.string ⟨([] : List UInt8).toArray⟩)), (.val (.string ⟨([] : List UInt8).toArray⟩)), z6, z6] [(0, (1, (cI 0))), (1, (1, (.c (.p (.val (.string ⟨([86] : List UInt8).toArray⟩)))))), (2, (1, (.c (.p (.val (.string ⟨([98] : List UInt8).toArray⟩)))))), (3, (2, (tI 26)))]), .none⟩, ⟨(.some 28), (.buildL 5 [z6, (.val (.string ⟨([] : List UInt8).toArray⟩)), (.val (.string ⟨([] : List UInt8).toArray⟩)), z6, z6] 2 [(0, (tI 25)), (1, (tI 27))]), .none⟩, oI 29 (.build [zM, zM, zM] [(0, (1, (tI 18))), (1, (1, (tI 23))), (2, (1, (tI 28)))]), oI 1 (.alloc 25 [(.z zM), (.z zM), (.z zM)]), gN (jV 3 1 29)]) (.seq (.ops [iT 31 3 1, iK 32 11 31, iM 30 32, oI 33 (.extract (tI 30) 0), oI 34 (.extract (tI 30) 1), iM 2 33, iM 3 34]) (.seq (.ops [iT 36 3 1, oI 37 (.call .false (.c (.fn 13 [])) [(tI 36), (cI 1)]), iM 35 37, oI 38 (.extract (tI 35) 0), oI 39 (.extract (tI 35) 1), iM 4 38, iM 5 39]) (.seq (.ops [iT 41 3 1, oI 42 (.call .false (.c (.fn 9 [])) [(tI 41), (cI 5)]), iM 40 42, oI 43 (.extract (tI 40) 0), oI 44 (.extract (tI 40) 1), oI 45 (.extract (tI 40) 2), iM 6 43, iM 7 44, iM 8 45]) (.seq (.ops [iT 47 3 1, ⟨(.some 48), (.call .false (.c (.fn 17 [])) [(tI 47), (cI 1), (.c (.p (.val (.string ⟨([86] : List UInt8).toArray⟩))))]), .none⟩, iM 46 48, oI 49 (.extract (tI 46) 0), oI 50 (.extract (tI 46) 1), iM 9 49, iM 10 50]) (.seq (.ops [iT 52 3 1, oI 53 (.call .false (.c (.fn 9 [])) [(tI 52), (cI 6)]), iM 51 53, oI 54 (.extract (tI 51) 0), oI 55 (.extract (tI 51) 1), oI 56 (.extract (tI 51) 2), iM 11 54, iM 12 55, iM 13 56]) (.seq (.ops [iM 57 3, iD 58 .eql 57 0, iM 59 58, gT 60 59 (jM 2), gT 61 59 (jN 60), gT 62 59 (jD .eql 61 2), iQ 63 59 62, iM 64 63, gT 65 64 (jM 2), gT 66 64 (.indexA .none 1 (tI 65) (cI 0)), gT 67 64 (jL 1 66), gT 68 64 (jN 67), gT 69 64 (jD .eql 68 1), iQ 70 64 69, iM 71 70, gT 72 71 (jM 2), gT 73 71 (.indexA .none 1 (tI 72) (cI 0)), gT 74 71 (jL 1 73), gT 75 71 (.indexA .none 1 (tI 74) (cI 0)), gT 76 71 (jL 1 75), gT 77 71 (jD .eql 76 1), iQ 78 71 77, iM 79 78, gT 80 79 (jM 2), gT 81 79 (.indexA .none 1 (tI 80) (cI 1)), gT 82 79 (jL 1 81), gT 83 79 (jN 82), gT 84 79 (jD .eql 83 0), iQ 85 79 84, iM 86 85, gT 87 86 (jM 4), gT 88 86 (jN 87), gT 89 86 (jD .eql 88 1), iQ 90 86 89, iM 91 90, gT 92 91 (jM 4), gT 93 91 (.indexA .none 1 (tI 92) (cI 0)), gT 94 91 (jL 1 93), gT 95 91 (jD .eql 94 0), iQ 96 91 95, iM 97 96, gT 98 97 (jM 5), gT 99 97 (jD .eql 98 0), iQ 100 97 99, iM 101 100, gT 102 101 (jM 6), ⟨(.some 103), (.bin .eql (tI 102) (cI (-1))), (.some (101, .true))⟩, iQ 104 101 103, iM 105 104, gT 106 105 (jM 7), gT 107 105 (jD .eql 106 0), iQ 108 105 107, iM 109 108, gT 110 109 (jM 8), gT 111 109 (jD .eql 110 0), iQ 112 109 111, iM 113 112, gT 114 113 (jM 9), gT 115 113 (jN 114), gT 116 113 (jD .eql 115 1), iQ 117 113 116, iM 118 117, gT 119 118 (jM 10), gT 120 118 (jD .eql 119 0), iQ 121 118 120, iM 122 121, gT 123 122 (jM 13), gT 124 122 (jD .eql 123 5), iQ 125 122 124, iM 0 125]) .ret))))))))⟩
theorem ir8_ok : compFn prog (shOf sh [1, 18, 23, 28]) [] f8 = some ir8 := by kernel_rfl
def ir9 : IFun :=
  ⟨32, [(.tmp 4), (.tmp 5), (.tmp 6)], (.seq (.ops [oI 2 (.boxL (tI 0)), oI 3 (.boxL (tI 1)), iC 4 0, iC 5 0, iC 6 0]) (.seq (.block 0 (.seq (.ops [iT 9 3 2, iK 10 19 9, iD 11 .neq 10 0, iM 8 11]) (.cond (tI 8) (.seq (.ops [iC 4 0, iC 5 0, iC 6 2]) .ret) (.seq (.ops [iL 13 1 3, iD 14 .lss 13 0, iM 12 14]) (.cond (tI 12) (.seq (.ops [iC 4 0, iC 5 0, iC 6 4]) .ret) .skip))))) (.seq (.ops [oI 15 (.mkfn 20 [(tI 3)]), iM 7 15]) (.seq (.ops [iF 16 1 2, iL 17 1 16, iM 18 7, oI 19 (.call .false (.c (.fn 21 [])) [(tI 17), (tI 18)]), iF 20 2 2, iL 21 1 20, iM 22 7, oI 23 (.call .false (.c (.fn 21 [])) [(tI 21), (tI 22)]), iM 4 19, iM 5 23]) (.seq (.block 1 (.seq (.ops [iM 25 4, iD 26 .geq 25 0, iM 24 26]) (.cond (tI 24) (.seq (.ops [iM 27 4, iM 4 27, oI 5 (.mv (cI (-1))), iC 6 0]) .ret) (.seq (.ops [iM 29 5, iD 30 .geq 29 0, iM 28 30]) (.cond (tI 28) (.seq (.ops [iM 31 5, oI 4 (.mv (cI (-1))), iM 5 31, iC 6 0]) .ret) .skip))))) (.seq (.ops [iC 4 0, iC 5 0, iC 6 5]) .ret))))))⟩
theorem ir9_ok : compFn prog (shOf sh [2, 3]) [] f9 = some ir9 := by kernel_rfl
def ir10_l0 : IC :=
  (.seq (.seq (.ops [iM 16 3, iF 17 0 1, iL 18 1 17, iN 19 18, iB 20 .lss 16 19]) (.cond (tI 20) .skip (.exit 0))) (.seq (.block 1 (.seq (.ops [iM 23 3, iD 24 .gtr 23 0, iM 25 24, gT 26 25 (jF 0 1), gT 27 25 (jL 1 26), gT 28 25 (jM 3), gT 29 25 (jX 3 27 28), gT 30 25 (jF 0 29), gT 31 25 (jL 1 30), gT 32 25 (jD .lss 31 0), gT 33 25 (jM 32), gF 34 33 (jF 0 1), gF 35 33 (jL 1 34), gF 36 33 (jM 3), gF 37 33 (jX 3 35 36), gF 38 33 (jF 0 37), gF 39 33 (jL 1 38), gF 40 33 (jM 3), gF 41 33 (jB .geq 39 40), gT 42 25 (jP 33 41), iQ 43 25 42, iM 44 43, gF 45 44 (jF 0 1), gF 46 44 (jL 1 45), gF 47 44 (jM 3), gF 48 44 (jX 3 46 47), gF 49 44 (jF 1 48), gF 50 44 (jF 0 49), gF 51 44 (jL 1 50), gF 52 44 (jD .lss 51 0), iP 53 44 52, iM 54 53, gF 55 54 (jF 0 1), gF 56 54 (jL 1 55), gF 57 54 (jM 3), gF 58 54 (jX 3 56 57), gF 59 54 (jF 1 58), gF 60 54 (jF 1 59), gF 61 54 (jL 1 60), gF 62 54 (jF 0 1), gF 63 54 (jL 1 62), gF 64 54 (jM 3), gF 65 54 (jX 3 63 64), gF 66 54 (jF 1 65), gF 67 54 (jF 0 66), gF 68 54 (jL 1 67), gF 69 54 (jB .lss 61 68), iP 70 54 69]) (.cond (tI 70) (.seq (.ops [iE 2 false]) .ret) .skip))) (.ops [iM 21 3, iD 22 .add 21 1, iM 3 22])))
def ir10 : IFun :=
  ⟨85, [(.tmp 2)], (.seq (.ops [oI 1 (.box 25 (tI 0)), iE 2 false]) (.seq (.seq (.ops [iF 4 0 1, iL 5 1 4, iN 6 5, iD 7 .eql 6 0, iM 8 7, gF 9 8 (jF 0 1), gF 10 8 (jL 1 9), gF 11 8 (.indexA .none 3 (tI 10) (cI 0)), gF 12 8 (jF 0 11), gF 13 8 (jL 1 12), ⟨(.some 14), (.bin .neq (tI 13) (cI (-1))), (.some (8, .false))⟩, iP 15 8 14]) (.cond (tI 15) (.seq (.ops [iE 2 false]) .ret) .skip)) (.seq (.seq (.ops [iC 3 0]) (.block 0 (.loop [1, 3] ir10_l0))) (.seq (.ops [iF 71 1 1, iL 72 1 71, iF 73 0 1, iL 74 1 73, iN 75 74, oI 76 (.call .false (.c (.fn 22 [])) [(tI 72), (tI 75)]), iM 77 76, gT 78 77 (jF 2 1), gT 79 77 (jL 1 78), gT 80 77 (jF 0 1), gT 81 77 (jL 1 80), gT 82 77 (jN 81), ⟨(.some 83), (.call .false (.c (.fn 22 [])) [(tI 79), (tI 82)]), (.some (77, .true))⟩, iQ 84 77 83, iM 2 84]) .ret))))⟩
theorem ir10_ok : compFn prog (shOf sh []) [[1, 3]] f10 = some ir10 := by kernel_rfl
def ir11_l0 : IC :=
  (.seq (.ops [iB 19 .lss 18 17]) (.seq (.cond (tI 19) .skip (.exit 0)) (.seq (.block 1 (.seq (.ops [iX 20 5 16 18, iT 21 5 20, ⟨(.some 8), (.alloc 34 [zZ, (.z (.val (.string ⟨([] : List UInt8).toArray⟩))), (.z (.val (.string ⟨([] : List UInt8).toArray⟩))), zZ, zZ]), .none⟩, gN (jV 5 8 21)]) (.ops [iM 22 6, iM 23 5, iT 24 5 8, oI 25 (.call .true (tI 23) [(tI 24)]), oI 26 (.buildS 39 1 [zM] 1 [(0, (tI 25))]), oI 27 (.append 39 1 24 [zM] (tI 22) (tI 26)), iM 6 27]))) (.ops [iD 28 .add 18 1, iM 18 28]))))
def ir11 : IFun :=
  ⟨30, [(.tmp 2), (.tmp 3)], (.seq (.ops [oI 1 (.boxL (tI 0)), oI 2 (.nilrow 39 1), iC 3 0]) (.seq (.seq (.ops [iT 9 3 1, iK 10 19 9, iD 11 .neq 10 0]) (.cond (tI 11) (.seq (.ops [oI 2 (.nilrow 39 1), iC 3 2]) .ret) .skip)) (.seq (.ops [iT 12 3 1, oI 13 (.call .true (.c (.fn 23 [])) [(tI 12)]), oI 4 (.alloc 59 [(.z (.val (.map .none)))]), gN (jV 1 4 13)]) (.seq (.ops [oI 14 (.mkfn 24 [(tI 1), (tI 4)]), iM 5 14]) (.seq (.ops [oI 6 (.nilrow 39 1)]) (.seq (.seq (.ops [iF 15 2 1, iL 16 1 15, iN 17 16, iC 18 0]) (.block 0 (.loop [5, 6, 16, 17, 18] ir11_l0))) (.seq (.ops [iM 29 6, iM 2 29, iC 3 0]) .ret)))))))⟩
theorem ir11_ok : compFn prog (shOf sh [1]) [[5, 6, 16, 17, 18]] f11 = some ir11 := by kernel_rfl
def ir13_l0 : IC :=
  (.seq (.ops [iB 33 .lss 32 31]) (.seq (.cond (tI 33) .skip (.exit 1)) (.seq (.block 2 (.seq (.ops [iM 34 32, iX 35 1 30 32, iL 36 1 35, iM 9 34, iM 10 36]) (.seq (.ops [iM 37 10, iM 38 1, oI 39 (.call .false (.c (.fn 26 [])) [(tI 37), (tI 38)])]) (.cond (tI 39) (.ops [iM 40 8, iM 41 9, oI 42 (.buildS 3 1 [z6] 1 [(0, (tI 41))]), oI 43 (.append 3 1 8 [z6] (tI 40) (tI 42)), iM 8 43]) .skip)))) (.ops [iD 44 .add 32 1, iM 32 44]))))
def ir13 : IFun :=
  ⟨46, [(.tmp 4), (.tmp 5)], (.seq (.ops [oI 2 (.boxL (tI 0)), oI 4 (.nilrow 3 1), iC 5 0]) (.seq (.ops [iT 12 3 2, iK 13 11 12, iM 11 13, oI 14 (.extract (tI 11) 0), oI 15 (.extract (tI 11) 1), iM 6 14, iM 7 15]) (.seq (.block 0 (.seq (.ops [iM 17 7, iD 18 .neq 17 0, iM 16 18]) (.cond (tI 16) (.seq (.ops [iM 19 7, oI 4 (.nilrow 3 1), iM 5 19]) .ret) (.seq (.ops [iM 21 1, iD 22 .lss 21 0, iM 23 22, gF 24 23 (jM 1), gF 25 23 (jF 1 2), gF 26 23 (jL 1 25), gF 27 23 (jN 26), gF 28 23 (jB .geq 24 27), iP 29 23 28, iM 20 29]) (.cond (tI 20) (.seq (.ops [oI 4 (.nilrow 3 1), iC 5 4]) .ret) .skip))))) (.seq (.ops [oI 8 (.nilrow 3 1)]) (.seq (.seq (.ops [iM 30 6, iN 31 30, iC 32 0]) (.block 1 (.loop [1, 8, 30, 31, 32] ir13_l0))) (.seq (.ops [iM 45 8, iM 4 45, iC 5 0]) .ret))))))⟩
theorem ir13_ok : compFn prog (shOf sh [2]) [[1, 8, 30, 31, 32]] f13 = some ir13 := by kernel_rfl
def ir14_l0 : IC :=
  (.seq (.seq (.ops [iM 11 5, iM 12 0, iN 13 12, iB 14 .lss 11 13]) (.cond (tI 14) .skip (.exit 0))) (.seq (.block 1 (.seq (.ops [iM 17 0, iM 18 5, iX 19 1 17 18, iL 20 1 19, iM 21 1, iM 22 5, iX 23 1 21 22, iL 24 1 23, iB 25 .neq 20 24]) (.cond (tI 25) (.seq (.ops [iE 4 false]) .ret) .skip))) (.ops [iM 15 5, iD 16 .add 15 1, iM 5 16])))
def ir14 : IFun :=
  ⟨26, [(.tmp 4)], (.seq (.ops [iE 4 false]) (.seq (.seq (.ops [iM 6 0, iN 7 6, iM 8 1, iN 9 8, iB 10 .neq 7 9]) (.cond (tI 10) (.seq (.ops [iE 4 false]) .ret) .skip)) (.seq (.seq (.ops [iC 5 0]) (.block 0 (.loop [0, 1, 5] ir14_l0))) (.seq (.ops [iE 4 true]) .ret))))⟩
theorem ir14_ok : compFn prog (shOf sh []) [[0, 1, 5]] f14 = some ir14 := by kernel_rfl
def ir15_l0 : IC :=
  (.seq (.seq (.ops [iM 22 11, iF 23 1 4, iL 24 1 23, iN 25 24, iB 26 .lss 22 25]) (.cond (tI 26) .skip (.exit 2))) (.seq (.block 3 (.seq (.ops [iF 29 1 4, iL 30 1 29, iM 31 11, iX 32 5 30 31, iT 33 5 32, ⟨(.some 12), (.alloc 34 [zZ, (.z (.val (.string ⟨([] : List UInt8).toArray⟩))), (.z (.val (.string ⟨([] : List UInt8).toArray⟩))), zZ, zZ]), .none⟩, gN (jV 5 12 33)]) (.seq (.ops [iF 34 0 12, iL 35 1 34, iM 36 9, iB 37 .eql 35 36, iM 38 37, gT 39 38 (jF 1 12), gT 40 38 (jL 1 39), gT 41 38 (jM 2), gT 42 38 (jB .eql 40 41), iQ 43 38 42, iM 44 43, gT 45 44 (jF 2 12), gT 46 44 (jL 1 45), gT 47 44 (jM 3), gT 48 44 (jB .eql 46 47), iQ 49 44 48]) (.cond (tI 49) (.ops [iM 50 10, iM 51 11, oI 52 (.buildS 3 1 [z6] 1 [(0, (tI 51))]), oI 53 (.append 3 1 8 [z6] (tI 50) (tI 52)), iM 10 53]) .skip)))) (.ops [iM 27 11, iD 28 .add 27 1, iM 11 28])))
def ir15_l1 : IC :=
  (.seq (.seq (.ops [iM 14 9, iD 15 .geq 14 0]) (.cond (tI 15) .skip (.exit 0))) (.seq (.block 1 (.seq (.ops [oI 10 (.nilrow 3 1)]) (.seq (.seq (.ops [iC 11 0]) (.block 2 (.loop [2, 3, 4, 9, 10, 11] ir15_l0))) (.seq (.ops [iM 54 10, iN 55 54, iD 56 .gtr 55 0]) (.cond (tI 56) (.seq (.ops [iM 57 10, iM 8 57]) .ret) .skip))))) (.ops [iF 16 0 4, iL 17 1 16, iM 18 9, iX 19 3 17 18, iF 20 0 19, iL 21 1 20, iM 9 21])))
def ir15 : IFun :=
  ⟨58, [(.tmp 8)], (.seq (.ops [oI 4 (.boxL (tI 0)), oI 8 (.nilrow 3 1)]) (.seq (.seq (.ops [iM 13 1, iM 9 13]) (.block 0 (.loop [2, 3, 4, 9] ir15_l1))) (.seq (.ops [oI 8 (.nilrow 3 1)]) .ret)))⟩
theorem ir15_ok : compFn prog (shOf sh [4]) [[2, 3, 4, 9], [2, 3, 4, 9, 10, 11]] f15 = some ir15 := by kernel_rfl
def ir16 : IFun :=
  ⟨24, [(.tmp 8), (.tmp 9)], (.seq (.ops [oI 4 (.boxL (tI 0)), oI 8 (.nilrow 3 1), iC 9 0]) (.seq (.seq (.ops [iT 11 3 4, iM 12 1, oI 13 (.call .false (.c (.fn 27 [])) [(tI 11), (tI 12)]), iM 10 13]) (.seq (.ops [iM 14 10, iD 15 .neq 14 0]) (.cond (tI 15) (.seq (.ops [iM 16 10, oI 8 (.nilrow 3 1), iM 9 16]) .ret) .skip))) (.seq (.opsR 0 [(.mk (iT 17 3 4) 0 0 []), (.mk (iT 18 3 4) 0 0 [0]), (.mk (oI 19 (.call .true (.c (.fn 23 [])) [(tI 18)])) 0 0 [0]), (.mk (iM 20 1) 0 0 []), (.mk (iM 21 2) 0 0 []), (.mk (iM 22 3) 0 0 []), (.mk (oI 23 (.call .true (.c (.fn 25 [])) [(tI 17), (tI 19), (tI 20), (tI 21), (tI 22)])) 0 0 []), (.mk (iM 8 23) 0 0 []), (.mk (iC 9 0) 0 0 [])]) .ret)))⟩
theorem ir16_ok : compFn prog (shOf sh [4]) [] f16 = some ir16 := by kernel_rfl
def ir17_l0 : IC :=
  (.seq (.ops [iB 27 .lss 26 25]) (.seq (.cond (tI 27) .skip (.exit 2)) (.seq (.block 3 (.seq (.ops [iX 28 5 24 26, iT 29 5 28, ⟨(.some 12), (.alloc 34 [zZ, (.z (.val (.string ⟨([] : List UInt8).toArray⟩))), (.z (.val (.string ⟨([] : List UInt8).toArray⟩))), zZ, zZ]), .none⟩, gN (jV 5 12 29)]) (.seq (.ops [iF 30 0 12, iL 31 1 30, iM 32 10, iB 33 .eql 31 32, iM 34 33, gT 35 34 (jF 1 12), gT 36 34 (jL 1 35), gT 37 34 (jL 1 5), gT 38 34 (jB .eql 36 37), iQ 39 34 38]) (.cond (tI 39) (.ops [iL 40 1 9, iF 41 2 12, iL 42 1 41, ⟨(.some 43), (.buildS 9 1 [(.val (.string ⟨([] : List UInt8).toArray⟩))] 1 [(0, (tI 42))]), .none⟩, ⟨(.some 44), (.append 9 1 16 [(.val (.string ⟨([] : List UInt8).toArray⟩))] (tI 40) (tI 43)), .none⟩, gN (jV 1 9 44)]) .skip)))) (.ops [iD 45 .add 26 1, iM 26 45]))))
def ir17_a1 : IC :=
  (.ops [iM 10 22])
def ir17_b1 : IC :=
  (.block 1 (.seq (.ops [iF 23 1 3, iL 24 1 23, iN 25 24, iC 26 0]) (.block 2 (.loop [3, 5, 9, 10, 24, 25, 26] ir17_l0))))
def ir17 : IFun :=
  ⟨48, [(.tmp 6), (.tmp 7)], (.seq (.ops [oI 3 (.boxL (tI 0)), oI 5 (.boxL (tI 2)), oI 6 (.nilrow 9 1), iC 7 0]) (.seq (.seq (.ops [iT 13 3 3, iM 14 1, oI 15 (.call .false (.c (.fn 27 [])) [(tI 13), (tI 14)]), iM 8 15]) (.seq (.ops [iM 16 8, iD 17 .neq 16 0]) (.cond (tI 17) (.seq (.ops [iM 18 8, oI 6 (.nilrow 9 1), iM 7 18]) .ret) .skip))) (.seq (.ops [oI 9 (.alloc 48 [(.r 9 1)])]) (.seq (.seq (.ops [iT 19 3 3, iM 20 1, oI 21 (.call .true (.c (.fn 28 [])) [(tI 19), (tI 20)])]) (.block 0 (.rangeF (tI 21) [22] ir17_a1 ir17_b1))) (.seq (.ops [iL 46 1 9, oI 47 (.call .true (.c (.fn 29 [])) [(tI 46)]), iM 6 47, iC 7 0]) .ret)))))⟩
theorem ir17_ok : compFn prog (shOf sh [3, 5]) [[3, 5, 9, 10, 24, 25, 26]] f17 = some ir17 := by kernel_rfl
def ir18_l0 : IC :=
  (.seq (.ops [iB 18 .lss 17 16]) (.seq (.cond (tI 18) .skip (.exit 0)) (.seq (.block 1 (.seq (.ops [iX 19 5 15 17, iT 20 5 19, ⟨(.some 6), (.alloc 34 [zZ, (.z (.val (.string ⟨([] : List UInt8).toArray⟩))), (.z (.val (.string ⟨([] : List UInt8).toArray⟩))), zZ, zZ]), .none⟩, gN (jV 5 6 20)]) (.ops [iM 21 4, iF 22 1 6, iL 23 1 22, ⟨(.some 24), (.buildS 9 1 [(.val (.string ⟨([] : List UInt8).toArray⟩))] 1 [(0, (tI 23))]), .none⟩, ⟨(.some 25), (.append 9 1 16 [(.val (.string ⟨([] : List UInt8).toArray⟩))] (tI 21) (tI 24)), .none⟩, iM 4 25]))) (.ops [iD 26 .add 17 1, iM 17 26]))))
def ir18 : IFun :=
  ⟨29, [(.tmp 2), (.tmp 3)], (.seq (.ops [oI 1 (.boxL (tI 0)), oI 2 (.nilrow 9 1), iC 3 0]) (.seq (.seq (.ops [iT 7 3 1, iK 8 19 7, iD 9 .neq 8 0]) (.cond (tI 9) (.seq (.ops [oI 2 (.nilrow 9 1), iC 3 2]) .ret) .skip)) (.seq (.ops [oI 4 (.nilrow 9 1)]) (.seq (.seq (.ops [iF 10 1 1, iL 11 1 10, iF 12 2 1, iL 13 1 12, oI 14 (.buildL 1 [zM] 2 [(0, (tI 11)), (1, (tI 13))]), iK 15 30 14, iN 16 15, iC 17 0]) (.block 0 (.loop [4, 15, 16, 17] ir18_l0))) (.seq (.ops [iM 27 4, oI 28 (.call .true (.c (.fn 29 [])) [(tI 27)]), iM 2 28, iC 3 0]) .ret)))))⟩
theorem ir18_ok : compFn prog (shOf sh [1, 14]) [[4, 15, 16, 17]] f18 = some ir18 := by kernel_rfl
def ir19_l0 : IC :=
  (.seq (.ops [iB 9 .lss 8 7]) (.seq (.cond (tI 9) .skip (.exit 0)) (.seq (.block 1 (.seq (.ops [iM 10 8, iX 11 3 6 8, iT 12 3 11, oI 4 (.alloc 54 [zZ, zZ, zZ]), iM 3 10, gN (jV 3 4 12)]) (.seq (.ops [iM 13 3, iD 14 .eql 13 0, iM 15 14, gT 16 15 (jF 0 4), gT 17 15 (jL 1 16), ⟨(.some 18), (.bin .neq (tI 17) (cI (-1))), (.some (15, .true))⟩, iQ 19 15 18, iM 20 19, gF 21 20 (jM 3), gF 22 20 (jD .gtr 21 0), gF 23 20 (jM 22), gT 24 23 (jF 0 4), gT 25 23 (jL 1 24), gT 26 23 (jD .lss 25 0), gT 27 23 (jM 26), gF 28 27 (jF 0 4), gF 29 27 (jL 1 28), gF 30 27 (jM 3), gF 31 27 (jB .geq 29 30), gT 32 23 (jP 27 31), gF 33 20 (jQ 23 32), iP 34 20 33, iM 35 34, gF 36 35 (jF 1 4), gF 37 35 (jF 0 36), gF 38 35 (jL 1 37), gF 39 35 (jD .lss 38 0), iP 40 35 39, iM 41 40, gF 42 41 (jF 1 4), gF 43 41 (jF 0 42), gF 44 41 (jL 1 43), gF 45 41 (jF 1 4), gF 46 41 (jF 1 45), gF 47 41 (jL 1 46), gF 48 41 (jB .gtr 44 47), iP 49 41 48]) (.cond (tI 49) (.seq (.ops [iC 2 2]) .ret) .skip)))) (.ops [iD 50 .add 8 1, iM 8 50]))))
def ir19 : IFun :=
  ⟨73, [(.tmp 2)], (.seq (.ops [oI 1 (.box 25 (tI 0)), iC 2 0]) (.seq (.seq (.ops [iF 5 0 1, iL 6 1 5, iN 7 6, iC 8 0]) (.block 0 (.loop [1, 6, 7, 8] ir19_l0))) (.seq (.seq (.ops [iF 51 0 1, iL 52 1 51, iN 53 52, iD 54 .eql 53 0, iM 55 54, gF 56 55 (jF 1 1), gF 57 55 (jL 1 56), gF 58 55 (jF 0 1), gF 59 55 (jL 1 58), gF 60 55 (jN 59), ⟨(.some 61), (.call .false (.c (.fn 31 [])) [(tI 57), (tI 60)]), (.some (55, .false))⟩, gF 62 55 (jU 61), iP 63 55 62, iM 64 63, gF 65 64 (jF 2 1), gF 66 64 (jL 1 65), gF 67 64 (jF 0 1), gF 68 64 (jL 1 67), gF 69 64 (jN 68), ⟨(.some 70), (.call .false (.c (.fn 31 [])) [(tI 66), (tI 69)]), (.some (64, .false))⟩, gF 71 64 (jU 70), iP 72 64 71]) (.cond (tI 72) (.seq (.ops [iC 2 2]) .ret) .skip)) (.seq (.ops [iC 2 0]) .ret))))⟩
theorem ir19_ok : compFn prog (shOf sh []) [[1, 6, 7, 8]] f19 = some ir19 := by kernel_rfl
def ir20 : IFun :=
  ⟨16, [(.tmp 3)], (.seq (.ops [oI 2 (.boxL (tI 0)), iE 3 false]) (.seq (.ops [iF 4 3 2, iF 5 0 4, iL 6 1 5, iL 7 1 1, iB 8 .leq 6 7, iM 9 8, gT 10 9 (jL 1 1), gT 11 9 (jF 3 2), gT 12 9 (jF 1 11), gT 13 9 (jL 1 12), gT 14 9 (jB .lss 10 13), iQ 15 9 14, iM 3 15]) .ret))⟩
theorem ir20_ok : compFn prog (shOf sh [2]) [] f20 = some ir20 := by kernel_rfl
def ir21_l0 : IC :=
  (.seq (.ops [iB 9 .lss 8 7]) (.seq (.cond (tI 9) .skip (.exit 0)) (.seq (.block 1 (.seq (.ops [iM 10 8, iM 5 10]) (.seq (.ops [iM 11 1, iM 12 0, iM 13 5, iX 14 5 12 13, iT 15 5 14, oI 16 (.call .false (tI 11) [(tI 15)])]) (.cond (tI 16) (.seq (.ops [iM 17 5, iM 4 17]) .ret) .skip)))) (.ops [iD 18 .add 8 1, iM 8 18]))))
def ir21 : IFun :=
  ⟨19, [(.tmp 4)], (.seq (.ops [iC 4 0]) (.seq (.seq (.ops [iM 6 0, iN 7 6, iC 8 0]) (.block 0 (.loop [0, 1, 7, 8] ir21_l0))) (.seq (.ops [oI 4 (.mv (cI (-1)))]) .ret)))⟩
theorem ir21_ok : compFn prog (shOf sh [11]) [[0, 1, 7, 8]] f21 = some ir21 := by kernel_rfl
def ir22_l0 : IC :=
  (.seq (.seq (.ops [iM 6 5, iM 7 0, iN 8 7, iB 9 .lss 6 8]) (.cond (tI 9) .skip (.exit 0))) (.seq (.block 1 (.seq (.ops [iM 12 0, iM 13 5, iX 14 5 12 13, iF 15 0 14, iL 16 1 15, iD 17 .lss 16 0, iM 18 17, gF 19 18 (jM 0), gF 20 18 (jM 5), gF 21 18 (jX 5 19 20), gF 22 18 (jF 0 21), gF 23 18 (jL 1 22), gF 24 18 (jM 1), gF 25 18 (jB .geq 23 24), iP 26 18 25, iM 27 26, gF 28 27 (jM 0), gF 29 27 (jM 5), gF 30 27 (jX 5 28 29), gF 31 27 (jF 3 30), gF 32 27 (jF 0 31), gF 33 27 (jL 1 32), gF 34 27 (jD .lss 33 0), iP 35 27 34, iM 36 35, gF 37 36 (jM 0), gF 38 36 (jM 5), gF 39 36 (jX 5 37 38), gF 40 36 (jF 3 39), gF 41 36 (jF 1 40), gF 42 36 (jL 1 41), gF 43 36 (jM 0), gF 44 36 (jM 5), gF 45 36 (jX 5 43 44), gF 46 36 (jF 3 45), gF 47 36 (jF 0 46), gF 48 36 (jL 1 47), gF 49 36 (jB .lss 42 48), iP 50 36 49, iM 51 50, gF 52 51 (jM 5), gF 53 51 (jD .gtr 52 0), gF 54 51 (jM 53), gT 55 54 (jM 0), gT 56 54 (jM 5), gT 57 54 (jX 5 55 56), gT 58 54 (jF 3 57), gT 59 54 (jF 0 58), gT 60 54 (jL 1 59), gT 61 54 (jM 0), gT 62 54 (jM 5), gT 63 54 (jD .sub 62 1), gT 64 54 (jX 5 61 63), gT 65 54 (jF 3 64), gT 66 54 (jF 0 65), gT 67 54 (jL 1 66), gT 68 54 (jB .lss 60 67), gF 69 51 (jQ 54 68), iP 70 51 69]) (.cond (tI 70) (.seq (.ops [iE 4 false]) .ret) .skip))) (.ops [iM 10 5, iD 11 .add 10 1, iM 5 11])))
def ir22 : IFun :=
  ⟨71, [(.tmp 4)], (.seq (.ops [iE 4 false]) (.seq (.seq (.ops [iC 5 0]) (.block 0 (.loop [0, 1, 5] ir22_l0))) (.seq (.ops [iE 4 true]) .ret)))⟩
theorem ir22_ok : compFn prog (shOf sh []) [[0, 1, 5]] f22 = some ir22 := by kernel_rfl
def ir23_l0 : IC :=
  (.seq (.ops [iB 12 .lss 11 10]) (.seq (.cond (tI 12) .skip (.exit 0)) (.seq (.block 1 (.seq (.ops [iM 13 11, iX 14 5 9 11, iT 15 5 14, ⟨(.some 5), (.alloc 34 [zZ, (.z (.val (.string ⟨([] : List UInt8).toArray⟩))), (.z (.val (.string ⟨([] : List UInt8).toArray⟩))), zZ, zZ]), .none⟩, iM 4 13, gN (jV 5 5 15)]) (.seq (.ops [iF 16 0 5, iL 17 1 16, iF 18 1 5, iL 19 1 18, iF 20 2 5, iL 21 1 20, ⟨(.some 22), (.build [z6, (.val (.string ⟨([] : List UInt8).toArray⟩)), (.val (.string ⟨([] : List UInt8).toArray⟩))] [(0, (1, (tI 17))), (1, (1, (tI 19))), (2, (1, (tI 21)))]), .none⟩, ⟨(.some 6), (.alloc 71 [zZ, (.z (.val (.string ⟨([] : List UInt8).toArray⟩))), (.z (.val (.string ⟨([] : List UInt8).toArray⟩)))]), .none⟩, gN (jV 3 6 22)]) (.ops [iM 23 3, iT 24 3 6, iM 26 4, oI 27 (.buildL 1 [z6] 1 [(0, (tI 26))]), oI 28 (.mapEn [1, 2, 2] .true .false [zM] (tI 23) (tI 24)), oI 25 (.extract (tI 28) 0), oI 29 (.append 3 1 8 [z6] (tI 25) (tI 27)), oI 30 (.extract (tI 28) 1), gN (.entSt (tI 23) (tI 30) (tI 29))])))) (.ops [iD 31 .add 11 1, iM 11 31]))))
def ir23 : IFun :=
  ⟨33, [(.tmp 2)], (.seq (.ops [oI 1 (.boxL (tI 0)), oI 2 (.mv (.c (.p (.val (.map .none)))))]) (.seq (.ops [⟨(.some 7), .mkMap, .none⟩, iM 3 7]) (.seq (.seq (.ops [iF 8 1 1, iL 9 1 8, iN 10 9, iC 11 0]) (.block 0 (.loop [3, 9, 10, 11] ir23_l0))) (.seq (.ops [iM 32 3, iM 2 32]) .ret))))⟩
theorem ir23_ok : compFn prog (shOf sh [1, 27]) [[3, 9, 10, 11]] f23 = some ir23 := by kernel_rfl
def ir24 : IFun :=
  ⟨14, [(.tmp 4)], (.seq (.ops [oI 3 (.boxL (tI 0)), oI 4 (.nilrow 3 1)]) (.seq (.ops [iT 5 3 1, iL 6 1 2, iF 7 0 3, iL 8 1 7, iF 9 1 3, iL 10 1 9, iF 11 2 3, iL 12 1 11, oI 13 (.call .true (.c (.fn 25 [])) [(tI 5), (tI 6), (tI 8), (tI 10), (tI 12)]), iM 4 13]) .ret))⟩
theorem ir24_ok : compFn prog (shOf sh [3]) [] f24 = some ir24 := by kernel_rfl
def ir25_a0 : IC :=
  (.ops [iM 12 17])
def ir25_b0 : IC :=
  (.block 1 (.seq (.ops [iL 18 1 6, iM 19 12, iL 20 1 8, iL 21 1 9, ⟨(.some 22), (.build [z6, (.val (.string ⟨([] : List UInt8).toArray⟩)), (.val (.string ⟨([] : List UInt8).toArray⟩))] [(0, (1, (tI 19))), (1, (1, (tI 20))), (2, (1, (tI 21)))]), .none⟩, oI 23 (.lkUp [1, 2, 2] .true .false [(.lst 1 [])] .false (tI 18) (tI 22)), iM 13 23]) (.seq (.ops [iM 24 13, iN 25 24, iD 26 .gtr 25 0]) (.cond (tI 26) (.seq (.ops [iM 27 13, oI 28 (.call .true (.c (.fn 32 [])) [(tI 27)]), gN (jV 1 11 28)]) (.exit 0)) .skip))))
def ir25_l1 : IC :=
  (.block 1000000 (.seq (.seq (.seq (.ops [iT 14 3 5, iM 15 2, oI 16 (.call .true (.c (.fn 28 [])) [(tI 14), (tI 15)])]) (.block 0 (.rangeF (tI 16) [17] ir25_a0 ir25_b0))) (.seq (.ops [iL 29 1 11, iM 10 29]) .ret)) (.exit 2000000)))
def ir25 : IFun :=
  ⟨30, [(.tmp 10)], (.seq (.ops [oI 5 (.boxL (tI 0)), oI 6 (.box 59 (tI 1)), oI 8 (.boxL (tI 3)), oI 9 (.boxL (tI 4)), oI 10 (.nilrow 3 1)]) (.seq (.ops [oI 11 (.alloc 39 [(.r 3 1)])]) (.block 2000000 (.loop [2, 5, 6, 8, 9, 11] ir25_l1))))⟩
theorem ir25_ok : compFn prog (shOf sh [5, 8, 9]) [[2, 5, 6, 8, 9, 11]] f25 = some ir25 := by kernel_rfl
def ir26 : IFun :=
  ⟨9, [(.tmp 4)], (.seq (.ops [iE 4 false]) (.seq (.ops [iM 5 0, iM 6 1, oI 7 (.call .false (.c (.fn 33 [])) [(tI 5), (tI 6)]), iD 8 .geq 7 0, iM 4 8]) .ret))⟩
theorem ir26_ok : compFn prog (shOf sh []) [] f26 = some ir26 := by kernel_rfl
def ir27 : IFun :=
  ⟨19, [(.tmp 4)], (.seq (.ops [oI 2 (.boxL (tI 0)), iC 4 0]) (.seq (.block 0 (.seq (.ops [iT 6 3 2, iK 7 19 6, iD 8 .neq 7 0, iM 5 8]) (.cond (tI 5) (.seq (.ops [iC 4 2]) .ret) (.seq (.ops [iM 10 1, iD 11 .lss 10 0, iM 12 11, gF 13 12 (jM 1), gF 14 12 (jF 0 2), gF 15 12 (jL 1 14), gF 16 12 (jN 15), gF 17 12 (jB .geq 13 16), iP 18 12 17, iM 9 18]) (.cond (tI 9) (.seq (.ops [iC 4 4]) .ret) .skip))))) (.seq (.ops [iC 4 0]) .ret)))⟩
theorem ir27_ok : compFn prog (shOf sh [2]) [] f27 = some ir27 := by kernel_rfl
def ir28 : IFun :=
  ⟨6, [(.tmp 4)], (.seq (.ops [oI 2 (.boxL (tI 0)), oI 3 (.box 3 (tI 1)), oI 4 (.mv (.c (.p (.val .nilFunc))))]) (.seq (.ops [oI 5 (.mkfn 34 [(tI 3), (tI 2)]), iM 4 5]) .ret))⟩
theorem ir28_ok : compFn prog (shOf sh [2]) [] f28 = some ir28 := by kernel_rfl
def ir29 : IFun :=
  ⟨7, [(.tmp 2)], (.seq (.ops [oI 2 (.nilrow 9 1)]) (.seq (.ops [iM 3 0, oI 4 (.call .true (.c (.fn 35 [])) [(tI 3)])]) (.seq (.ops [iM 5 0, oI 6 (.call .true (.c (.fn 36 [])) [(tI 5)]), iM 2 6]) .ret)))⟩
theorem ir29_ok : compFn prog (shOf sh []) [] f29 = some ir29 := by kernel_rfl
def ir30_l0 : IC :=
  (.seq (.ops [iB 28 .lss 27 26]) (.seq (.cond (tI 28) .skip (.exit 2)) (.seq (.block 3 (.seq (.ops [iX 29 1 25 27, iL 30 1 29, iM 8 30]) (.ops [iM 31 6, iM 32 8, ⟨(.some 33), (.append 34 5 56 [z6, (.val (.string ⟨([] : List UInt8).toArray⟩)), (.val (.string ⟨([] : List UInt8).toArray⟩)), z6, z6] (tI 31) (tI 32)), .none⟩, iM 6 33]))) (.ops [iD 34 .add 27 1, iM 27 34]))))
def ir30_l1 : IC :=
  (.seq (.ops [iB 12 .lss 11 10]) (.seq (.cond (tI 12) .skip (.exit 0)) (.seq (.block 1 (.seq (.ops [iX 13 1 9 11, iL 14 1 13, iM 5 14]) (.seq (.ops [iM 15 3, iM 16 5, iN 17 16, iB 18 .add 15 17, iM 3 18]) (.seq (.ops [iM 19 3, iD 20 .lss 19 0]) (.cond (tI 20) .bad .skip))))) (.ops [iD 22 .add 11 1, iM 11 22]))))
def ir30 : IFun :=
  ⟨36, [(.tmp 2)], (.seq (.ops [oI 2 (.nilrow 34 5)]) (.seq (.ops [iC 3 0]) (.seq (.seq (.ops [iM 9 0, iN 10 9, iC 11 0]) (.block 0 (.loop [0, 3, 9, 10, 11] ir30_l1))) (.seq (.ops [iM 23 3, oI 24 (.call .true (.c (.fn 37 [])) [(.c zN), (tI 23)]), iM 6 24]) (.seq (.seq (.ops [iM 25 0, iN 26 25, iC 27 0]) (.block 2 (.loop [6, 25, 26, 27] ir30_l0))) (.seq (.ops [iM 35 6, iM 2 35]) .ret))))))⟩
theorem ir30_ok : compFn prog (shOf sh []) [[0, 3, 9, 10, 11], [6, 25, 26, 27]] f30 = some ir30 := by kernel_rfl
def ir31_l0 : IC :=
  (.seq (.ops [iB 10 .lss 9 8]) (.seq (.cond (tI 10) .skip (.exit 0)) (.seq (.block 1 (.seq (.ops [iM 11 9, iX 12 5 7 9, iT 13 5 12, ⟨(.some 6), (.alloc 34 [zZ, (.z (.val (.string ⟨([] : List UInt8).toArray⟩))), (.z (.val (.string ⟨([] : List UInt8).toArray⟩))), zZ, zZ]), .none⟩, iM 5 11, gN (jV 5 6 13)]) (.seq (.ops [iF 14 0 6, iL 15 1 14, iD 16 .lss 15 0, iM 17 16, gF 18 17 (jF 0 6), gF 19 17 (jL 1 18), gF 20 17 (jM 1), gF 21 17 (jB .geq 19 20), iP 22 17 21, iM 23 22, gF 24 23 (jF 3 6), gF 25 23 (jF 0 24), gF 26 23 (jL 1 25), gF 27 23 (jD .lss 26 0), iP 28 23 27, iM 29 28, gF 30 29 (jF 3 6), gF 31 29 (jF 0 30), gF 32 29 (jL 1 31), gF 33 29 (jF 3 6), gF 34 29 (jF 1 33), gF 35 29 (jL 1 34), gF 36 29 (jB .gtr 32 35), iP 37 29 36, iM 38 37, gF 39 38 (jM 5), gF 40 38 (jD .gtr 39 0), gF 41 38 (jM 40), gT 42 41 (jM 0), gT 43 41 (jM 5), gT 44 41 (jD .sub 43 1), gT 45 41 (jX 5 42 44), gT 46 41 (jF 3 45), gT 47 41 (jF 0 46), gT 48 41 (jL 1 47), gT 49 41 (jF 3 6), gT 50 41 (jF 0 49), gT 51 41 (jL 1 50), gT 52 41 (jB .gtr 48 51), gF 53 38 (jQ 41 52), iP 54 38 53]) (.cond (tI 54) (.seq (.ops [iE 4 false]) .ret) .skip)))) (.ops [iD 55 .add 9 1, iM 9 55]))))
def ir31 : IFun :=
  ⟨56, [(.tmp 4)], (.seq (.ops [iE 4 false]) (.seq (.seq (.ops [iM 7 0, iN 8 7, iC 9 0]) (.block 0 (.loop [0, 1, 7, 8, 9] ir31_l0))) (.seq (.ops [iE 4 true]) .ret)))⟩
theorem ir31_ok : compFn prog (shOf sh []) [[0, 1, 7, 8, 9]] f31 = some ir31 := by kernel_rfl
def ir32 : IFun :=
  ⟨8, [(.tmp 2)], (.seq (.ops [oI 2 (.nilrow 3 1)]) (.seq (.seq (.ops [iM 3 0, oI 4 (.eqS .false (tI 3))]) (.cond (tI 4) (.seq (.ops [oI 2 (.nilrow 3 1)]) .ret) .skip)) (.seq (.ops [oI 5 (.buildS 3 1 [z6] 0 []), iM 6 0, oI 7 (.append 3 1 8 [z6] (tI 5) (tI 6)), iM 2 7]) .ret)))⟩
theorem ir32_ok : compFn prog (shOf sh []) [] f32 = some ir32 := by kernel_rfl
def ir33_l0 : IC :=
  (.seq (.ops [iB 9 .lss 8 7]) (.seq (.cond (tI 9) .skip (.exit 0)) (.seq (.block 1 (.seq (.ops [iM 10 8, iM 5 10]) (.seq (.ops [iM 11 1, iM 12 0, iM 13 5, iX 14 1 12 13, iL 15 1 14, iB 16 .eql 11 15]) (.cond (tI 16) (.seq (.ops [iM 17 5, iM 4 17]) .ret) .skip)))) (.ops [iD 18 .add 8 1, iM 8 18]))))
def ir33 : IFun :=
  ⟨19, [(.tmp 4)], (.seq (.ops [iC 4 0]) (.seq (.seq (.ops [iM 6 0, iN 7 6, iC 8 0]) (.block 0 (.loop [0, 1, 7, 8] ir33_l0))) (.seq (.ops [oI 4 (.mv (cI (-1)))]) .ret)))⟩
theorem ir33_ok : compFn prog (shOf sh []) [[0, 1, 7, 8]] f33 = some ir33 := by kernel_rfl
def ir34_l0 : IC :=
  (.seq (.seq (.ops [iL 4 1 1, iD 5 .geq 4 0]) (.cond (tI 5) .skip (.exit 0))) (.seq (.block 1 (.seq (.ops [iM 12 0, iL 13 1 1, oI 14 (.call .true (tI 12) [(tI 13)]), iU 15 14]) (.cond (tI 15) .ret .skip))) (.ops [iF 6 0 2, iL 7 1 6, iL 8 1 1, iX 9 3 7 8, iF 10 0 9, iL 11 1 10, gN (jV 1 1 11)])))
def ir34 : IFun :=
  ⟨16, [], (.block 0 (.loop [0, 1, 2] ir34_l0))⟩
theorem ir34_ok : compFn prog (shOf sh []) [[0, 1, 2]] f34 = some ir34 := by kernel_rfl
def ir35 : IFun :=
  ⟨11, [], (.seq (.ops [iM 3 0, iN 4 3, iM 2 4]) (.ops [iM 5 0, iM 6 2, iM 7 2, oI 8 (.convI .u64 (tI 7)), iK 9 39 8, oI 10 (.call .false (.c (.fn 38 [])) [(tI 5), (cI 0), (tI 6), (tI 9)])]))⟩
theorem ir35_ok : compFn prog (shOf sh []) [] f35 = some ir35 := by kernel_rfl
def ir36_l0 : IC :=
  (.seq (.seq (.ops [iM 29 5, iM 30 4, iN 31 30, iB 32 .lss 29 31]) (.cond (tI 32) .skip (.exit 2))) (.seq (.block 3 (.seq (.ops [iM 35 4, iM 36 5, iX 37 1 35 36, iL 38 1 37, iM 39 4, iM 40 5, iD 41 .sub 40 1, iX 42 1 39 41, iL 43 1 42, iB 44 .neq 38 43]) (.cond (tI 44) (.seq (.ops [iM 45 0, iM 46 3, iM 47 4, iM 48 5, iX 49 1 47 48, iL 50 1 49, iX 51 1 45 46, gN (jV 1 51 50)]) (.ops [iM 52 3, iD 53 .add 52 1, iM 3 53])) .skip))) (.ops [iM 33 5, iD 34 .add 33 1, iM 5 34])))
def ir36_l1 : IC :=
  (.seq (.seq (.ops [iM 10 3, iM 11 0, iN 12 11, iB 13 .lss 10 12]) (.cond (tI 13) .skip (.exit 0))) (.seq (.block 1 (.seq (.ops [iM 16 0, iM 17 3, iX 18 1 16 17, iL 19 1 18, iM 20 0, iM 21 3, iD 22 .sub 21 1, iX 23 1 20 22, iL 24 1 23, iB 25 .eql 19 24]) (.cond (tI 25) (.seq (.ops [iM 26 0, iM 27 3, oI 28 (.slice 1 (tI 26) (.some (tI 27)) .none), iM 4 28]) (.seq (.seq (.ops [iC 5 1]) (.block 2 (.loop [0, 3, 4, 5] ir36_l0))) (.seq (.ops [iM 54 0, iM 55 3, oI 56 (.slice 1 (tI 54) (.some (tI 55)) .none), ⟨.none, (.clrS 1 [(.val (.string ⟨([] : List UInt8).toArray⟩))] (tI 56)), .none⟩]) (.seq (.ops [iM 57 0, iM 58 3, oI 59 (.slice 1 (tI 57) .none (.some (tI 58))), iM 2 59]) .ret)))) .skip))) (.ops [iM 14 3, iD 15 .add 14 1, iM 3 15])))
def ir36 : IFun :=
  ⟨61, [(.tmp 2)], (.seq (.ops [oI 2 (.nilrow 9 1)]) (.seq (.seq (.ops [iM 6 0, iN 7 6, iD 8 .lss 7 2]) (.cond (tI 8) (.seq (.ops [iM 9 0, iM 2 9]) .ret) .skip)) (.seq (.seq (.ops [iC 3 1]) (.block 0 (.loop [0, 3] ir36_l1))) (.seq (.ops [iM 60 0, iM 2 60]) .ret))))⟩
theorem ir36_ok : compFn prog (shOf sh []) [[0, 3], [0, 3, 4, 5]] f36 = some ir36 := by kernel_rfl
def ir37 : IFun :=
  ⟨27, [(.tmp 4)], (.seq (.ops [oI 4 (.nilrow 34 5)]) (.seq (.seq (.ops [iM 5 1, iD 6 .lss 5 0]) (.cond (tI 6) .bad .skip)) (.seq (.seq (.ops [iM 8 1, iM 9 0, oI 10 (.capN (tI 9)), iM 11 0, iN 12 11, iB 13 .sub 10 12, iB 14 .sub 8 13, iM 1 14]) (.seq (.ops [iM 15 1, iD 16 .gtr 15 0]) (.cond (tI 16) .bad .skip))) (.seq (.ops [iM 26 0, iM 4 26]) .ret))))⟩
theorem ir37_ok : compFn prog (shOf sh []) [] f37 = some ir37 := by kernel_rfl
def ir38_l0 : IC :=
  (.block 1 (.seq (.ops [iM 19 2, iM 20 1, iB 21 .sub 19 20, iM 10 21]) (.seq (.seq (.ops [iM 22 10, iD 23 .leq 22 12]) (.cond (tI 23) (.seq (.ops [iM 24 0, iM 25 1, iM 26 2, oI 27 (.call .false (.c (.fn 40 [])) [(tI 24), (tI 25), (tI 26)])]) .ret) .skip)) (.seq (.seq (.ops [iM 28 3, iD 29 .eql 28 0]) (.cond (tI 29) (.seq (.ops [iM 30 0, iM 31 1, iM 32 2, oI 33 (.call .false (.c (.fn 41 [])) [(tI 30), (tI 31), (tI 32)])]) .ret) .skip)) (.seq (.seq (.ops [iM 34 8, iU 35 34]) (.cond (tI 35) (.seq (.ops [iM 36 0, iM 37 1, iM 38 2, oI 39 (.call .false (.c (.fn 42 [])) [(tI 36), (tI 37), (tI 38)])]) (.ops [iM 40 3, iD 41 .sub 40 1, iM 3 41])) .skip)) (.seq (.ops [iM 43 0, iM 44 1, iM 45 2, oI 46 (.call .false (.c (.fn 43 [])) [(tI 43), (tI 44), (tI 45)]), iM 42 46, oI 47 (.extract (tI 42) 0), oI 48 (.extract (tI 42) 1), iM 11 47, iM 12 48]) (.seq (.seq (.ops [iM 49 12, iD 50 .eql 49 2]) (.cond (tI 50) (.seq (.ops [iM 51 0, iM 52 1, iM 53 2, oI 54 (.call .false (.c (.fn 44 [])) [(tI 51), (tI 52), (tI 53)])]) (.seq (.ops [iM 55 2, iD 56 .sub 55 1, iM 57 11, iM 58 1, iB 59 .sub 57 58, iB 60 .sub 56 59, iM 11 60]) (.ops [iC 12 1]))) .skip)) (.seq (.seq (.ops [iM 61 8, iM 62 61, gT 63 62 (jM 9), iQ 64 62 63, iM 65 64, gT 66 65 (jM 12), gT 67 65 (jD .eql 66 1), iQ 68 65 67]) (.cond (tI 68) (.seq (.ops [iM 69 0, iM 70 1, iM 71 2, oI 72 (.call .false (.c (.fn 45 [])) [(tI 69), (tI 70), (tI 71)])]) (.cond (tI 72) .ret .skip)) .skip)) (.seq (.seq (.ops [iM 73 1, iD 74 .gtr 73 0, iM 75 74, gT 76 75 (jM 0), gT 77 75 (jM 1), gT 78 75 (jD .sub 77 1), gT 79 75 (jX 1 76 78), gT 80 75 (jL 1 79), gT 81 75 (jM 0), gT 82 75 (jM 11), gT 83 75 (jX 1 81 82), gT 84 75 (jL 1 83), ⟨(.some 85), (.call .false (.c (.fn 46 [])) [(tI 80), (tI 84)]), (.some (75, .true))⟩, gT 86 75 (jU 85), iQ 87 75 86]) (.cond (tI 87) (.seq (.ops [iM 88 0, iM 89 1, iM 90 2, iM 91 11, oI 92 (.call .false (.c (.fn 47 [])) [(tI 88), (tI 89), (tI 90), (tI 91)]), iM 13 92]) (.seq (.ops [iM 93 13, iM 1 93]) (.exit 1))) .skip)) (.seq (.ops [iM 95 0, iM 96 1, iM 97 2, iM 98 11, oI 99 (.call .false (.c (.fn 48 [])) [(tI 95), (tI 96), (tI 97), (tI 98)]), iM 94 99, oI 100 (.extract (tI 94) 0), oI 101 (.extract (tI 94) 1), iM 14 100, iM 15 101]) (.seq (.ops [iM 102 15, iM 9 102]) (.seq (.ops [iM 103 14, iM 104 1, iB 105 .sub 103 104, iM 106 2, iM 107 14, iB 108 .sub 106 107, iM 16 105, iM 17 108]) (.seq (.ops [iM 109 10, iD 110 .quo 109 8, iM 18 110]) (.seq (.ops [iM 111 16, iM 112 17, iB 113 .lss 111 112]) (.cond (tI 113) (.seq (.ops [iM 114 16, iM 115 18, iB 116 .geq 114 115, iM 8 116]) (.seq (.ops [iM 117 0, iM 118 1, iM 119 14, iM 120 3, oI 121 (.call .false (.c (.fn 38 [])) [(tI 117), (tI 118), (tI 119), (tI 120)])]) (.ops [iM 122 14, iD 123 .add 122 1, iM 1 123]))) (.seq (.ops [iM 124 17, iM 125 18, iB 126 .geq 124 125, iM 8 126]) (.seq (.ops [iM 127 0, iM 128 14, iD 129 .add 128 1, iM 130 2, iM 131 3, oI 132 (.call .false (.c (.fn 38 [])) [(tI 127), (tI 129), (tI 130), (tI 131)])]) (.ops [iM 133 14, iM 2 133]))))))))))))))))))
def ir38 : IFun :=
  ⟨134, [], (.seq (.ops [iE 8 true]) (.seq (.ops [iE 9 true]) (.block 0 (.loop [0, 1, 2, 3, 8, 9] ir38_l0))))⟩
theorem ir38_ok : compFn prog (shOf sh []) [[0, 1, 2, 3, 8, 9]] f38 = some ir38 := by kernel_rfl
def ir39 : IFun :=
  ⟨8, [(.tmp 2)], (.seq (.ops [iC 2 0]) (.seq (.cond (cB false) (.seq (.ops [iM 3 0, oI 4 (.convI .u32 (tI 3)), iK 5 49 4, iM 2 5]) .ret) .skip) (.seq (.ops [iM 6 0, iK 7 50 6, iM 2 7]) .ret)))⟩
theorem ir39_ok : compFn prog (shOf sh []) [] f39 = some ir39 := by kernel_rfl
def ir40_l0 : IC :=
  (.seq (.seq (.ops [iM 16 7, iM 17 1, iB 18 .gtr 16 17, iM 19 18, gT 20 19 (jM 0), gT 21 19 (jM 7), gT 22 19 (jX 1 20 21), gT 23 19 (jL 1 22), gT 24 19 (jM 0), gT 25 19 (jM 7), gT 26 19 (jD .sub 25 1), gT 27 19 (jX 1 24 26), gT 28 19 (jL 1 27), ⟨(.some 29), (.call .false (.c (.fn 46 [])) [(tI 23), (tI 28)]), (.some (19, .true))⟩, iQ 30 19 29]) (.cond (tI 30) .skip (.exit 2))) (.seq (.block 3 (.ops [iM 33 0, iM 34 7, iM 35 0, iM 36 7, iD 37 .sub 36 1, iM 38 0, iM 39 7, iD 40 .sub 39 1, iX 41 1 38 40, iL 42 1 41, iM 43 0, iM 44 7, iX 45 1 43 44, iL 46 1 45, iX 47 1 33 34, gN (jV 1 47 42), iX 48 1 35 37, gN (jV 1 48 46)])) (.ops [iM 31 7, iD 32 .sub 31 1, iM 7 32])))
def ir40_l1 : IC :=
  (.seq (.seq (.ops [iM 10 6, iM 11 2, iB 12 .lss 10 11]) (.cond (tI 12) .skip (.exit 0))) (.seq (.block 1 (.seq (.ops [iM 15 6, iM 7 15]) (.block 2 (.loop [0, 1, 2, 6, 7] ir40_l0)))) (.ops [iM 13 6, iD 14 .add 13 1, iM 6 14])))
def ir40 : IFun :=
  ⟨49, [], (.seq (.ops [iM 8 1, iD 9 .add 8 1, iM 6 9]) (.block 0 (.loop [0, 1, 2, 6] ir40_l1)))⟩
theorem ir40_ok : compFn prog (shOf sh []) [[0, 1, 2, 6], [0, 1, 2, 6, 7]] f40 = some ir40 := by kernel_rfl
def ir41_l0 : IC :=
  (.seq (.seq (.ops [iM 29 10, iD 30 .geq 29 0]) (.cond (tI 30) .skip (.exit 2))) (.seq (.block 3 (.seq (.ops [iM 33 0, iM 34 6, iM 35 0, iM 36 6, iM 37 10, iB 38 .add 36 37, iM 39 0, iM 40 6, iM 41 10, iB 42 .add 40 41, iX 43 1 39 42, iL 44 1 43, iM 45 0, iM 46 6, iX 47 1 45 46, iL 48 1 47, iX 49 1 33 34, gN (jV 1 49 44), iX 50 1 35 38, gN (jV 1 50 48)]) (.ops [iM 51 0, iM 52 7, iM 53 10, iM 54 6, oI 55 (.call .false (.c (.fn 51 [])) [(tI 51), (tI 52), (tI 53), (tI 54)])]))) (.ops [iM 31 10, iD 32 .sub 31 1, iM 10 32])))
def ir41_l1 : IC :=
  (.seq (.seq (.ops [iM 18 9, iD 19 .geq 18 0]) (.cond (tI 19) .skip (.exit 0))) (.seq (.block 1 (.ops [iM 22 0, iM 23 9, iM 24 8, iM 25 6, oI 26 (.call .false (.c (.fn 51 [])) [(tI 22), (tI 23), (tI 24), (tI 25)])])) (.ops [iM 20 9, iD 21 .sub 20 1, iM 9 21])))
def ir41 : IFun :=
  ⟨56, [], (.seq (.ops [iM 11 1, iM 6 11]) (.seq (.ops [iC 7 0]) (.seq (.ops [iM 12 2, iM 13 1, iB 14 .sub 12 13, iM 8 14]) (.seq (.seq (.ops [iM 15 8, iD 16 .sub 15 1, iD 17 .quo 16 2, iM 9 17]) (.block 0 (.loop [0, 6, 7, 8, 9] ir41_l1))) (.seq (.ops [iM 27 8, iD 28 .sub 27 1, iM 10 28]) (.block 2 (.loop [0, 6, 7, 10] ir41_l0)))))))⟩
theorem ir41_ok : compFn prog (shOf sh []) [[0, 6, 7, 8, 9], [0, 6, 7, 10]] f41 = some ir41 := by kernel_rfl
def ir42_l0 : IC :=
  (.seq (.seq (.ops [iM 26 9, iM 27 1, iM 28 6, iD 29 .quo 28 4, iD 30 .mul 29 2, iB 31 .add 27 30, iD 32 .add 31 1, iB 33 .leq 26 32]) (.cond (tI 33) .skip (.exit 0))) (.seq (.block 1 (.seq (.ops [iK 36 53 7, iM 37 8, oI 38 (.bin .sub (tI 37) (.c (.p (.val (.int .u64 1))))), iB 39 .and 36 38, oI 40 (.convI .i64 (tI 39)), iM 10 40]) (.seq (.seq (.ops [iM 41 10, iM 42 6, iB 43 .geq 41 42]) (.cond (tI 43) (.ops [iM 44 10, iM 45 6, iB 46 .sub 44 45, iM 10 46]) .skip)) (.ops [iM 47 0, iM 48 9, iM 49 0, iM 50 1, iM 51 10, iB 52 .add 50 51, iM 53 0, iM 54 1, iM 55 10, iB 56 .add 54 55, iX 57 1 53 56, iL 58 1 57, iM 59 0, iM 60 9, iX 61 1 59 60, iL 62 1 61, iX 63 1 47 48, gN (jV 1 63 58), iX 64 1 49 52, gN (jV 1 64 62)])))) (.ops [iM 34 9, iD 35 .add 34 1, iM 9 35])))
def ir42 : IFun :=
  ⟨65, [], (.seq (.ops [iM 11 2, iM 12 1, iB 13 .sub 11 12, iM 6 13]) (.seq (.ops [iM 14 6, iD 15 .geq 14 8]) (.cond (tI 15) (.seq (.ops [iM 16 6, oI 17 (.convI .u64 (tI 16)), oI 7 (.alloc 94 [(.z zU)]), gN (jV 1 7 17)]) (.seq (.ops [iM 18 6, iK 19 52 18, iM 8 19]) (.seq (.ops [iM 20 1, iM 21 6, iD 22 .quo 21 4, iD 23 .mul 22 2, iB 24 .add 20 23, iD 25 .sub 24 1, iM 9 25]) (.block 0 (.loop [0, 1, 6, 7, 8, 9] ir42_l0))))) .skip)))⟩
theorem ir42_ok : compFn prog (shOf sh []) [[0, 1, 6, 7, 8, 9]] f42 = some ir42 := by kernel_rfl
def ir43 : IFun :=
  ⟨57, [(.tmp 6), (.tmp 7)], (.seq (.ops [iC 6 0, iC 7 0]) (.seq (.ops [iM 13 2, iM 14 1, iB 15 .sub 13 14, iM 8 15]) (.seq (.ops [oI 9 (.alloc 3 [zZ])]) (.seq (.ops [iM 16 1, iM 17 8, iD 18 .quo 17 4, iD 19 .mul 18 1, iB 20 .add 16 19, iM 10 20]) (.seq (.ops [iM 21 1, iM 22 8, iD 23 .quo 22 4, iD 24 .mul 23 2, iB 25 .add 21 24, iM 11 25]) (.seq (.ops [iM 26 1, iM 27 8, iD 28 .quo 27 4, iD 29 .mul 28 3, iB 30 .add 26 29, iM 12 30]) (.seq (.seq (.ops [iM 31 8, iD 32 .geq 31 8]) (.cond (tI 32) (.seq (.seq (.ops [iM 33 8, iD 34 .geq 33 50]) (.cond (tI 34) (.seq (.ops [iM 35 0, iM 36 10, oI 37 (.call .false (.c (.fn 54 [])) [(tI 35), (tI 36), (tI 9)]), iM 10 37]) (.seq (.ops [iM 38 0, iM 39 11, oI 40 (.call .false (.c (.fn 54 [])) [(tI 38), (tI 39), (tI 9)]), iM 11 40]) (.ops [iM 41 0, iM 42 12, oI 43 (.call .false (.c (.fn 54 [])) [(tI 41), (tI 42), (tI 9)]), iM 12 43]))) .skip)) (.ops [iM 44 0, iM 45 10, iM 46 11, iM 47 12, oI 48 (.call .false (.c (.fn 55 [])) [(tI 44), (tI 45), (tI 46), (tI 47), (tI 9)]), iM 11 48])) .skip)) (.seq (.ops [iL 49 1 9]) (.block 0 (.seq (.ops [iD 52 .eql 49 0, iM 51 52]) (.cond (tI 51) (.seq (.ops [iM 53 11, iM 6 53, iC 7 1]) .ret) (.seq (.ops [iD 55 .eql 49 12, iM 54 55]) (.cond (tI 54) (.seq (.ops [iM 56 11, iM 6 56, iC 7 2]) .ret) (.seq (.ops [iM 50 11, iM 6 50, iC 7 0]) .ret))))))))))))))⟩
theorem ir43_ok : compFn prog (shOf sh []) [] f43 = some ir43 := by kernel_rfl
def ir44_l0 : IC :=
  (.seq (.seq (.ops [iM 11 6, iM 12 7, iB 13 .lss 11 12]) (.cond (tI 13) .skip (.exit 0))) (.block 1 (.seq (.ops [iM 14 0, iM 15 6, iM 16 0, iM 17 7, iM 18 0, iM 19 7, iX 20 1 18 19, iL 21 1 20, iM 22 0, iM 23 6, iX 24 1 22 23, iL 25 1 24, iX 26 1 14 15, gN (jV 1 26 21), iX 27 1 16 17, gN (jV 1 27 25)]) (.seq (.ops [iM 28 6, iD 29 .add 28 1, iM 6 29]) (.ops [iM 30 7, iD 31 .sub 30 1, iM 7 31])))))
def ir44 : IFun :=
  ⟨32, [], (.seq (.ops [iM 8 1, iM 6 8]) (.seq (.ops [iM 9 2, iD 10 .sub 9 1, iM 7 10]) (.block 0 (.loop [0, 6, 7] ir44_l0))))⟩
theorem ir44_ok : compFn prog (shOf sh []) [[0, 6, 7]] f44 = some ir44 := by kernel_rfl
def ir45_l0 : IC :=
  (.seq (.seq (.ops [iM 101 10, iM 102 2, iB 103 .lss 101 102]) (.cond (tI 103) .skip (.exit 6))) (.seq (.block 7 (.seq (.seq (.ops [iM 106 0, iM 107 10, iX 108 1 106 107, iL 109 1 108, iM 110 0, iM 111 10, iD 112 .sub 111 1, iX 113 1 110 112, iL 114 1 113, oI 115 (.call .false (.c (.fn 46 [])) [(tI 109), (tI 114)]), iU 116 115]) (.cond (tI 116) (.exit 6) .skip)) (.ops [iM 117 0, iM 118 10, iM 119 0, iM 120 10, iD 121 .sub 120 1, iM 122 0, iM 123 10, iD 124 .sub 123 1, iX 125 1 122 124, iL 126 1 125, iM 127 0, iM 128 10, iX 129 1 127 128, iL 130 1 129, iX 131 1 117 118, gN (jV 1 131 126), iX 132 1 119 121, gN (jV 1 132 130)]))) (.ops [iM 104 10, iD 105 .add 104 1, iM 10 105])))
def ir45_l1 : IC :=
  (.seq (.seq (.ops [iM 64 9, iD 65 .geq 64 1]) (.cond (tI 65) .skip (.exit 4))) (.seq (.block 5 (.seq (.seq (.ops [iM 68 0, iM 69 9, iX 70 1 68 69, iL 71 1 70, iM 72 0, iM 73 9, iD 74 .sub 73 1, iX 75 1 72 74, iL 76 1 75, oI 77 (.call .false (.c (.fn 46 [])) [(tI 71), (tI 76)]), iU 78 77]) (.cond (tI 78) (.exit 4) .skip)) (.ops [iM 79 0, iM 80 9, iM 81 0, iM 82 9, iD 83 .sub 82 1, iM 84 0, iM 85 9, iD 86 .sub 85 1, iX 87 1 84 86, iL 88 1 87, iM 89 0, iM 90 9, iX 91 1 89 90, iL 92 1 91, iX 93 1 79 80, gN (jV 1 93 88), iX 94 1 81 83, gN (jV 1 94 92)]))) (.ops [iM 66 9, iD 67 .sub 66 1, iM 9 67])))
def ir45_l2 : IC :=
  (.seq (.seq (.ops [iM 17 7, iM 18 2, iB 19 .lss 17 18, iM 20 19, gT 21 20 (jM 0), gT 22 20 (jM 7), gT 23 20 (jX 1 21 22), gT 24 20 (jL 1 23), gT 25 20 (jM 0), gT 26 20 (jM 7), gT 27 20 (jD .sub 26 1), gT 28 20 (jX 1 25 27), gT 29 20 (jL 1 28), ⟨(.some 30), (.call .false (.c (.fn 46 [])) [(tI 24), (tI 29)]), (.some (20, .true))⟩, gT 31 20 (jU 30), iQ 32 20 31]) (.cond (tI 32) .skip (.exit 2))) (.block 3 (.ops [iM 33 7, iD 34 .add 33 1, iM 7 34])))
def ir45_l3 : IC :=
  (.seq (.seq (.ops [iM 13 8, iD 14 .lss 13 5]) (.cond (tI 14) .skip (.exit 0))) (.seq (.block 1 (.seq (.block 2 (.loop [0, 1, 2, 7, 8] ir45_l2)) (.seq (.seq (.ops [iM 35 7, iM 36 2, iB 37 .eql 35 36]) (.cond (tI 37) (.seq (.ops [iE 6 true]) .ret) .skip)) (.seq (.seq (.ops [iM 38 2, iM 39 1, iB 40 .sub 38 39, iD 41 .lss 40 50]) (.cond (tI 41) (.seq (.ops [iE 6 false]) .ret) .skip)) (.seq (.ops [iM 42 0, iM 43 7, iM 44 0, iM 45 7, iD 46 .sub 45 1, iM 47 0, iM 48 7, iD 49 .sub 48 1, iX 50 1 47 49, iL 51 1 50, iM 52 0, iM 53 7, iX 54 1 52 53, iL 55 1 54, iX 56 1 42 43, gN (jV 1 56 51), iX 57 1 44 46, gN (jV 1 57 55)]) (.seq (.seq (.ops [iM 58 7, iM 59 1, iB 60 .sub 58 59, iD 61 .geq 60 2]) (.cond (tI 61) (.seq (.ops [iM 62 7, iD 63 .sub 62 1, iM 9 63]) (.block 4 (.loop [0, 1, 2, 7, 8, 9] ir45_l1))) .skip)) (.seq (.ops [iM 95 2, iM 96 7, iB 97 .sub 95 96, iD 98 .geq 97 2]) (.cond (tI 98) (.seq (.ops [iM 99 7, iD 100 .add 99 1, iM 10 100]) (.block 6 (.loop [0, 1, 2, 7, 8, 10] ir45_l0))) .skip)))))))) (.ops [iM 15 8, iD 16 .add 15 1, iM 8 16])))
def ir45 : IFun :=
  ⟨133, [(.tmp 6)], (.seq (.ops [iE 6 false]) (.seq (.ops [iM 11 1, iD 12 .add 11 1, iM 7 12]) (.seq (.seq (.ops [iC 8 0]) (.block 0 (.loop [0, 1, 2, 7, 8] ir45_l3))) (.seq (.ops [iE 6 false]) .ret))))⟩
theorem ir45_ok : compFn prog (shOf sh []) [[0, 1, 2, 7, 8], [0, 1, 2, 7, 8], [0, 1, 2, 7, 8, 9], [0, 1, 2, 7, 8, 10]] f45 = some ir45 := by kernel_rfl
def ir46 : IFun :=
  ⟨17, [(.tmp 4)], (.seq (.ops [iE 4 false]) (.seq (.ops [iM 5 0, iK 6 56 5, iM 7 6, gT 8 7 (jM 1), gT 9 7 (jK 56 8), gT 10 7 (jU 9), iQ 11 7 10, iM 12 11, gF 13 12 (jM 0), gF 14 12 (jM 1), gF 15 12 (jB .lss 13 14), iP 16 12 15, iM 4 16]) .ret))⟩
theorem ir46_ok : compFn prog (shOf sh []) [] f46 = some ir46 := by kernel_rfl
def ir47_l0 : IC :=
  (.seq (.seq (.ops [iM 46 9, iM 47 10, iB 48 .leq 46 47, iM 49 48, gT 50 49 (jM 0), gT 51 49 (jM 1), gT 52 49 (jX 1 50 51), gT 53 49 (jL 1 52), gT 54 49 (jM 0), gT 55 49 (jM 10), gT 56 49 (jX 1 54 55), gT 57 49 (jL 1 56), ⟨(.some 58), (.call .false (.c (.fn 46 [])) [(tI 53), (tI 57)]), (.some (49, .true))⟩, iQ 59 49 58]) (.cond (tI 59) .skip (.exit 4))) (.block 5 (.ops [iM 60 10, iD 61 .sub 60 1, iM 10 61])))
def ir47_l1 : IC :=
  (.seq (.seq (.ops [iM 29 9, iM 30 10, iB 31 .leq 29 30, iM 32 31, gT 33 32 (jM 0), gT 34 32 (jM 1), gT 35 32 (jX 1 33 34), gT 36 32 (jL 1 35), gT 37 32 (jM 0), gT 38 32 (jM 9), gT 39 32 (jX 1 37 38), gT 40 32 (jL 1 39), ⟨(.some 41), (.call .false (.c (.fn 46 [])) [(tI 36), (tI 40)]), (.some (32, .true))⟩, gT 42 32 (jU 41), iQ 43 32 42]) (.cond (tI 43) .skip (.exit 2))) (.block 3 (.ops [iM 44 9, iD 45 .add 44 1, iM 9 45])))
def ir47_l2 : IC :=
  (.block 1 (.seq (.block 2 (.loop [0, 1, 9, 10] ir47_l1)) (.seq (.block 4 (.loop [0, 1, 9, 10] ir47_l0)) (.seq (.seq (.ops [iM 62 9, iM 63 10, iB 64 .gtr 62 63]) (.cond (tI 64) (.exit 0) .skip)) (.seq (.ops [iM 65 0, iM 66 9, iM 67 0, iM 68 10, iM 69 0, iM 70 10, iX 71 1 69 70, iL 72 1 71, iM 73 0, iM 74 9, iX 75 1 73 74, iL 76 1 75, iX 77 1 65 66, gN (jV 1 77 72), iX 78 1 67 68, gN (jV 1 78 76)]) (.seq (.ops [iM 79 9, iD 80 .add 79 1, iM 9 80]) (.ops [iM 81 10, iD 82 .sub 81 1, iM 10 82])))))))
def ir47 : IFun :=
  ⟨84, [(.tmp 8)], (.seq (.ops [iC 8 0]) (.seq (.ops [iM 11 0, iM 12 1, iM 13 0, iM 14 3, iM 15 0, iM 16 3, iX 17 1 15 16, iL 18 1 17, iM 19 0, iM 20 1, iX 21 1 19 20, iL 22 1 21, iX 23 1 11 12, gN (jV 1 23 18), iX 24 1 13 14, gN (jV 1 24 22)]) (.seq (.ops [iM 25 1, iD 26 .add 25 1, iM 27 2, iD 28 .sub 27 1, iM 9 26, iM 10 28]) (.seq (.block 0 (.loop [0, 1, 9, 10] ir47_l2)) (.seq (.ops [iM 83 9, iM 8 83]) .ret)))))⟩
theorem ir47_ok : compFn prog (shOf sh []) [[0, 1, 9, 10], [0, 1, 9, 10], [0, 1, 9, 10]] f47 = some ir47 := by kernel_rfl
def ir48_l0 : IC :=
  (.seq (.seq (.ops [iM 115 10, iM 116 11, iB 117 .leq 115 116, iM 118 117, gT 119 118 (jM 0), gT 120 118 (jM 11), gT 121 118 (jX 1 119 120), gT 122 118 (jL 1 121), gT 123 118 (jM 0), gT 124 118 (jM 1), gT 125 118 (jX 1 123 124), gT 126 118 (jL 1 125), ⟨(.some 127), (.call .false (.c (.fn 46 [])) [(tI 122), (tI 126)]), (.some (118, .true))⟩, gT 128 118 (jU 127), iQ 129 118 128]) (.cond (tI 129) .skip (.exit 8))) (.block 9 (.ops [iM 130 11, iD 131 .sub 130 1, iM 11 131])))
def ir48_l1 : IC :=
  (.seq (.seq (.ops [iM 99 10, iM 100 11, iB 101 .leq 99 100, iM 102 101, gT 103 102 (jM 0), gT 104 102 (jM 10), gT 105 102 (jX 1 103 104), gT 106 102 (jL 1 105), gT 107 102 (jM 0), gT 108 102 (jM 1), gT 109 102 (jX 1 107 108), gT 110 102 (jL 1 109), ⟨(.some 111), (.call .false (.c (.fn 46 [])) [(tI 106), (tI 110)]), (.some (102, .true))⟩, iQ 112 102 111]) (.cond (tI 112) .skip (.exit 6))) (.block 7 (.ops [iM 113 10, iD 114 .add 113 1, iM 10 114])))
def ir48_l2 : IC :=
  (.block 5 (.seq (.block 6 (.loop [0, 1, 10, 11] ir48_l1)) (.seq (.block 8 (.loop [0, 1, 10, 11] ir48_l0)) (.seq (.seq (.ops [iM 132 10, iM 133 11, iB 134 .gtr 132 133]) (.cond (tI 134) (.exit 4) .skip)) (.seq (.ops [iM 135 0, iM 136 10, iM 137 0, iM 138 11, iM 139 0, iM 140 11, iX 141 1 139 140, iL 142 1 141, iM 143 0, iM 144 10, iX 145 1 143 144, iL 146 1 145, iX 147 1 135 136, gN (jV 1 147 142), iX 148 1 137 138, gN (jV 1 148 146)]) (.seq (.ops [iM 149 10, iD 150 .add 149 1, iM 10 150]) (.ops [iM 151 11, iD 152 .sub 151 1, iM 11 152])))))))
def ir48_l3 : IC :=
  (.seq (.seq (.ops [iM 46 10, iM 47 11, iB 48 .leq 46 47, iM 49 48, gT 50 49 (jM 0), gT 51 49 (jM 11), gT 52 49 (jX 1 50 51), gT 53 49 (jL 1 52), gT 54 49 (jM 0), gT 55 49 (jM 1), gT 56 49 (jX 1 54 55), gT 57 49 (jL 1 56), ⟨(.some 58), (.call .false (.c (.fn 46 [])) [(tI 53), (tI 57)]), (.some (49, .true))⟩, gT 59 49 (jU 58), iQ 60 49 59]) (.cond (tI 60) .skip (.exit 2))) (.block 3 (.ops [iM 61 11, iD 62 .sub 61 1, iM 11 62])))
def ir48_l4 : IC :=
  (.seq (.seq (.ops [iM 30 10, iM 31 11, iB 32 .leq 30 31, iM 33 32, gT 34 33 (jM 0), gT 35 33 (jM 10), gT 36 33 (jX 1 34 35), gT 37 33 (jL 1 36), gT 38 33 (jM 0), gT 39 33 (jM 1), gT 40 33 (jX 1 38 39), gT 41 33 (jL 1 40), ⟨(.some 42), (.call .false (.c (.fn 46 [])) [(tI 37), (tI 41)]), (.some (33, .true))⟩, iQ 43 33 42]) (.cond (tI 43) .skip (.exit 0))) (.block 1 (.ops [iM 44 10, iD 45 .add 44 1, iM 10 45])))
def ir48 : IFun :=
  ⟨168, [(.tmp 8), (.tmp 9)], (.seq (.ops [iC 8 0, iE 9 false]) (.seq (.ops [iM 12 0, iM 13 1, iM 14 0, iM 15 3, iM 16 0, iM 17 3, iX 18 1 16 17, iL 19 1 18, iM 20 0, iM 21 1, iX 22 1 20 21, iL 23 1 22, iX 24 1 12 13, gN (jV 1 24 19), iX 25 1 14 15, gN (jV 1 25 23)]) (.seq (.ops [iM 26 1, iD 27 .add 26 1, iM 28 2, iD 29 .sub 28 1, iM 10 27, iM 11 29]) (.seq (.block 0 (.loop [0, 1, 10, 11] ir48_l4)) (.seq (.block 2 (.loop [0, 1, 10, 11] ir48_l3)) (.seq (.seq (.ops [iM 63 10, iM 64 11, iB 65 .gtr 63 64]) (.cond (tI 65) (.seq (.ops [iM 66 0, iM 67 11, iM 68 0, iM 69 1, iM 70 0, iM 71 1, iX 72 1 70 71, iL 73 1 72, iM 74 0, iM 75 11, iX 76 1 74 75, iL 77 1 76, iX 78 1 66 67, gN (jV 1 78 73), iX 79 1 68 69, gN (jV 1 79 77)]) (.seq (.ops [iM 80 11, iM 8 80, iE 9 true]) .ret)) .skip)) (.seq (.ops [iM 81 0, iM 82 10, iM 83 0, iM 84 11, iM 85 0, iM 86 11, iX 87 1 85 86, iL 88 1 87, iM 89 0, iM 90 10, iX 91 1 89 90, iL 92 1 91, iX 93 1 81 82, gN (jV 1 93 88), iX 94 1 83 84, gN (jV 1 94 92)]) (.seq (.ops [iM 95 10, iD 96 .add 95 1, iM 10 96]) (.seq (.ops [iM 97 11, iD 98 .sub 97 1, iM 11 98]) (.seq (.block 4 (.loop [0, 1, 10, 11] ir48_l2)) (.seq (.ops [iM 153 0, iM 154 11, iM 155 0, iM 156 1, iM 157 0, iM 158 1, iX 159 1 157 158, iL 160 1 159, iM 161 0, iM 162 11, iX 163 1 161 162, iL 164 1 163, iX 165 1 153 154, gN (jV 1 165 160), iX 166 1 155 156, gN (jV 1 166 164)]) (.seq (.ops [iM 167 11, iM 8 167, iE 9 false]) .ret))))))))))))⟩
theorem ir48_ok : compFn prog (shOf sh []) [[0, 1, 10, 11], [0, 1, 10, 11], [0, 1, 10, 11], [0, 1, 10, 11], [0, 1, 10, 11]] f48 = some ir48 := by kernel_rfl
def ir49 : IFun :=
  ⟨19, [(.tmp 2)], (.seq (.ops [iC 2 0]) (.seq (.seq (.ops [iM 3 0, oI 4 (.bin .geq (tI 3) (.c (.p (.val (.int .u32 65536)))))]) (.cond (tI 4) (.seq (.ops [iM 5 0, oI 6 (.bin .shr (tI 5) (.c (.p (.val (.int .u64 16))))), iM 0 6]) (.ops [iC 2 16])) .skip)) (.seq (.seq (.ops [iM 7 0, oI 8 (.bin .geq (tI 7) (.c (.p (.val (.int .u32 256)))))]) (.cond (tI 8) (.seq (.ops [iM 9 0, oI 10 (.bin .shr (tI 9) (.c (.p (.val (.int .u64 8))))), iM 0 10]) (.ops [iM 11 2, iD 12 .add 11 8, iM 2 12])) .skip)) (.seq (.ops [iM 13 2, iM 14 0, oI 15 (.convI .u8 (tI 14)), ⟨(.some 16), (.indexS (.c (.p (.val (.string ⟨([0, 1, 2, 2, 3, 3, 3, 3, 4, 4, 4, 4, 4, 4, 4, 4, 5, 5, 5, 5, 5, 5, 5, 5, 5, 5, 5, 5, 5, 5, 5, 5, 6, 6, 6, 6, 6, 6, 6, 6, 6, 6, 6, 6, 6, 6, 6, 6, 6, 6, 6, 6, 6, 6, 6, 6, 6, 6, 6, 6, 6, 6, 6, 6, 7, 7, 7, 7, 7, 7, 7, 7, 7, 7, 7, 7, 7, 7, 7, 7, 7, 7, 7, 7, 7, 7, 7, 7, 7, 7, 7, 7, 7, 7, 7, 7, 7, 7, 7, 7, 7, 7, 7, 7, 7, 7, 7, 7, 7, 7, 7, 7, 7, 7, 7, 7, 7, 7, 7, 7, 7, 7, 7, 7, 7, 7, 7, 7, 8, 8, 8, 8, 8, 8, 8, 8, 8, 8, 8, 8, 8, 8, 8, 8, 8, 8, 8, 8, 8, 8, 8, 8, 8, 8, 8, 8, 8, 8, 8, 8, 8, 8, 8, 8, 8, 8, 8, 8, 8, 8, 8, 8, 8, 8, 8, 8, 8, 8, 8, 8, 8, 8, 8, 8, 8, 8, 8, 8, 8, 8, 8, 8, 8, 8, 8, 8, 8, 8, 8, 8, 8, 8, 8, 8, 8, 8, 8, 8, 8, 8, 8, 8, 8, 8, 8, 8, 8, 8, 8, 8, 8, 8, 8, 8, 8, 8, 8, 8, 8, 8, 8, 8, 8, 8, 8, 8, 8, 8, 8, 8, 8, 8, 8, 8, 8, 8, 8, 8, 8, 8, 8, 8, 8, 8, 8, 8] : List UInt8).toArray⟩)))) (tI 15)), .none⟩, oI 17 (.convI .i64 (tI 16)), iB 18 .add 13 17, iM 2 18]) .ret))))⟩
theorem ir49_ok : compFn prog (shOf sh []) [] f49 = some ir49 := by kernel_rfl
def ir50 : IFun :=
  ⟨25, [(.tmp 2)], (.seq (.ops [iC 2 0]) (.seq (.seq (.ops [iM 3 0, oI 4 (.bin .geq (tI 3) (.c (.p (.val (.int .u64 4294967296)))))]) (.cond (tI 4) (.seq (.ops [iM 5 0, oI 6 (.bin .shr (tI 5) (.c (.p (.val (.int .u64 32))))), iM 0 6]) (.ops [iC 2 32])) .skip)) (.seq (.seq (.ops [iM 7 0, oI 8 (.bin .geq (tI 7) (.c (.p (.val (.int .u64 65536)))))]) (.cond (tI 8) (.seq (.ops [iM 9 0, oI 10 (.bin .shr (tI 9) (.c (.p (.val (.int .u64 16))))), iM 0 10]) (.ops [iM 11 2, iD 12 .add 11 16, iM 2 12])) .skip)) (.seq (.seq (.ops [iM 13 0, oI 14 (.bin .geq (tI 13) (.c (.p (.val (.int .u64 256)))))]) (.cond (tI 14) (.seq (.ops [iM 15 0, oI 16 (.bin .shr (tI 15) (.c (.p (.val (.int .u64 8))))), iM 0 16]) (.ops [iM 17 2, iD 18 .add 17 8, iM 2 18])) .skip)) (.seq (.ops [iM 19 2, iM 20 0, oI 21 (.convI .u8 (tI 20)), ⟨(.some 22), (.indexS (.c (.p (.val (.string ⟨([0, 1, 2, 2, 3, 3, 3, 3, 4, 4, 4, 4, 4, 4, 4, 4, 5, 5, 5, 5, 5, 5, 5, 5, 5, 5, 5, 5, 5, 5, 5, 5, 6, 6, 6, 6, 6, 6, 6, 6, 6, 6, 6, 6, 6, 6, 6, 6, 6, 6, 6, 6, 6, 6, 6, 6, 6, 6, 6, 6, 6, 6, 6, 6, 7, 7, 7, 7, 7, 7, 7, 7, 7, 7, 7, 7, 7, 7, 7, 7, 7, 7, 7, 7, 7, 7, 7, 7, 7, 7, 7, 7, 7, 7, 7, 7, 7, 7, 7, 7, 7, 7, 7, 7, 7, 7, 7, 7, 7, 7, 7, 7, 7, 7, 7, 7, 7, 7, 7, 7, 7, 7, 7, 7, 7, 7, 7, 7, 8, 8, 8, 8, 8, 8, 8, 8, 8, 8, 8, 8, 8, 8, 8, 8, 8, 8, 8, 8, 8, 8, 8, 8, 8, 8, 8, 8, 8, 8, 8, 8, 8, 8, 8, 8, 8, 8, 8, 8, 8, 8, 8, 8, 8, 8, 8, 8, 8, 8, 8, 8, 8, 8, 8, 8, 8, 8, 8, 8, 8, 8, 8, 8, 8, 8, 8, 8, 8, 8, 8, 8, 8, 8, 8, 8, 8, 8, 8, 8, 8, 8, 8, 8, 8, 8, 8, 8, 8, 8, 8, 8, 8, 8, 8, 8, 8, 8, 8, 8, 8, 8, 8, 8, 8, 8, 8, 8, 8, 8, 8, 8, 8, 8, 8, 8, 8, 8, 8, 8, 8, 8, 8, 8, 8, 8, 8, 8] : List UInt8).toArray⟩)))) (tI 21)), .none⟩, oI 23 (.convI .i64 (tI 22)), iB 24 .add 19 23, iM 2 24]) .ret)))))⟩
theorem ir50_ok : compFn prog (shOf sh []) [] f50 = some ir50 := by kernel_rfl
def ir51_l0 : IC :=
  (.block 1 (.seq (.ops [iM 11 8, oI 12 (.bin .mul (cI 2) (tI 11)), iD 13 .add 12 1, iM 9 13]) (.seq (.seq (.ops [iM 14 9, iM 15 2, iB 16 .geq 14 15]) (.cond (tI 16) (.exit 0) .skip)) (.seq (.seq (.ops [iM 17 9, iD 18 .add 17 1, iM 19 2, iB 20 .lss 18 19, iM 21 20, gT 22 21 (jM 0), gT 23 21 (jM 3), gT 24 21 (jM 9), gT 25 21 (jB .add 23 24), gT 26 21 (jX 1 22 25), gT 27 21 (jL 1 26), gT 28 21 (jM 0), gT 29 21 (jM 3), gT 30 21 (jM 9), gT 31 21 (jB .add 29 30), gT 32 21 (jD .add 31 1), gT 33 21 (jX 1 28 32), gT 34 21 (jL 1 33), ⟨(.some 35), (.call .false (.c (.fn 46 [])) [(tI 27), (tI 34)]), (.some (21, .true))⟩, iQ 36 21 35]) (.cond (tI 36) (.ops [iM 37 9, iD 38 .add 37 1, iM 9 38]) .skip)) (.seq (.seq (.ops [iM 39 0, iM 40 3, iM 41 8, iB 42 .add 40 41, iX 43 1 39 42, iL 44 1 43, iM 45 0, iM 46 3, iM 47 9, iB 48 .add 46 47, iX 49 1 45 48, iL 50 1 49, oI 51 (.call .false (.c (.fn 46 [])) [(tI 44), (tI 50)]), iU 52 51]) (.cond (tI 52) .ret .skip)) (.seq (.ops [iM 53 0, iM 54 3, iM 55 8, iB 56 .add 54 55, iM 57 0, iM 58 3, iM 59 9, iB 60 .add 58 59, iM 61 0, iM 62 3, iM 63 9, iB 64 .add 62 63, iX 65 1 61 64, iL 66 1 65, iM 67 0, iM 68 3, iM 69 8, iB 70 .add 68 69, iX 71 1 67 70, iL 72 1 71, iX 73 1 53 56, gN (jV 1 73 66), iX 74 1 57 60, gN (jV 1 74 72)]) (.ops [iM 75 9, iM 8 75])))))))
def ir51 : IFun :=
  ⟨76, [], (.seq (.ops [iM 10 1, iM 8 10]) (.block 0 (.loop [0, 2, 3, 8] ir51_l0)))⟩
theorem ir51_ok : compFn prog (shOf sh []) [[0, 2, 3, 8]] f51 = some ir51 := by kernel_rfl
def ir52 : IFun :=
  ⟨7, [(.tmp 2)], (.seq (.ops [oI 2 (.mv (.c (.p zU)))]) (.seq (.ops [iM 3 0, oI 4 (.convI .u64 (tI 3)), iK 5 39 4, oI 6 (.bin .shl (.c (.p (.val (.int .u64 1)))) (tI 5)), iM 2 6]) .ret))⟩
theorem ir52_ok : compFn prog (shOf sh []) [] f52 = some ir52 := by kernel_rfl
def ir53 : IFun :=
  ⟨33, [(.tmp 2)], (.seq (.ops [oI 2 (.mv (.c (.p zU)))]) (.seq (.ops [iM 3 0, oI 4 (.nilChk (tI 3)), iL 5 1 4, iM 6 0, oI 7 (.nilChk (tI 6)), iL 8 1 7, oI 9 (.bin .shl (tI 8) (.c (.p (.val (.int .u64 13))))), iB 10 .xor 5 9, oI 11 (.nilChk (tI 3)), gN (jV 1 11 10)]) (.seq (.ops [iM 12 0, oI 13 (.nilChk (tI 12)), iL 14 1 13, iM 15 0, oI 16 (.nilChk (tI 15)), iL 17 1 16, oI 18 (.bin .shr (tI 17) (.c (.p (.val (.int .u64 7))))), iB 19 .xor 14 18, oI 20 (.nilChk (tI 12)), gN (jV 1 20 19)]) (.seq (.ops [iM 21 0, oI 22 (.nilChk (tI 21)), iL 23 1 22, iM 24 0, oI 25 (.nilChk (tI 24)), iL 26 1 25, oI 27 (.bin .shl (tI 26) (.c (.p (.val (.int .u64 17))))), iB 28 .xor 23 27, oI 29 (.nilChk (tI 21)), gN (jV 1 29 28)]) (.seq (.ops [iM 30 0, oI 31 (.nilChk (tI 30)), iL 32 1 31, iM 2 32]) .ret)))))⟩
theorem ir53_ok : compFn prog (shOf sh []) [] f53 = some ir53 := by kernel_rfl
def ir54 : IFun :=
  ⟨15, [(.tmp 6)], (.seq (.ops [iC 6 0]) (.seq (.ops [iM 7 0, iM 8 1, iD 9 .sub 8 1, iM 10 1, iM 11 1, iD 12 .add 11 1, iM 13 2, oI 14 (.call .false (.c (.fn 55 [])) [(tI 7), (tI 9), (tI 10), (tI 12), (tI 13)]), iM 6 14]) .ret))⟩
theorem ir54_ok : compFn prog (shOf sh []) [] f54 = some ir54 := by kernel_rfl
def ir55 : IFun :=
  ⟨36, [(.tmp 10)], (.seq (.ops [iC 10 0]) (.seq (.ops [iM 12 0, iM 13 1, iM 14 2, iM 15 4, oI 16 (.call .false (.c (.fn 57 [])) [(tI 12), (tI 13), (tI 14), (tI 15)]), iM 11 16, oI 17 (.extract (tI 11) 0), oI 18 (.extract (tI 11) 1), iM 1 17, iM 2 18]) (.seq (.ops [iM 20 0, iM 21 2, iM 22 3, iM 23 4, oI 24 (.call .false (.c (.fn 57 [])) [(tI 20), (tI 21), (tI 22), (tI 23)]), iM 19 24, oI 25 (.extract (tI 19) 0), oI 26 (.extract (tI 19) 1), iM 2 25, iM 3 26]) (.seq (.ops [iM 28 0, iM 29 1, iM 30 2, iM 31 4, oI 32 (.call .false (.c (.fn 57 [])) [(tI 28), (tI 29), (tI 30), (tI 31)]), iM 27 32, oI 33 (.extract (tI 27) 0), oI 34 (.extract (tI 27) 1), iM 1 33, iM 2 34]) (.seq (.ops [iM 35 2, iM 10 35]) .ret)))))⟩
theorem ir55_ok : compFn prog (shOf sh []) [] f55 = some ir55 := by kernel_rfl
def ir56 : IFun :=
  ⟨6, [(.tmp 2)], (.seq (.ops [iE 2 false]) (.seq (.ops [iM 3 0, iM 4 0, iB 5 .neq 3 4, iM 2 5]) .ret))⟩
theorem ir56_ok : compFn prog (shOf sh []) [] f56 = some ir56 := by kernel_rfl
def ir57 : IFun :=
  ⟨28, [(.tmp 8), (.tmp 9)], (.seq (.ops [iC 8 0, iC 9 0]) (.seq (.seq (.ops [iM 10 0, iM 11 2, iX 12 1 10 11, iL 13 1 12, iM 14 0, iM 15 1, iX 16 1 14 15, iL 17 1 16, oI 18 (.call .false (.c (.fn 46 [])) [(tI 13), (tI 17)])]) (.cond (tI 18) (.seq (.ops [iM 19 3, oI 20 (.nilChk (tI 19)), iL 21 1 20, iD 22 .add 21 1, oI 23 (.nilChk (tI 19)), gN (jV 1 23 22)]) (.seq (.ops [iM 24 2, iM 25 1, iM 8 24, iM 9 25]) .ret)) .skip)) (.seq (.ops [iM 26 1, iM 27 2, iM 8 26, iM 9 27]) .ret)))⟩
theorem ir57_ok : compFn prog (shOf sh []) [] f57 = some ir57 := by kernel_rfl
def fns : Nat → Option IFun
  | 6 => some ir6
  | 7 => some ir7
  | 8 => some ir8
  | 9 => some ir9
  | 10 => some ir10
  | 11 => some ir11
  | 13 => some ir13
  | 14 => some ir14
  | 15 => some ir15
  | 16 => some ir16
  | 17 => some ir17
  | 18 => some ir18
  | 19 => some ir19
  | 20 => some ir20
  | 21 => some ir21
  | 22 => some ir22
  | 23 => some ir23
  | 24 => some ir24
  | 25 => some ir25
  | 26 => some ir26
  | 27 => some ir27
  | 28 => some ir28
  | 29 => some ir29
  | 30 => some ir30
  | 31 => some ir31
  | 32 => some ir32
  | 33 => some ir33
  | 34 => some ir34
  | 35 => some ir35
  | 36 => some ir36
  | 37 => some ir37
  | 38 => some ir38
  | 39 => some ir39
  | 40 => some ir40
  | 41 => some ir41
  | 42 => some ir42
  | 43 => some ir43
  | 44 => some ir44
  | 45 => some ir45
  | 46 => some ir46
  | 47 => some ir47
  | 48 => some ir48
  | 49 => some ir49
  | 50 => some ir50
  | 51 => some ir51
  | 52 => some ir52
  | 53 => some ir53
  | 54 => some ir54
  | 55 => some ir55
  | 56 => some ir56
  | 57 => some ir57
  | _ => none
theorem fns_ok : ∀ f F, fns f = some F → ∃ shf fd ann, prog.funcs[f]? = some fd ∧ compFn prog shf ann fd = some F := by
  intro f F h
  unfold fns at h
  split at h
  · injection h with h; subst h; exact ⟨_, _, _, func6, ir6_ok⟩
  · injection h with h; subst h; exact ⟨_, _, _, func7, ir7_ok⟩
  · injection h with h; subst h; exact ⟨_, _, _, func8, ir8_ok⟩
  · injection h with h; subst h; exact ⟨_, _, _, func9, ir9_ok⟩
  · injection h with h; subst h; exact ⟨_, _, _, func10, ir10_ok⟩
  · injection h with h; subst h; exact ⟨_, _, _, func11, ir11_ok⟩
  · injection h with h; subst h; exact ⟨_, _, _, func13, ir13_ok⟩
  · injection h with h; subst h; exact ⟨_, _, _, func14, ir14_ok⟩
  · injection h with h; subst h; exact ⟨_, _, _, func15, ir15_ok⟩
  · injection h with h; subst h; exact ⟨_, _, _, func16, ir16_ok⟩
  · injection h with h; subst h; exact ⟨_, _, _, func17, ir17_ok⟩
  · injection h with h; subst h; exact ⟨_, _, _, func18, ir18_ok⟩
  · injection h with h; subst h; exact ⟨_, _, _, func19, ir19_ok⟩
  · injection h with h; subst h; exact ⟨_, _, _, func20, ir20_ok⟩
  · injection h with h; subst h; exact ⟨_, _, _, func21, ir21_ok⟩
  · injection h with h; subst h; exact ⟨_, _, _, func22, ir22_ok⟩
  · injection h with h; subst h; exact ⟨_, _, _, func23, ir23_ok⟩
  · injection h with h; subst h; exact ⟨_, _, _, func24, ir24_ok⟩
  · injection h with h; subst h; exact ⟨_, _, _, func25, ir25_ok⟩
  · injection h with h; subst h; exact ⟨_, _, _, func26, ir26_ok⟩
  · injection h with h; subst h; exact ⟨_, _, _, func27, ir27_ok⟩
  · injection h with h; subst h; exact ⟨_, _, _, func28, ir28_ok⟩
  · injection h with h; subst h; exact ⟨_, _, _, func29, ir29_ok⟩
  · injection h with h; subst h; exact ⟨_, _, _, func30, ir30_ok⟩
  · injection h with h; subst h; exact ⟨_, _, _, func31, ir31_ok⟩
  · injection h with h; subst h; exact ⟨_, _, _, func32, ir32_ok⟩
  · injection h with h; subst h; exact ⟨_, _, _, func33, ir33_ok⟩
  · injection h with h; subst h; exact ⟨_, _, _, func34, ir34_ok⟩
  · injection h with h; subst h; exact ⟨_, _, _, func35, ir35_ok⟩
  · injection h with h; subst h; exact ⟨_, _, _, func36, ir36_ok⟩
  · injection h with h; subst h; exact ⟨_, _, _, func37, ir37_ok⟩
  · injection h with h; subst h; exact ⟨_, _, _, func38, ir38_ok⟩
  · injection h with h; subst h; exact ⟨_, _, _, func39, ir39_ok⟩
  · injection h with h; subst h; exact ⟨_, _, _, func40, ir40_ok⟩
  · injection h with h; subst h; exact ⟨_, _, _, func41, ir41_ok⟩
  · injection h with h; subst h; exact ⟨_, _, _, func42, ir42_ok⟩
  · injection h with h; subst h; exact ⟨_, _, _, func43, ir43_ok⟩
  · injection h with h; subst h; exact ⟨_, _, _, func44, ir44_ok⟩
  · injection h with h; subst h; exact ⟨_, _, _, func45, ir45_ok⟩
  · injection h with h; subst h; exact ⟨_, _, _, func46, ir46_ok⟩
  · injection h with h; subst h; exact ⟨_, _, _, func47, ir47_ok⟩
  · injection h with h; subst h; exact ⟨_, _, _, func48, ir48_ok⟩
  · injection h with h; subst h; exact ⟨_, _, _, func49, ir49_ok⟩
  · injection h with h; subst h; exact ⟨_, _, _, func50, ir50_ok⟩
  · injection h with h; subst h; exact ⟨_, _, _, func51, ir51_ok⟩
  · injection h with h; subst h; exact ⟨_, _, _, func52, ir52_ok⟩
  · injection h with h; subst h; exact ⟨_, _, _, func53, ir53_ok⟩
  · injection h with h; subst h; exact ⟨_, _, _, func54, ir54_ok⟩
  · injection h with h; subst h; exact ⟨_, _, _, func55, ir55_ok⟩
  · injection h with h; subst h; exact ⟨_, _, _, func56, ir56_ok⟩
  · injection h with h; subst h; exact ⟨_, _, _, func57, ir57_ok⟩
  · cases h
end Go.Proofs.Try
