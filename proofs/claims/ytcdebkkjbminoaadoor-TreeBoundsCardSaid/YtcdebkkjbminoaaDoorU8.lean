/- The instructions of the functions, as the program has them. -/
import Derived.Test.YtcdebkkjbminoaaDoorProg
import Derived.Test.YtcdebkkjbminoaaDoorVD
import Derived.Test.YtcdebkkjbminoaaDoorIr8
namespace Go.Proofs.Tryd
open Go Go.Vs
def shU : List Nat := [57, 53, 73]
def ir31U : IFun :=
 ⟨19, [(.cell 4 .true 3), (.tmp 5)], (.seq (.ops [oI 2 (.box 25 (tI 0)), oI 4 (.alloc 25 [zZ, (.z (.val (.int .u8 0))), (.z (.val (.slice .none 0 0)))]), oI 5 (.mv (cI 0))]) (.seq (.ops [oI 10 (.load .true 3 (tI 2)), oI 11 (.mv (tI 1)), oI 12 (.call .false (.c (.fn 56 [])) [(tI 10), (tI 11)]), oI 9 (.mv (tI 12)), oI 13 (.extract (tI 9) 0), oI 14 (.extract (tI 9) 1), oI 15 (.extract (tI 9) 2), oI 6 (.alloc 25 [zZ, (.z (.val (.int .u8 0))), (.z (.val (.slice .none 0 0)))]), ⟨.none, (.store 3 (tI 6) (tI 13)), .none⟩, oI 7 (.mv (tI 14)), oI 8 (.mv (tI 15))]) (.seq (.ops [oI 16 (.load .true 3 (tI 6)), oI 17 (.call .true (.c (.fn 57 [])) [(tI 16)]), oI 18 (.mv (tI 8)), ⟨.none, (.store 3 (tI 4) (tI 17)), .none⟩, oI 5 (.mv (tI 18))]) .ret)))⟩
theorem ir31U_ok : compFn prog (shOf [57, 53, 73] [4, 6]) [] f31 = some ir31U := by kernel_rfl
def ir33U_l0 : IC :=
 (.seq (.ops [oI 45 (.bin .lss (tI 44) (tI 43))]) (.seq (.cond (tI 45) .skip (.exit 0)) (.seq (.block 1 (.seq (.ops [oI 46 (.indexA .none 1 (tI 42) (tI 44)), oI 47 (.load .false 1 (tI 46)), oI 16 (.mv (tI 47))]) (.ops [oI 48 (.mv (tI 14)), oI 49 (.nilChk (tI 48)), oI 50 (.fieldA 2 (tI 49)), oI 51 (.load .false 1 (tI 50)), oI 52 (.mv (tI 16)), oI 53 (.indexA .none 3 (tI 51) (tI 52)), oI 14 (.mv (tI 53))]))) (.ops [oI 54 (.bin .add (tI 44) (cI 1)), oI 44 (.mv (tI 54))]))))
def ir33U : IFun :=
 ⟨64, [(.cell 6 .true 3), (.tmp 7)], (.seq (.ops [oI 3 (.box 25 (tI 0)), oI 4 (.box 25 (tI 1)), oI 6 (.alloc 25 [zZ, (.z (.val (.int .u8 0))), (.z (.val (.slice .none 0 0)))]), oI 7 (.mv (cI 0))]) (.seq (.seq (.ops [oI 17 (.load .true 3 (tI 3)), oI 18 (.call .false (.c (.fn 23 [])) [(tI 17)]), oI 8 (.mv (tI 18))]) (.seq (.ops [oI 19 (.mv (tI 8)), oI 20 (.bin .neq (tI 19) (cI 0))]) (.cond (tI 20) (.seq (.ops [oI 21 (.build [(.val (.int .i64 0)), (.val (.int .u8 0)), (.lst 3 [])] []), oI 22 (.mv (tI 8)), ⟨.none, (.store 3 (tI 6) (tI 21)), .none⟩, oI 7 (.mv (tI 22))]) .ret) .skip))) (.seq (.seq (.ops [oI 23 (.load .true 3 (tI 4)), oI 24 (.call .false (.c (.fn 23 [])) [(tI 23)]), oI 9 (.mv (tI 24))]) (.seq (.ops [oI 25 (.mv (tI 9)), oI 26 (.bin .neq (tI 25) (cI 0))]) (.cond (tI 26) (.seq (.ops [oI 27 (.build [(.val (.int .i64 0)), (.val (.int .u8 0)), (.lst 3 [])] []), oI 28 (.mv (tI 9)), ⟨.none, (.store 3 (tI 6) (tI 27)), .none⟩, oI 7 (.mv (tI 28))]) .ret) .skip))) (.seq (.seq (.ops [oI 30 (.load .true 3 (tI 3)), oI 31 (.mv (tI 2)), oI 32 (.call .false (.c (.fn 56 [])) [(tI 30), (tI 31)]), oI 29 (.mv (tI 32)), oI 33 (.extract (tI 29) 0), oI 34 (.extract (tI 29) 1), oI 35 (.extract (tI 29) 2), oI 10 (.alloc 25 [zZ, (.z (.val (.int .u8 0))), (.z (.val (.slice .none 0 0)))]), ⟨.none, (.store 3 (tI 10) (tI 33)), .none⟩, oI 11 (.mv (tI 34)), oI 12 (.mv (tI 35))]) (.seq (.ops [oI 36 (.mv (tI 12)), oI 37 (.bin .neq (tI 36) (cI 0))]) (.cond (tI 37) (.seq (.ops [oI 38 (.build [(.val (.int .i64 0)), (.val (.int .u8 0)), (.lst 3 [])] []), oI 39 (.mv (tI 12)), ⟨.none, (.store 3 (tI 6) (tI 38)), .none⟩, oI 7 (.mv (tI 39))]) .ret) .skip))) (.seq (.ops [oI 40 (.load .true 3 (tI 3)), oI 41 (.call .true (.c (.fn 57 [])) [(tI 40)]), oI 13 (.alloc 25 [zZ, (.z (.val (.int .u8 0))), (.z (.val (.slice .none 0 0)))]), ⟨.none, (.store 3 (tI 13) (tI 41)), .none⟩]) (.seq (.ops [oI 14 (.mv (tI 13))]) (.seq (.seq (.ops [oI 42 (.mv (tI 2)), oI 43 (.len (tI 42)), oI 44 (.mv (cI 0))]) (.block 0 (.loop [4, 6, 13, 14, 42, 43, 44, 2000000] ir33U_l0))) (.seq (.ops [oI 55 (.mv (tI 14)), oI 56 (.load .true 3 (tI 4)), oI 57 (.call .true (.c (.fn 57 [])) [(tI 56)]), oI 58 (.nilChk (tI 55)), ⟨.none, (.store 3 (tI 58) (tI 57)), .none⟩]) (.seq (.seq (.ops [oI 59 (.load .true 3 (tI 13)), oI 60 (.call .false (.c (.fn 53 [])) [(tI 59), (.c (.fn 58 []))]), oI 61 (.bin .neq (tI 60) (cI 0))]) (.cond (tI 61) (.seq (.ops [oI 62 (.build [(.val (.int .i64 0)), (.val (.int .u8 0)), (.lst 3 [])] []), ⟨.none, (.store 3 (tI 6) (tI 62)), .none⟩, oI 7 (.mv (cI 3))]) .ret) .skip)) (.seq (.ops [oI 63 (.load .true 3 (tI 13)), ⟨.none, (.store 3 (tI 6) (tI 63)), .none⟩, oI 7 (.mv (cI 0))]) .ret))))))))))⟩
theorem ir33U_ok : compFn prog (shOf [57, 73] [6, 10, 13, 21, 27, 38, 62]) [[4, 6, 13, 14, 42, 43, 44, 2000000]] f33 = some ir33U := by kernel_rfl
def ir57U_l0 : IC :=
 (.seq (.ops [oI 12 (.bin .lss (tI 11) (tI 10))]) (.seq (.cond (tI 12) .skip (.exit 0)) (.seq (.block 1 (.seq (.ops [oI 13 (.mv (tI 11)), oI 3 (.mv (tI 13))]) (.opsR 0 [(.mk (oI 14 (.fieldA 2 (tI 1))) 0 0 [] 0), (.mk (oI 15 (.load .false 1 (tI 14))) 0 0 [] 0), (.mk (oI 16 (.mv (tI 3))) 0 0 [] 0), (.mk (oI 17 (.fieldA 2 (tI 1))) 0 0 [] 0), (.mk (oI 18 (.load .false 1 (tI 17))) 0 0 [1] 0), (.mk (oI 19 (.mv (tI 3))) 0 0 [] 0), (.mk (oI 20 (.indexA .none 3 (tI 18) (tI 19))) 0 0 [] 0), (.mk (oI 21 (.load .true 3 (tI 20))) 0 0 [1] 0), (.mk (oI 22 (.call .true (.c (.fn 57 [])) [(tI 21)])) 0 0 [1] 4), (.mk (oI 23 (.indexA .none 3 (tI 15) (tI 16))) 0 0 [] 0), (.mk ⟨.none, (.store 3 (tI 23) (tI 22)), .none⟩ 0 0 [] 0)]))) (.ops [oI 24 (.bin .add (tI 11) (cI 1)), oI 11 (.mv (tI 24))]))))
def ir57U : IFun :=
 ⟨26, [(.cell 2 .true 3)], (.seq (.ops [oI 1 (.box 25 (tI 0)), oI 2 (.alloc 25 [zZ, (.z (.val (.int .u8 0))), (.z (.val (.slice .none 0 0)))])]) (.seq (.ops [oI 4 (.fieldA 2 (tI 1)), oI 5 (.load .false 1 (tI 4)), oI 6 (.call .true (.c (.fn 73 [])) [(tI 5)]), oI 7 (.fieldA 2 (tI 1)), ⟨.none, (.store 1 (tI 7) (tI 6)), .none⟩]) (.seq (.seq (.ops [oI 8 (.fieldA 2 (tI 1)), oI 9 (.load .false 1 (tI 8)), oI 10 (.len (tI 9)), oI 11 (.mv (cI 0))]) (.block 0 (.loop [1, 2, 10, 11, 2000000] ir57U_l0))) (.seq (.ops [oI 25 (.load .true 3 (tI 1)), ⟨.none, (.store 3 (tI 2) (tI 25)), .none⟩]) .ret))))⟩
theorem ir57U_ok : compFn prog (shOf shU [2, 15100057]) [[1, 2, 10, 11, 2000000]] f57 = some ir57U := by kernel_rfl
def fnsU : Nat → Option IFun
 | 31 => some ir31U
 | 33 => some ir33U
 | 57 => some ir57U
 | _ => none
theorem fnsU_ok : ∀ f F, fnsU f = some F → ∃ shf fd ann, prog.funcs[f]? = some fd ∧ compFn prog shf ann fd = some F := by
 intro f F h
 unfold fnsU at h
 split at h
 ·injection h with h; subst h; exact ⟨_, _, _, func31, ir31U_ok⟩
 ·injection h with h; subst h; exact ⟨_, _, _, func33, ir33U_ok⟩
 ·injection h with h; subst h; exact ⟨_, _, _, func57, ir57U_ok⟩
 ·cases h
end Go.Proofs.Tryd
