/- tree.Read, run where what is read is known. -/
import Derived.Test.YtcdebkkjbminoaaDoorT9
import Derived.Test.YtcdebkkjbminoaaDoorVF
open List renaming getElem?_append_right → gar
namespace Go.Proofs.Tryd
set_option linter.unusedSimpArgs false
set_option linter.unusedVariables false
set_option maxRecDepth 100000
open Go Go.Vs
noncomputable def scB : Code := match f12.body with | some (.seq _ (.scope b)) => b | _ => .skip
noncomputable def r0B : Code := match f12.body with | some (.seq a _) => a | _ => .skip
noncomputable def x2B : Code := match findLabel scB 2 with | some (.seq _ x) => x | _ => .skip
noncomputable def x3B : Code := match findLabel scB 3 with | some (.seq _ x) => x | _ => .skip
noncomputable def x1B : Code := match findLabel scB 1 with | some (.seq _ x) => x | _ => .skip
noncomputable def x0B : Code := match findLabel scB 0 with | some (.seq _ x) => x | _ => .skip
def shP : List Nat := [48, 49, 50, 68, 69, 70, 82, 94, 72, 53, 51, 52, 54, 58, 71, 30, 29, 73]
abbrev shfP : Operand → Bool := shOf shP [2, 5, 9000086]
def r0_i : IC := (.ops [⟨(.some 2), (.alloc 25 [(.z (.val (.int .i64 0))), (.z (.val (.int .u8 0))), (.z (.val (.slice .none 0 0)))]), .none⟩, ⟨(.some 3), (.mv (.c (.p (.val (.int .i64 0))))), .none⟩])
def x0_i : IC := (.seq (.ops [⟨(.some 146), (.build [(.val (.int .i64 0)), (.val (.int .u8 0)), (.val (.slice .none 0 0))] []), .none⟩, ⟨.none, (.store 3 (.t 2) (.t 146)), .none⟩, ⟨(.some 3), (.mv (.c (.p (.val (.int .i64 240))))), .none⟩]) .ret)
def x1_i : IC := (.seq (.seq (.ops [⟨(.some 112), (.mv (.t 4)), .none⟩, ⟨(.some 113), (.len (.t 112)), .none⟩, ⟨(.some 114), (.bin .gtr (.t 113) (.c (.p (.val (.int .i64 0))))), .none⟩]) (.cond (.t 114) (.seq (.ops [⟨(.some 115), (.mv (.t 4)), .none⟩, ⟨(.some 116), (.mv (.t 4)), .none⟩, ⟨(.some 117), (.len (.t 116)), .none⟩, ⟨(.some 118), (.bin .sub (.t 117) (.c (.p (.val (.int .i64 1))))), .none⟩, ⟨(.some 119), (.indexA .none 3 (.t 115) (.t 118)), .none⟩, ⟨(.some 17), (.mv (.t 119)), .none⟩]) (.seq (.opsR 1 [(.mk ⟨(.some 120), (.mv (.t 17)), .none⟩ 0 0 [] 0), (.mk ⟨(.some 121), (.nilChk (.t 120)), .none⟩ 0 0 [] 0), (.mk ⟨(.some 122), (.fieldA 2 (.t 121)), .none⟩ 0 0 [] 0), (.mk ⟨(.some 123), (.load .false 1 (.t 122)), .none⟩ 0 0 [] 0), (.mk ⟨(.some 124), (.load .true 3 (.t 5)), .none⟩ 0 0 [3] 0), (.mk ⟨(.some 125), (.len (.t 123)), .none⟩ 0 0 [] 0), (.mk ⟨(.some 126), (.buildS 25 3 [(.val (.int .i64 0)), (.val (.int .u8 0)), (.val (.slice .none 0 0))] 1 [(0, (.c (.agg [(.p (.val (.int .i64 0))), (.p (.val (.int .u8 0))), (.p (.val (.slice .none 0 0)))])))]), .none⟩ 0 1 [3, 4] 0), (.mk ⟨(.some 127), (.append 25 3 40 [(.val (.int .i64 0)), (.val (.int .u8 0)), (.val (.slice .none 0 0))] (.t 123) (.t 126)), .none⟩ 1 0 [] 0), (.mk ⟨(.some 128), (.indexA .none 3 (.t 127) (.t 125)), .none⟩ 1 0 [] 0), (.mk ⟨.none, (.store 3 (.t 128) (.t 124)), .none⟩ 1 0 [] 0), (.mk ⟨(.some 129), (.nilChk (.t 120)), .none⟩ 1 0 [] 0), (.mk ⟨(.some 130), (.fieldA 2 (.t 129)), .none⟩ 1 0 [] 0), (.mk ⟨.none, (.store 1 (.t 130) (.t 127)), .none⟩ 1 0 [9] 0)]) (.seq (.block 0 (.seq (.ops [⟨(.some 132), (.mv (.t 7)), .none⟩, ⟨(.some 133), (.call .false (.c (.fn 43 [])) [(.t 132), (.c (.p (.val (.string ⟨([32] : List UInt8).toArray⟩))))]), .none⟩, ⟨(.some 131), (.mv (.t 133)), .none⟩]) (.cond (.t 131) (.seq (.ops [⟨(.some 134), (.mv (.t 7)), .none⟩, ⟨(.some 135), (.sliceS (.t 134) (.some (.c (.p (.val (.int .i64 1))))) .none), .none⟩, ⟨(.some 7), (.mv (.t 135)), .none⟩]) (.exit 1000002)) (.seq (.ops [⟨(.some 137), (.mv (.t 7)), .none⟩, ⟨(.some 138), (.call .false (.c (.fn 43 [])) [(.t 137), (.c (.p (.val (.string ⟨([41] : List UInt8).toArray⟩))))]), .none⟩, ⟨(.some 136), (.mv (.t 138)), .none⟩]) (.cond (.t 136) (.exit 1000003) .skip))))) (.exit 1000000)))) .skip)) (.seq (.block 1 (.seq (.ops [⟨(.some 140), (.mv (.t 7)), .none⟩, ⟨(.some 141), (.bin .neq (.t 140) (.c (.p (.val (.string ⟨([] : List UInt8).toArray⟩))))), .none⟩, ⟨(.some 139), (.mv (.t 141)), .none⟩]) (.cond (.t 139) (.exit 1000000) (.seq (.ops [⟨(.some 143), (.mv (.t 6)), .none⟩, ⟨(.some 142), (.mv (.t 143)), .none⟩]) (.cond (.t 142) (.seq (.ops [⟨(.some 144), (.build [(.val (.int .i64 0)), (.val (.int .u8 0)), (.val (.slice .none 0 0))] []), .none⟩, ⟨.none, (.store 3 (.t 2) (.t 144)), .none⟩, ⟨(.some 3), (.mv (.c (.p (.val (.int .i64 3))))), .none⟩]) .ret) .skip))))) (.seq (.seq (.ops [⟨(.some 145), (.load .true 3 (.t 5)), .none⟩, ⟨.none, (.store 3 (.t 2) (.t 145)), .none⟩, ⟨(.some 3), (.mv (.c (.p (.val (.int .i64 0))))), .none⟩]) .ret) (.seq .skip x0_i))))
def x3_i : IC := (.seq (.opsR 0 [(.mk ⟨(.some 99), (.mv (.t 4)), .none⟩ 0 0 [] 0), (.mk ⟨(.some 100), (.mv (.t 4)), .none⟩ 0 0 [] 0), (.mk ⟨(.some 101), (.len (.t 100)), .none⟩ 0 0 [] 0), (.mk ⟨(.some 102), (.bin .sub (.t 101) (.c (.p (.val (.int .i64 1))))), .none⟩ 0 0 [] 0), (.mk ⟨(.some 103), (.indexA .none 3 (.t 99) (.t 102)), .none⟩ 0 0 [] 0), (.mk ⟨(.some 104), (.load .true 3 (.t 103)), .none⟩ 0 0 [] 0), (.mk ⟨(.some 105), (.mv (.t 4)), .none⟩ 0 0 [] 0), (.mk ⟨(.some 106), (.mv (.t 4)), .none⟩ 0 0 [] 0), (.mk ⟨(.some 107), (.len (.t 106)), .none⟩ 0 0 [] 0), (.mk ⟨(.some 108), (.bin .sub (.t 107) (.c (.p (.val (.int .i64 1))))), .none⟩ 0 0 [] 0), (.mk ⟨(.some 109), (.slice 3 (.t 105) .none (.some (.t 108))), .none⟩ 0 0 [5] 0), (.mk ⟨(.some 110), (.mv (.t 7)), .none⟩ 0 0 [] 0), (.mk ⟨(.some 111), (.sliceS (.t 110) (.some (.c (.p (.val (.int .i64 1))))) .none), .none⟩ 0 0 [] 0), (.mk ⟨.none, (.store 3 (.t 5) (.t 104)), .none⟩ 0 0 [10] 0), (.mk ⟨(.some 4), (.mv (.t 109)), .none⟩ 0 0 [] 0), (.mk ⟨(.some 7), (.mv (.t 111)), .none⟩ 0 0 [] 0)]) (.seq .skip x1_i))
def x2_i : IC := (.seq (.seq (.ops [⟨(.some 24), (.mv (.t 7)), .none⟩, ⟨(.some 25), (.call .false (.c (.fn 38 [])) [(.t 24), (.c (.p (.val (.string ⟨([120] : List UInt8).toArray⟩))))]), .none⟩, ⟨(.some 23), (.mv (.t 25)), .none⟩, ⟨(.some 26), (.extract (.t 23) 0), .none⟩, ⟨(.some 27), (.extract (.t 23) 1), .none⟩, ⟨(.some 8), (.mv (.t 26)), .none⟩, ⟨(.some 9), (.mv (.t 27)), .none⟩]) (.seq (.ops [⟨(.some 28), (.mv (.t 9)), .none⟩, ⟨(.some 29), (.mv (.t 28)), .none⟩, ⟨(.some 30), (.mv (.t 8)), (.some (29, .true))⟩, ⟨(.some 31), (.lenS (.t 30)), (.some (29, .true))⟩, ⟨(.some 32), (.bin .geq (.t 31) (.c (.p (.val (.int .i64 2))))), (.some (29, .true))⟩, ⟨(.some 33), (.pick (.t 29) (.t 32) (.c (.p (.val (.bool .false))))), .none⟩]) (.cond (.t 33) (.seq (.ops [⟨(.some 34), (.mv (.t 8)), .none⟩, ⟨(.some 35), (.indexS (.t 34) (.c (.p (.val (.int .i64 0))))), .none⟩, ⟨(.some 36), (.call .false (.c (.fn 39 [])) [(.c (.p (.val (.string ⟨([48, 49, 50, 51, 52, 53, 54, 55, 56, 57, 97, 98, 99, 100, 101, 102] : List UInt8).toArray⟩)))), (.t 35)]), .none⟩, ⟨(.some 37), (.mv (.t 8)), .none⟩, ⟨(.some 38), (.indexS (.t 37) (.c (.p (.val (.int .i64 1))))), .none⟩, ⟨(.some 39), (.call .false (.c (.fn 39 [])) [(.c (.p (.val (.string ⟨([48, 49, 50, 51, 52, 53, 54, 55, 56, 57, 97, 98, 99, 100, 101, 102] : List UInt8).toArray⟩)))), (.t 38)]), .none⟩, ⟨(.some 10), (.mv (.t 36)), .none⟩, ⟨(.some 11), (.mv (.t 39)), .none⟩]) (.seq (.seq (.ops [⟨(.some 40), (.mv (.t 10)), .none⟩, ⟨(.some 41), (.bin .lss (.t 40) (.c (.p (.val (.int .i64 0))))), .none⟩, ⟨(.some 42), (.mv (.t 41)), .none⟩, ⟨(.some 43), (.mv (.t 11)), (.some (42, .false))⟩, ⟨(.some 44), (.bin .lss (.t 43) (.c (.p (.val (.int .i64 0))))), (.some (42, .false))⟩, ⟨(.some 45), (.pick (.t 42) (.c (.p (.val (.bool .true)))) (.t 44)), .none⟩]) (.cond (.t 45) (.exit 1000000) .skip)) (.seq (.ops [⟨(.some 46), (.mv (.t 10)), .none⟩, ⟨(.some 47), (.bin .shl (.t 46) (.c (.p (.val (.int .u64 4))))), .none⟩, ⟨(.some 48), (.mv (.t 11)), .none⟩, ⟨(.some 49), (.bin .or (.t 47) (.t 48)), .none⟩, ⟨(.some 50), (.convI .u8 (.t 49)), .none⟩, ⟨(.some 51), (.build [(.val (.int .i64 0)), (.val (.int .u8 0)), (.val (.slice .none 0 0))] [(0, (1, (.c (.p (.val (.int .i64 (-1))))))), (1, (1, (.t 50)))]), .none⟩, ⟨(.some 52), (.mv (.t 8)), .none⟩, ⟨(.some 53), (.sliceS (.t 52) (.some (.c (.p (.val (.int .i64 2))))) .none), .none⟩, ⟨.none, (.store 3 (.t 5) (.t 51)), .none⟩, ⟨(.some 7), (.mv (.t 53)), .none⟩]) (.seq (.ops [⟨(.some 54), (.mv (.t 6)), .none⟩, ⟨(.some 55), (.mv (.t 54)), .none⟩, ⟨(.some 56), (.mv (.t 4)), (.some (55, .false))⟩, ⟨(.some 57), (.len (.t 56)), (.some (55, .false))⟩, ⟨(.some 58), (.bin .geq (.t 57) (.c (.p (.val (.int .i64 16384))))), (.some (55, .false))⟩, ⟨(.some 59), (.pick (.t 55) (.c (.p (.val (.bool .true)))) (.t 58)), .none⟩, ⟨(.some 6), (.mv (.t 59)), .none⟩]) (.exit 1000001))))) .skip))) (.seq (.seq (.ops [⟨(.some 61), (.mv (.t 7)), .none⟩, ⟨(.some 62), (.call .false (.c (.fn 40 [])) [(.t 61), (.c (.p (.val (.string ⟨([40] : List UInt8).toArray⟩))))]), .none⟩, ⟨(.some 60), (.mv (.t 62)), .none⟩, ⟨(.some 63), (.extract (.t 60) 0), .none⟩, ⟨(.some 64), (.extract (.t 60) 1), .none⟩, ⟨(.some 65), (.extract (.t 60) 2), .none⟩, ⟨(.some 12), (.mv (.t 63)), .none⟩, ⟨(.some 13), (.mv (.t 64)), .none⟩, ⟨(.some 14), (.mv (.t 65)), .none⟩]) (.seq (.ops [⟨(.some 66), (.mv (.t 14)), .none⟩]) (.cond (.t 66) (.seq (.ops [⟨(.some 68), (.mv (.t 12)), .none⟩, ⟨(.some 69), (.call .false (.c (.fn 41 [])) [(.t 68), (.c (.p (.val (.int .i64 10)))), (.c (.p (.val (.int .i64 32))))]), .none⟩, ⟨(.some 67), (.mv (.t 69)), .none⟩, ⟨(.some 70), (.extract (.t 67) 0), .none⟩, ⟨(.some 71), (.extract (.t 67) 1), .none⟩, ⟨(.some 15), (.mv (.t 70)), .none⟩, ⟨(.some 16), (.mv (.t 71)), .none⟩]) (.seq (.seq (.ops [⟨(.some 72), (.mv (.t 16)), .none⟩, ⟨(.some 73), (.eqI .true (.t 72)), .none⟩, ⟨(.some 74), (.mv (.t 73)), .none⟩, ⟨(.some 75), (.mv (.t 15)), (.some (74, .false))⟩, ⟨(.some 76), (.call .false (.c (.fn 42 [])) [(.t 75)]), (.some (74, .false))⟩, ⟨(.some 77), (.mv (.t 12)), (.some (74, .false))⟩, ⟨(.some 78), (.bin .neq (.t 76) (.t 77)), (.some (74, .false))⟩, ⟨(.some 79), (.pick (.t 74) (.c (.p (.val (.bool .true)))) (.t 78)), .none⟩, ⟨(.some 80), (.mv (.t 79)), .none⟩, ⟨(.some 81), (.mv (.t 15)), (.some (80, .false))⟩, ⟨(.some 82), (.bin .lss (.t 81) (.c (.p (.val (.int .i64 0))))), (.some (80, .false))⟩, ⟨(.some 83), (.pick (.t 80) (.c (.p (.val (.bool .true)))) (.t 82)), .none⟩]) (.cond (.t 83) (.exit 1000000) .skip)) (.seq (.ops [⟨(.some 84), (.mv (.t 4)), .none⟩, ⟨(.some 85), (.mv (.t 15)), .none⟩, ⟨(.some 86), (.buildR [(.z (.val (.int .i64 0))), (.z (.val (.int .u8 0))), (.r 25 3)] [(0, (1, (.t 85)))]), .none⟩, ⟨(.some 87), (.buildS 25 3 [(.val (.int .i64 0)), (.val (.int .u8 0)), (.val (.slice .none 0 0))] 1 [(0, (.t 86))]), .none⟩, ⟨(.some 88), (.append 25 3 40 [(.val (.int .i64 0)), (.val (.int .u8 0)), (.val (.slice .none 0 0))] (.t 84) (.t 87)), .none⟩, ⟨(.some 89), (.mv (.t 13)), .none⟩, ⟨(.some 4), (.mv (.t 88)), .none⟩, ⟨(.some 7), (.mv (.t 89)), .none⟩]) (.seq (.ops [⟨(.some 90), (.mv (.t 6)), .none⟩, ⟨(.some 91), (.mv (.t 90)), .none⟩, ⟨(.some 92), (.mv (.t 4)), (.some (91, .false))⟩, ⟨(.some 93), (.len (.t 92)), (.some (91, .false))⟩, ⟨(.some 94), (.bin .gtr (.t 93) (.c (.p (.val (.int .i64 16384))))), (.some (91, .false))⟩, ⟨(.some 95), (.pick (.t 91) (.c (.p (.val (.bool .true)))) (.t 94)), .none⟩, ⟨(.some 6), (.mv (.t 95)), .none⟩]) (.seq (.seq (.ops [⟨(.some 96), (.mv (.t 7)), .none⟩, ⟨(.some 97), (.call .false (.c (.fn 43 [])) [(.t 96), (.c (.p (.val (.string ⟨([41] : List UInt8).toArray⟩))))]), .none⟩, ⟨(.some 98), (.un .not (.t 97)), .none⟩]) (.cond (.t 98) (.exit 1000002) .skip)) (.exit 1000003)))))) .skip))) (.seq (.exit 1000000) (.seq .skip x3_i))))
def sc_i : IC := (.seq (.seq (.ops [⟨(.some 18), (.mv (.t 0)), .none⟩, ⟨(.some 19), (.lenS (.t 18)), .none⟩, ⟨(.some 20), (.bin .gtr (.t 19) (.c (.p (.val (.int .i64 1048576))))), .none⟩]) (.cond (.t 20) (.seq (.ops [⟨(.some 21), (.build [(.val (.int .i64 0)), (.val (.int .u8 0)), (.val (.slice .none 0 0))] []), .none⟩, ⟨.none, (.store 3 (.t 2) (.t 21)), .none⟩, ⟨(.some 3), (.mv (.c (.p (.val (.int .i64 3))))), .none⟩]) .ret) .skip)) (.seq (.ops [⟨(.some 4), (.nilrow 25 3), .none⟩]) (.seq (.ops [⟨(.some 5), (.alloc 25 [(.z (.val (.int .i64 0))), (.z (.val (.int .u8 0))), (.z (.val (.slice .none 0 0)))]), .none⟩]) (.seq (.ops [⟨(.some 6), (.mv (.c (.p (.val (.bool .false))))), .none⟩]) (.seq (.ops [⟨(.some 22), (.mv (.t 0)), .none⟩, ⟨(.some 7), (.mv (.t 22)), .none⟩]) (.seq .skip x2_i))))))
theorem r0_c : (compC prog shfP r0B []).1 = r0_i ∧ noR r0B = true := ⟨by kernel_rfl, by kernel_rfl⟩
theorem x0_c : (compC prog shfP x0B []).1 = x0_i ∧ noR x0B = true := ⟨by kernel_rfl, by kernel_rfl⟩
theorem x1_c : (compC prog shfP x1B []).1 = x1_i ∧ noR x1B = true := ⟨by kernel_rfl, by kernel_rfl⟩
theorem x3_c : (compC prog shfP x3B []).1 = x3_i ∧ noR x3B = true := ⟨by kernel_rfl, by kernel_rfl⟩
theorem x2_c : (compC prog shfP x2B []).1 = x2_i ∧ noR x2B = true := ⟨by kernel_rfl, by kernel_rfl⟩
theorem sc_c : (compC prog shfP scB []).1 = sc_i ∧ noR scB = true := ⟨by kernel_rfl, by kernel_rfl⟩
theorem fl0 : findLabel scB 0 = some (.seq .skip x0B) := by kernel_rfl
theorem fl1 : findLabel scB 1 = some (.seq .skip x1B) := by kernel_rfl
theorem fl2 : findLabel scB 2 = some (.seq .skip x2B) := by kernel_rfl
theorem fl3 : findLabel scB 3 = some (.seq .skip x3B) := by kernel_rfl
theorem f12_eq : f12.body = some (.seq r0B (.scope scB)) := by kernel_rfl
theorem f12_res : compRes prog f12.results.toList = some [.cell 2 true 3, .tmp 3] := by kernel_rfl
def labP (n : Nat) : Option IC := match n with | 1000000 => some x0_i | 1000001 => some x1_i | 1000002 => some x2_i | 1000003 => some x3_i | _ => none
def stepL (p : Prg) : Nat → IC → St → Option (Out × St)
 | 0, _, _ => none
 | m + 1, i, s => match evalN p 60 i s with
  | some (.brk id, s') => match labP id with
   | some i' => stepL p m i' s'
   | none => none
  | r => r
theorem labP_is {n : Nat} {i : IC} (h : labP n = some i) : ∃ l rest, n = 1000000 + l ∧ findLabel scB l = some (.seq .skip rest) ∧ (compC prog shfP rest []).1 = i ∧ noR rest = true := by
 unfold labP at h
 split at h
 ·cases h; exact ⟨0, x0B, rfl, fl0, x0_c⟩
 ·cases h; exact ⟨1, x1B, rfl, fl1, x1_c⟩
 ·cases h; exact ⟨2, x2B, rfl, fl2, x2_c⟩
 ·cases h; exact ⟨3, x3B, rfl, fl3, x3_c⟩
 ·cases h
theorem stepL_ok {E : Er} {en : Nat} {Q : Exit → Act → World → Prop} {s' : St} {g0 : G} {w0 : World} (hQ : ∀ a' w' g', Ext g0 w0 g' w' → SR prog (Go.Vs.Good prog) (gl14 E) en s' g' a' w' → Q .ret a' w') :
  ∀ (m : Nat) (c : Code) (i : IC) (s : St) (g : G) (a : Act) (w : World), (compC prog shfP c []).1 = i → noR c = true → stepL (prgR E) m i s = some (.ret, s') → SR prog (Go.Vs.Good prog) (gl14 E) en s g a w → Ext g0 w0 g w →
  c.wpIn (FW none) 0 prog (Exit.jumpS scB (JRs (FW none) prog scB Q m) Q) a w
 | 0, _, _, _, _, _, _, _, _, h, _, _ => by cases h
 | m + 1, c, i, s, g, a, w, hi, hno, h, hs, he => by
  unfold stepL at h
  split at h
  ·rename_i id s1 hev
   split at h
   ·rename_i i' hl
    obtain ⟨l, rest, rfl, k1, k2, k3⟩ := labP_is hl
    rw [← hi] at hev
    refine (eval_sound (prgR_ok E) 60).1 shfP c [] s _ s1 hev none en g0 g a w0 w (.inl hno) hs he _ (fun e a1 w1 g1 x1 he1 hs1 => ?_)
    rcases exitR_brk x1 with ⟨_, hlt⟩ | ⟨l', rfl, hid, _⟩
    ·omega
    ·obtain rfl : l' = l := by omega
     simp only [Exit.jumpS, k1, Option.isSome_some, if_true]
     exact ⟨rest, k1, stepL_ok hQ m rest i' s1 g1 a1 w1 k2 k3 h hs1 he1⟩
   ·cases h
  ·rename_i r hne
   rw [← hi] at h
   refine (eval_sound (prgR_ok E) 60).1 shfP c [] s _ s' h none en g0 g a w0 w (.inl hno) hs he _ (fun e a1 w1 g1 x1 he1 hs1 => ?_)
   rw [exitR_ret x1]
   exact hQ a1 w1 g1 he1 hs1
theorem code_step {E : Er} {pl : List Nat} {c : Code} {i : IC} (hi : (compC prog (shOf sh pl) c []).1 = i) (hno : noR c = true) {s s' : St} {o : Out} (h : run (envOf (prgR E) (ev (prgR E))) (ev (prgR E)) i s = some (o, s')) {rd : Option Nat} {en : Nat} {g : G} {a : Act} {w : World} (hs : SR prog (Go.Vs.Good prog) (gl14 E) en s g a w) {Q : Exit → Act → World → Prop}
  (hQ : ∀ e a' w' g', ExitR o e → Ext g w g' w' → SR prog (Go.Vs.Good prog) (gl14 E) en s' g' a' w' → Q e a' w') : c.wpIn (FW rd) 0 prog Q a w := by
 obtain ⟨n, hn⟩ := run_cont i s (o, s') h
 have hn : evalN (prgR E) (n + 1) i s = some (o, s') := hn
 rw [← hi] at hn
 exact (eval_sound (prgR_ok E) (n + 1)).1 (shOf sh pl) c [] s o s' hn rd en g g a w w (.inl hno) hs (Ext.refl g w) Q hQ
noncomputable def readR (E : Er) (s : ByteArray) : Option (AV × List AB) := match evalN (prgR E) 60 r0_i ⟨[vs s] ++ List.replicate 146 ud, []⟩ with
 | some (.norm, s1) => match stepL (prgR E) 100 sc_i s1 with
  | some (.ret, s2) => (resOf s2 [.cell 2 true 3, .tmp 3]).map fun v => (packR v, s2.h)
  | _ => none
 | _ => none
theorem read_call {E : Er} {s : ByteArray} {v : AV} {h' : List AB} (h : readR E s = some (v, h')) : CallR prog (Go.Vs.Good prog) (gl14 E) 12 [vs s] [] v h' := by
 unfold readR at h
 split at h
 ·rename_i s1 h0
  split at h
  ·rename_i s2 h1
   obtain ⟨rv, hres, he⟩ := Option.map_eq_some_iff.1 h
   simp only [Prod.mk.injEq] at he
   obtain ⟨rfl, rfl⟩ := he
   refine ⟨⟨f12, func12, by simp [f12_eq], by kernel_rfl⟩, ?_⟩
   intro g w vals hcr hgr hhr hvs
   have hlen := hvs.len
   have hfr : VRs g w ([vs s] ++ List.replicate (f12.ntmps - [vs s].length) ud) (vals.toArray ++ Array.replicate (f12.ntmps - vals.toArray.size) undef).toList := by
    simp only [Array.toList_append, Array.toList_replicate, List.size_toArray, ← hlen]
    exact hvs.append (VRs.replicate _ VR_ud)
   have hsr : SR prog (Go.Vs.Good prog) (gl14 E) w.heap.size ⟨[vs s] ++ List.replicate 146 ud, []⟩ g { tmps := vals.toArray ++ Array.replicate (f12.ntmps - vals.toArray.size) undef, defers := [] } w :=
    ⟨⟨hgr, hhr, hfr⟩, by simp, by simp, Nat.le_refl _, hcr⟩
   refine (callsIn_wide (n := 0)).1 (callsIn_of_wp_marks (F := FW none) func12 f12_eq trivial ?_ rfl)
   refine wpIn_seq ?_
   rw [← r0_c.1] at h0
   refine (eval_sound (prgR_ok E) 60).1 shfP r0B [] _ _ s1 h0 none w.heap.size g g _ w w (.inl r0_c.2) hsr (Ext.refl g w) _ (fun e a1 w1 g1 x1 he1 hs1 => ?_)
   rw [exitR_norm x1]
   show Code.wpIn _ _ _ _ _ _ _
   refine wpIn_scope_labs (m := 100) (stepL_ok (g0 := g) (w0 := w) (fun a' w' g' he' hs' => ?_) 100 scB sc_i s1 g1 a1 w1 sc_c.1 sc_c.2 h1 hs1 he1)
   have := marks_leave (en := w.heap.size) hhr.prs f12_res hres a'.defers g' w' a' rfl he' hs'.c hs'.d hs'.nd
   exact this
  ·cases h
 ·cases h
set_option maxHeartbeats 4000000
open Go Go.Vs Go.RowKit
noncomputable def k0B : Code := match f53.body with | some (.seq a _) => a | _ => .skip
noncomputable def k1B : Code := match f53.body with | some (.seq _ (.seq a _)) => a | _ => .skip
noncomputable def k2B : Code := match f53.body with | some (.seq _ (.seq _ (.seq a _))) => a | _ => .skip
noncomputable def k3B : Code := match f53.body with | some (.seq _ (.seq _ (.seq _ (.seq a _)))) => a | _ => .skip
theorem f53_eq : f53.body = some (.seq k0B (.seq k1B (.seq k2B (.seq k3B .ret)))) := by kernel_rfl
theorem f53_res : compRes prog f53.results.toList = some [.cell 4 false 1] := by kernel_rfl
noncomputable def opsOf : Code → Array Oper
 | .region _ o _ => o
 | _ => #[]
theorem k1_eq : k1B = .region 1 (opsOf k1B) false := by kernel_rfl
theorem k2_eq : k2B = .region 2 (opsOf k2B) false := by kernel_rfl
theorem k3_eq : k3B = .region 3 (opsOf k3B) false := by kernel_rfl
def k0I : List IOp := [⟨(.some 2), (.box 25 (.t 0)), .none⟩, ⟨(.some 4), (.alloc 26 [(.z (.val (.int .i64 0)))]), .none⟩]
def k2I : List IOp := [⟨(.some 6), (.load .true 3 (.t 2)), .none⟩, ⟨(.some 7), (.mv (.t 1)), .none⟩, ⟨(.some 8), (.call .true (.c (.fn 72 [])) [(.t 6), (.c (.p (.val (.int .i64 16384)))), (.t 7)]), .none⟩]
def k3I : List IOp := [⟨.none, (.store 1 (.t 4) (.c (.p (.val (.int .i64 0))))), .none⟩]
theorem k0_c : (compC prog (shOf sh []) k0B []).1 = .ops k0I := by kernel_rfl
theorem k0_n : noR k0B = true := by kernel_rfl
theorem k2_c : compOps prog (shOf sh []) (opsOf k2B) (opsOf k2B).toList = some k2I := by kernel_rfl
theorem k3_c : compOps prog (shOf sh []) (opsOf k3B) (opsOf k3B).toList = some k3I := by kernel_rfl
theorem k1_0 : ∃ o0 o1, opsOf k1B = #[o0, o1] ∧ o0.op = .makeFunc (.func 71) #[] #[.tmp 4] ∧ o0.dst = some 5 ∧ o0.guard = none ∧ o1.op = .defer ⟨.value (.tmp 5), #[], #[]⟩ ∧ o1.dst = none ∧ o1.guard = none := ⟨_, _, rfl, rfl, rfl, rfl, rfl, rfl, rfl⟩
noncomputable def m0B : Code := match f71.body with | some (.seq a _) => a | _ => .skip
noncomputable def m3B : Code := match f71.body with | some (.seq _ (.block _ (.seq a _))) => a | _ => .skip
noncomputable def m4B : Code := match f71.body with | some (.seq _ (.block _ (.seq _ (.cond _ a _)))) => a | _ => .skip
noncomputable def m5B : Code := match f71.body with | some (.seq _ (.block _ (.seq _ (.cond _ _ a)))) => a | _ => .skip
theorem f71_eq : f71.body = some (.seq m0B (.block 0 (.seq m3B (.cond (.tmp 6) m4B m5B)))) := by kernel_rfl
theorem m0_eq : m0B = .region 0 (opsOf m0B) false := by kernel_rfl
theorem m3_eq : m3B = .region 3 (opsOf m3B) false := by kernel_rfl
theorem m4_eq : m4B = .region 4 (opsOf m4B) false := by kernel_rfl
theorem m0_0 : ∃ o0, opsOf m0B = #[o0] ∧ o0.op = .call ⟨.builtin .recover, #[], #[]⟩ ∧ o0.dst = some 4 ∧ o0.guard = none := ⟨_, rfl, rfl, rfl, rfl⟩
theorem m3_0 : ∃ o0, opsOf m3B = #[o0] ∧ o0.op = .binOp .eql 20 (.tmp 4) (.const .nilIface) 20 ∧ o0.dst = some 6 ∧ o0.guard = none := ⟨_, rfl, rfl, rfl, rfl⟩
theorem m4_0 : ∃ o0, opsOf m4B = #[o0] ∧ o0.op = .assign (.tmp 4) ∧ o0.dst = some 1 ∧ o0.guard = none := ⟨_, rfl, rfl, rfl, rfl⟩
theorem f71_tmps : f71.ntmps = 10 ∧ f71.results = #[] := ⟨rfl, rfl⟩
theorem dfr71 (x : Value) (w : World) : CallsDIn (FW none) 0 prog 71 #[x] .returning w fun e u' w' => e = .returned (.tuple #[]) ∧ u' = .returning ∧ w' = w := by
 refine callsDIn_of_wpSIn (F := FW none) func71 f71_eq trivial (fun c₀ cs hu => ?_)
 rw [f71_tmps.1]
 have hrec : recoverD (c₀ :: cs) = none := by simp [recoverD, hu]
 obtain ⟨o0, e0, e1, e2, e3⟩ := m0_0
 refine wpSIn_seq ?_
 rw [m0_eq]
 refine wpSIn_region ?_
 have hr : (execOp (Act.eval { tmps := #[x] ++ Array.replicate (10 - (#[x] : Array Value).size) undef, defers := [] }) o0).run prog w = .ok .recover w := by
  simp [execOp, e1, resolve, invoke, builtin]
 have h0 : (opsOf m0B)[0]? = some o0 := by rw [e0]; rfl
 have hsz : (opsOf m0B).size = 1 := by rw [e0]; rfl
 rw [hsz]
 show wpOpsSIn (FW none) 0 prog (opsOf m0B) _ [0] _ _ _
 simp only [wpOpsSIn, h0]
 refine ⟨fun _ _ => trivial, ?_⟩
 rw [if_pos (by simp [Region.wanted, e3]), hr]
 simp only [hrec]
 rw [e2]
 show Code.wpSIn _ _ _ _ _ _ _ _
 refine wpSIn_of_wpIn rfl (wpIn_block (wpIn_seq ?_))
 obtain ⟨p0, q0, q1, q2, q3⟩ := m3_0
 rw [m3_eq]
 refine wpIn_region ?_
 have hp : (opsOf m3B)[0]? = some p0 := by rw [q0]; rfl
 have hpz : (opsOf m3B).size = 1 := by rw [q0]; rfl
 rw [hpz]
 show wpOpsIn (FW none) 0 prog (opsOf m3B) _ [0] _ _
 simp only [wpOpsIn, hp]
 rw [if_pos (by simp [Region.wanted, q3])]
 refine ⟨fun _ _ => trivial, ?_⟩
 obtain ⟨A, hA⟩ : ∃ A : Act, A = Act.put { tmps := #[x] ++ Array.replicate (10 - (#[x] : Array Value).size) undef, defers := [] } (some 4) .nilIface := ⟨_, rfl⟩
 rw [← hA]
 have hA4 : A.eval (.tmp 4) = .nilIface := by rw [hA]; rfl
 have hrun : (execOp A.eval p0).run prog w = .ok (.value (.bool true)) w := by
  have hq : (Op.equal 20 .nilIface .nilIface).run prog w = .ok true w := by
   show (Op.equalIn (9999 + 1) 20 .nilIface .nilIface).run prog w = _
   rw [Op.equalIn]
   simp [run_underlying underlying20]
  have hg : (eqGuard .eql 20 (.tmp 4) (.const .nilIface) .nilIface .nilIface).run prog w = .ok () w := by unfold eqGuard; simp
  have hb : (binOp .eql 20 .nilIface .nilIface).run prog w = .ok (.bool true) w := by
   have e : binOp .eql 20 .nilIface .nilIface = (do pure (.bool (← Op.equal 20 .nilIface .nilIface))) := rfl
   rw [e]
   simp only [Sem.run_bind, hq, Result.andThen_ok, Sem.run_pure]
  have he : A.eval (.const .nilIface) = .nilIface := rfl
  simp only [execOp, q1, Sem.run_bind, he, hA4, hg, Result.andThen_ok, hb, Sem.run_pure]
 rw [Oper.semAt_eq _ _ _ (by rw [q1]; simp), hrun, Oper.uponIn_value, q2]
 show Code.wpIn _ _ _ _ _ _ _
 refine wpIn_cond_true (by rw [hA]; rfl) ?_
 obtain ⟨r0, s0, s1, s2, s3⟩ := m4_0
 rw [m4_eq]
 refine wpIn_region ?_
 have hs : (opsOf m4B)[0]? = some r0 := by rw [s0]; rfl
 have hsz' : (opsOf m4B).size = 1 := by rw [s0]; rfl
 rw [hsz']
 show wpOpsIn (FW none) 0 prog (opsOf m4B) _ [0] _ _
 simp only [wpOpsIn, hs]
 rw [if_pos (by simp [Region.wanted, s3])]
 refine ⟨fun _ _ => trivial, ?_⟩
 rw [Oper.semAt_eq _ _ _ (by rw [s1]; simp)]
 have hrun2 : ∀ B : Act, (execOp B.eval r0).run prog w = .ok (.value (B.eval (.tmp 4))) w := by
  intro B
  simp [execOp, s1]
 rw [hrun2, Oper.uponIn_value, s2]
 refine ⟨by rw [hA]; rfl, .returning, ?_, .tuple #[], ?_, rfl, rfl, rfl⟩
 ·rw [← hu]
 ·simp [results, f71_tmps.2]
section
variable {E : Er} {tn tb : Int} {tk : List (List PV)} {f : AV} {h h1 : List AB} {v : AV}
abbrev cT3 (n b : Int) (k : List (List PV)) : List AV := [.p (.val (.int .i64 n)), .p (.val (.int .u8 b)), .p (.lst 3 k)]
abbrev aT3 (n b : Int) (k : List (List PV)) : AV := .agg (cT3 n b k)
abbrev bT3 (n b : Int) (k : List (List PV)) : AB := .cells 25 (cT3 n b k)
theorem k0_run : ∃ g, run (envOf (prgR E) (ev (prgR E))) (ev (prgR E)) (.ops k0I) ⟨[aT3 tn tb tk, f] ++ List.replicate 7 ud, h⟩ = some (.norm, ⟨fr 9 g [(1, f), (2, .ptr h.length 0), (4, .ptr (h ++ [bT3 tn tb tk]).length 0)], (h ++ [bT3 tn tb tk]) ++ [.cells 26 [i6 0]]⟩) := by
 obtain ⟨g, hr⟩ := exitL_of (L := [(1, f), (2, .ptr h.length 0), (4, .ptr (h ++ [bT3 tn tb tk]).length 0)]) (r := runD (prgR E) 30 [] (.ops k0I) ⟨[aT3 tn tb tk, f] ++ List.replicate 7 ud, h⟩) (o := .norm) (n := 9) (h := ((h ++ [bT3 tn tb tk]) ++ []) ++ [AB.cells 26 [i6 0]]) (by kernel_rfl)
 rw [List.append_nil] at hr
 exact ⟨g, runD_ok hr apn⟩
theorem k2_run {u : Nat → AV} {x : AV} (hc : CS (prgR E) 72 [aT3 tn tb tk, i6 16384, f] ((h ++ [bT3 tn tb tk]) ++ [.cells 26 [i6 0]]) = some (v, (h1 ++ [bT3 tn tb tk]) ++ [.cells 26 [i6 0]])) : ∃ g, run (envOf (prgR E) (ev (prgR E))) (ev (prgR E)) (.ops k2I) ⟨fr 9 u [(1, f), (2, .ptr h.length 0), (4, x)], (h ++ [bT3 tn tb tk]) ++ [.cells 26 [i6 0]]⟩ = some (.norm, ⟨fr 9 g [(4, x)], (h1 ++ [bT3 tn tb tk]) ++ [.cells 26 [i6 0]]⟩) := by
 have q1 : ldA ((h ++ [bT3 tn tb tk]) ++ [.cells 26 [i6 0]]) true 3 (.ptr h.length 0) = some (aT3 tn tb tk) := by
  have hb : ((h ++ [bT3 tn tb tk]) ++ [AB.cells 26 [i6 0]])[h.length]? = some (bT3 tn tb tk) := by
   rw [List.append_assoc, gar (Nat.le_refl _), Nat.sub_self]; rfl
  simp only [ldA, loadA, hb]
  rfl
 obtain ⟨g, hr⟩ := exitL_of (L := [(4, x)]) (r := runD (prgR E) 30 [(6, .v (aT3 tn tb tk)), (8, .r v ((h1 ++ [bT3 tn tb tk]) ++ [.cells 26 [i6 0]]))] (.ops k2I) ⟨fr 9 u [(1, f), (2, .ptr h.length 0), (4, x)], (h ++ [bT3 tn tb tk]) ++ [.cells 26 [i6 0]]⟩) (o := .norm) (n := 9) (h := (h1 ++ [bT3 tn tb tk]) ++ [.cells 26 [i6 0]]) (by kernel_rfl)
 exact ⟨g, runD_ok hr (apc q1 (apc hc apn))⟩
theorem k3_run {u : Nat → AV} (hl : h1.length = h.length) : ∃ g, run (envOf (prgR E) (ev (prgR E))) (ev (prgR E)) (.ops k3I) ⟨fr 9 u [(4, .ptr (h ++ [bT3 tn tb tk]).length 0)], (h1 ++ [bT3 tn tb tk]) ++ [.cells 26 [i6 0]]⟩ = some (.norm, ⟨fr 9 g [(4, .ptr (h ++ [bT3 tn tb tk]).length 0)], (h1 ++ [bT3 tn tb tk]) ++ [.cells 26 [i6 0]]⟩) := by
 have hb : ((h1 ++ [bT3 tn tb tk]) ++ [AB.cells 26 [i6 0]])[(h ++ [bT3 tn tb tk]).length]? = some (.cells 26 [i6 0]) := by
  rw [gar (by simp [hl])]
  simp [hl]
 have q1 : stA ((h1 ++ [bT3 tn tb tk]) ++ [AB.cells 26 [i6 0]]) 1 (.ptr (h ++ [bT3 tn tb tk]).length 0) (i6 0) = some ((h1 ++ [bT3 tn tb tk]) ++ [.cells 26 [i6 0]]) := by
  have e : stA ((h1 ++ [bT3 tn tb tk]) ++ [AB.cells 26 [i6 0]]) 1 (.ptr (h ++ [bT3 tn tb tk]).length 0) (i6 0) = some (((h1 ++ [bT3 tn tb tk]) ++ [AB.cells 26 [i6 0]]).set (h ++ [bT3 tn tb tk]).length (.cells 26 [i6 0])) := by
   simp only [stA, cellsOf, AV.one, isOne, if_true, Option.bind_some, List.length_cons, List.length_nil, Nat.zero_add, storeA, hb]
   rfl
  rw [e]
  congr 1
  apply List.ext_getElem?
  intro i
  rw [List.getElem?_set]
  split
  ·rename_i hi
   subst hi
   rw [if_pos (List.getElem?_eq_some_iff.1 hb).1, hb]
  ·rfl
 obtain ⟨g, hr⟩ := exitL_of (L := [(4, .ptr (h ++ [bT3 tn tb tk]).length 0)]) (r := runD (prgR E) 30 [(1004, .r ud ((h1 ++ [bT3 tn tb tk]) ++ [.cells 26 [i6 0]]))] (.ops k3I) ⟨fr 9 u [(4, .ptr (h ++ [bT3 tn tb tk]).length 0)], (h1 ++ [bT3 tn tb tk]) ++ [.cells 26 [i6 0]]⟩) (o := .norm) (n := 9) (h := (h1 ++ [bT3 tn tb tk]) ++ [.cells 26 [i6 0]]) (by kernel_rfl)
 exact ⟨g, runD_ok hr (apc (And.intro q1 (rfl : (ud : AV) = ud)) apn)⟩
theorem asked_call (hc : CS (prgR E) 72 [aT3 tn tb tk, i6 16384, f] h = some (v, h1)) : CallR prog (Go.Vs.Good prog) (gl14 E) 53 [aT3 tn tb tk, f] h (i6 0) h1 := by
 obtain ⟨F72, hF⟩ : ∃ F, (prgR E).fn 72 = some F := ⟨_, rfl⟩
 obtain ⟨hcX, hl⟩ := cs_frame hF rfl hc ([bT3 tn tb tk] ++ [.cells 26 [i6 0]])
 rw [← List.append_assoc, ← List.append_assoc] at hcX
 refine ⟨⟨f53, func53, by kernel_rfl, by kernel_rfl⟩, ?_⟩
 intro g w vals hcr hgr hhr hvs
 match vals, hvs with
 | [], hvs => simp [VRs] at hvs
 | [_], hvs => simp [VRs] at hvs
 | _ :: _ :: _ :: _, hvs => simp [VRs] at hvs
 | [tv, fv], hvs =>
 have hblw : ∀ x ∈ h1, x.blw h1.length = true := by
  have hv3 : VRs g w [aT3 tn tb tk, i6 16384, f] [tv, .int .i64 16384, fv] := by
   simp only [VRs] at hvs ⊢
   exact ⟨hvs.1, by simp [VR, PR], hvs.2.1, trivial⟩
  obtain ⟨e, w', fr', ⟨x, g', _, _, hr', _⟩, _⟩ := (CS_sound (prgR_ok E) hc).2 g w _ hcr hgr hhr hv3 []
  intro x hx
  obtain ⟨b, hb⟩ := List.getElem?_of_mem hx
  have := BR_blw (hr'.br b x hb)
  rwa [hr'.n] at this
 have hfr : VRs g w ([aT3 tn tb tk, f] ++ List.replicate 7 ud) (#[tv, fv] ++ Array.replicate (9 - 2) undef).toList := by
  simp only [Array.toList_append, Array.toList_replicate]
  exact hvs.append (VRs.replicate _ VR_ud)
 have hsr : SR prog (Go.Vs.Good prog) (gl14 E) w.heap.size ⟨[aT3 tn tb tk, f] ++ List.replicate 7 ud, h⟩ g { tmps := #[tv, fv] ++ Array.replicate (9 - 2) undef, defers := [] } w :=
  ⟨⟨hgr, hhr, hfr⟩, by simp, by simp, Nat.le_refl _, hcr⟩
 refine (callsIn_wide (n := 0)).1 (callsIn_of_wp_marks (F := FW none) func53 f53_eq trivial ?_ rfl)
 obtain ⟨u0, q0⟩ := k0_run (E := E) (tn := tn) (tb := tb) (tk := tk) (f := f) (h := h)
 refine wpIn_seq (code_step k0_c k0_n q0 hsr (fun e1 a1 w1 g1 x1 he1 hs1 => ?_))
 rw [exitR_norm x1]
 show Code.wpIn _ _ _ _ _ _ _
 obtain ⟨o0, o1, p0, p1, p2, p3, p4, p5, p6⟩ := k1_0
 refine wpIn_seq ?_
 rw [k1_eq]
 refine wpIn_region ?_
 have ho0 : (opsOf k1B)[0]? = some o0 := by rw [p0]; rfl
 have ho1 : (opsOf k1B)[1]? = some o1 := by rw [p0]; rfl
 have hosz : (opsOf k1B).size = 2 := by rw [p0]; rfl
 rw [hosz]
 show wpOpsIn (FW none) 0 prog (opsOf k1B) _ [0, 1] _ _
 obtain ⟨fv71, hfv⟩ : ∃ fv71 : Value, fv71 = .func (.func 71) #[] #[a1.eval (.tmp 4)] := ⟨_, rfl⟩
 obtain ⟨D, hD⟩ : ∃ D : Deferred, D = { target := .fn (.func 71) #[a1.eval (.tmp 4)], args := #[] } := ⟨_, rfl⟩
 simp only [wpOpsIn, ho0, ho1]
 rw [if_pos (by simp [Region.wanted, p3])]
 refine ⟨fun _ _ => trivial, ?_⟩
 have hrun0 : (execOp a1.eval o0).run prog w1 = .ok (.value fv71) w1 := by
  rw [hfv]
  simp [execOp, p1, Instr.makeFunc]
 rw [Oper.semAt_eq _ _ _ (by rw [p1]; simp), hrun0, Oper.uponIn_value, p2]
 rw [if_pos (by simp [Region.wanted, p6])]
 refine ⟨fun _ _ => trivial, ?_⟩
 obtain ⟨a2, ha2⟩ : ∃ a2 : Act, a2 = a1.put (some 5) fv71 := ⟨_, rfl⟩
 rw [← ha2]
 have hlt5 : 5 < a1.tmps.size := by
  have := hs1.c.fr.len
  simp only [Array.length_toList] at this
  rw [← this]
  show 5 < 9
  omega
 have ha25 : a2.eval (.tmp 5) = fv71 := by
  rw [ha2]
  simp [Act.eval, Act.put, Array.getD, hlt5]
 have hrun1 : (execOp a2.eval o1).run prog w1 = .ok (.defer D) w1 := by
  rw [hD]
  simp [execOp, p4, resolve, ha25, hfv, Deferred.ofValue]
 rw [show (FW none).round = none from rfl, Oper.semAt_none, hrun1, Oper.uponIn_defer, p5]
 have hs2 : SR prog (Go.Vs.Good prog) (gl14 E) w.heap.size ⟨putA (fr 9 u0 [(1, f), (2, .ptr h.length 0), (4, .ptr (h ++ [bT3 tn tb tk]).length 0)]) (some 5) (.fn 71 [.ptr (h ++ [bT3 tn tb tk]).length 0]), (h ++ [bT3 tn tb tk]) ++ [.cells 26 [i6 0]]⟩ g1 a2 w1 := by
  rw [ha2]
  refine SR.put (E := envOf (prgR E) (ev (prgR E))) hs1 (Ext.refl g1 w1) hs1.c.hr ?_ (some 5)
  simp only [VR]
  refine ⟨#[a1.eval (.tmp 4)], hfv, ?_⟩
  have := hs1.c.opd (.tmp 4)
  simp only [VRs]
  exact ⟨this, trivial⟩
 have hins : (Act.put { a2 with defers := D :: a2.defers } none undef) = a2.ins a2.defers.length D := by
  simp [Act.ins, insD, Act.put]
 rw [hins]
 show Code.wpIn _ _ _ _ _ _ _
 have hs2' : SR prog (Go.Vs.Good prog) (gl14 E) w.heap.size ⟨fr 9 (ovr u0 [(5, .fn 71 [.ptr (h ++ [bT3 tn tb tk]).length 0])]) [(1, f), (2, .ptr h.length 0), (4, .ptr (h ++ [bT3 tn tb tk]).length 0)], (h ++ [bT3 tn tb tk]) ++ [.cells 26 [i6 0]]⟩ g1 a2 w1 := hs2
 obtain ⟨u2, q2⟩ := k2_run (E := E) (tn := tn) (tb := tb) (tk := tk) (f := f) (h := h) (h1 := h1) (v := v) (u := ovr u0 [(5, .fn 71 [.ptr (h ++ [bT3 tn tb tk]).length 0])]) (x := .ptr (h ++ [bT3 tn tb tk]).length 0) hcX
 refine wpIn_seq ?_
 rw [k2_eq]
 refine region_ins (prgR_ok E) k2_c q2 hs2' (Nat.le_refl _) (fun a3 w3 g3 hk3 he3 hs3 => ?_)
 show Code.wpIn _ _ _ _ _ _ _
 obtain ⟨u3, q3⟩ := k3_run (E := E) (tn := tn) (tb := tb) (tk := tk) (h := h) (h1 := h1) (u := u2) hl
 refine wpIn_seq ?_
 rw [k3_eq]
 refine region_ins (prgR_ok E) k3_c q3 hs3 hk3 (fun a4 w4 g4 hk4 he4 hs4 => ?_)
 show Code.wpIn _ _ _ _ _ _ _
 refine wpIn_ret ?_
 show LeavesInM (FW none) 0 prog f53 a4.tmps _ (insD a2.defers.length D a4.defers) .returning w4
 have heA : Ext g w g4 w4 := (he1.trans he3).trans he4
 have hres : resOf ⟨fr 9 u3 [(4, .ptr (h ++ [bT3 tn tb tk]).length 0)], (h1 ++ [bT3 tn tb tk]) ++ [.cells 26 [i6 0]]⟩ [.cell 4 false 1] = some [i6 0] := by
  have hb : ((h1 ++ [bT3 tn tb tk]) ++ [AB.cells 26 [i6 0]])[(h ++ [bT3 tn tb tk]).length]? = some (.cells 26 [i6 0]) := by
   rw [gar (by simp [hl])]
   simp [hl]
  have e4 : getT (fr 9 u3 [(4, .ptr (h ++ [bT3 tn tb tk]).length 0)]) 4 = .ptr (h ++ [bT3 tn tb tk]).length 0 := rfl
  simp only [resOf, e4, loadA, hb]
  rfl
 have hlast : ∀ (bs : List Deferred) (g2 : G) (w2 : World) (a : Act), a.tmps = a4.tmps → Ext g w g2 w2 → Ctx prog (gl14 E) a (fr 9 u3 [(4, .ptr (h ++ [bT3 tn tb tk]).length 0)]) g2 ((h1 ++ [bT3 tn tb tk]) ++ [.cells 26 [i6 0]]) w2 → (∀ d ∈ bs, MarkR w.heap.size g2 w2 d) → bs.Nodup →
   LeavesInM (FW none) 0 prog f53 a4.tmps (fun e w' => ∃ x g', e = .returned x ∧ Ext g w g' w' ∧ HR g' h1 w' ∧ VR g' w' (i6 0) x) bs .returning w2 := by
  intro bs g2 w2 a ha e2 hx hm hn
  have := marks_leave (en := w.heap.size) hhr.prs (s := ⟨fr 9 u3 [(4, .ptr (h ++ [bT3 tn tb tk]).length 0)], (h1 ++ [bT3 tn tb tk]) ++ [.cells 26 [i6 0]]⟩) f53_res hres bs g2 w2 a ha e2 hx hm hn
  refine leavesM_mono ?_ _ _ _ this
  rintro e w5 ⟨x, g5, rfl, e5, r5, v5⟩
  have r5' : HR g5 (h1 ++ ([bT3 tn tb tk] ++ [AB.cells 26 [i6 0]])) w5 := by rw [← List.append_assoc]; exact r5
  refine ⟨x, g5.cut h1.length, rfl, ?_, HR.drop r5' hblw, VR_trim _ _ rfl v5⟩
  have hgN : g.N = h.length := hhr.n
  exact ⟨e5.S, e5.Pr, e5.pr, by show g.N ≤ h1.length; omega, fun b hb => ⟨by show b < h1.length; have := hb.1; omega, fun q => (e5.D b hb).2 q.1⟩, e5.m, e5.gen, e5.hd, e5.size, e5.os, e5.tape, e5.output, e5.Sn, e5.cr, e5.drawn⟩
 have hall : a4.defers.take (a4.defers.length - a2.defers.length) ++ a4.defers.drop (a4.defers.length - a2.defers.length) = a4.defers := List.take_append_drop ..
 refine marks_pre (s := ⟨fr 9 u3 [(4, .ptr (h ++ [bT3 tn tb tk]).length 0)], (h1 ++ [bT3 tn tb tk]) ++ [.cells 26 [i6 0]]⟩) (bs := a4.defers.drop (a4.defers.length - a2.defers.length)) (fd := f53) (g := g) (w := w) (en := w.heap.size) hhr.prs ?_ (a4.defers.take (a4.defers.length - a2.defers.length)) g4 w4 a4 rfl heA hs4.c (by rw [hall]; exact hs4.d) (by rw [hall]; exact hs4.nd)
 intro g5 w5 a5 ha5 he5 hx5 hm5
 refine ⟨by simp, .inr ⟨fun h => absurd h (by simp [FW, Fence.wide]), .func 71, #[a1.eval (.tmp 4)], 71, #[a1.eval (.tmp 4)], by rw [hD], ?_, fun _ _ => trivial, ?_⟩⟩
 ·rw [hD]
  have hname : (f71.name == "runtime.NumGoroutine") = false := by kernel_rfl
  have hbody : f71.body.isNone = false := by kernel_rfl
  have hname' : ¬ (f71.name = "runtime.NumGoroutine") := by intro e; rw [e] at hname; simp at hname
  have hbody' : ¬ (f71.body = none) := by intro e; rw [e] at hbody; simp at hbody
  simp [invoke, callFunc, run_program, func71, hname', hbody']
 ·refine (dfr71 _ w5).mono ?_
  rintro e u' w' ⟨rfl, rfl, rfl⟩
  exact hlast _ g5 _ a5 ha5 he5 hx5 hm5 ((List.nodup_append.1 (by rw [hall]; exact hs4.nd)).2.1)
end
open Go Go.Vs Go.Shelf
def askA (ask : List AV → List AB → Option (AV × List AB)) (args : List AV) (h : List AB) : Option (AV × List AB) := match args with
 | [.agg [.p (.val (.int .i64 n)), .p (.val (.int .u8 b)), .p (.lst 3 k)], f] => match ask [aT3 n b k, i6 16384, f] h with
  | some (_, h1) => some (i6 0, h1)
  | none => none
 | _ => none
noncomputable def readA (E : Er) (args : List AV) (h : List AB) : Option (AV × List AB) := match args, h with
 | [.p (.val (.string s))], [] => readR E s
 | _, _ => none
theorem readA_sound {E : Er} {args : List AV} {h h' : List AB} {v : AV} (hc : readA E args h = some (v, h')) : CallR prog (Go.Vs.Good prog) (gl14 E) 12 args h v h' := by
 unfold readA at hc
 split at hc
 ·exact read_call hc
 ·cases hc
theorem askA_sound {E : Er} {ask : List AV → List AB → Option (AV × List AB)} (ha : ∀ args h v h1, ask args h = some (v, h1) → CS (prgR E) 72 args h = some (v, h1)) {args : List AV} {h h' : List AB} {v : AV} (hc : askA ask args h = some (v, h')) : CallR prog (Go.Vs.Good prog) (gl14 E) 53 args h v h' := by
 unfold askA at hc
 split at hc
 ·split at hc
  ·rename_i hr
   cases hc
   exact asked_call (ha _ _ _ _ hr)
  ·cases hc
 ·cases hc
def fns0 (n : Nat) : Option IFun := match n.beq 12 with | true => none | false => fnsR n
theorem fns0_ok : ∀ f F, fns0 f = some F → ∃ shf fd ann, prog.funcs[f]? = some fd ∧ compFn prog shf ann fd = some F := fun f F h => by
 unfold fns0 at h
 split at h
 ·cases h
 ·exact fnsR_ok f F h
def primA (E : Er) (rd ask : List AV → List AB → Option (AV × List AB)) (n : Nat) (args : List AV) (h : List AB) : Option (AV × List AB) := match n.beq 12, n.beq 53 with
 | true, _ => rd args h
 | false, true => askA ask args h
 | false, false => primR E n args h
theorem primA_ok {E : Er} {rd ask : List AV → List AB → Option (AV × List AB)} (hr : ∀ args h v h1, rd args h = some (v, h1) → CallR prog (Go.Vs.Good prog) (gl14 E) 12 args h v h1) (ha : ∀ args h v h1, ask args h = some (v, h1) → CS (prgR E) 72 args h = some (v, h1)) {f : Nat} {args : List AV} {h : List AB} {v : AV} {h' : List AB} (hc : primA E rd ask f args h = some (v, h')) : CallR prog (Go.Vs.Good prog) (gl14 E) f args h v h' := by
 unfold primA at hc
 split at hc
 ·rename_i e
  obtain rfl := Nat.eq_of_beq_eq_true e
  exact hr _ _ _ _ hc
 ·rename_i e1 e
  obtain rfl := Nat.eq_of_beq_eq_true e
  exact askA_sound ha hc
 ·exact primR_ok E hc
noncomputable def prg0 (E : Er) : Prg := ⟨fns0, gl14 E, primA E (readA E) (callS (prgR E) (evalN (prgR E) 40) 72), frs⟩
theorem prg0_ok (E : Er) : PrgOk prog (prg0 E) := ⟨fns0_ok, fun f args h v h' hc => primA_ok (fun _ _ _ _ => readA_sound) (fun args h v h1 hc => callS_mono (evalN_ev _ _) hc) hc⟩
end Go.Proofs.Tryd
