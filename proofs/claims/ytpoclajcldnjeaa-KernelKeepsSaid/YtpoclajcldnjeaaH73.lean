/- Decompiled by a program: functions as plain data see them, part 3. -/
import Derived.Test.YtpoclajcldnjeaaH72
namespace Go.Proofs.Try
set_option linter.unusedSimpArgs false
set_option linter.unusedVariables false
open Go Go.Vs
noncomputable section
def F7_v (a1 : GramD) (a2 : TreeD) (x0 : Bool) : AV := (vb x0)
def F7 (Nf : Nat) (a1 : GramD) (a2 : TreeD) : Option Bool :=
  ((F9 a1).bind fun x1 => (bif x1 then ((F10).bind fun x3 => (some x3)) else ((F19_2 Nf a2 2000).bind fun x3 => (bif (decide (x3 > 2000)) then ((F10).bind fun x5 => (some x5)) else ((F24 Nf a1).bind fun r5 => match r5 with | .k0 x5_0 => (bif (x5_0 == 0) then ((F12 a1).bind fun x7 => (bif (x7 != 0) then (some false) else ((F12_2).bind fun r9 => match r9 with | .k0 => (some false)))) else (bif (x5_0 != 0) then (bif (x5_0 == 160) then ((F10).bind fun x9 => (some x9)) else (bif (x5_0 == 161) then ((F10).bind fun x10 => (some x10)) else (some false))) else ((runL (fun s => L7_0 a1) ()).bind fun r8 => match r8 with | .k0 => ((F22_2).bind fun r9 => match r9 with | .k0 => ((F10).bind fun x10 => (some x10)))))) | .k1 x5_0 x5_1 x5_2 x5_3 x5_4 => ((F12 a1).bind fun x6 => (bif (x6 != 0) then (some false) else ((F12 (⟨x5_0, x5_1, x5_2, x5_3, x5_4⟩ : GramD)).bind fun x8 => (bif (x8 != 0) then (some false) else ((runL (fun s => L7_0_2 a1 x5_0 x5_1 x5_2 x5_3 x5_4 s.1 s.2.1 s.2.2.1 s.2.2.2.1 s.2.2.2.2) (0, 0, 0, 0, [])).bind fun r10 => match r10 with | .k0 x10_0 x10_1 x10_2 x10_3 => (bif (decide (x10_1 ≤ x10_3.length)) then (bif (x10_2 != (x5_1.length : Int)) then (some false) else ((F22 Nf (⟨x5_0, x5_1, x5_2, x5_3, x5_4⟩ : GramD) a2).bind fun x13 => (bif (x13 != 0) then ((F10).bind fun x15 => (some x15)) else ((F28 Nf a2 (x10_3.take x10_1)).bind fun r15 => match r15 with | .k0 x15_0 x15_1 x15_2 => ((F21 Nf a1 (TreeD.mk x15_0 x15_1 x15_2)).bind fun x16 => (bif (x16 == 0) then ((F10).bind fun x18 => (some x18)) else (some false))))))) else none)))))))))))
abbrev F7_d0 (a1 : GramD) (a2 : TreeD) : List AB := [bG a1, .cells 51 ((cT a2).map .p), yS0, yP0, yF0, yW0, .cells 27 [n0, n0, i6 0, n0, n0]]
abbrev F7_d1 (g8 : Nat → AV) (a1 : GramD) (a2 : TreeD) : St := ⟨fr 98 g8 [(2, .ptr 0 0), (3, .ptr 1 0), (5, .ptr 6 0), (7, .sl 7 0 1 0 0), (8, i6 0)], [bG a1, .cells 51 ((cT a2).map .p), yS0, yP0, yF0, yW0, .cells 27 [n0, n0, i6 0, n0, n0], yI0]⟩
abbrev F7_d2 (a1 : GramD) (a2 : TreeD) : List AB := [bG a1, .cells 51 ((cT a2).map .p), yS0, yP0, yF0, yW0, .cells 27 [n0, n0, i6 0, n0, n0], .frz 1 0 (([]).map eI64)]
abbrev F7_d3 (a1 : GramD) (a2 : TreeD) : List AB := [bG a1, .cells 51 ((cT a2).map .p), yS0, yP0, yF0, yW0, .cells 27 [n0, n0, i6 0, n0, n0], yI0]
abbrev F7_c0 (x5_0 : Int) : List (Nat × Hint) := [(20, .v (.tup [(.agg [n0, n0, i6 0, n0, n0]), i6 x5_0]))]
abbrev F7_c1 (x5_0 : List ByteArray) (x5_1 : List ProdD) (x5_2 : Int) (x5_3 : List ForbD) (x5_4 : List FollD) : List (Nat × Hint) := [(20, .v (.tup [aH x5_0 x5_1 x5_2 x5_3 x5_4, i6 0]))]
abbrev F7_c2 (g10 : Nat → AV) (x10_0 x10_1 : Nat) (x10_2 : Int) (a1 : GramD) (a2 : TreeD) (x5_0 : List ByteArray) (x5_1 : List ProdD) (x5_2 : Int) (x5_3 : List ForbD) (x5_4 : List FollD) (x10_3 : List Int) : List (Nat × Hint) := [(2000, .l (.brk 0) ⟨fr 98 g10 [(2, .ptr 0 0), (3, .ptr 1 0), (5, .ptr 6 0), (7, .sl 7 x10_0 1 0 x10_1), (8, i6 x10_2)], [bG a1, .cells 51 ((cT a2).map .p), yS0, yP0, yF0, yW0, cH x5_0 x5_1 x5_2 x5_3 x5_4, yI x10_0 x10_3]⟩)]
abbrev F7_c3 (g10 : Nat → AV) (x10_3 : List Int) (x10_1 : Nat) (x10_2 : Int) (a1 : GramD) (a2 : TreeD) (x5_0 : List ByteArray) (x5_1 : List ProdD) (x5_2 : Int) (x5_3 : List ForbD) (x5_4 : List FollD) (x10_0 : Nat) : List (Nat × Hint) := [(9007, .l .norm ⟨[g10 0, g10 1, .ptr 0 0, .ptr 1 0, g10 4, .ptr 6 0, g10 6, (.p (.lst 1 ((x10_3.take x10_1).map eI64))), i6 x10_2, g10 9, g10 10, g10 11, g10 12, g10 13, g10 14, g10 15, g10 16, g10 17, g10 18, g10 19, g10 20, g10 21, g10 22, g10 23, g10 24, g10 25, g10 26, g10 27, g10 28, g10 29, g10 30, g10 31, g10 32, g10 33, g10 34, g10 35, g10 36, g10 37, g10 38, g10 39, g10 40, g10 41, g10 42, g10 43, g10 44, g10 45, g10 46, g10 47, g10 48, g10 49, g10 50, g10 51, g10 52, g10 53, g10 54, g10 55, g10 56, g10 57, g10 58, g10 59, g10 60, g10 61, g10 62, g10 63, g10 64, g10 65, g10 66, g10 67, g10 68, g10 69, g10 70, g10 71, g10 72, g10 73, g10 74, g10 75, g10 76, g10 77, g10 78, g10 79, g10 80, g10 81, g10 82, g10 83, g10 84, g10 85, g10 86, g10 87, g10 88, g10 89, g10 90, g10 91, g10 92, g10 93, g10 94, g10 95, g10 96, g10 97], [bG a1, .cells 51 ((cT a2).map .p), yS0, yP0, yF0, yW0, cH x5_0 x5_1 x5_2 x5_3 x5_4, .frz 1 x10_0 (x10_3.map eI64)]⟩), (82, .v (i6 (x5_1.length : Int)))]
theorem F7_ok (Nf : Nat) (a1 : GramD) (a2 : TreeD) {r : Bool} (h : F7 Nf a1 a2 = some r) : PR1 prg 7 [aG a1, (.agg ((cT a2).map .p))] (F7_v a1 a2 r) := by
 unfold F7 at h
 refine bn h fun x1 h1 h => ?_
 refine bi h ?_ ?_ <;> intro h2 h
 ·
  refine bn h fun x3 h3 h => ?_
  rw [← sj h]
  exact fpr [(11, .v (vb true)), (17, .v (vb x3))] (apc ((((F9_ok a1 h1).cp rfl _).trans (congrArg (fun z => some (vb z)) h2)) : CP prg 9 [aG a1] [bG a1, .cells 51 ((cT a2).map .p)] = some (vb true)) (apc (((F10_ok  h3).cp rfl _) : CP prg 10 [] [bG a1, .cells 51 ((cT a2).map .p)] = some (vb x3)) apn)) rfl (by kernel_rfl)
 ·
  have q0 := ((((F9_ok a1 h1).cp rfl _).trans (congrArg (fun z => some (vb z)) h2)) : CP prg 9 [aG a1] [bG a1, .cells 51 ((cT a2).map .p)] = some (vb false))
  refine bn h fun x3 h3 h => ?_
  have q1 := (((F19_2_ok Nf a2 2000 h3).cp rfl _) : CP prg 19 [(.agg ((cT a2).map .p)), i6 2000] [bG a1, .cells 51 ((cT a2).map .p)] = some (i6 x3))
  refine bi h ?_ ?_ <;> intro h4 h
  ·
   refine bn h fun x5 h5 h => ?_
   rw [← sj h]
   exact fpr [(11, .v (vb false)), (14, .v (i6 x3)), (15, .d true), (17, .v (vb x5))] (apc q0 (apc q1 (av h4 (apc (((F10_ok  h5).cp rfl _) : CP prg 10 [] [bG a1, .cells 51 ((cT a2).map .p)] = some (vb x5)) apn)))) rfl (by kernel_rfl)
  ·
   refine bn h fun r5 h5 h => ?_
   cases r5 with
   | k0 x5_0 =>
    have q3 := (((F24_ok Nf a1 h5).cp rfl _) : CP prg 24 [aG a1] [bG a1, .cells 51 ((cT a2).map .p)] = some (.tup [(.agg [n0, n0, i6 0, n0, n0]), i6 x5_0]))
    refine bi h ?_ ?_ <;> intro h6 h
    ·
     refine bn h fun x7 h7 h => ?_
     have q5 := (((F12_ok a1 h7).cp rfl _) : CP prg 12 [aG a1] (F7_d0 a1 a2) = some (i6 x7))
     refine bi h ?_ ?_ <;> intro h8 h
     ·
      rw [← sj h]
      exact fpr ([(11, .v (vb false)), (14, .v (i6 x3)), (15, .d false)] ++ ((F7_c0 x5_0) ++ [(24, .d true), (27, .v (i6 x7)), (28, .d true)])) (apc q0 (apc q1 (av h4 (apc q3 (av h6 (apc q5 (av h8 apn))))))) rfl (by kernel_rfl)
     ·
      refine bn h fun r9 h9 h => ?_
      cases r9 with
      | k0 =>
       rw [← sj h]
       exact fpr ([(11, .v (vb false)), (14, .v (i6 x3)), (15, .d false)] ++ ((F7_c0 x5_0) ++ [(24, .d true), (27, .v (i6 x7)), (28, .d false), (31, .v (i6 160))])) (apc q0 (apc q1 (av h4 (apc q3 (av h6 (apc q5 (av h8 (apc (((F12_2_ok  h9).cp rfl _) : CP prg 12 [(.agg [n0, n0, i6 0, n0, n0])] (F7_d0 a1 a2) = some (i6 160)) apn)))))))) rfl (by kernel_rfl)
    ·
     refine bi h ?_ ?_ <;> intro h7 h
     ·
      refine bi h ?_ ?_ <;> intro h8 h
      ·
       refine bn h fun x9 h9 h => ?_
       rw [← sj h]
       exact fpr ([(11, .v (vb false)), (14, .v (i6 x3)), (15, .d false)] ++ ((F7_c0 x5_0) ++ [(24, .d false), (36, .d true), (38, .d true), (44, .v (vb x9))])) (apc q0 (apc q1 (av h4 (apc q3 (av h6 (av h7 (av h8 (apc (((F10_ok  h9).cp rfl _) : CP prg 10 [] (F7_d0 a1 a2) = some (vb x9)) apn)))))))) rfl (by kernel_rfl)
      ·
       refine bi h ?_ ?_ <;> intro h9 h
       ·
        refine bn h fun x10 h10 h => ?_
        rw [← sj h]
        exact fpr ([(11, .v (vb false)), (14, .v (i6 x3)), (15, .d false)] ++ ((F7_c0 x5_0) ++ [(24, .d false), (36, .d true), (38, .d false), (41, .d true), (44, .v (vb x10))])) (apc q0 (apc q1 (av h4 (apc q3 (av h6 (av h7 (av h8 (av h9 (apc (((F10_ok  h10).cp rfl _) : CP prg 10 [] (F7_d0 a1 a2) = some (vb x10)) apn))))))))) rfl (by kernel_rfl)
       ·
        rw [← sj h]
        exact fpr ([(11, .v (vb false)), (14, .v (i6 x3)), (15, .d false)] ++ ((F7_c0 x5_0) ++ [(24, .d false), (36, .d true), (38, .d false), (41, .d false)])) (apc q0 (apc q1 (av h4 (apc q3 (av h6 (av h7 (av h8 (av h9 apn)))))))) rfl (by kernel_rfl)
     ·
      refine bn h fun r8 h8 h => ?_
      cases r8 with
      | k0 =>
       obtain ⟨g8, e8⟩ := L7_0_run a1 a2 () _ h8
       refine bn h fun r9 h9 h => ?_
       cases r9 with
       | k0 =>
        refine bn h fun x10 h10 h => ?_
        rw [← sj h]
        exact fpr ([(11, .v (vb false)), (14, .v (i6 x3)), (15, .d false)] ++ ((F7_c0 x5_0) ++ [(24, .d false), (36, .d false), (2000, .l (.brk 0) (F7_d1 g8 a1 a2)), (9007, .l .norm ⟨[g8 0, g8 1, .ptr 0 0, .ptr 1 0, g8 4, .ptr 6 0, g8 6, (.p (.lst 1 ((([]).take 0).map eI64))), i6 0, g8 9, g8 10, g8 11, g8 12, g8 13, g8 14, g8 15, g8 16, g8 17, g8 18, g8 19, g8 20, g8 21, g8 22, g8 23, g8 24, g8 25, g8 26, g8 27, g8 28, g8 29, g8 30, g8 31, g8 32, g8 33, g8 34, g8 35, g8 36, g8 37, g8 38, g8 39, g8 40, g8 41, g8 42, g8 43, g8 44, g8 45, g8 46, g8 47, g8 48, g8 49, g8 50, g8 51, g8 52, g8 53, g8 54, g8 55, g8 56, g8 57, g8 58, g8 59, g8 60, g8 61, g8 62, g8 63, g8 64, g8 65, g8 66, g8 67, g8 68, g8 69, g8 70, g8 71, g8 72, g8 73, g8 74, g8 75, g8 76, g8 77, g8 78, g8 79, g8 80, g8 81, g8 82, g8 83, g8 84, g8 85, g8 86, g8 87, g8 88, g8 89, g8 90, g8 91, g8 92, g8 93, g8 94, g8 95, g8 96, g8 97], F7_d2 a1 a2⟩), (86, .v (i6 160)), (88, .v (vb x10)), (6000, .d true)])) (apc q0 (apc q1 (av h4 (apc q3 (av h6 (av h7 (apc ((oK (ac (ac (ar (ar (ar (ar (ac (ar rfl))))))))) : okT 8 (F7_d3 a1 a2) = true) (apc (e8 : L7_0_e a1 a2 = some ((.brk 0), F7_d1 g8 a1 a2)) (apc ((frzS_one (e := eI64) (xs := []) rfl rfl rfl (by kernel_rfl) (by kernel_rfl)) : frzS [7] [] ⟨[g8 0, g8 1, .ptr 0 0, .ptr 1 0, g8 4, .ptr 6 0, g8 6, .sl 7 0 1 0 0, i6 0, g8 9, g8 10, g8 11, g8 12, g8 13, g8 14, g8 15, g8 16, g8 17, g8 18, g8 19, g8 20, g8 21, g8 22, g8 23, g8 24, g8 25, g8 26, g8 27, g8 28, g8 29, g8 30, g8 31, g8 32, g8 33, g8 34, g8 35, g8 36, g8 37, g8 38, g8 39, g8 40, g8 41, g8 42, g8 43, g8 44, g8 45, g8 46, g8 47, g8 48, g8 49, g8 50, g8 51, g8 52, g8 53, g8 54, g8 55, g8 56, g8 57, g8 58, g8 59, g8 60, g8 61, g8 62, g8 63, g8 64, g8 65, g8 66, g8 67, g8 68, g8 69, g8 70, g8 71, g8 72, g8 73, g8 74, g8 75, g8 76, g8 77, g8 78, g8 79, g8 80, g8 81, g8 82, g8 83, g8 84, g8 85, g8 86, g8 87, g8 88, g8 89, g8 90, g8 91, g8 92, g8 93, g8 94, g8 95, g8 96, g8 97], F7_d3 a1 a2⟩ = ⟨[g8 0, g8 1, .ptr 0 0, .ptr 1 0, g8 4, .ptr 6 0, g8 6, (.p (.lst 1 ((([]).take 0).map eI64))), i6 0, g8 9, g8 10, g8 11, g8 12, g8 13, g8 14, g8 15, g8 16, g8 17, g8 18, g8 19, g8 20, g8 21, g8 22, g8 23, g8 24, g8 25, g8 26, g8 27, g8 28, g8 29, g8 30, g8 31, g8 32, g8 33, g8 34, g8 35, g8 36, g8 37, g8 38, g8 39, g8 40, g8 41, g8 42, g8 43, g8 44, g8 45, g8 46, g8 47, g8 48, g8 49, g8 50, g8 51, g8 52, g8 53, g8 54, g8 55, g8 56, g8 57, g8 58, g8 59, g8 60, g8 61, g8 62, g8 63, g8 64, g8 65, g8 66, g8 67, g8 68, g8 69, g8 70, g8 71, g8 72, g8 73, g8 74, g8 75, g8 76, g8 77, g8 78, g8 79, g8 80, g8 81, g8 82, g8 83, g8 84, g8 85, g8 86, g8 87, g8 88, g8 89, g8 90, g8 91, g8 92, g8 93, g8 94, g8 95, g8 96, g8 97], F7_d2 a1 a2⟩) (apc (((F22_2_ok a2 h9).cp rfl _) : CP prg 22 [(.agg [n0, n0, i6 0, n0, n0]), (.agg ((cT a2).map .p))] (F7_d2 a1 a2) = some (i6 160)) (apc (((F10_ok  h10).cp rfl _) : CP prg 10 [] (F7_d2 a1 a2) = some (vb x10)) apn))))))))))) rfl (by kernel_rfl)
   | k1 x5_0 x5_1 x5_2 x5_3 x5_4 =>
    have q3 := (((F24_ok Nf a1 h5).cp rfl _) : CP prg 24 [aG a1] [bG a1, .cells 51 ((cT a2).map .p)] = some (.tup [aH x5_0 x5_1 x5_2 x5_3 x5_4, i6 0]))
    refine bn h fun x6 h6 h => ?_
    have q4 := (((F12_ok a1 h6).cp rfl _) : CP prg 12 [aG a1] [bG a1, .cells 51 ((cT a2).map .p), yS0, yP0, yF0, yW0, cH x5_0 x5_1 x5_2 x5_3 x5_4] = some (i6 x6))
    refine bi h ?_ ?_ <;> intro h7 h
    ·
     rw [← sj h]
     exact fpr ([(11, .v (vb false)), (14, .v (i6 x3)), (15, .d false)] ++ ((F7_c1 x5_0 x5_1 x5_2 x5_3 x5_4) ++ [(27, .v (i6 x6)), (28, .d true)])) (apc q0 (apc q1 (av h4 (apc q3 (apc q4 (av h7 apn)))))) rfl (by kernel_rfl)
    ·
     refine bn h fun x8 h8 h => ?_
     have q6 := (((F12_ok (⟨x5_0, x5_1, x5_2, x5_3, x5_4⟩ : GramD) h8).cp rfl _) : CP prg 12 [aH x5_0 x5_1 x5_2 x5_3 x5_4] [bG a1, .cells 51 ((cT a2).map .p), yS0, yP0, yF0, yW0, cH x5_0 x5_1 x5_2 x5_3 x5_4] = some (i6 x8))
     refine bi h ?_ ?_ <;> intro h9 h
     ·
      rw [← sj h]
      exact fpr ([(11, .v (vb false)), (14, .v (i6 x3)), (15, .d false)] ++ ((F7_c1 x5_0 x5_1 x5_2 x5_3 x5_4) ++ [(27, .v (i6 x6)), (28, .d false), (31, .v (i6 x8)), (32, .d true)])) (apc q0 (apc q1 (av h4 (apc q3 (apc q4 (av h7 (apc q6 (av h9 apn)))))))) rfl (by kernel_rfl)
     ·
      refine bn h fun r10 h10 h => ?_
      cases r10 with
      | k0 x10_0 x10_1 x10_2 x10_3 =>
       obtain ⟨g10, e10⟩ := L7_0_2_run a1 a2 x5_0 x5_1 x5_2 x5_3 x5_4 (0, 0, 0, 0, []) _ h10
       have q8 := ((oK (ac (ac (ar (ar (ar (ar (ac (ar rfl))))))))) : okT 8 [bG a1, .cells 51 ((cT a2).map .p), yS0, yP0, yF0, yW0, cH x5_0 x5_1 x5_2 x5_3 x5_4, yI0] = true)
       have q9 := (e10 : L7_0_2_e a1 a2 x5_0 x5_1 x5_2 x5_3 x5_4 0 0 0 0 ([]) = some ((.brk 0), ⟨fr 98 g10 [(2, .ptr 0 0), (3, .ptr 1 0), (5, .ptr 6 0), (7, .sl 7 x10_0 1 0 x10_1), (8, i6 x10_2)], [bG a1, .cells 51 ((cT a2).map .p), yS0, yP0, yF0, yW0, cH x5_0 x5_1 x5_2 x5_3 x5_4, yI x10_0 x10_3]⟩))
       refine bi h ?_ ?_ <;> intro h11 h
       ·
        have q10 := ((frzS_one (e := eI64) (xs := x10_3) rfl rfl h11 (by kernel_rfl) (by kernel_rfl)) : frzS [7] [] ⟨[g10 0, g10 1, .ptr 0 0, .ptr 1 0, g10 4, .ptr 6 0, g10 6, .sl 7 x10_0 1 0 x10_1, i6 x10_2, g10 9, g10 10, g10 11, g10 12, g10 13, g10 14, g10 15, g10 16, g10 17, g10 18, g10 19, g10 20, g10 21, g10 22, g10 23, g10 24, g10 25, g10 26, g10 27, g10 28, g10 29, g10 30, g10 31, g10 32, g10 33, g10 34, g10 35, g10 36, g10 37, g10 38, g10 39, g10 40, g10 41, g10 42, g10 43, g10 44, g10 45, g10 46, g10 47, g10 48, g10 49, g10 50, g10 51, g10 52, g10 53, g10 54, g10 55, g10 56, g10 57, g10 58, g10 59, g10 60, g10 61, g10 62, g10 63, g10 64, g10 65, g10 66, g10 67, g10 68, g10 69, g10 70, g10 71, g10 72, g10 73, g10 74, g10 75, g10 76, g10 77, g10 78, g10 79, g10 80, g10 81, g10 82, g10 83, g10 84, g10 85, g10 86, g10 87, g10 88, g10 89, g10 90, g10 91, g10 92, g10 93, g10 94, g10 95, g10 96, g10 97], [bG a1, .cells 51 ((cT a2).map .p), yS0, yP0, yF0, yW0, cH x5_0 x5_1 x5_2 x5_3 x5_4, yI x10_0 x10_3]⟩ = ⟨[g10 0, g10 1, .ptr 0 0, .ptr 1 0, g10 4, .ptr 6 0, g10 6, (.p (.lst 1 ((x10_3.take x10_1).map eI64))), i6 x10_2, g10 9, g10 10, g10 11, g10 12, g10 13, g10 14, g10 15, g10 16, g10 17, g10 18, g10 19, g10 20, g10 21, g10 22, g10 23, g10 24, g10 25, g10 26, g10 27, g10 28, g10 29, g10 30, g10 31, g10 32, g10 33, g10 34, g10 35, g10 36, g10 37, g10 38, g10 39, g10 40, g10 41, g10 42, g10 43, g10 44, g10 45, g10 46, g10 47, g10 48, g10 49, g10 50, g10 51, g10 52, g10 53, g10 54, g10 55, g10 56, g10 57, g10 58, g10 59, g10 60, g10 61, g10 62, g10 63, g10 64, g10 65, g10 66, g10 67, g10 68, g10 69, g10 70, g10 71, g10 72, g10 73, g10 74, g10 75, g10 76, g10 77, g10 78, g10 79, g10 80, g10 81, g10 82, g10 83, g10 84, g10 85, g10 86, g10 87, g10 88, g10 89, g10 90, g10 91, g10 92, g10 93, g10 94, g10 95, g10 96, g10 97], [bG a1, .cells 51 ((cT a2).map .p), yS0, yP0, yF0, yW0, cH x5_0 x5_1 x5_2 x5_3 x5_4, .frz 1 x10_0 (x10_3.map eI64)]⟩)
        refine bi h ?_ ?_ <;> intro h12 h
        ·
         rw [← sj h]
         exact fpr ([(11, .v (vb false)), (14, .v (i6 x3)), (15, .d false)] ++ ((F7_c1 x5_0 x5_1 x5_2 x5_3 x5_4) ++ ([(27, .v (i6 x6)), (28, .d false), (31, .v (i6 x8)), (32, .d false)] ++ ((F7_c2 g10 x10_0 x10_1 x10_2 a1 a2 x5_0 x5_1 x5_2 x5_3 x5_4 x10_3) ++ ((F7_c3 g10 x10_3 x10_1 x10_2 a1 a2 x5_0 x5_1 x5_2 x5_3 x5_4 x10_0) ++ [(83, .d true), (6000, .d true)]))))) (apc q0 (apc q1 (av h4 (apc q3 (apc q4 (av h7 (apc q6 (av h9 (apc q8 (apc q9 (apc q10 (apc (lg x5_1 eProd 7) (av h12 apn))))))))))))) rfl (by kernel_rfl)
        ·
         refine bn h fun x13 h13 h => ?_
         have q13 := (((F22_ok Nf (⟨x5_0, x5_1, x5_2, x5_3, x5_4⟩ : GramD) a2 h13).cp rfl _) : CP prg 22 [aH x5_0 x5_1 x5_2 x5_3 x5_4, (.agg ((cT a2).map .p))] [bG a1, .cells 51 ((cT a2).map .p), yS0, yP0, yF0, yW0, cH x5_0 x5_1 x5_2 x5_3 x5_4, .frz 1 x10_0 (x10_3.map eI64)] = some (i6 x13))
         refine bi h ?_ ?_ <;> intro h14 h
         ·
          refine bn h fun x15 h15 h => ?_
          rw [← sj h]
          exact fpr ([(11, .v (vb false)), (14, .v (i6 x3)), (15, .d false)] ++ ((F7_c1 x5_0 x5_1 x5_2 x5_3 x5_4) ++ ([(27, .v (i6 x6)), (28, .d false), (31, .v (i6 x8)), (32, .d false)] ++ ((F7_c2 g10 x10_0 x10_1 x10_2 a1 a2 x5_0 x5_1 x5_2 x5_3 x5_4 x10_3) ++ ((F7_c3 g10 x10_3 x10_1 x10_2 a1 a2 x5_0 x5_1 x5_2 x5_3 x5_4 x10_0) ++ [(83, .d false), (86, .v (i6 x13)), (87, .d true), (88, .v (vb x15)), (6000, .d true)]))))) (apc q0 (apc q1 (av h4 (apc q3 (apc q4 (av h7 (apc q6 (av h9 (apc q8 (apc q9 (apc q10 (apc (lg x5_1 eProd 7) (av h12 (apc q13 (av h14 (apc (((F10_ok  h15).cp rfl _) : CP prg 10 [] [bG a1, .cells 51 ((cT a2).map .p), yS0, yP0, yF0, yW0, cH x5_0 x5_1 x5_2 x5_3 x5_4, .frz 1 x10_0 (x10_3.map eI64)] = some (vb x15)) apn)))))))))))))))) rfl (by kernel_rfl)
         ·
          refine bn h fun r15 h15 h => ?_
          cases r15 with
          | k0 x15_0 x15_1 x15_2 =>
           have q15 := (((F28_ok Nf a2 (x10_3.take x10_1) h15).cp rfl _) : CP prg 28 [(.agg ((cT a2).map .p)), (.p (.lst 1 ((x10_3.take x10_1).map eI64)))] [bG a1, .cells 51 ((cT a2).map .p), yS0, yP0, yF0, yW0, cH x5_0 x5_1 x5_2 x5_3 x5_4, .frz 1 x10_0 (x10_3.map eI64)] = some (.agg [i6 x15_0, vi .u8 x15_1, (.p (.lst 3 (eTrees x15_2)))]))
           refine bn h fun x16 h16 h => ?_
           have q16 := (((F21_ok Nf a1 (TreeD.mk x15_0 x15_1 x15_2) h16).cp rfl _) : CP prg 21 [aG a1, (.agg [i6 x15_0, vi .u8 x15_1, (.p (.lst 3 (eTrees x15_2)))])] [bG a1, .cells 51 ((cT a2).map .p), yS0, yP0, yF0, yW0, cH x5_0 x5_1 x5_2 x5_3 x5_4, .frz 1 x10_0 (x10_3.map eI64)] = some (i6 x16))
           refine bi h ?_ ?_ <;> intro h17 h
           ·
            refine bn h fun x18 h18 h => ?_
            rw [← sj h]
            exact fpr ([(11, .v (vb false)), (14, .v (i6 x3)), (15, .d false)] ++ ((F7_c1 x5_0 x5_1 x5_2 x5_3 x5_4) ++ ([(27, .v (i6 x6)), (28, .d false), (31, .v (i6 x8)), (32, .d false)] ++ ((F7_c2 g10 x10_0 x10_1 x10_2 a1 a2 x5_0 x5_1 x5_2 x5_3 x5_4 x10_3) ++ ((F7_c3 g10 x10_3 x10_1 x10_2 a1 a2 x5_0 x5_1 x5_2 x5_3 x5_4 x10_0) ++ [(83, .d false), (86, .v (i6 x13)), (87, .d false), (92, .v (.agg [i6 x15_0, vi .u8 x15_1, (.p (.lst 3 (eTrees x15_2)))])), (93, .v (i6 x16)), (94, .d true), (96, .v (vb x18)), (6000, .d true)]))))) (apc q0 (apc q1 (av h4 (apc q3 (apc q4 (av h7 (apc q6 (av h9 (apc q8 (apc q9 (apc q10 (apc (lg x5_1 eProd 7) (av h12 (apc q13 (av h14 (apc q15 (apc q16 (av h17 (apc (((F10_ok  h18).cp rfl _) : CP prg 10 [] [bG a1, .cells 51 ((cT a2).map .p), yS0, yP0, yF0, yW0, cH x5_0 x5_1 x5_2 x5_3 x5_4, .frz 1 x10_0 (x10_3.map eI64)] = some (vb x18)) apn))))))))))))))))))) rfl (by kernel_rfl)
           ·
            rw [← sj h]
            exact fpr ([(11, .v (vb false)), (14, .v (i6 x3)), (15, .d false)] ++ ((F7_c1 x5_0 x5_1 x5_2 x5_3 x5_4) ++ ([(27, .v (i6 x6)), (28, .d false), (31, .v (i6 x8)), (32, .d false)] ++ ((F7_c2 g10 x10_0 x10_1 x10_2 a1 a2 x5_0 x5_1 x5_2 x5_3 x5_4 x10_3) ++ ((F7_c3 g10 x10_3 x10_1 x10_2 a1 a2 x5_0 x5_1 x5_2 x5_3 x5_4 x10_0) ++ [(83, .d false), (86, .v (i6 x13)), (87, .d false), (92, .v (.agg [i6 x15_0, vi .u8 x15_1, (.p (.lst 3 (eTrees x15_2)))])), (93, .v (i6 x16)), (94, .d false), (6000, .d true)]))))) (apc q0 (apc q1 (av h4 (apc q3 (apc q4 (av h7 (apc q6 (av h9 (apc q8 (apc q9 (apc q10 (apc (lg x5_1 eProd 7) (av h12 (apc q13 (av h14 (apc q15 (apc q16 (av h17 apn)))))))))))))))))) rfl (by kernel_rfl)
       ·
        cases h
end
end Go.Proofs.Try
