/- Decompiled by a program: functions as plain data see them, part 4. -/
import Derived.Test.YtefbhnhekkncpaaH33
namespace Go.Proofs.Try
set_option linter.unusedSimpArgs false
set_option linter.unusedVariables false
set_option maxHeartbeats 4000000
open Go Go.Vs
noncomputable section
def BS (a1 : ByteArray) (x0 : ByteArray) : AV := (vs x0)
def F10 (a1 : ByteArray) : Option ByteArray :=
  ((runL (fun s => RD a1 s.1 s.2.1 s.2.2.1 s.2.2.2) (0, 0, 0, [])).bind fun r1 => match r1 with | .k0 x1_0 x1_1 x1_2 => (bif (decide (x1_1 ≤ x1_2.length)) then (some (bstr (x1_2.take x1_1))) else none))
theorem Rr (a1 : ByteArray) {r : ByteArray} (h : F10 a1 = some r) : PR1 prg 10 [vs a1] (BS a1 r) := by
 unfold F10 at h
 apply bn h; intro r1 h1 h
 cases r1 with
 | k0 x1_0 x1_1 x1_2 =>
  obtain ⟨g1, e1⟩ := Hw a1 (0, 0, 0, []) _ h1
  have q0 := (e1 : U6 a1 0 0 0 ([]) = some ((.brk 0), ⟨fr 24 g1 [(3, .sl 0 x1_0 1 0 x1_1)], [yU x1_0 x1_2]⟩))
  have k1 := ka [(2000, .l (.brk 0) ⟨fr 24 g1 [(3, .sl 0 x1_0 1 0 x1_1)], [yU x1_0 x1_2]⟩)] (apc (PK a1 0 0 0 ([])) (apc q0 apn))
  apply bi h <;> intro h2 h
  ·
   rw [← sj h]
   exact fq ([(23, .v (vs (bstr (x1_2.take x1_1)))), (6000, .d true)] ++ kH k1) (k1.b (apc ((Cw (xs := x1_2) rfl h2) : cvB [yU x1_0 x1_2] (.sl 0 x1_0 1 0 x1_1) = some (vs (bstr (x1_2.take x1_1)))) apn))
  ·
   cases h
def F3_v (a1 : BoxD) (a2 a3 : Int) (x0 : Bool) : AV := (vb x0)
def F3 (Nf : Nat) (a1 : BoxD) (a2 a3 : Int) : Option Bool :=
  ((F5 Nf a1).bind fun x1 => (bif x1 then ((F7 Nf a1 a2).bind fun r3 => match r3 with | .k0 x3_0 x3_1 => ((F7 Nf a1 a3).bind fun r4 => match r4 with | .k0 x4_0 x4_1 => ((F8 Nf a1).bind fun r5 => match r5 with | .k0 x5_0 x5_1 => (bif x5_1 then ((F9 x3_1).bind fun x7 => (bif (x7 == 260) then ((F9 x3_1).bind fun x9 => ((F9 x4_1).bind fun x10 => (bif (x9 == x10) then (some false) else (some false)))) else ((F9 x4_1).bind fun x9 => (bif (x9 == 260) then ((F9 x3_1).bind fun x11 => ((F9 x4_1).bind fun x12 => (bif (x11 == x12) then (some false) else (some false)))) else ((F9 x3_1).bind fun x11 => (bif (x11 != 0) then ((F6).bind fun x13 => (some x13)) else ((F9 x4_1).bind fun x13 => (bif (x13 != 0) then ((F6).bind fun x15 => (some x15)) else ((F11 Nf a1).bind fun x15 => ((F10 x15).bind fun x16 => ((F10 x3_0).bind fun x17 => (bif (x17.toList == x16.toList) then ((F10 x4_0).bind fun x19 => (bif (x19.toList == x16.toList) then ((F10 x5_0).bind fun x21 => (bif (x21.toList == x16.toList) then ((F6).bind fun x23 => (some x23)) else (some false))) else (some false))) else (some false))))))))))))) else ((F9 x3_1).bind fun x7 => (bif (x7 == 260) then ((F9 x3_1).bind fun x9 => ((F9 x4_1).bind fun x10 => (bif (x9 == x10) then ((F6).bind fun x12 => (some x12)) else (some false)))) else ((F9 x4_1).bind fun x9 => (bif (x9 == 260) then ((F9 x3_1).bind fun x11 => ((F9 x4_1).bind fun x12 => (bif (x11 == x12) then ((F6).bind fun x14 => (some x14)) else (some false)))) else ((F9 x3_1).bind fun x11 => (bif (x11 != 0) then ((F6).bind fun x13 => (some x13)) else ((F9 x4_1).bind fun x13 => (bif (x13 != 0) then ((F6).bind fun x15 => (some x15)) else ((F11 Nf a1).bind fun x15 => ((F10 x15).bind fun x16 => ((F10 x3_0).bind fun x17 => (bif (x17.toList == x16.toList) then ((F10 x4_0).bind fun x19 => (bif (x19.toList == x16.toList) then ((F6).bind fun x21 => (some x21)) else (some false))) else (some false))))))))))))))))) else ((F6).bind fun x3 => (some x3))))
theorem BT (Nf : Nat) (a1 : BoxD) (a2 a3 : Int) {r : Bool} (h : F3 Nf a1 a2 a3 = some r) : PR1 prg 3 [(.agg ((cBx a1).map .p)), i6 a2, i6 a3] (F3_v a1 a2 a3 r) := by
 unfold F3 at h
 apply bn h; intro x1 h1 h
 apply bi h <;> intro h2 h
 ·
  have q0 := ((((CG Nf a1 h1).cp rfl _).trans (congrArg (fun z => some (vb z)) h2)) : CP prg 5 [(.agg ((cBx a1).map .p))] [.cells 25 ((cBx a1).map .p)] = some (vb true))
  apply bn h; intro r3 h3 h
  cases r3 with
  | k0 x3_0 x3_1 =>
   have q1 := (((CR Nf a1 a2 h3).cp rfl _) : CP prg 7 [(.agg ((cBx a1).map .p)), i6 a2] [.cells 25 ((cBx a1).map .p)] = some (.tup [vs x3_0, i6 x3_1]))
   have k2 := ka [(15, .v (vb true)), (21, .v (.tup [vs x3_0, i6 x3_1]))] (apc q0 (apc q1 apn))
   apply bn h; intro r4 h4 h
   cases r4 with
   | k0 x4_0 x4_1 =>
    have q3 := (((CR Nf a1 a3 h4).cp rfl _) : CP prg 7 [(.agg ((cBx a1).map .p)), i6 a3] [.cells 25 ((cBx a1).map .p)] = some (.tup [vs x4_0, i6 x4_1]))
    apply bn h; intro r5 h5 h
    cases r5 with
    | k0 x5_0 x5_1 =>
     have q4 := (((BL Nf a1 h5).cp rfl _) : CP prg 8 [(.agg ((cBx a1).map .p))] [.cells 25 ((cBx a1).map .p)] = some (.tup [vs x5_0, vb x5_1]))
     have k5 := k2.a [(27, .v (.tup [vs x4_0, i6 x4_1])), (32, .v (.tup [vs x5_0, vb x5_1]))] (apc q3 (apc q4 apn))
     apply bi h <;> intro h6 h
     ·
      apply bn h; intro x7 h7 h
      have q6 := (((Vh x3_1 h7).cp rfl _) : CP prg 9 [i6 x3_1] [.cells 25 ((cBx a1).map .p)] = some (i6 x7))
      have k7 := k5.a [(34, .d true), (36, .v (i6 x7))] (av h6 (apc q6 apn))
      apply bi h <;> intro h8 h
      ·
       apply bn h; intro x9 h9 h
       have q8 := (((Vh x3_1 h9).cp rfl _) : CP prg 9 [i6 x3_1] [.cells 25 ((cBx a1).map .p)] = some (i6 x9))
       have k9 := k7.a [(37, .d true), (44, .v (i6 x9))] (av h8 (apc q8 apn))
       apply bn h; intro x10 h10 h
       have q10 := (((Vh x4_1 h10).cp rfl _) : CP prg 9 [i6 x4_1] [.cells 25 ((cBx a1).map .p)] = some (i6 x10))
       apply bi h <;> intro h11 h
       ·
        rw [← sj h]
        exact fq ([(46, .v (i6 x10)), (47, .d true)] ++ kH k9) (k9.b (apc q10 (av h11 apn)))
       ·
        rw [← sj h]
        exact fq ([(46, .v (i6 x10)), (47, .d false)] ++ kH k9) (k9.b (apc q10 (av h11 apn)))
      ·
       apply bn h; intro x9 h9 h
       have q11 := (((Vh x4_1 h9).cp rfl _) : CP prg 9 [i6 x4_1] [.cells 25 ((cBx a1).map .p)] = some (i6 x9))
       have k12 := k7.a [(37, .d false), (40, .v (i6 x9))] (av h8 (apc q11 apn))
       apply bi h <;> intro h10 h
       ·
        apply bn h; intro x11 h11 h
        have q13 := (((Vh x3_1 h11).cp rfl _) : CP prg 9 [i6 x3_1] [.cells 25 ((cBx a1).map .p)] = some (i6 x11))
        have k14 := k12.a [(41, .d true), (44, .v (i6 x11))] (av h10 (apc q13 apn))
        apply bn h; intro x12 h12 h
        have q15 := (((Vh x4_1 h12).cp rfl _) : CP prg 9 [i6 x4_1] [.cells 25 ((cBx a1).map .p)] = some (i6 x12))
        apply bi h <;> intro h13 h
        ·
         rw [← sj h]
         exact fq ([(46, .v (i6 x12)), (47, .d true)] ++ kH k14) (k14.b (apc q15 (av h13 apn)))
        ·
         rw [← sj h]
         exact fq ([(46, .v (i6 x12)), (47, .d false)] ++ kH k14) (k14.b (apc q15 (av h13 apn)))
       ·
        apply bn h; intro x11 h11 h
        have q16 := (((Vh x3_1 h11).cp rfl _) : CP prg 9 [i6 x3_1] [.cells 25 ((cBx a1).map .p)] = some (i6 x11))
        have k17 := k12.a [(41, .d false), (56, .v (i6 x11))] (av h10 (apc q16 apn))
        apply bi h <;> intro h12 h
        ·
         apply bn h; intro x13 h13 h
         rw [← sj h]
         exact fq ([(57, .d true), (63, .v (vb x13))] ++ kH k17) (k17.b (av h12 (apc (((Pq  h13).cp rfl _) : CP prg 6 [] [.cells 25 ((cBx a1).map .p)] = some (vb x13)) apn)))
        ·
         apply bn h; intro x13 h13 h
         have q18 := (((Vh x4_1 h13).cp rfl _) : CP prg 9 [i6 x4_1] [.cells 25 ((cBx a1).map .p)] = some (i6 x13))
         have k19 := k17.a [(57, .d false), (60, .v (i6 x13))] (av h12 (apc q18 apn))
         apply bi h <;> intro h14 h
         ·
          apply bn h; intro x15 h15 h
          rw [← sj h]
          exact fq ([(61, .d true), (63, .v (vb x15))] ++ kH k19) (k19.b (av h14 (apc (((Pq  h15).cp rfl _) : CP prg 6 [] [.cells 25 ((cBx a1).map .p)] = some (vb x15)) apn)))
         ·
          apply bn h; intro x15 h15 h
          have q20 := (((FX Nf a1 h15).cp rfl _) : CP prg 11 [(.agg ((cBx a1).map .p))] [.cells 25 ((cBx a1).map .p)] = some (vs x15))
          have k21 := k19.a [(61, .d false), (65, .v (vs x15))] (av h14 (apc q20 apn))
          apply bn h; intro x16 h16 h
          have q22 := (((Rr x15 h16).cp rfl _) : CP prg 10 [vs x15] [.cells 25 ((cBx a1).map .p)] = some (vs x16))
          apply bn h; intro x17 h17 h
          have q23 := (((Rr x3_0 h17).cp rfl _) : CP prg 10 [vs x3_0] [.cells 25 ((cBx a1).map .p)] = some (vs x17))
          have k24 := k21.a [(66, .v (vs x16)), (68, .v (vs x17))] (apc q22 (apc q23 apn))
          apply bi h <;> intro h18 h
          ·
           apply bn h; intro x19 h19 h
           have q25 := (((Rr x4_0 h19).cp rfl _) : CP prg 10 [vs x4_0] [.cells 25 ((cBx a1).map .p)] = some (vs x19))
           have k26 := k24.a [(70, .d true), (73, .v (vs x19))] (av h18 (apc q25 apn))
           apply bi h <;> intro h20 h
           ·
            apply bn h; intro x21 h21 h
            have q27 := (((Rr x5_0 h21).cp rfl _) : CP prg 10 [vs x5_0] [.cells 25 ((cBx a1).map .p)] = some (vs x21))
            have k28 := k26.a [(75, .d true), (82, .v (vs x21))] (av h20 (apc q27 apn))
            apply bi h <;> intro h22 h
            ·
             apply bn h; intro x23 h23 h
             rw [← sj h]
             exact fq ([(84, .d true), (88, .v (vb x23))] ++ kH k28) (k28.b (av h22 (apc (((Pq  h23).cp rfl _) : CP prg 6 [] [.cells 25 ((cBx a1).map .p)] = some (vb x23)) apn)))
            ·
             rw [← sj h]
             exact fq ([(84, .d false)] ++ kH k28) (k28.b (av h22 apn))
           ·
            rw [← sj h]
            exact fq ([(75, .d false)] ++ kH k26) (k26.b (av h20 apn))
          ·
           rw [← sj h]
           exact fq ([(70, .d false)] ++ kH k24) (k24.b (av h18 apn))
     ·
      apply bn h; intro x7 h7 h
      have q29 := (((Vh x3_1 h7).cp rfl _) : CP prg 9 [i6 x3_1] [.cells 25 ((cBx a1).map .p)] = some (i6 x7))
      have k30 := k5.a [(34, .d false), (36, .v (i6 x7))] (av h6 (apc q29 apn))
      apply bi h <;> intro h8 h
      ·
       apply bn h; intro x9 h9 h
       have q31 := (((Vh x3_1 h9).cp rfl _) : CP prg 9 [i6 x3_1] [.cells 25 ((cBx a1).map .p)] = some (i6 x9))
       have k32 := k30.a [(37, .d true), (44, .v (i6 x9))] (av h8 (apc q31 apn))
       apply bn h; intro x10 h10 h
       have q33 := (((Vh x4_1 h10).cp rfl _) : CP prg 9 [i6 x4_1] [.cells 25 ((cBx a1).map .p)] = some (i6 x10))
       apply bi h <;> intro h11 h
       ·
        apply bn h; intro x12 h12 h
        rw [← sj h]
        exact fq ([(46, .v (i6 x10)), (47, .d true), (53, .v (vb x12))] ++ kH k32) (k32.b (apc q33 (av h11 (apc (((Pq  h12).cp rfl _) : CP prg 6 [] [.cells 25 ((cBx a1).map .p)] = some (vb x12)) apn))))
       ·
        rw [← sj h]
        exact fq ([(46, .v (i6 x10)), (47, .d false)] ++ kH k32) (k32.b (apc q33 (av h11 apn)))
      ·
       apply bn h; intro x9 h9 h
       have q34 := (((Vh x4_1 h9).cp rfl _) : CP prg 9 [i6 x4_1] [.cells 25 ((cBx a1).map .p)] = some (i6 x9))
       have k35 := k30.a [(37, .d false), (40, .v (i6 x9))] (av h8 (apc q34 apn))
       apply bi h <;> intro h10 h
       ·
        apply bn h; intro x11 h11 h
        have q36 := (((Vh x3_1 h11).cp rfl _) : CP prg 9 [i6 x3_1] [.cells 25 ((cBx a1).map .p)] = some (i6 x11))
        have k37 := k35.a [(41, .d true), (44, .v (i6 x11))] (av h10 (apc q36 apn))
        apply bn h; intro x12 h12 h
        have q38 := (((Vh x4_1 h12).cp rfl _) : CP prg 9 [i6 x4_1] [.cells 25 ((cBx a1).map .p)] = some (i6 x12))
        apply bi h <;> intro h13 h
        ·
         apply bn h; intro x14 h14 h
         rw [← sj h]
         exact fq ([(46, .v (i6 x12)), (47, .d true), (53, .v (vb x14))] ++ kH k37) (k37.b (apc q38 (av h13 (apc (((Pq  h14).cp rfl _) : CP prg 6 [] [.cells 25 ((cBx a1).map .p)] = some (vb x14)) apn))))
        ·
         rw [← sj h]
         exact fq ([(46, .v (i6 x12)), (47, .d false)] ++ kH k37) (k37.b (apc q38 (av h13 apn)))
       ·
        apply bn h; intro x11 h11 h
        have q39 := (((Vh x3_1 h11).cp rfl _) : CP prg 9 [i6 x3_1] [.cells 25 ((cBx a1).map .p)] = some (i6 x11))
        have k40 := k35.a [(41, .d false), (56, .v (i6 x11))] (av h10 (apc q39 apn))
        apply bi h <;> intro h12 h
        ·
         apply bn h; intro x13 h13 h
         rw [← sj h]
         exact fq ([(57, .d true), (63, .v (vb x13))] ++ kH k40) (k40.b (av h12 (apc (((Pq  h13).cp rfl _) : CP prg 6 [] [.cells 25 ((cBx a1).map .p)] = some (vb x13)) apn)))
        ·
         apply bn h; intro x13 h13 h
         have q41 := (((Vh x4_1 h13).cp rfl _) : CP prg 9 [i6 x4_1] [.cells 25 ((cBx a1).map .p)] = some (i6 x13))
         have k42 := k40.a [(57, .d false), (60, .v (i6 x13))] (av h12 (apc q41 apn))
         apply bi h <;> intro h14 h
         ·
          apply bn h; intro x15 h15 h
          rw [← sj h]
          exact fq ([(61, .d true), (63, .v (vb x15))] ++ kH k42) (k42.b (av h14 (apc (((Pq  h15).cp rfl _) : CP prg 6 [] [.cells 25 ((cBx a1).map .p)] = some (vb x15)) apn)))
         ·
          apply bn h; intro x15 h15 h
          have q43 := (((FX Nf a1 h15).cp rfl _) : CP prg 11 [(.agg ((cBx a1).map .p))] [.cells 25 ((cBx a1).map .p)] = some (vs x15))
          have k44 := k42.a [(61, .d false), (65, .v (vs x15))] (av h14 (apc q43 apn))
          apply bn h; intro x16 h16 h
          have q45 := (((Rr x15 h16).cp rfl _) : CP prg 10 [vs x15] [.cells 25 ((cBx a1).map .p)] = some (vs x16))
          apply bn h; intro x17 h17 h
          have q46 := (((Rr x3_0 h17).cp rfl _) : CP prg 10 [vs x3_0] [.cells 25 ((cBx a1).map .p)] = some (vs x17))
          have k47 := k44.a [(66, .v (vs x16)), (68, .v (vs x17))] (apc q45 (apc q46 apn))
          apply bi h <;> intro h18 h
          ·
           apply bn h; intro x19 h19 h
           have q48 := (((Rr x4_0 h19).cp rfl _) : CP prg 10 [vs x4_0] [.cells 25 ((cBx a1).map .p)] = some (vs x19))
           have k49 := k47.a [(70, .d true), (73, .v (vs x19))] (av h18 (apc q48 apn))
           apply bi h <;> intro h20 h
           ·
            apply bn h; intro x21 h21 h
            rw [← sj h]
            exact fq ([(75, .d true), (88, .v (vb x21))] ++ kH k49) (k49.b (av h20 (apc (((Pq  h21).cp rfl _) : CP prg 6 [] [.cells 25 ((cBx a1).map .p)] = some (vb x21)) apn)))
           ·
            rw [← sj h]
            exact fq ([(75, .d false)] ++ kH k49) (k49.b (av h20 apn))
          ·
           rw [← sj h]
           exact fq ([(70, .d false)] ++ kH k47) (k47.b (av h18 apn))
 ·
  apply bn h; intro x3 h3 h
  rw [← sj h]
  exact fq [(15, .v (vb false)), (17, .v (vb x3))] (apc ((((CG Nf a1 h1).cp rfl _).trans (congrArg (fun z => some (vb z)) h2)) : CP prg 5 [(.agg ((cBx a1).map .p))] [.cells 25 ((cBx a1).map .p)] = some (vb false)) (apc (((Pq  h3).cp rfl _) : CP prg 6 [] [.cells 25 ((cBx a1).map .p)] = some (vb x3)) apn))
end
end Go.Proofs.Try
