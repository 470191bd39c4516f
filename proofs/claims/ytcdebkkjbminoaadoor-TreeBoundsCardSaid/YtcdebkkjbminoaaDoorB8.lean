/- tree.dive, where a tree is nested too deep: it panics. -/
import Derived.Test.YtcdebkkjbminoaaDoorP82
import Derived.Test.YtcdebkkjbminoaaDoorH82
import Derived.Test.YtcdebkkjbminoaaDoorVF
import Derived.Test.YtcdebkkjbminoaaDoorW83
open List renaming getElem?_eq_some_iff → gei, getElem?_of_mem → gom, getElem?_append_right → gar, getElem?_append_left → gal
namespace Go.Proofs.Tryd
set_option linter.unusedSimpArgs false
set_option linter.unusedVariables false
open Go Go.Vs Go.RowKit
def nst : Nat → TreeD
 | 0 => .mk 0 0 []
 | n + 1 => .mk 0 0 [nst n]
noncomputable def cHd : Code → Code
 | .seq a _ => a
 | _ => .skip
noncomputable def cTl : Code → Code
 | .seq _ b => b
 | _ => .skip
noncomputable def cIn : Code → Code
 | .block _ c => c
 | .loop c => c
 | .cond _ a _ => a
 | c => c
noncomputable def b72 : Code := match f72.body with | some c => c | none => .skip
noncomputable def dv0B : Code := cHd b72
noncomputable def dvXB : Code := cHd (cTl b72)
noncomputable def dv1B : Code := cHd dvXB
noncomputable def dv2B : Code := cIn (cTl dvXB)
noncomputable def dv3B : Code := cHd (cTl (cTl b72))
noncomputable def dv4B : Code := cHd (cTl (cTl (cTl b72)))
noncomputable def dvLB : Code := cIn (cIn (cTl (cTl (cTl (cTl b72)))))
noncomputable def dv5B : Code := cHd dvLB
noncomputable def dv6B : Code := cHd (cIn (cHd (cTl (cTl dvLB))))
noncomputable def dv7B : Code := cTl (cIn (cHd (cTl (cTl dvLB))))
noncomputable def dv8B : Code := cTl (cTl (cTl dvLB))
theorem f72_eq : f72.body = some (.seq dv0B (.seq (.seq dv1B (.cond (.tmp 9) dv2B .skip)) (.seq dv3B (.seq dv4B (.block 0 (.loop (.seq dv5B (.seq (.cond (.tmp 19) .skip (.exit 0)) (.seq (.block 1 (.seq dv6B dv7B)) dv8B))))))))) := by kernel_rfl
def hdJd : IC → IC | .seq a _ => a | _ => .skip
def nxJd : IC → IC | .seq _ b => b | _ => .skip
def inJd : IC → IC | .block _ b => b | b => b
def dv0I : IC := hdJd ir72.code
def dvXI : IC := hdJd (nxJd ir72.code)
def dv1I : IC := hdJd (hdJd (nxJd ir72.code))
def dv3I : IC := hdJd (nxJd (nxJd ir72.code))
def dv4I : IC := hdJd (nxJd (nxJd (nxJd ir72.code)))
def dv5I : IC := hdJd ir72_l0
def dv6I : IC := hdJd (inJd (hdJd (nxJd (nxJd ir72_l0))))
def lsJd : IC → List IOp | .ops l => l | _ => []
def dv7I : List IOp := (lsJd (nxJd (inJd (hdJd (nxJd (nxJd ir72_l0)))))).take 4
theorem dv0_c : (compC prog (shOf sh []) dv0B []).1 = dv0I ∧ noR dv0B = true := ⟨by kernel_rfl, by kernel_rfl⟩
theorem dvX_c : (compC prog (shOf sh []) dvXB []).1 = dvXI ∧ noR dvXB = true := ⟨by kernel_rfl, by kernel_rfl⟩
theorem dv1_c : (compC prog (shOf sh []) dv1B []).1 = dv1I ∧ noR dv1B = true := ⟨by kernel_rfl, by kernel_rfl⟩
theorem dv3_c : (compC prog (shOf sh []) dv3B []).1 = dv3I ∧ noR dv3B = true := ⟨by kernel_rfl, by kernel_rfl⟩
theorem dv4_c : (compC prog (shOf sh []) dv4B []).1 = dv4I ∧ noR dv4B = true := ⟨by kernel_rfl, by kernel_rfl⟩
theorem dv5_c : (compC prog (shOf sh []) dv5B []).1 = dv5I ∧ noR dv5B = true := ⟨by kernel_rfl, by kernel_rfl⟩
theorem dv6_c : (compC prog (shOf sh []) dv6B []).1 = dv6I ∧ noR dv6B = true := ⟨by kernel_rfl, by kernel_rfl⟩
theorem dvX_eq : dvXB = .seq dv1B (.cond (.tmp 9) dv2B .skip) := by kernel_rfl
theorem dv2_eq : dv2B = .region 2 (opsOf dv2B) false := by kernel_rfl
theorem dv7_eq : dv7B = .region 7 (opsOf dv7B) false := by kernel_rfl
theorem dv7_c : compOps prog (shOf sh []) (opsOf dv7B) ((opsOf dv7B).toList.take 4) = some dv7I := by kernel_rfl
theorem dv7_4 : ∃ o4 c, (opsOf dv7B).toList = (opsOf dv7B).toList.take 4 ++ [o4] ∧ (opsOf dv7B).size = 5 ∧ (opsOf dv7B)[4]? = some o4 ∧ o4.op = .call c ∧ o4.guard = none ∧ c.callee = .value (.func 72) ∧ c.args.toList = [.tmp 22, .tmp 24, .tmp 25] := ⟨_, _, by kernel_rfl, by kernel_rfl, rfl, rfl, rfl, rfl, rfl⟩
theorem dv2_0 : ∃ o0 o1 o2, opsOf dv2B = #[o0, o1, o2] ∧ o0.op = .build 106 #[] ∧ o0.dst = some 10 ∧ o0.guard = none ∧ o1.op = .makeInterface 106 (.tmp 10) ∧ o1.dst = some 11 ∧ o1.guard = none ∧ o2.op = .panic (.tmp 11) ∧ o2.guard = none := ⟨_, _, _, rfl, rfl, rfl, rfl, rfl, rfl, rfl, rfl, rfl⟩
section
variable {E : Er} {fa : Nat} {caps : List AV} {H : List AB}
abbrev l72 (N : Int) (fa : Nat) (caps : List AV) (k : Nat) : List (Nat × AV) := [(1, i6 N), (2, .fn fa caps), (3, .ptr k 0)]
abbrev bx (t : TreeD) : AB := .cells 25 ((cT t).map .p)
theorem dv0_run {t : TreeD} {N : Int} : ∃ u, run (envOf (prgR E) (ev (prgR E))) (ev (prgR E)) dv0I ⟨[.agg ((cT t).map .p), i6 N, .fn fa caps] ++ List.replicate 25 ud, H⟩ = some (.norm, ⟨fr 28 u (l72 N fa caps H.length), H ++ [bx t]⟩) := by
 exact exP (n := 30) [] apn (by kernel_rfl)
theorem dvX_run {u : Nat → AV} {N : Int} {k : Nat} (hN : N ≠ 0) : ∃ u', run (envOf (prgR E) (ev (prgR E))) (ev (prgR E)) dvXI ⟨fr 28 u (l72 N fa caps k), H⟩ = some (.norm, ⟨fr 28 u' (l72 N fa caps k), H⟩) := by
 exact exP (n := 30) [(9, .d false)] (apc (cv (by simpa using hN) : vb (N == 0) = vb false) apn) (by kernel_rfl)
theorem dv1_run {u : Nat → AV} {k : Nat} : ∃ u', run (envOf (prgR E) (ev (prgR E))) (ev (prgR E)) dv1I ⟨fr 28 u (l72 0 fa caps k), H⟩ = some (.norm, ⟨fr 28 u' [(9, vb true)], H⟩) := by
 exact exP (n := 30) [] apn (by kernel_rfl)
theorem dv3_run {u : Nat → AV} {t : TreeD} {N : Int} {k : Nat} {H2 : List AB} (q : ldA H true 3 (.ptr k 0) = some (.agg ((cT t).map .p))) (hc : CS (prgR E) fa (.agg ((cT t).map .p) :: caps) H = some (.tup [], H2)) :
  ∃ u', run (envOf (prgR E) (ev (prgR E))) (ev (prgR E)) dv3I ⟨fr 28 u (l72 N fa caps k), H⟩ = some (.norm, ⟨fr 28 u' (l72 N fa caps k), H2⟩) := by
 exact exP (n := 30) [(13, .v (.agg ((cT t).map .p))), (14, .r (.tup []) H2)] (apc q (apc hc apn)) (by kernel_rfl)
abbrev l74 (N : Int) (fa : Nat) (caps : List AV) (m : Nat) : List (Nat × AV) := [(1, i6 N), (2, .fn fa caps), (16, .p (.lst 3 [eTree (nst m)])), (17, i6 1), (18, i6 0)]
theorem dv4_run {u : Nat → AV} {N : Int} {k m : Nat} (q : ldA H false 1 (.ptr k 2) = some (.p (.lst 3 [eTree (nst m)]))) :
  ∃ u', run (envOf (prgR E) (ev (prgR E))) (ev (prgR E)) dv4I ⟨fr 28 u (l72 N fa caps k), H⟩ = some (.norm, ⟨fr 28 u' (l74 N fa caps m), H⟩) := by
 exact exP (n := 30) [(16, .v (.p (.lst 3 [eTree (nst m)])))] (apc q apn) (by kernel_rfl)
abbrev l75 (N : Int) (fa : Nat) (caps : List AV) (m : Nat) : List (Nat × AV) := [(1, i6 N), (2, .fn fa caps), (16, .p (.lst 3 [eTree (nst m)])), (17, i6 1), (18, i6 0), (19, vb true)]
theorem dv5_run {u : Nat → AV} {N : Int} {m : Nat} :
  ∃ u', run (envOf (prgR E) (ev (prgR E))) (ev (prgR E)) dv5I ⟨fr 28 u (l74 N fa caps m), H⟩ = some (.norm, ⟨fr 28 u' (l75 N fa caps m), H⟩) := by
 exact exP (n := 30) [] apn (by kernel_rfl)
abbrev l76 (N : Int) (fa : Nat) (caps : List AV) (k : Nat) : List (Nat × AV) := [(1, i6 N), (2, .fn fa caps), (7, .ptr k 0)]
theorem dv6_run {u : Nat → AV} {N : Int} {m : Nat} {H3 : List AB} (q : stA ((H ++ [.row 25 3 0 []]) ++ [.cells 25 [i6 0, vi .u8 0, .sl H.length 0 3 0 0]]) 3 (.ptr (H.length + 1) 0) (.agg ((cT (nst m)).map .p)) = some H3) :
  ∃ u', run (envOf (prgR E) (ev (prgR E))) (ev (prgR E)) dv6I ⟨fr 28 u (l75 N fa caps m), H⟩ = some (.norm, ⟨fr 28 u' (l76 N fa caps (H.length + 1)), H3⟩) := by
 exact exP (n := 30) [(20, .v (.ro (cT (nst m)))), (1007, .r ud H3)] (apc (by rw [eTree_c]; rfl : idxA 3 (.p (.lst 3 [eTree (nst m)])) (i6 0) = some (.ro (cT (nst m)))) (apc (⟨q, rfl⟩ : stA ((H ++ [.row 25 3 0 []]) ++ [.cells 25 [i6 0, vi .u8 0, .sl H.length 0 3 0 0]]) 3 (.ptr (H.length + 1) 0) (.agg ((cT (nst m)).map .p)) = some H3 ∧ ud = ud) apn)) (by kernel_rfl)
theorem dv7_run {u : Nat → AV} {N : Int} {m k : Nat} (q : ldA H true 3 (.ptr k 0) = some (.agg ((cT (nst m)).map .p))) :
  ∃ u', run (envOf (prgR E) (ev (prgR E))) (ev (prgR E)) (.ops dv7I) ⟨fr 28 u (l76 N fa caps k), H⟩ = some (.norm, ⟨fr 28 u' [(22, .agg ((cT (nst m)).map .p)), (24, i6 (w6 (N - 1))), (25, .fn fa caps)], H⟩) := by
 exact exP (n := 30) [(22, .v (.agg ((cT (nst m)).map .p)))] (apc q apn) (by kernel_rfl)
end
set_option maxHeartbeats 4000000
abbrev tooDeep : Value := .iface 106 (.agg #[])
abbrev deepC : List PanicEntry := [{ v := tooDeep, recovered := false }]
theorem dv2_c : compOps prog (shOf sh []) (opsOf dv2B) ((opsOf dv2B).toList.take 1) = some [⟨some 10, .build [] [], none⟩] := by kernel_rfl
theorem ld_last {h : List AB} {t : TreeD} : ldA (h ++ [bx t]) true 3 (.ptr h.length 0) = some (.agg ((cT t).map .p)) := by
 have hb : (h ++ [bx t])[h.length]? = some (bx t) := by
  rw [gar (Nat.le_refl _), Nat.sub_self]; rfl
 exact ld_cells3 hb
section
variable {E : Er} {fa : Nat} {caps : List AV} {h : List AB}
theorem dive_pan (hat : ∀ (m : Nat) (H : List AB), h <+: H → ∃ ex, CS (prgR E) fa (.agg ((cT (nst m)).map .p) :: caps) H = some (.tup [], H ++ ex)) :
  ∀ (n m : Nat), n ≤ m → n ≤ 100000 → ∀ H, h <+: H → PanR prog (Go.Vs.Good prog) (gl14 E) 72 [.agg ((cT (nst m)).map .p), i6 (n : Int), .fn fa caps] H tooDeep := by
 intro n
 induction n with
 | zero =>
  intro m hnm hb H hH
  refine ⟨⟨f72, func72, by kernel_rfl, by kernel_rfl⟩, ?_⟩
  intro g w vals hcr hgr hhr hvs
  have hblw : ∀ x ∈ H, x.blw H.length = true := by
   intro x hx
   obtain ⟨b, hb⟩ := gom hx
   have := BR_blw (hhr.br b x hb)
   rwa [hhr.n] at this
  have hsz : vals.length = 3 := by simpa using hvs.len.symm
  have hfr : VRs g w ([.agg ((cT (nst m)).map .p), i6 ((0 : Nat) : Int), .fn fa caps] ++ List.replicate 25 ud) (vals.toArray ++ Array.replicate (f72.ntmps - vals.toArray.size) undef).toList := by
   simp only [Array.toList_append, Array.toList_replicate, List.size_toArray, hsz]
   exact hvs.append (VRs.replicate _ VR_ud)
  have hsr : SR prog (Go.Vs.Good prog) (gl14 E) w.heap.size ⟨[.agg ((cT (nst m)).map .p), i6 ((0 : Nat) : Int), .fn fa caps] ++ List.replicate 25 ud, H⟩ g { tmps := vals.toArray ++ Array.replicate (f72.ntmps - vals.toArray.size) undef, defers := [] } w :=
   ⟨⟨hgr, hhr, hfr⟩, by simp, by simp, Nat.le_refl _, hcr⟩
  refine (callsIn_wide (n := 0)).1 (callsIn_of_wp_marks (F := FW none) func72 f72_eq trivial ?_ rfl)
  obtain ⟨u0, r0⟩ := dv0_run (E := E) (t := nst m) (N := ((0 : Nat) : Int)) (fa := fa) (caps := caps) (H := H)
  refine wpIn_seq (code_step dv0_c.1 dv0_c.2 r0 hsr (fun x1 a1 w1 g1 k1 he1 hs1 => ?_))
  rw [exitR_norm k1]
  show Code.wpIn _ _ _ _ _ _ _
  obtain ⟨u1, r1⟩ := dv1_run (E := E) (u := u0) (fa := fa) (caps := caps) (k := H.length) (H := H ++ [bx (nst m)])
  refine wpIn_seq (wpIn_seq (code_step dv1_c.1 dv1_c.2 r1 hs1 (fun x2 a2 w2 g2 k2 he2 hs2 => ?_)))
  rw [exitR_norm k2]
  show Code.wpIn _ _ _ _ _ _ _
  have ht : a2.eval (.tmp 9) = .bool true := by
   have := hs2.c.opd (.tmp 9)
   exact (VR_bool this).1 true rfl
  refine wpIn_cond_true ht ?_
  obtain ⟨o0, o1, o2, p0, p1, p2, p3, p4, p5, p6, p7, p8⟩ := dv2_0
  have ho1 : (opsOf dv2B)[1]? = some o1 := by rw [p0]; rfl
  have ho2 : (opsOf dv2B)[2]? = some o2 := by rw [p0]; rfl
  have hosz : (opsOf dv2B).size = 3 := by rw [p0]; rfl
  rw [dv2_eq]
  refine wpIn_region ?_
  rw [hosz]
  show wpOpsIn (FW none) 0 prog (opsOf dv2B) _ ([0] ++ [1, 2]) _ _
  have hdr : (opsOf dv2B).toList.drop 0 = (opsOf dv2B).toList.take 1 ++ [o1, o2] := by rw [p0]; rfl
  have h1 : List.range' 0 ((opsOf dv2B).toList.take 1).length = [0] := by rw [p0]; rfl
  rw [← h1]
  refine ops_pre (sound_all (prgR_ok E) 1) ((opsOf dv2B).toList.take 1) [⟨some 10, .build [] [], none⟩] 0 _ ⟨putA (fr 28 u1 [(9, vb true)]) (some 10) (.agg []), H ++ [bx (nst m)]⟩ g2 a2 w2 [o1, o2] hdr dv2_c rfl hs2 (fun a3 w3 g3 he3 hs3 => ?_)
  have h10 : a3.eval (.tmp 10) = .agg #[] := by
   have := hs3.c.opd (.tmp 10)
   have : VR g3 w3 (.agg []) (a3.eval (.tmp 10)) := this
   simp only [VR] at this
   obtain ⟨cs, e, hv⟩ := this
   have : cs.toList = [] := by
    cases hc : cs.toList with
    | nil => rfl
    | cons _ _ => rw [hc] at hv; simp [VRs] at hv
   rw [e]
   congr 1
   exact Array.toList_eq_nil_iff.1 this
  simp only [wpOpsIn, ho1, ho2]
  rw [if_pos (by simp [Region.wanted, p6])]
  refine ⟨fun _ _ => trivial, ?_⟩
  have hrun1 : (execOp a3.eval o1).run prog w3 = .ok (.value tooDeep) w3 := by
   simp [execOp, p4, h10, Instr.makeInterface]
  rw [Oper.semAt_eq _ _ _ (by rw [p4]; simp), hrun1, Oper.uponIn_value, p5]
  rw [if_pos (by simp [Region.wanted, p8])]
  refine ⟨fun _ _ => trivial, ?_⟩
  have hlt : 11 < a3.tmps.size := by
   have := hs3.c.fr.len
   simp only [Array.length_toList] at this
   rw [← this]
   show 11 < 28
   omega
  have h11 : (a3.put (some 11) tooDeep).eval (.tmp 11) = tooDeep := by
   simp [Act.eval, Act.put, Array.getD, hlt]
  have hrun2 : (execOp (a3.put (some 11) tooDeep).eval o2).run prog w3 = .halt (.panic tooDeep) w3 := by
   simp only [execOp, p7, h11]
   rfl
  rw [Oper.semAt_eq _ _ _ (by rw [p7]; simp), hrun2, Oper.uponIn_panic]
  show LeavesInM (FW none) 0 prog f72 _ _ _ (.panicking deepC) w3
  have hd : (a3.put (some 11) tooDeep).defers = a3.defers := rfl
  rw [hd]
  refine leavesM_mono ?_ _ _ _ (marks_pan (P := prog) (fd := f72) (ch := deepC) (g := g) (w := w) hhr.prs (hs := H ++ [bx (nst m)]) a3.defers g3 w3 ((he1.trans he2).trans he3) hs3.c.hr hs3.d hs3.nd)
  rintro e w5 ⟨rfl, g5, e5, r5⟩
  exact ⟨rfl, pan_drop hhr.n hblw e5 r5⟩
 | succ n ih =>
  intro m hnm hb H hH
  obtain ⟨m, rfl⟩ : ∃ k, m = k + 1 := ⟨m - 1, by omega⟩
  refine ⟨⟨f72, func72, by kernel_rfl, by kernel_rfl⟩, ?_⟩
  intro g w vals hcr hgr hhr hvs
  have hblw : ∀ x ∈ H, x.blw H.length = true := by
   intro x hx
   obtain ⟨b, hb⟩ := gom hx
   have := BR_blw (hhr.br b x hb)
   rwa [hhr.n] at this
  have hsz : vals.length = 3 := by simpa using hvs.len.symm
  have hfr : VRs g w ([.agg ((cT (nst (m + 1))).map .p), i6 ((n + 1 : Nat) : Int), .fn fa caps] ++ List.replicate 25 ud) (vals.toArray ++ Array.replicate (f72.ntmps - vals.toArray.size) undef).toList := by
   simp only [Array.toList_append, Array.toList_replicate, List.size_toArray, hsz]
   exact hvs.append (VRs.replicate _ VR_ud)
  have hsr : SR prog (Go.Vs.Good prog) (gl14 E) w.heap.size ⟨[.agg ((cT (nst (m + 1))).map .p), i6 ((n + 1 : Nat) : Int), .fn fa caps] ++ List.replicate 25 ud, H⟩ g { tmps := vals.toArray ++ Array.replicate (f72.ntmps - vals.toArray.size) undef, defers := [] } w :=
   ⟨⟨hgr, hhr, hfr⟩, by simp, by simp, Nat.le_refl _, hcr⟩
  refine (callsIn_wide (n := 0)).1 (callsIn_of_wp_marks (F := FW none) func72 f72_eq trivial ?_ rfl)
  obtain ⟨u0, r0⟩ := dv0_run (E := E) (t := nst (m + 1)) (N := ((n + 1 : Nat) : Int)) (fa := fa) (caps := caps) (H := H)
  refine wpIn_seq (code_step dv0_c.1 dv0_c.2 r0 hsr (fun x1 a1 w1 g1 k1 he1 hs1 => ?_))
  rw [exitR_norm k1]
  show Code.wpIn _ _ _ _ _ _ _
  obtain ⟨u1, r1⟩ := dvX_run (E := E) (u := u0) (N := ((n + 1 : Nat) : Int)) (fa := fa) (caps := caps) (k := H.length) (H := H ++ [bx (nst (m + 1))]) (by omega)
  rw [← dvX_eq]
  refine wpIn_seq (code_step dvX_c.1 dvX_c.2 r1 hs1 (fun x2 a2 w2 g2 k2 he2 hs2 => ?_))
  rw [exitR_norm k2]
  show Code.wpIn _ _ _ _ _ _ _
  obtain ⟨ex, hc⟩ := hat (m + 1) (H ++ [bx (nst (m + 1))]) (hH.trans (List.prefix_append _ _))
  obtain ⟨u3, r3⟩ := dv3_run (E := E) (u := u1) (N := ((n + 1 : Nat) : Int)) (k := H.length) (ld_last (h := H) (t := nst (m + 1))) hc
  refine wpIn_seq (code_step dv3_c.1 dv3_c.2 r3 hs2 (fun x3 a3 w3 g3 k3 he3 hs3 => ?_))
  rw [exitR_norm k3]
  show Code.wpIn _ _ _ _ _ _ _
  generalize hH2 : (H ++ [bx (nst (m + 1))]) ++ ex = H2 at hs3
  have hb2 : H2[H.length]? = some (bx (nst (m + 1))) := by
   rw [← hH2, gal (by simp), gar (Nat.le_refl _), Nat.sub_self]
   rfl
  have q4 : ldA H2 false 1 (.ptr H.length 2) = some (.p (.lst 3 [eTree (nst m)])) := by
   simp only [ldA, loadA, hb2]
   rfl
  obtain ⟨u4, r4⟩ := dv4_run (E := E) (u := u3) (N := ((n + 1 : Nat) : Int)) (fa := fa) (caps := caps) q4
  refine wpIn_seq (code_step dv4_c.1 dv4_c.2 r4 hs3 (fun x4 a4 w4 g4 k4 he4 hs4 => ?_))
  rw [exitR_norm k4]
  show Code.wpIn _ _ _ _ _ _ _
  refine wpIn_block (wpIn_loop (fun a w => a = a4 ∧ w = w4) (fun _ _ => 0) ⟨rfl, rfl⟩ ?_)
  rintro _ _ ⟨rfl, rfl⟩
  obtain ⟨u5, r5⟩ := dv5_run (E := E) (u := u4) (N := ((n + 1 : Nat) : Int)) (fa := fa) (caps := caps) (m := m) (H := H2)
  refine wpIn_seq (code_step dv5_c.1 dv5_c.2 r5 hs4 (fun x5 a5 w5 g5 k5 he5 hs5 => ?_))
  rw [exitR_norm k5]
  show Code.wpIn _ _ _ _ _ _ _
  have ht : a5.eval (.tmp 19) = .bool true := by
   have := hs5.c.opd (.tmp 19)
   exact (VR_bool this).1 true rfl
  refine wpIn_seq (wpIn_cond_true ht (wpIn_skip ?_))
  show Code.wpIn _ _ _ _ _ _ _
  have q6 : stA ((H2 ++ [.row 25 3 0 []]) ++ [.cells 25 [i6 0, vi .u8 0, .sl H2.length 0 3 0 0]]) 3 (.ptr (H2.length + 1) 0) (.agg ((cT (nst m)).map .p)) = some (H2 ++ [.row 25 3 0 [], bx (nst m)]) := by
   have hl : (H2 ++ [AB.row 25 3 0 []]).length = H2.length + 1 := by simp
   have hb : ((H2 ++ [AB.row 25 3 0 []]) ++ [AB.cells 25 [i6 0, vi .u8 0, .sl H2.length 0 3 0 0]])[H2.length + 1]? = some (.cells 25 [i6 0, vi .u8 0, .sl H2.length 0 3 0 0]) := by
    rw [← hl, gar (Nat.le_refl _), Nat.sub_self]
    rfl
   refine (st_cells3 hb rfl rfl rfl).trans ?_
   rw [← hl, List.set_append_right _ _ (Nat.le_refl _), Nat.sub_self, List.append_assoc]
   rfl
  obtain ⟨u6, r6⟩ := dv6_run (E := E) (u := u5) (N := ((n + 1 : Nat) : Int)) (fa := fa) (caps := caps) (m := m) q6
  refine wpIn_seq (wpIn_block (wpIn_seq (code_step dv6_c.1 dv6_c.2 r6 hs5 (fun x6 a6 w6 g6 k6 he6 hs6 => ?_))))
  rw [exitR_norm k6]
  show Code.wpIn _ _ _ _ _ _ _
  have hb3 : (H2 ++ [AB.row 25 3 0 [], bx (nst m)])[H2.length + 1]? = some (bx (nst m)) := by
   rw [gar (by omega), show H2.length + 1 - H2.length = 1 by omega]
   rfl
  obtain ⟨u7, r7⟩ := dv7_run (E := E) (u := u6) (N := ((n + 1 : Nat) : Int)) (fa := fa) (caps := caps) (ld_cells3 (x := i6 (nst m).prod) (y := vi .u8 (nst m).byte) (z := .p (.lst 3 (eTrees (nst m).kids))) hb3)
  simp only [run, Option.map_eq_some_iff, Prod.mk.injEq, true_and, exists_eq_right] at r7
  obtain ⟨nn, hn7⟩ := runOps_cont dv7I _ _ r7
  obtain ⟨o4, c4, j0, j1, j2, j3, j4, j5, j6⟩ := dv7_4
  rw [dv7_eq]
  refine wpIn_region ?_
  rw [j1]
  have h1 : List.range 5 = List.range' 0 ((opsOf dv7B).toList.take 4).length ++ [4] := by
   have : ((opsOf dv7B).toList.take 4).length = 4 := by
    rw [List.length_take, Array.length_toList, j1]
    rfl
   rw [this]
   rfl
  rw [h1]
  refine ops_pre (sound_all (prgR_ok E) nn) ((opsOf dv7B).toList.take 4) dv7I 0 _ _ g6 a6 w6 [o4] (by rw [List.drop_zero]; exact j0) dv7_c hn7 hs6 (fun a7 w7 g7 he7 hs7 => ?_)
  simp only [wpOpsIn, j2]
  rw [if_pos (by simp [Region.wanted, j4])]
  have hw : IntKind.wrap .i64 (((n + 1 : Nat) : Int) - 1) = (n : Int) := by
   rw [w_id (by omega)]
   omega
  refine call_pan (E := envOf (prgR E) (evalN (prgR E) nn)) hs7 (fo := .func 72) (fn := 72) (caps := []) (x := tooDeep) j3 j5 rfl ?_ (fun w8 g8 he8 hr8 => ?_)
  ·rw [j6]
   have := ih m (by omega) (by omega) (H2 ++ [AB.row 25 3 0 [], bx (nst m)]) (hH.trans (by rw [← hH2, List.append_assoc, List.append_assoc]; exact List.prefix_append _ _))
   rw [← hw] at this
   exact this
  ·show LeavesInM (FW none) 0 prog f72 _ _ _ (.panicking deepC) w8
   have hE8 : Ext g w g8 w8 := ((((((he1.trans he2).trans he3).trans he4).trans he5).trans he6).trans he7).trans he8
   refine leavesM_mono ?_ _ _ _ (marks_pan (P := prog) (fd := f72) (ch := deepC) (g := g) (w := w) hhr.prs (hs := H2 ++ [AB.row 25 3 0 [], bx (nst m)]) a7.defers g8 w8 hE8 hr8 (fun d hd => (hs7.d d hd).ext he8 hs7.c.hr.prs) hs7.nd)
   rintro e w9 ⟨rfl, g9, e9, r9⟩
   refine ⟨rfl, pan_drop (ex := [bx (nst (m + 1))] ++ ex ++ [AB.row 25 3 0 [], bx (nst m)]) hhr.n hblw e9 ?_⟩
   rw [← hH2] at r9
   simpa only [List.append_assoc] using r9
end
set_option maxHeartbeats 4000000
theorem opI_step {P : Program} {gl : Nat → Option (List PV)} {a : Act} {f : List AV} {g : G} {h : List AB} {w : World} (c : Ctx P gl a f g h w) {o : Oper} {shf : Operand → Bool} {i : Ins} {v : AV} {h' : List AB} (hins : compOp P shf o = some i) (hst : evI gl f h i = some (v, h'))
  {K : Act → World → Prop} {Q : Exit → Act → World → Prop} (hK : ∀ x w' g', Ext g w g' w' → HR g' h' w' → VR g' w' v x → K (a.put o.dst x) w') : o.wpIn (FW none) 0 P a w K Q := by
 obtain ⟨x, w', g', hfin, h1, h2, h3⟩ := evI_sound c hins hst
 refine ⟨fun _ _ => trivial, ?_⟩
 rw [Oper.semAt_eq _ _ _ (fun c hc => by simp only [compOp, hc] at hins; cases hins)]
 cases hrun : (execOp a.eval o).run P w with
 | halt x w => rw [hrun] at hfin; simp [fin] at hfin
 | ok nx w2 =>
  rw [hrun] at hfin
  cases nx <;> simp only [fin, Option.some.injEq, Prod.mk.injEq] at hfin <;> try (cases hfin; done)
  ·obtain ⟨rfl, rfl⟩ := hfin
   exact hK _ _ _ h1 h2 h3
  ·obtain ⟨rfl, rfl⟩ := hfin
   exact hK _ _ _ h1 h2 h3
noncomputable def m5a : Code := match m5B with | .seq a _ => a | _ => .skip
noncomputable def m6a : Code := match m5B with | .seq _ (.cond _ (.seq a _) _) => a | _ => .skip
noncomputable def m7a : Code := match m5B with | .seq _ (.cond _ (.seq _ a) _) => a | _ => .skip
noncomputable def m8a : Code := match m5B with | .seq _ (.cond _ _ a) => a | _ => .skip
theorem m5_eq : m5B = .seq m5a (.cond (.tmp 8) (.seq m6a m7a) m8a) := by kernel_rfl
theorem m5a_eq : m5a = .region 5 (opsOf m5a) false := by kernel_rfl
theorem m6a_eq : m6a = .region 6 (opsOf m6a) false := by kernel_rfl
theorem m7a_eq : m7a = .region 7 (opsOf m7a) false := by kernel_rfl
theorem m5a_0 : ∃ o0 o1 o2, opsOf m5a = #[o0, o1, o2] ∧ o0.op = .typeAssert (.tmp 4) 20 106 true ∧ o0.dst = some 7 ∧ o0.guard = none ∧ o1.op = .extract (.tmp 7) 1 ∧ o1.dst = some 8 ∧ o1.guard = none ∧ o2.op = .extract (.tmp 7) 0 ∧ o2.dst = some 9 ∧ o2.guard = none := ⟨_, _, _, rfl, rfl, rfl, rfl, rfl, rfl, rfl, rfl, rfl, rfl⟩
theorem m6a_0 : ∃ o0 o1, opsOf m6a = #[o0, o1] ∧ compOp prog (shOf sh []) o0 = some (.alloc 106 []) ∧ o0.dst = some 2 ∧ o0.guard = none ∧ compOp prog (shOf sh []) o1 = some (.store 0 (.t 2) (.t 9)) ∧ o1.dst = none ∧ o1.guard = none := ⟨_, _, rfl, by kernel_rfl, rfl, rfl, by kernel_rfl, rfl, rfl⟩
theorem m7a_0 : ∃ o0, opsOf m7a = #[o0] ∧ compOp prog (shOf sh []) o0 = some (.store 1 (.t 0) (.c (.p (.val (.int .i64 3))))) ∧ o0.dst = none ∧ o0.guard = none := ⟨_, rfl, by kernel_rfl, rfl, rfl⟩
abbrev heldC : FrameMode := .panicking [{ v := tooDeep, recovered := true }]
theorem dfr71p {E : Er} {k : Nat} {H : List AB} {v4 : Value} {g : G} {w : World} (hcr : g.cr = Go.Vs.Good prog) (hgr : GR g w (gl14 E)) (hhr : HR g H w) (hv : VR g w (.ptr k 0) v4) (hk : H[k]? = some (.cells 26 [i6 0])) :
  CallsDIn (FW none) 0 prog 71 #[v4] (.panicking deepC) w fun e u' w' => (∃ x, e = .returned x) ∧ u' = heldC ∧ ∃ g', Ext g w g' w' ∧ HR g' (H.set k (.cells 26 [i6 3]) ++ [.cells 106 []]) w' := by
 refine callsDIn_of_wpSIn (F := FW none) func71 f71_eq trivial (fun c₀ cs hu => ?_)
 rw [f71_tmps.1]
 have hrec : recoverD (c₀ :: cs) = some (tooDeep, { c₀ with mode := heldC } :: cs) := by simp [recoverD, hu]
 obtain ⟨o0, e0, e1, e2, e3⟩ := m0_0
 refine wpSIn_seq ?_
 rw [m0_eq]
 refine wpSIn_region ?_
 have hs0 : SR prog (Go.Vs.Good prog) (gl14 E) w.heap.size ⟨[.ptr k 0] ++ List.replicate 9 ud, H⟩ g { tmps := #[v4] ++ Array.replicate (10 - (#[v4] : Array Value).size) undef, defers := [] } w := by
  refine ⟨⟨hgr, hhr, ?_⟩, by simp, by simp, Nat.le_refl _, hcr⟩
  simp only [Array.toList_append, Array.toList_replicate]
  exact VRs.append (xs := [.ptr k 0]) (vs := [v4]) ⟨hv, trivial⟩ (VRs.replicate _ VR_ud)
 have hr : (execOp (Act.eval { tmps := #[v4] ++ Array.replicate (10 - (#[v4] : Array Value).size) undef, defers := [] }) o0).run prog w = .ok .recover w := by
  simp [execOp, e1, resolve, invoke, builtin]
 have h0 : (opsOf m0B)[0]? = some o0 := by rw [e0]; rfl
 have hsz : (opsOf m0B).size = 1 := by rw [e0]; rfl
 rw [hsz]
 show wpOpsSIn (FW none) 0 prog (opsOf m0B) _ [0] _ _ _
 simp only [wpOpsSIn, h0]
 refine ⟨fun _ _ => trivial, ?_⟩
 rw [if_pos (by simp [Region.wanted, e3]), hr]
 simp only [hrec]
 rw [e2]
 show Code.wpSIn _ _ _ _ _ _ _ _
 have hs1 := SR.put (E := envOf (prgR E) (ev (prgR E))) hs0 (Ext.refl g w) hhr (v := .und) (x := tooDeep) trivial (some 4)
 obtain ⟨A, hA⟩ : ∃ A : Act, A = Act.put { tmps := #[v4] ++ Array.replicate (10 - (#[v4] : Array Value).size) undef, defers := [] } (some 4) tooDeep := ⟨_, rfl⟩
 have hA4 : A.eval (.tmp 4) = tooDeep := by rw [hA]; rfl
 have hAd : A.defers = [] := by rw [hA]; rfl
 have hAs : A.tmps.size = 10 := by rw [hA]; rfl
 rw [← hA] at hs1 ⊢
 refine wpSIn_of_wpIn rfl (wpIn_block (wpIn_seq ?_))
 obtain ⟨p0, q0, q1, q2, q3⟩ := m3_0
 rw [m3_eq]
 refine wpIn_region ?_
 have hp : (opsOf m3B)[0]? = some p0 := by rw [q0]; rfl
 have hpz : (opsOf m3B).size = 1 := by rw [q0]; rfl
 rw [hpz]
 show wpOpsIn (FW none) 0 prog (opsOf m3B) _ [0] _ _
 simp only [wpOpsIn, hp]
 rw [if_pos (by simp [Region.wanted, q3])]
 refine ⟨fun _ _ => trivial, ?_⟩
 have hrun : (execOp A.eval p0).run prog w = .ok (.value (.bool false)) w := by
  have hq : (Op.equal 20 tooDeep .nilIface).run prog w = .ok false w := by
   show (Op.equalIn (9999 + 1) 20 tooDeep .nilIface).run prog w = _
   rw [Op.equalIn]
   simp [run_underlying underlying20]
  have hg : (eqGuard .eql 20 (.tmp 4) (.const .nilIface) tooDeep .nilIface).run prog w = .ok () w := by unfold eqGuard; simp
  have hb : (binOp .eql 20 tooDeep .nilIface).run prog w = .ok (.bool false) w := by
   have e : binOp .eql 20 tooDeep .nilIface = (do pure (.bool (← Op.equal 20 tooDeep .nilIface))) := rfl
   rw [e]
   simp only [Sem.run_bind, hq, Result.andThen_ok, Sem.run_pure]
  have he : A.eval (.const .nilIface) = .nilIface := rfl
  simp only [execOp, q1, Sem.run_bind, he, hA4, hg, Result.andThen_ok, hb, Sem.run_pure]
 rw [Oper.semAt_eq _ _ _ (by rw [q1]; simp), hrun, Oper.uponIn_value, q2]
 show Code.wpIn _ _ _ _ _ _ _
 have hs2 := SR.put (E := envOf (prgR E) (ev (prgR E))) hs1 (Ext.refl g w) hhr (v := .und) (x := .bool false) trivial (some 6)
 obtain ⟨B, hB⟩ : ∃ B : Act, B = A.put (some 6) (.bool false) := ⟨_, rfl⟩
 have hB6 : B.eval (.tmp 6) = .bool false := by rw [hB]; simp [Act.eval, Act.put, Array.getD, hAs]
 have hB4 : B.eval (.tmp 4) = tooDeep := by
  rw [hB, ← hA4]
  simp [Act.eval, Act.put, Array.getD, hAs]
 have hBd : B.defers = [] := by rw [hB]; exact hAd
 have hBs : B.tmps.size = 10 := by rw [hB]; simp [Act.put, hAs]
 rw [← hB] at hs2 ⊢
 refine wpIn_cond_false hB6 ?_
 rw [m5_eq]
 refine wpIn_seq ?_
 obtain ⟨r0, r1, r2, a0, a1, a2, a3, a4, a5, a6, a7, a8, a9⟩ := m5a_0
 have hr0 : (opsOf m5a)[0]? = some r0 := by rw [a0]; rfl
 have hr1 : (opsOf m5a)[1]? = some r1 := by rw [a0]; rfl
 have hr2 : (opsOf m5a)[2]? = some r2 := by rw [a0]; rfl
 have hrz : (opsOf m5a).size = 3 := by rw [a0]; rfl
 rw [m5a_eq]
 refine wpIn_region ?_
 rw [hrz]
 show wpOpsIn (FW none) 0 prog (opsOf m5a) _ [0, 1, 2] _ _
 simp only [wpOpsIn, hr0, hr1, hr2]
 rw [if_pos (by simp [Region.wanted, a3])]
 refine ⟨fun _ _ => trivial, ?_⟩
 have hta : (execOp B.eval r0).run prog w = .ok (.value (.tuple #[.agg #[], .bool true])) w := by
  simp [execOp, a1, hB4, Instr.typeAssert, run_underlying underlying106]
 rw [Oper.semAt_eq _ _ _ (by rw [a1]; simp), hta, Oper.uponIn_value, a2]
 have hs3 := SR.put (E := envOf (prgR E) (ev (prgR E))) hs2 (Ext.refl g w) hhr (v := .und) (x := .tuple #[.agg #[], .bool true]) trivial (some 7)
 obtain ⟨C, hC⟩ : ∃ C : Act, C = B.put (some 7) (.tuple #[.agg #[], .bool true]) := ⟨_, rfl⟩
 have hC7 : C.eval (.tmp 7) = .tuple #[.agg #[], .bool true] := by rw [hC]; simp [Act.eval, Act.put, Array.getD, hBs]
 have hCd : C.defers = [] := by rw [hC]; exact hBd
 have hCs : C.tmps.size = 10 := by rw [hC]; simp [Act.put, hBs]
 rw [← hC] at hs3 ⊢
 rw [if_pos (by simp [Region.wanted, a6])]
 refine ⟨fun _ _ => trivial, ?_⟩
 have hx1 : (execOp C.eval r1).run prog w = .ok (.value (.bool true)) w := by
  simp [execOp, a4, hC7, Instr.extract]
 rw [Oper.semAt_eq _ _ _ (by rw [a4]; simp), hx1, Oper.uponIn_value, a5]
 have hs4 := SR.put (E := envOf (prgR E) (ev (prgR E))) hs3 (Ext.refl g w) hhr (v := .und) (x := .bool true) trivial (some 8)
 obtain ⟨D, hD⟩ : ∃ D : Act, D = C.put (some 8) (.bool true) := ⟨_, rfl⟩
 have hD8 : D.eval (.tmp 8) = .bool true := by rw [hD]; simp [Act.eval, Act.put, Array.getD, hCs]
 have hD7 : D.eval (.tmp 7) = .tuple #[.agg #[], .bool true] := by
  rw [hD, ← hC7]
  simp [Act.eval, Act.put, Array.getD, hCs]
 have hDd : D.defers = [] := by rw [hD]; exact hCd
 have hDs : D.tmps.size = 10 := by rw [hD]; simp [Act.put, hCs]
 rw [← hD] at hs4 ⊢
 rw [if_pos (by simp [Region.wanted, a9])]
 refine ⟨fun _ _ => trivial, ?_⟩
 have hx2 : (execOp D.eval r2).run prog w = .ok (.value (.agg #[])) w := by
  simp [execOp, a7, hD7, Instr.extract]
 rw [Oper.semAt_eq _ _ _ (by rw [a7]; simp), hx2, Oper.uponIn_value, a8]
 have hs5 := SR.put (E := envOf (prgR E) (ev (prgR E))) hs4 (Ext.refl g w) hhr (v := .agg []) (x := .agg #[]) (by simp [VR, VRs]) (some 9)
 obtain ⟨F, hF⟩ : ∃ F : Act, F = D.put (some 9) (.agg #[]) := ⟨_, rfl⟩
 have hF8 : F.eval (.tmp 8) = .bool true := by
  rw [hF, ← hD8]
  simp [Act.eval, Act.put, Array.getD, hDs]
 have hFd : F.defers = [] := by rw [hF]; exact hDd
 rw [← hF] at hs5 ⊢
 show Code.wpIn _ _ _ _ _ _ _
 refine wpIn_cond_true hF8 (wpIn_seq ?_)
 obtain ⟨s0, s1, b0, b1, b2, b3, b4, b5, b6⟩ := m6a_0
 have hq0 : (opsOf m6a)[0]? = some s0 := by rw [b0]; rfl
 have hq1 : (opsOf m6a)[1]? = some s1 := by rw [b0]; rfl
 have hqz : (opsOf m6a).size = 2 := by rw [b0]; rfl
 rw [m6a_eq]
 refine wpIn_region ?_
 rw [hqz]
 show wpOpsIn (FW none) 0 prog (opsOf m6a) _ [0, 1] _ _
 simp only [wpOpsIn, hq0, hq1]
 rw [if_pos (by simp [Region.wanted, b3])]
 refine opI_step (v := .ptr H.length 0) (h' := H ++ [AB.cells 106 []]) hs5.c b1 (by simp [evI, zeroN]) (fun x6 w6 g6 he6 hr6 hv6 => ?_)
 rw [b2]
 have hs6 := SR.put (E := envOf (prgR E) (ev (prgR E))) hs5 he6 hr6 hv6 (some 2)
 rw [if_pos (by simp [Region.wanted, b6])]
 have hlk : (H ++ [AB.cells 106 []])[H.length]? = some (.cells 106 []) := by
  rw [gar (Nat.le_refl _), Nat.sub_self]; rfl
 have hst0 : evI (gl14 E) (putA (putA (putA (putA (putA (putA ([.ptr k 0] ++ List.replicate 9 ud) (some 4) .und) (some 6) .und) (some 7) .und) (some 8) .und) (some 9) (.agg [])) (some 2) (.ptr H.length 0)) (H ++ [AB.cells 106 []]) (.store 0 (.t 2) (.t 9)) = some (ud, H ++ [AB.cells 106 []]) := by
  show (storeA (H ++ [AB.cells 106 []]) [] (.ptr H.length 0)).map (ud, ·) = _
  simp only [storeA, hlk, List.length_nil, Nat.le_refl, if_true, Option.map_some, splice, List.take_nil, List.drop_nil, List.append_nil]
  congr 2
  apply List.ext_getElem?
  intro i
  rw [List.getElem?_set]
  split
  ·rename_i hi
   subst hi
   rw [if_pos (by simp), hlk]
  ·rfl
 refine opI_step hs6.c b4 hst0 (fun x7 w7 g7 he7 hr7 hv7 => ?_)
 rw [b5]
 have hs7 := SR.put (E := envOf (prgR E) (ev (prgR E))) hs6 he7 hr7 hv7 none
 show Code.wpIn _ _ _ _ _ _ _
 obtain ⟨t0, d0, d1, d2, d3⟩ := m7a_0
 have ht0 : (opsOf m7a)[0]? = some t0 := by rw [d0]; rfl
 have htz : (opsOf m7a).size = 1 := by rw [d0]; rfl
 rw [m7a_eq]
 refine wpIn_region ?_
 rw [htz]
 show wpOpsIn (FW none) 0 prog (opsOf m7a) _ [0] _ _
 simp only [wpOpsIn, ht0]
 rw [if_pos (by simp [Region.wanted, d3])]
 have hkl : k < H.length := (gei.1 hk).1
 have hk7 : (H ++ [AB.cells 106 []])[k]? = some (.cells 26 [i6 0]) := by rw [gal hkl]; exact hk
 have hst1 : evI (gl14 E) (putA (putA (putA (putA (putA (putA (putA ([.ptr k 0] ++ List.replicate 9 ud) (some 4) .und) (some 6) .und) (some 7) .und) (some 8) .und) (some 9) (.agg [])) (some 2) (.ptr H.length 0)) none ud) (H ++ [AB.cells 106 []]) (.store 1 (.t 0) (.c (.p (.val (.int .i64 3))))) = some (ud, H.set k (.cells 26 [i6 3]) ++ [AB.cells 106 []]) := by
  show (storeA (H ++ [AB.cells 106 []]) [i6 3] (.ptr k 0)).map (ud, ·) = _
  simp only [storeA, hk7]
  rw [if_pos (by simp), Option.map_some]
  rw [List.set_append_left _ _ hkl]
  rfl
 refine opI_step hs7.c d1 hst1 (fun x8 w8 g8 he8 hr8 hv8 => ?_)
 rw [d2]
 refine ⟨?_, heldC, rfl, .tuple #[], ?_, ⟨_, rfl⟩, rfl, g8, (he6.trans he7).trans he8, hr8⟩
 ·show F.defers = []
  exact hFd
 ·simp [results, f71_tmps.2]
end Go.Proofs.Tryd
namespace Go.Vs
set_option linter.unusedSimpArgs false
set_option linter.unusedVariables false
open Go Go.RowKit
theorem marks_prep {ch : List PanicEntry} {P : Program} {gl : Nat → Option (List PV)} {fd : Func} {tmps : Array Value} {R : Ending → World → Prop} {g : G} {w : World} {en : Nat} (hen : ∀ c, g.Pr c → c < en) {s : St} {rest bs : List Deferred} {kk mm : Nat}
  (hfin : ∀ (g2 : G) (w2 : World) (a : Act), a.tmps = tmps → g2.m kk = mm → Ext g w g2 w2 → Ctx P gl a s.f g2 s.h w2 → (∀ d ∈ bs, MarkR en g2 w2 d) → LeavesInM (FW none) 0 P fd tmps R rest (.panicking ch) w2) :
  ∀ (ds : List Deferred) (g' : G) (w' : World) (a : Act), a.tmps = tmps → g'.m kk = mm → Ext g w g' w' → Ctx P gl a s.f g' s.h w' → (∀ d ∈ ds ++ bs, MarkR en g' w' d) → (ds ++ bs).Nodup →
   LeavesInM (FW none) 0 P fd tmps R (ds ++ rest) (.panicking ch) w'
 | [], g', w', a, ha, hk, he, hx, hm, _ => hfin g' w' a ha hk he hx hm
 | d :: ds, g', w', a, ha, hk, he, hx, hm, hn => by
  obtain ⟨D, rfl, m1, m2, m3, m4⟩ := hm d (by simp)
  refine ⟨by simp, .inl ⟨D, w'.putObj D (.deferred none), rfl, run_takeDeferred m4, ?_⟩⟩
  have hh := hx.hr
  have hold : ∀ c, c ≠ D → (w'.putObj D (.deferred none)).heap[c]? = w'.heap[c]? := fun c hc => World.putObj_heap_other hc
  have hr1 : HR { g' with Pr := fun c => g'.Pr c ∧ c ≠ D } s.h w' :=
   ⟨hh.n, fun b x hb => BR_pr (hh.br b x hb), hh.dis, fun b x c h1 h2 h3 => hh.own b x c h1 h2 h3.1, fun c hS => ⟨hh.spr c hS, fun e => m3 (e ▸ hS)⟩, fun c h => hh.prs c h.1, hh.ho⟩
  have e1 : Ext { g' with Pr := fun c => g'.Pr c ∧ c ≠ D } w' { g' with Pr := fun c => g'.Pr c ∧ c ≠ D } (w'.putObj D (.deferred none)) :=
   ⟨fun _ h => h, fun _ h => h, fun c hc => hold c hc.2, Nat.le_refl _, fun _ h => h, fun _ _ => rfl, fun _ _ => Nat.le_refl _, fun _ _ _ _ => rfl, by simp, rfl, rfl, rfl, fun _ h => .inl h, rfl, fun _ => Nat.le_refl _⟩
  have hr2 : HR { g' with Pr := fun c => g'.Pr c ∧ c ≠ D } s.h (w'.putObj D (.deferred none)) :=
   ⟨hr1.n, fun b x hb => BR_mono hr1 e1 hb rfl (fun c hc => hold c (fun e => hh.own b x c hb (by cases x <;> exact hc) (e ▸ m2))), hr1.dis, hr1.own, hr1.spr, fun c hc => by have := hr1.prs c hc; simpa using this, hr1.ho⟩
  have hf1 : VRs { g' with Pr := fun c => g'.Pr c ∧ c ≠ D } w' s.f a.tmps.toList := VRs_pr _ _ hx.fr
  refine marks_prep hen hfin ds { g' with Pr := fun c => g'.Pr c ∧ c ≠ D } _ a ha hk ?_ ⟨GR_mono e1 hr1.spr hx.gr, hr2, VRs_mono e1 hr1.spr _ _ hf1⟩ ?_ (List.nodup_cons.1 hn).2
  ·exact ⟨he.S, fun c hc => ⟨he.Pr c hc, fun e => by have := hen c hc; omega⟩, fun c hc => (hold c (fun e => by have := hen c hc; omega)).trans (he.pr c hc), he.N, he.D, he.m, he.gen, he.hd, by simpa using he.size, he.os, he.tape, he.output, he.Sn, he.cr, he.drawn⟩
  ·intro d' hd'
   obtain ⟨D', rfl, n1, n2, n3, n4⟩ := hm d' (by simp only [List.cons_append]; exact List.mem_cons_of_mem _ hd')
   have hne : D' ≠ D := fun e => by subst e; exact (List.nodup_cons.1 hn).1 hd'
   exact ⟨D', rfl, n1, ⟨n2, hne⟩, n3, (hold D' hne).trans n4⟩
end Go.Vs
namespace Go.Proofs.Tryd
set_option linter.unusedSimpArgs false
set_option linter.unusedVariables false
set_option maxHeartbeats 4000000
open Go Go.Vs Go.RowKit
theorem k2_c2 : compOps prog (shOf sh []) (opsOf k2B) ((opsOf k2B).toList.take 2) = some (k2I.take 2) := by kernel_rfl
theorem k2_2 : ∃ o2 c, (opsOf k2B).toList = (opsOf k2B).toList.take 2 ++ [o2] ∧ (opsOf k2B).size = 3 ∧ (opsOf k2B)[2]? = some o2 ∧ o2.op = .call c ∧ o2.guard = none ∧ c.callee = .value (.func 72) ∧ c.args.toList = [.tmp 6, .const (.int .i64 16384), .tmp 7] := ⟨_, _, by kernel_rfl, by kernel_rfl, rfl, rfl, rfl, rfl, rfl⟩
section
variable {E : Er} {tn tb : Int} {tk : List (List PV)} {f : AV} {h : List AB}
theorem k2_run2 {u : Nat → AV} {x : AV} {k : Nat} {H : List AB} (q1 : ldA H true 3 (.ptr k 0) = some (aT3 tn tb tk)) : ∃ g, run (envOf (prgR E) (ev (prgR E))) (ev (prgR E)) (.ops (k2I.take 2)) ⟨fr 9 u [(1, f), (2, .ptr k 0), (4, x)], H⟩ = some (.norm, ⟨fr 9 g [(4, x), (6, aT3 tn tb tk), (7, f)], H⟩) := by
 exact exP (n := 30) [(6, .v (aT3 tn tb tk))] (apc q1 apn) (by kernel_rfl)
theorem asked_pan (hc : PanR prog (Go.Vs.Good prog) (gl14 E) 72 [aT3 tn tb tk, i6 16384, f] ((h ++ [bT3 tn tb tk]) ++ [.cells 26 [i6 0]]) tooDeep) : CallR prog (Go.Vs.Good prog) (gl14 E) 53 [aT3 tn tb tk, f] h (i6 3) h := by
 refine ⟨⟨f53, func53, by kernel_rfl, by kernel_rfl⟩, ?_⟩
 intro g w vals hcr hgr hhr hvs
 match vals, hvs with
 | [], hvs => simp [VRs] at hvs
 | [_], hvs => simp [VRs] at hvs
 | _ :: _ :: _ :: _, hvs => simp [VRs] at hvs
 | [tv, fv], hvs =>
 have hblw : ∀ x ∈ h, x.blw h.length = true := by
  intro x hx
  obtain ⟨b, hb⟩ := gom hx
  have := BR_blw (hhr.br b x hb)
  rwa [hhr.n] at this
 have hfr : VRs g w ([aT3 tn tb tk, f] ++ List.replicate 7 ud) (#[tv, fv] ++ Array.replicate (9 - 2) undef).toList := by
  simp only [Array.toList_append, Array.toList_replicate]
  exact hvs.append (VRs.replicate _ VR_ud)
 have hsr : SR prog (Go.Vs.Good prog) (gl14 E) w.heap.size ⟨[aT3 tn tb tk, f] ++ List.replicate 7 ud, h⟩ g { tmps := #[tv, fv] ++ Array.replicate (9 - 2) undef, defers := [] } w :=
  ⟨⟨hgr, hhr, hfr⟩, by simp, by simp, Nat.le_refl _, hcr⟩
 refine (callsIn_wide (n := 0)).1 (callsIn_of_wp_marks (F := FW none) func53 f53_eq trivial ?_ rfl)
 obtain ⟨u0, q0⟩ := k0_run (E := E) (tn := tn) (tb := tb) (tk := tk) (f := f) (h := h)
 refine wpIn_seq (code_step k0_c k0_n q0 hsr (fun e1 a1 w1 g1 x1 he1 hs1 => ?_))
 rw [exitR_norm x1]
 show Code.wpIn _ _ _ _ _ _ _
 obtain ⟨o0, o1, p0, p1, p2, p3, p4, p5, p6⟩ := k1_0
 refine wpIn_seq ?_
 rw [k1_eq]
 refine wpIn_region ?_
 have ho0 : (opsOf k1B)[0]? = some o0 := by rw [p0]; rfl
 have ho1 : (opsOf k1B)[1]? = some o1 := by rw [p0]; rfl
 have hosz : (opsOf k1B).size = 2 := by rw [p0]; rfl
 rw [hosz]
 show wpOpsIn (FW none) 0 prog (opsOf k1B) _ [0, 1] _ _
 obtain ⟨fv71, hfv⟩ : ∃ fv71 : Value, fv71 = .func (.func 71) #[] #[a1.eval (.tmp 4)] := ⟨_, rfl⟩
 obtain ⟨D, hD⟩ : ∃ D : Deferred, D = { target := .fn (.func 71) #[a1.eval (.tmp 4)], args := #[] } := ⟨_, rfl⟩
 simp only [wpOpsIn, ho0, ho1]
 rw [if_pos (by simp [Region.wanted, p3])]
 refine ⟨fun _ _ => trivial, ?_⟩
 have hrun0 : (execOp a1.eval o0).run prog w1 = .ok (.value fv71) w1 := by
  rw [hfv]
  simp [execOp, p1, Instr.makeFunc]
 rw [Oper.semAt_eq _ _ _ (by rw [p1]; simp), hrun0, Oper.uponIn_value, p2]
 rw [if_pos (by simp [Region.wanted, p6])]
 refine ⟨fun _ _ => trivial, ?_⟩
 obtain ⟨a2, ha2⟩ : ∃ a2 : Act, a2 = a1.put (some 5) fv71 := ⟨_, rfl⟩
 rw [← ha2]
 have hlt5 : 5 < a1.tmps.size := by
  have := hs1.c.fr.len
  simp only [Array.length_toList] at this
  rw [← this]
  show 5 < 9
  omega
 have ha25 : a2.eval (.tmp 5) = fv71 := by
  rw [ha2]
  simp [Act.eval, Act.put, Array.getD, hlt5]
 have hrun1 : (execOp a2.eval o1).run prog w1 = .ok (.defer D) w1 := by
  rw [hD]
  simp [execOp, p4, resolve, ha25, hfv, Deferred.ofValue]
 rw [show (FW none).round = none from rfl, Oper.semAt_none, hrun1, Oper.uponIn_defer, p5]
 have hs2 : SR prog (Go.Vs.Good prog) (gl14 E) w.heap.size ⟨putA (fr 9 u0 [(1, f), (2, .ptr h.length 0), (4, .ptr (h ++ [bT3 tn tb tk]).length 0)]) (some 5) (.fn 71 [.ptr (h ++ [bT3 tn tb tk]).length 0]), (h ++ [bT3 tn tb tk]) ++ [.cells 26 [i6 0]]⟩ g1 a2 w1 := by
  rw [ha2]
  refine SR.put (E := envOf (prgR E) (ev (prgR E))) hs1 (Ext.refl g1 w1) hs1.c.hr ?_ (some 5)
  simp only [VR]
  refine ⟨#[a1.eval (.tmp 4)], hfv, ?_⟩
  have := hs1.c.opd (.tmp 4)
  simp only [VRs]
  exact ⟨this, trivial⟩
 have hins : (Act.put { a2 with defers := D :: a2.defers } none undef) = a2.ins a2.defers.length D := by
  simp [Act.ins, insD, Act.put]
 rw [hins]
 show Code.wpIn _ _ _ _ _ _ _
 have hs2' : SR prog (Go.Vs.Good prog) (gl14 E) w.heap.size ⟨fr 9 (ovr u0 [(5, .fn 71 [.ptr (h ++ [bT3 tn tb tk]).length 0])]) [(1, f), (2, .ptr h.length 0), (4, .ptr (h ++ [bT3 tn tb tk]).length 0)], (h ++ [bT3 tn tb tk]) ++ [.cells 26 [i6 0]]⟩ g1 a2 w1 := hs2
 generalize hH : (h ++ [bT3 tn tb tk]) ++ [AB.cells 26 [i6 0]] = H at hs2' hc
 have hb1 : H[h.length]? = some (bT3 tn tb tk) := by
  rw [← hH, List.append_assoc, gar (Nat.le_refl _), Nat.sub_self]; rfl
 have hb2 : H[(h ++ [bT3 tn tb tk]).length]? = some (.cells 26 [i6 0]) := by
  rw [← hH, gar (Nat.le_refl _), Nat.sub_self]; rfl
 obtain ⟨u2, q2⟩ := k2_run2 (E := E) (tn := tn) (tb := tb) (tk := tk) (f := f) (u := ovr u0 [(5, .fn 71 [.ptr (h ++ [bT3 tn tb tk]).length 0])]) (x := .ptr (h ++ [bT3 tn tb tk]).length 0) (ld_cells3 (x := i6 tn) (y := vi .u8 tb) (z := .p (.lst 3 tk)) hb1)
 simp only [run, Option.map_eq_some_iff, Prod.mk.injEq, true_and, exists_eq_right] at q2
 obtain ⟨nn, hn2⟩ := runOps_cont _ _ _ q2
 obtain ⟨o2, c2, j0, j1, j2, j3, j4, j5, j6⟩ := k2_2
 refine wpIn_seq ?_
 rw [k2_eq]
 refine wpIn_region ?_
 rw [j1]
 have hr3 : List.range 3 = List.range' 0 ((opsOf k2B).toList.take 2).length ++ [2] := by
  have : ((opsOf k2B).toList.take 2).length = 2 := by
   rw [List.length_take, Array.length_toList, j1]
   rfl
  rw [this]
  rfl
 rw [hr3]
 have hv4 : VR g1 w1 (.ptr (h ++ [bT3 tn tb tk]).length 0) (a1.eval (.tmp 4)) := hs1.c.opd (.tmp 4)
 have hD1 : g1.D (h ++ [bT3 tn tb tk]).length := by simp only [VR] at hv4; exact hv4.1
 have hP : wpOpsIn (FW none) 0 prog (opsOf k2B) (fun e a' w' => e = .panic deepC ∧ ∃ g', g'.m (h ++ [bT3 tn tb tk]).length = g1.m (h ++ [bT3 tn tb tk]).length ∧ Ext g w g' w' ∧ Ctx prog (gl14 E) a' (fr 9 u2 [(4, .ptr (h ++ [bT3 tn tb tk]).length 0), (6, aT3 tn tb tk), (7, f)]) g' H w' ∧ (∀ d ∈ a'.defers, MarkR w.heap.size g' w' d) ∧ a'.defers.Nodup) (List.range' 0 ((opsOf k2B).toList.take 2).length ++ [2]) a2 w1 := by
  refine ops_pre (sound_all (prgR_ok E) nn) ((opsOf k2B).toList.take 2) (k2I.take 2) 0 _ _ g1 a2 w1 [o2] (by rw [List.drop_zero]; exact j0) k2_c2 hn2 hs2' (fun a3 w3 g3 he3 hs3 => ?_)
  simp only [wpOpsIn, j2]
  rw [if_pos (by simp [Region.wanted, j4])]
  refine call_pan (E := envOf (prgR E) (evalN (prgR E) nn)) hs3 (fo := .func 72) (fn := 72) (caps := []) (x := tooDeep) j3 j5 rfl ?_ (fun w8 g8 he8 hr8 => ?_)
  ·rw [j6]
   exact hc
  ·exact ⟨rfl, g8, (he3.trans he8).m _ hD1, (he1.trans he3).trans he8, ⟨GR_mono he8 hs3.c.hr.spr hs3.c.gr, hr8, VRs_mono he8 hs3.c.hr.spr _ _ hs3.c.fr⟩, fun d hd => (hs3.d d hd).ext he8 hs3.c.hr.prs, hs3.nd⟩
 refine wpOps_ins (fun e a4 w4 hk4 hq => ?_) (fun hl => ?_) _ a2 w1 (Nat.le_refl _) hP
 ·obtain ⟨rfl, g4, hm4, he4, hx4, hd4, hn4⟩ := hq
  show LeavesInM (FW none) 0 prog f53 a4.tmps _ (insD a2.defers.length D a4.defers) (.panicking deepC) w4
  have hall : a4.defers.take (a4.defers.length - a2.defers.length) ++ a4.defers.drop (a4.defers.length - a2.defers.length) = a4.defers := List.take_append_drop ..
  refine marks_prep (s := ⟨fr 9 u2 [(4, .ptr (h ++ [bT3 tn tb tk]).length 0), (6, aT3 tn tb tk), (7, f)], H⟩) (bs := a4.defers.drop (a4.defers.length - a2.defers.length)) (fd := f53) (g := g) (w := w) (en := w.heap.size) hhr.prs ?_ (a4.defers.take (a4.defers.length - a2.defers.length)) g4 w4 a4 rfl hm4 he4 hx4 (by rw [hall]; exact hd4) (by rw [hall]; exact hn4)
  intro g5 w5 a5 ha5 hk5 he5 hx5 hm5
  have hv5 : VR g5 w5 (.ptr (h ++ [bT3 tn tb tk]).length 0) (a1.eval (.tmp 4)) := by
   have h5 : VR g5 w5 (.ptr (h ++ [bT3 tn tb tk]).length 0) (a5.eval (.tmp 4)) := hx5.opd (.tmp 4)
   simp only [VR] at h5 hv4 ⊢
   exact ⟨h5.1, by rw [hk5]; exact hv4.2⟩
  have hcr5 : g5.cr = Go.Vs.Good prog := he5.cr.trans hcr
  refine ⟨by simp, .inr ⟨fun h => absurd h (by simp [FW, Fence.wide]), .func 71, #[a1.eval (.tmp 4)], 71, #[a1.eval (.tmp 4)], by rw [hD], ?_, fun _ _ => trivial, ?_⟩⟩
  ·rw [hD]
   have hname : (f71.name == "runtime.NumGoroutine") = false := by kernel_rfl
   have hbody : f71.body.isNone = false := by kernel_rfl
   have hname' : ¬ (f71.name = "runtime.NumGoroutine") := by intro e; rw [e] at hname; simp at hname
   have hbody' : ¬ (f71.body = none) := by intro e; rw [e] at hbody; simp at hbody
   simp [invoke, callFunc, run_program, func71, hname', hbody']
  ·refine (dfr71p (E := E) hcr5 hx5.gr hx5.hr hv5 hb2).mono ?_
   rintro e u' w6 ⟨⟨x, rfl⟩, rfl, g6, he6, hr6⟩
   show LeavesInM (FW none) 0 prog f53 a4.tmps _ (a4.defers.drop (a4.defers.length - a2.defers.length)) .returning w6
   have hb6 : (H.set (h ++ [bT3 tn tb tk]).length (.cells 26 [i6 3]) ++ [AB.cells 106 []])[(h ++ [bT3 tn tb tk]).length]? = some (.cells 26 [i6 3]) := by
    have hl := (gei.1 hb2).1
    rw [gal (by rw [List.length_set]; exact hl), List.getElem?_set_self hl]
   have hres : resOf ⟨fr 9 u2 [(4, .ptr (h ++ [bT3 tn tb tk]).length 0), (6, aT3 tn tb tk), (7, f)], H.set (h ++ [bT3 tn tb tk]).length (.cells 26 [i6 3]) ++ [AB.cells 106 []]⟩ [.cell 4 false 1] = some [i6 3] := by
    have e4 : getT (fr 9 u2 [(4, .ptr (h ++ [bT3 tn tb tk]).length 0), (6, aT3 tn tb tk), (7, f)]) 4 = .ptr (h ++ [bT3 tn tb tk]).length 0 := rfl
    simp only [resOf, e4, loadA, hb6]
    rfl
   have hxx : Ctx prog (gl14 E) a5 (fr 9 u2 [(4, .ptr (h ++ [bT3 tn tb tk]).length 0), (6, aT3 tn tb tk), (7, f)]) g6 (H.set (h ++ [bT3 tn tb tk]).length (.cells 26 [i6 3]) ++ [AB.cells 106 []]) w6 :=
    ⟨GR_mono he6 hx5.hr.spr hx5.gr, hr6, VRs_mono he6 hx5.hr.spr _ _ hx5.fr⟩
   have := marks_leave (en := w.heap.size) hhr.prs (s := ⟨fr 9 u2 [(4, .ptr (h ++ [bT3 tn tb tk]).length 0), (6, aT3 tn tb tk), (7, f)], H.set (h ++ [bT3 tn tb tk]).length (.cells 26 [i6 3]) ++ [AB.cells 106 []]⟩) f53_res hres (a4.defers.drop (a4.defers.length - a2.defers.length)) g6 w6 a5 ha5 (he5.trans he6) hxx (fun d hd => (hm5 d hd).ext he6 hx5.hr.prs) ((List.nodup_append.1 (by rw [hall]; exact hn4)).2.1)
   refine leavesM_mono ?_ _ _ _ this
   rintro e w7 ⟨x, g7, rfl, e7, r7, v7⟩
   have hHs : H.set (h ++ [bT3 tn tb tk]).length (.cells 26 [i6 3]) ++ [AB.cells 106 []] = h ++ [bT3 tn tb tk, .cells 26 [i6 3], .cells 106 []] := by
    rw [← hH, List.set_append_right _ _ (Nat.le_refl _), Nat.sub_self]
    simp only [List.set_cons_zero, List.append_assoc]
    rfl
   have r7 : HR g7 (h ++ [bT3 tn tb tk, .cells 26 [i6 3], .cells 106 []]) w7 := by rw [← hHs]; exact r7
   refine ⟨x, g7.cut h.length, rfl, ?_, HR.drop r7 hblw, VR_trim _ _ rfl v7⟩
   have hgN : g.N = h.length := hhr.n
   exact ⟨e7.S, e7.Pr, e7.pr, by show g.N ≤ h.length; omega, fun b hb => ⟨by show b < h.length; have := hb.1; omega, fun q => (e7.D b hb).2 q.1⟩, e7.m, e7.gen, e7.hd, e7.size, e7.os, e7.tape, e7.output, e7.Sn, e7.cr, e7.drawn⟩
 ·obtain ⟨_, _, e, _⟩ := hl
  cases e
end
set_option maxHeartbeats 4000000
open Go Go.Vs
theorem callR_drop {P : Program} {C : IC → Code → Prop} {gl : Nat → Option (List PV)} {fn : Nat} {args : List AV} {h ex : List AB} {v : AV} (hv : ∀ n, v.blw n = true) (hc : CallR P C gl fn args h v (h ++ ex)) : CallR P C gl fn args h v h := by
 refine ⟨hc.1, fun g w vals hcr hgr hhr hvs => ?_⟩
 have hblw : ∀ x ∈ h, x.blw h.length = true := by
  intro x hx
  obtain ⟨b, hb⟩ := gom hx
  have := BR_blw (hhr.br b x hb)
  rwa [hhr.n] at this
 refine (hc.2 g w vals hcr hgr hhr hvs).mono ?_
 rintro e w7 ⟨x, g7, rfl, e7, r7, v7⟩
 refine ⟨x, g7.cut h.length, rfl, ?_, HR.drop r7 hblw, VR_trim _ _ (hv _) v7⟩
 have hgN : g.N = h.length := hhr.n
 exact ⟨e7.S, e7.Pr, e7.pr, by show g.N ≤ h.length; omega, fun b hb => ⟨by show b < h.length; have := hb.1; omega, fun q => (e7.D b hb).2 q.1⟩, e7.m, e7.gen, e7.hd, e7.size, e7.os, e7.tape, e7.output, e7.Sn, e7.cr, e7.drawn⟩
theorem nst_p : ∀ n, (nst n).prod = 0 ∧ (nst n).byte = 0
 | 0 => ⟨rfl, rfl⟩
 | n + 1 => ⟨rfl, rfl⟩
theorem nst_dep : ∀ n, dep (nst n) = n + 1
 | 0 => rfl
 | n + 1 => by simp only [nst, dep, deps, nst_dep n]; omega
theorem nst_tc : ∀ n, tc (nst n) = n + 1
 | 0 => rfl
 | n + 1 => by simp only [nst, tc, tcs, nst_tc n]; omega
section
variable {E : Er}
theorem at58 (m : Nat) (H : List AB) : ∃ ex, CS (prgR E) 58 [.agg ((cT (nst m)).map .p)] H = some (.tup [], H ++ ex) :=
 ⟨[bx (nst m)], CS_D (ps := []) (n := 30) (H := []) (by kernel_rfl) trivial⟩
theorem ld_at {H : List AB} {t : TreeD} {i : Nat} {x : AV} (hx : (((cT t).map AV.p).drop i).take 1 = [x]) : ldA (H ++ [bx t]) false 1 (.ptr H.length i) = some x := by
 have hb : (H ++ [bx t])[H.length]? = some (bx t) := by
  rw [gar (Nat.le_refl _), Nat.sub_self]; rfl
 match i, hx with
 | 0, hx => cases hx; simp only [ldA, loadA, hb]; rfl
 | 1, hx => cases hx; simp only [ldA, loadA, hb]; rfl
 | 2, hx => cases hx; simp only [ldA, loadA, hb]; rfl
 | i + 3, hx => simp [cT] at hx
set_option maxRecDepth 100000 in
theorem at54 (k m : Nat) (H : List AB) : ∃ ex, CS (prgR E) 54 [.agg ((cT (nst m)).map .p), .ptr k 0] H = some (.tup [], H ++ ex) := by
 have q0 : ldA (H ++ [bx (nst m)]) false 1 (.ptr H.length 0) = some (i6 0) := ld_at (by rw [← (nst_p m).1]; rfl)
 have q1 : ldA (H ++ [bx (nst m)]) false 1 (.ptr H.length 1) = some (vi .u8 0) := ld_at (by rw [← (nst_p m).2]; rfl)
 exact ⟨[bx (nst m)], CS_D (n := 30) (H := [(4, .v (i6 0)), (8, .v (i6 0)), (13, .v (i6 0)), (24, .v (i6 0)), (28, .v (vi .u8 0))]) (by kernel_rfl) (apc q0 (apc q0 (apc q0 (apc q0 (apc q1 apn)))))⟩
theorem ask_deep {fa : Nat} {caps : List AV} {h : List AB} {n : Nat} (hn : 16384 ≤ n) (hat : ∀ (m : Nat) (H : List AB), ∃ ex, CS (prgR E) fa (.agg ((cT (nst m)).map .p) :: caps) H = some (.tup [], H ++ ex)) :
  CS (prgP E) 53 [.agg ((cT (nst n)).map .p), .fn fa caps] h = some (i6 3, h) := by
 have hd := dive_pan (E := E) (h := []) (fun m H _ => hat m H) 16384 n hn (by omega) ((h ++ [bx (nst n)]) ++ [.cells 26 [i6 0]]) (List.nil_prefix)
 have hp := asked_pan (E := E) (tn := (nst n).prod) (tb := (nst n).byte) (tk := eTrees (nst n).kids) (f := .fn fa caps) (h := h) hd
 show askP E _ _ = _
 unfold askP
 rw [tooD_T, nst_dep, decide_eq_true (by omega)]
 show deepA E 53 _ _ = _
 unfold deepA
 exact if_pos hp
set_option maxRecDepth 100000 in
theorem check_deep {n : Nat} (hn : 16384 ≤ n) : CallR prog (Go.Vs.Good prog) (gl14 E) 23 [.agg ((cT (nst n)).map .p)] [] (i6 3) [] := by
 have hc : CB (prgP E) ir23 [.agg ((cT (nst n)).map .p)] [] = some (i6 3, [] ++ [bx (nst n), .cells 4 [vb false]]) :=
  CB_D (n := 30) (H := [(7, .r (i6 3) [bx (nst n), .cells 4 [vb false]])]) (by kernel_rfl) (apc (ask_deep (E := E) (h := [bx (nst n), .cells 4 [vb false]]) hn (at54 1)) apn)
 exact callR_drop (fun _ => rfl) (CB_sound (prgP_ok E) (fns_ok 23 _ rfl) hc)
set_option maxRecDepth 100000 in
theorem put_TP {u : Nat → AV} {b : Nat} {ys : List AV} {H8 H9 : List AB} (h1 : ldA H8 true 3 (.ptr b 0) = some (.agg ys)) (h2 : CP (prgP E) 53 [.agg ys, .fn 58 []] H8 = some (i6 3)) (h3 : stA H8 3 (.ptr 2 0) (.agg ((cT (.mk 0 0 [])).map .p)) = some H9) :
  ∃ u', run (envOf (prgP E) (ev (prgP E))) (ev (prgP E)) p33T ⟨fr 64 u (lT b), H8⟩ = some (.ret, ⟨fr 64 u' [(6, .ptr 2 0), (7, i6 3)], H9⟩) := by
 exact exP (n := 5) [(59, .v (.agg ys)), (60, .v (i6 3)), (1006, .r ud H9)] (apc h1 (apc h2 (apc (⟨h3, rfl⟩ : stA H8 3 (.ptr 2 0) (.agg ((cT (.mk 0 0 [])).map .p)) = some H9 ∧ ud = ud) apn))) (by kernel_rfl)
theorem put_pan {t x w : TreeD} {p : List Int} {f : Int} (ht : tc t ≤ 20000) (hx : tc x ≤ 20000) (hp : p.length < 100000) (hq : CS (prgP E) 53 [.agg ((cT (putT t x p)).map .p), .fn 58 []] [] = some (i6 3, [])) (hd : dep (putT t x p) ≤ 20000)
  (h1 : F23 t = some 0) (h2 : F23 x = some 0) (h3 : PR1 (prg E) 56 [.agg ((cT t).map .p), ls 1 eI64 p] (.tup [.agg ((cT w).map .p), i6 f, i6 0])) (hf : (fol t p).isSome = true) :
  PR1 (prgP E) 33 [.agg ((cT t).map .p), .agg ((cT x).map .p), ls 1 eI64 p] (.tup [.agg ((cT (.mk 0 0 [])).map .p), i6 3]) := by
 obtain ⟨u1, r1⟩ := put_A (E := E) t x p
 obtain ⟨u2, r2⟩ := put_B (E := E) t x p (u := u1) (cp_low (@F23_ok (erL E) t _ h1) rfl rfl _)
 obtain ⟨u3, r3⟩ := put_C (E := E) t x p (u := u2) (cp_low (@F23_ok (erL E) x _ h2) rfl rfl _)
 obtain ⟨u4, r4⟩ := put_D (E := E) t x w p f (u := u3) (cp_low h3 rfl rfl _)
 obtain ⟨xs, ex, hc1, hr1⟩ := own_cs (E := E) (tc t) t (Nat.le_refl _) (by omega) (hD t x w)
 obtain ⟨x1, x2, x3, exs, w1, w2, w3⟩ := cells3 hr1
 have hst : stA ((hD t x w ++ ex) ++ [zCl]) 3 (.ptr (hD t x w ++ ex).length 0) (.agg xs) = some (((hD t x w ++ ex) ++ [zCl]).set (hD t x w ++ ex).length (.cells 25 xs)) := by
  rw [exs]
  exact st_cells3 app_get w1 w2 w3
 obtain ⟨u5, r5⟩ := put_O (E := E) t x w p (u := u4) hc1 hst
 have hlb : (hD t x w ++ ex).length = 4 + ex.length := List.length_append
 generalize hb : (hD t x w ++ ex).length = b at hst r5 hlb
 generalize hH6 : ((hD t x w ++ ex) ++ [zCl]).set b (.cells 25 xs) = H6 at hst r5
 have l6 : H6.length = b + 1 := by rw [← hH6, List.length_set, List.length_append, hb]; rfl
 have g6 : ∀ k, k < b → H6[k]? = (hD t x w ++ ex)[k]? := fun k hk => by
  rw [← hH6, List.getElem?_set_ne (by omega), gal (by omega)]
 have b6 : H6[b]? = some (.cells 25 xs) := by rw [← hH6, List.getElem?_set_self (by rw [List.length_append, hb]; simp)]
 have hr6 : RepT H6 t 4 b xs := by
  refine repT_frame t (fun k h1 h2 => g6 k h2) ?_
  have := hr1
  rw [show (hD t x w).length + ex.length = b from hlb.symm] at this
  exact this
 obtain ⟨P, c, H7, H8, ys, m1, m2, m3, m4, m5, m6, mG⟩ := put_midG (E := E) (x := x) (p := p) l6 (by omega) b6 hr6 hx hf
 obtain ⟨m7, m8⟩ := repG_form mG
 have mR := repG_read _ mG hd
 obtain ⟨u6, r6⟩ := put_M (E := E) p (u := u5) (b := b) (H6 := H6)
 obtain ⟨u7, r7⟩ := put_L (E := E) p (u := u6) (b := b) (H6 := H6)
 obtain ⟨v7, k7⟩ := keep33 (u := u7) (p := p) (b := b) (P := .ptr b 0) (j := 0)
 obtain ⟨u8, l8⟩ := put_loop (E := E) (mm := H6.length) (b := b) (H := H6) hp p 0 (.ptr b 0) P v7 (List.drop_zero ..) (Nat.zero_le _) (.inl rfl) m1
 have rl : run (envOf (prgP E) (ev (prgP E))) (ev (prgP E)) (.block 0 (.loop lv33 ir33U_l0)) ⟨fr 64 u7 (lL p b (.ptr b 0) 0), H6⟩ = some (.norm, ⟨fr 64 u8 (lS b P), H6⟩) := by
  rw [run_block, run_loop]
  show blockK 0 (evH (prgP E) H6.length lv33 ir33U_l0 (trim H6.length lv33 _)) = _
  rw [trim_noT rfl, k7]
  exact (congrArg (blockK 0) l8).trans rfl
 have q1 : ldA H6 true 3 (.ptr 1 0) = some (.agg ((cT x).map .p)) := by
  have e1 : H6[1]? = some (.cells 25 ((cT x).map .p)) := by rw [g6 1 (by omega)]; rfl
  exact ld_cells3 e1
 have rS : ∃ u', run (envOf (prgP E) (ev (prgP E))) (ev (prgP E)) p33S ⟨fr 64 u8 (lS b P), H6⟩ = some (.norm, ⟨fr 64 u' (lT b), H8⟩) := by
  rcases m2 with rfl | ⟨b1, g1, k1, rfl⟩
  ·exact put_S1 q1 m3 m4
  ·exact put_S2 q1 m3 m4
 obtain ⟨u9, r9⟩ := rS
 have hcp : CP (prgP E) 53 [.agg ys, .fn 58 []] H8 = some (i6 3) := by
  obtain ⟨y1, y2, y3, ey, _, _, _⟩ := m8
  by_cases hpu : AV.pure.pures [AV.agg ys, .fn 58 []] = true
  ·-- its cells are pure
   have hr := mR
   have hpa := purAs_of m7 hr
   have hys : AV.pure.pures ys = true := by
    have : (AV.pure.pures ys && true) = true := by simpa [AV.pure.pures, AV.pure] using hpu
    simpa using this
   have he := purAs_pure (h := H8) ys hys
   rw [hpa] at he
   simp only [Option.some.injEq] at he
   rw [← he]
   exact CP_pure (h' := []) (v := i6 3) rfl hq rfl _
  ·refine CP_own (args' := [.agg ((cT (putT t x p)).map .p), .fn 58 []]) (h' := []) (by simpa using hpu) ?_ hq rfl
   exact purAs_cons (purA_agg (purAs_of m7 mR)) rfl
 have h82 : H8[2]? = some zCl := (m6 2 (by omega)).trans ((g6 2 (by omega)).trans rfl)
 have hz : stA H8 3 (.ptr 2 0) (.agg ((cT (.mk 0 0 [])).map .p)) = some (H8.set 2 (.cells 25 ((cT (.mk 0 0 [])).map .p))) := st_cells3 h82 rfl rfl rfl
 obtain ⟨u10, r10⟩ := put_TP (E := E) (u := u9) m5 hcp hz
 have b92 : (H8.set 2 (.cells 25 ((cT (.mk 0 0 [])).map .p)))[2]? = some (.cells 25 ((cT (.mk 0 0 [])).map .p)) := List.getElem?_set_self (gei.1 h82).1
 refine ⟨.tup [.agg ((cT (.mk 0 0 [])).map .p), i6 3], H8.set 2 (.cells 25 ((cT (.mk 0 0 [])).map .p)), ?_, rfl⟩
 rw [CS_in (F := ir33U) rfl rfl, CB_in, c33]
 have r1' := r1
 have e3 : [AV.agg ((cT t).map .p), .agg ((cT x).map .p), ls 1 eI64 p].length = 3 := rfl
 simp only [run_seq, e3, r1, seqK_norm, r2, r3, r4, r5, r6, r7, rl, r9, r10, seqK_ret, after_ret]
 have hres : resOf ⟨fr 64 u10 [(6, .ptr 2 0), (7, i6 3)], H8.set 2 (.cells 25 ((cT (.mk 0 0 [])).map .p))⟩ ir33U.results = some [.agg ((cT (.mk 0 0 [])).map .p), i6 3] := by
  have e4 : getT (fr 64 u10 [(6, .ptr 2 0), (7, i6 3)]) 6 = .ptr 2 0 := rfl
  have e5 : getT (fr 64 u10 [(6, .ptr 2 0), (7, i6 3)]) 7 = i6 3 := rfl
  show resOf _ [.cell 6 true 3, .tmp 7] = _
  simp only [resOf, e4, e5, loadA, b92]
  rfl
 rw [hres]
 rfl
end
end Go.Proofs.Tryd
