/- 'SetsMakes' by the abstract machine. -/
import Derived.Test.YtbichljebmhmnaaDoor02Y
namespace Go.Proofs.Tryd
set_option linter.unusedSimpArgs false
set_option linter.unusedVariables false
open Go Go.Vs
theorem num12 (e : Int) (h : List AB) : CP prg 12 [vi .i64 e] h = some (vi .i64 e) := CP_of 10 (by kernel_rfl)
def allI : I4 := ⟨18446744073709551615, 18446744073709551615, 18446744073709551615, 18446744073709551615⟩
theorem all16 (h : List AB) : CP prg 16 [] h = some (setI allI) := CP_of 20 (by kernel_rfl)

/- the rows of own slices -/
def rgA (x : Nat × Nat) : List AV := [vi .u8 x.1, vi .u8 x.2]
def byA (b : Nat) : List AV := [vi .u8 b]
theorem rows_rg (l : List (Nat × Nat)) (h : List AB) : rowsOf h 2 (.p (rgL l)) = some (l.map rgA) := by
  simp only [rowsOf, rgL, if_true, List.map_map]
  rfl
theorem rows_by (l : List Nat) (h : List AB) : rowsOf h 1 (.p (bytesL l)) = some (l.map byA) := by
  simp only [rowsOf, bytesL, if_true, List.map_map]
  rfl
/-- The generation of a slice that was made of nothing, behind one append. -/
def gn {α : Type} (l : List α) : Nat := match l with | [] => 0 | _ => 1
theorem app_first {t : TypeId} {size bytes : Nat} {h : List AB} {b : Nat} {y : AV} {rows : List (List AV)} (hb : h[b]? = some (.row t size 0 [])) (hr : rowsOf h size y = some rows) (hl : rows.length * bytes ≤ limit47 ∧ rows.length ≤ limit47) :
    appA h t size bytes (.sl b 0 size 0 0) y = some (.sl b (gn rows) size 0 rows.length, h.set b (.row t size (gn rows) rows)) := by
  unfold appA appendA
  rw [hr]
  simp only [Option.bind_some, hb, and_self, if_true, List.length_nil, Nat.zero_add, Nat.le_refl]
  rw [if_pos ⟨trivial, trivial, trivial, trivial, hl.1, hl.2⟩]
  cases rows with
  | nil => simp [gn, splice]
  | cons x r =>
    rw [if_neg (by simp)]
    simp [gn]
theorem app_more {t : TypeId} {size bytes : Nat} {h : List AB} {b g : Nat} {y : AV} {rows : List (List AV)} {r : List AV} (hb : h[b]? = some (.row t size g rows)) (hr : rowsOf h size y = some [r]) (hl : (rows.length + 1) * bytes ≤ limit47 ∧ rows.length + 1 ≤ limit47) :
    appA h t size bytes (.sl b g size 0 rows.length) y = some (.sl b (g + 1) size 0 (rows.length + 1), h.set b (.row t size (g + 1) (rows ++ [r]))) := by
  unfold appA appendA
  rw [hr]
  simp only [Option.bind_some, hb, and_self, if_true, List.length_cons, List.length_nil, Nat.zero_add]
  rw [if_pos ⟨trivial, trivial, trivial, Nat.le_refl _, hl.1, hl.2⟩, if_neg (by omega)]
  simp

/- ---------- the law ---------- -/
def hM (gm gc : Nat) (rm rc : List (List AV)) (s t o : I4) : List AB := [.row 26 2 gm rm, .row 26 2 0 [[vi .u8 7, vi .u8 3]], .row 5 1 gc rc, .row 5 1 0 [[vi .u8 165]], .cells 29 (wds s), .cells 29 (wds t), .cells 29 (wds o)]
def F3 (gm gc : Nat) (rl rb : List (List PV)) (at' e i : Int) : List AV := [.p (.lst 2 rl), .p (.lst 1 rb), vi .u8 at', .und, .und, .und, .und, .sl 0 gm 2 0 rl.length, .sl 2 gc 1 0 rb.length, .ptr 4 0, vi .i64 e, .ptr 5 0, vi .i64 e, .ptr 6 0, vi .i64 i, .und, .und, .und, .und, .und, .und, .und, .und, .und, .und, .und, .und, .und, .und, .und, .und, .und, .und, .und, .und, .und, .und, .und, .und, .und, .und, .und, .und, .und, .und, .und, .und, .und, .und, .und, .und, .und, .und, .und, .und, .und, .und, .und, .und, .und, .und, .und, .und, .und, .und, .und, .und, .und, .und, .und, .und, .und, .und, .und, .und, .und, .und, .und, .und, .und, .und, .und, .und, .und, .und, .und, .und, .und, .und, .und, .und, .und, .und, .und, .und, .und, .und, .und, .und, .und, .und, .und, .und, .und, .und, .und, .und, .und, .und, .und, .und, .und, .und, .und, .und, .und, .und, .und, .und, .und, .und, .und, .und, .und, .und, .und, .und, .und, .und, .und, .und, .und, .und, .und]
def E3 (gm gc : Nat) (rl rb : List (List PV)) (at' e i : Int) : List AV := [.p (.lst 2 rl), .p (.lst 1 rb), vi .u8 at', .und, .und, .und, .und, .sl 0 gm 2 0 rl.length, .sl 2 gc 1 0 rb.length, .ptr 4 0, vi .i64 e, .ptr 5 0, vi .i64 e, .ptr 6 0, vi .i64 i, .und, .und, .und, .und, .und, .und, .und, .und, .und, .und, .und, .und, .und, .und, .und, .und, .und, .und, .und, .und, .und, .und, .und, .und, .und, .und, .und, .und, .und, .und, .und, .und, .und, .und, .und, .und, .und, .und, vi .i64 i, .p (.lst 2 rl), vi .i64 (rl.length : Int), vb false, .und, .und, .und, .und, .und, .und, .und, .und, .und, .und, .und, .und, .und, .und, .und, .und, .und, .und, .und, .und, .und, .und, .und, .und, .und, .und, .und, .und, .und, .und, .und, .und, .und, .und, .und, .und, .und, .und, .und, .und, .und, .und, .und, .und, .und, .und, .und, .und, .und, .und, .und, .und, .und, .und, .und, .und, .und, .und, .und, .und, .und, .und, .und, .und, .und, .und, .und, .und, .und, .und, .und, .und, .und, .und, .und, .und, .und]
def lv3 : List Nat := [0, 1, 2, 7, 8, 9, 10, 11, 12, 13, 14]
theorem makes_k (gm gc : Nat) (hm : gm = 1 ∨ gm = 2) (rl rb : List (List PV)) (rm rc : List (List AV)) (s t o : I4) (at' e i i1 f u : Int) (j : Nat) : roundD prg 10 [(56, .d true), (61, .v (.rp 0 gm 2 j 0)), (62, .v (.agg [vi .u8 f, vi .u8 u])), (65, .v (.ro [.val (.int .u8 f), .val (.int .u8 u)])), (67, .d false), (58, .v (vi .i64 i1)), (6000, .d true)] 7 lv3 ir3_l0 ⟨F3 gm gc rl rb at' e i, hM gm gc rm rc s t o⟩ =
    some ([vb (i < (rl.length : Int)) = vb true, idxA 2 (.sl 0 gm 2 0 rl.length) (vi .i64 i) = some (.rp 0 gm 2 j 0), ldA (hM gm gc rm rc s t o) true 2 (.rp 0 gm 2 j 0) = some (.agg [vi .u8 f, vi .u8 u]), idxA 2 (.p (.lst 2 rl)) (vi .i64 i) = some (.ro [.val (.int .u8 f), .val (.int .u8 u)]),
      vb (!((f == f) && ((u == u) && true))) = vb false, binA .add (vi .i64 i) (vi .i64 1) = some (vi .i64 i1), okT 7 (hM gm gc rm rc s t o) = true], .norm, ⟨F3 gm gc rl rb at' e i1, hM gm gc rm rc s t o⟩) := by
  rcases hm with h | h
  · rw [h]; kernel_rfl
  · rw [h]; kernel_rfl
theorem makes_e (gm gc : Nat) (rl rb : List (List PV)) (rm rc : List (List AV)) (s t o : I4) (at' e i : Int) : roundD prg 10 [(56, .d false)] 7 lv3 ir3_l0 ⟨F3 gm gc rl rb at' e i, hM gm gc rm rc s t o⟩ =
    some ([vb (i < (rl.length : Int)) = vb false], .brk 0, ⟨E3 gm gc rl rb at' e i, hM gm gc rm rc s t o⟩) := by kernel_rfl
/-- The run, where the lists are no longer than the bounds. -/
theorem makes_c (g0 gm c0 gc : Nat) (hm : (g0 = 0 ∧ gm = 1) ∨ (g0 = 1 ∧ gm = 2)) (hc : (c0 = 0 ∧ gc = 1) ∨ (c0 = 1 ∧ gc = 2)) (rl rb : List (List PV)) (r0 rm q0 rc : List (List AV)) (s o a : I4) (at' e n n1 nb1 : Int) (ln lb : Nat) (bs : ByteArray) (hb : Bool) :
    callD prg 10 [(17, .d false), (21, .d false), (26, .r (.sl 0 g0 2 0 rl.length) [.row 26 2 g0 r0]), (29, .r (.sl 0 gm 2 0 ln) [.row 26 2 gm rm, .row 26 2 0 [[vi .u8 7, vi .u8 3]]]), (32, .v (.sl 0 gm 2 0 rl.length)),
      (35, .r (.sl 2 c0 1 0 rb.length) [.row 26 2 gm rm, .row 26 2 0 [[vi .u8 7, vi .u8 3]], .row 5 1 c0 q0]), (37, .r (.sl 2 gc 1 0 lb) [.row 26 2 gm rm, .row 26 2 0 [[vi .u8 7, vi .u8 3]], .row 5 1 gc rc, .row 5 1 0 [[vi .u8 165]]]), (40, .v (.sl 2 gc 1 0 rb.length)),
      (43, .v (.tup [setI s, vi .i64 e])), (48, .v (.tup [setI s, vi .i64 e])), (52, .v (setI o)), (2000, .l (.brk 0) ⟨E3 gm gc rl rb at' e n, hM gm gc rm rc s s o⟩), (6000, .d true),
      (71, .v (vi .i64 n1)), (72, .v (.sl 0 gm 2 0 ln)), (75, .v (.rp 0 gm 2 rl.length 0)), (77, .v (vi .u8 3)), (81, .v (vs bs)), (83, .v (vs bs)), (84, .d true), (90, .v (vi .i64 nb1)), (91, .v (.sl 2 gc 1 0 lb)), (94, .v (.rp 2 gc 1 rb.length 0)), (95, .v (vi .u8 165)),
      (101, .d true), (105, .v (vi .i64 e)), (107, .d true), (112, .v (setI o)), (113, .d true), (118, .v (vb hb)), (121, .v (vi .i64 at')), (122, .v (vb hb)), (123, .d true), (126, .v (setI a)), (128, .v (setI a)), (129, .d true), (132, .v (vb true))] 3 [.p (.lst 2 rl), .p (.lst 1 rb), vi .u8 at'] =
    some ([vb ((rl.length : Int) > 300) = vb false, vb ((rb.length : Int) > 1000) = vb false, appA [.row 26 2 0 []] 26 2 2 (.sl 0 0 2 0 0) (.p (.lst 2 rl)) = some (.sl 0 g0 2 0 rl.length, [.row 26 2 g0 r0]),
      appA [.row 26 2 g0 r0, .row 26 2 0 [[vi .u8 7, vi .u8 3]]] 26 2 2 (.sl 0 g0 2 0 rl.length) (.sl 1 0 2 0 1) = some (.sl 0 gm 2 0 ln, [.row 26 2 gm rm, .row 26 2 0 [[vi .u8 7, vi .u8 3]]]),
      slA [.row 26 2 gm rm, .row 26 2 0 [[vi .u8 7, vi .u8 3]]] 2 (.sl 0 gm 2 0 ln) (some 0) (some (rl.length : Int)) = some (.sl 0 gm 2 0 rl.length),
      appA [.row 26 2 gm rm, .row 26 2 0 [[vi .u8 7, vi .u8 3]], .row 5 1 0 []] 5 1 1 (.sl 2 0 1 0 0) (.p (.lst 1 rb)) = some (.sl 2 c0 1 0 rb.length, [.row 26 2 gm rm, .row 26 2 0 [[vi .u8 7, vi .u8 3]], .row 5 1 c0 q0]),
      appA [.row 26 2 gm rm, .row 26 2 0 [[vi .u8 7, vi .u8 3]], .row 5 1 c0 q0, .row 5 1 0 [[vi .u8 165]]] 5 1 1 (.sl 2 c0 1 0 rb.length) (.sl 3 0 1 0 1) = some (.sl 2 gc 1 0 lb, [.row 26 2 gm rm, .row 26 2 0 [[vi .u8 7, vi .u8 3]], .row 5 1 gc rc, .row 5 1 0 [[vi .u8 165]]]),
      slA [.row 26 2 gm rm, .row 26 2 0 [[vi .u8 7, vi .u8 3]], .row 5 1 gc rc, .row 5 1 0 [[vi .u8 165]]] 1 (.sl 2 gc 1 0 lb) (some 0) (some (rb.length : Int)) = some (.sl 2 gc 1 0 rb.length),
      CP prg 9 [.sl 0 gm 2 0 rl.length] ((hM gm gc rm rc s s o).take 4) = some (.tup [setI s, vi .i64 e]),
      CP prg 10 [.p (.lst 2 rl)] ((hM gm gc rm rc s s o).take 5) = some (.tup [setI s, vi .i64 e]),
      CP prg 11 [.sl 2 gc 1 0 rb.length] ((hM gm gc rm rc s s o).take 6) = some (setI o),
      okT 7 (hM gm gc rm rc s s o) = true,
      evH prg 7 lv3 ir3_l0 ⟨F3 gm gc rl rb at' e 0, hM gm gc rm rc s s o⟩ = some (.brk 0, ⟨E3 gm gc rl rb at' e n, hM gm gc rm rc s s o⟩),
      binA .add (vi .i64 (rl.length : Int)) (vi .i64 1) = some (vi .i64 n1), slA (hM gm gc rm rc s s o) 2 (.sl 0 gm 2 0 rl.length) (some 0) (some n1) = some (.sl 0 gm 2 0 ln),
      idxA 2 (.sl 0 gm 2 0 ln) (vi .i64 (rl.length : Int)) = some (.rp 0 gm 2 rl.length 0), ldA (hM gm gc rm rc s s o) false 1 (.rp 0 gm 2 rl.length 1) = some (vi .u8 3),
      cvB (hM gm gc rm rc s s o) (.sl 2 gc 1 0 rb.length) = some (vs bs), cvB (hM gm gc rm rc s s o) (.p (.lst 1 rb)) = some (vs bs), vb (bs.toList == bs.toList) = vb true,
      binA .add (vi .i64 (rb.length : Int)) (vi .i64 1) = some (vi .i64 nb1), slA (hM gm gc rm rc s s o) 1 (.sl 2 gc 1 0 rb.length) (some 0) (some nb1) = some (.sl 2 gc 1 0 lb),
      idxA 1 (.sl 2 gc 1 0 lb) (vi .i64 (rb.length : Int)) = some (.rp 2 gc 1 rb.length 0), ldA (hM gm gc rm rc s s o) false 1 (.rp 2 gc 1 rb.length 0) = some (vi .u8 165),
      T (eq4 s s), CP prg 12 [vi .i64 e] (hM gm gc rm rc s s o) = some (vi .i64 e), T (e == e), CP prg 13 [.p (.lst 1 rb)] (hM gm gc rm rc s s o) = some (setI o), T (eq4 o o),
      CP prg 14 [setI s, vi .u8 at'] (hM gm gc rm rc s s o) = some (vb hb), convA .i64 (vi .u8 at') = some (vi .i64 at'), CP prg 15 [setI s, vi .i64 at'] (hM gm gc rm rc s s o) = some (vb hb), T ((hb == hb) && true),
      CP prg 16 [] (hM gm gc rm rc s s o) = some (setI a), CP prg 17 [setI zI] (hM gm gc rm rc s s o) = some (setI a), T (eq4 a a), CP prg 8 [] (hM gm gc rm rc s s o) = some (vb true)], vb true) := by
  rcases hm with ⟨h, k⟩ | ⟨h, k⟩ <;> rcases hc with ⟨h', k'⟩ | ⟨h', k'⟩ <;> rw [h, k, h', k'] <;> kernel_rfl
end Go.Proofs.Tryd
