/- Decompiled by a program: functions as plain data see them, part 3. -/
import Derived.Test.YtpoclajcldnjeaaH52
namespace Go.Proofs.Try
set_option linter.unusedSimpArgs false
set_option linter.unusedVariables false
open Go Go.Vs
noncomputable section
inductive E_L25_4 where
  | k0 (x0 : List Int) (x1 : Nat) (x2 : List ProdD) (x3 : Nat)
section
variable (a1 a2 : List Bool) (a3 a4 : Nat) (a5 : GramD) (a6 : List Int) (a8 : Nat) (a9 : List ByteArray) (a10 : Nat) (a11 : Int)
def L25_4 (v1 : Int) (v2 : List Int) (v3 : Nat) (v4 : List ProdD) (v5 : Nat) : Option (E_L25_4 ⊕ (Int × (List Int) × Nat × (List ProdD) × Nat)) :=
  (bif (decide (v1 < (a5.prods.length : Int))) then ((ixN a4 v1).bind fun x2 => ((v2[x2]?).bind fun x3 => ((getI a5.prods v1).bind fun x4 => ((getI a2 x4.left).bind fun x5 => (bif x5 then ((getI a1 x4.left).bind fun x7 => (bif x7 then ((runL (fun s => L25_3_7 a1 x4 s.1 s.2) (true, 0)).bind fun r9 => match r9 with | .k0 x9_0 => (bif x9_0 then (((v2.set x2 (-1))[x2]?).bind fun x11 => ((ixN a3 x4.left).bind fun x12 => ((a6[x12]?).bind fun x13 => (bif (nilOk x4.right.length 48) then ((runL (fun s => L25_2_4 a3 a6 x4.right.length s.1 s.2) (0, x4.right)).bind fun r15 => match r15 with | .k0 x15_0 => (bif (apOk v5 1 v4.length 72) then (bif (decide (v5 + 1 ≤ v4.length)) then (bif (decide (x4.right.length ≤ x15_0.length)) then (some (.inr ((IntKind.wrap .i64 (v1 + 1)), ((v2.set x2 (-1)).set x2 ((v5 : Nat) : Int)), v3, (splice v4 v5 [(⟨x13, x15_0.take x4.right.length, x4.cons, x4.role, x4.prefer, x4.avoid, x4.frm⟩ : ProdD)]), v5 + 1))) else none) else (bif (decide (x4.right.length ≤ x15_0.length)) then (some (.inr ((IntKind.wrap .i64 (v1 + 1)), ((v2.set x2 (-1)).set x2 ((v5 : Nat) : Int)), v3 + 1, (v4.take v5 ++ [(⟨x13, x15_0.take x4.right.length, x4.cons, x4.role, x4.prefer, x4.avoid, x4.frm⟩ : ProdD)]), v5 + 1))) else none)) else none)) else none)))) else (some (.inr ((IntKind.wrap .i64 (v1 + 1)), (v2.set x2 (-1)), v3, v4, v5))))) else ((runL (fun s => L25_3_8 x4 s) 0).bind fun r9 => match r9 with | .k0 => (some (.inr ((IntKind.wrap .i64 (v1 + 1)), (v2.set x2 (-1)), v3, v4, v5)))))) else ((runL (fun s => L25_3_8 x4 s) 0).bind fun r7 => match r7 with | .k0 => (some (.inr ((IntKind.wrap .i64 (v1 + 1)), (v2.set x2 (-1)), v3, v4, v5))))))))) else (some (.inl (.k0 v2 v3 v4 v5))))
def L25_4_s (v1 : Int) (v2 : List Int) (v3 : Nat) (v4 : List ProdD) (v5 : Nat) : St := ⟨fr 272 ug [(1, .ptr 0 0), (2, .ptr 5 0), (4, ls 1 eBool a1), (5, ls 1 eBool a2), (6, .sl 6 0 1 0 a3), (7, .sl 7 0 1 0 a4), (8, .ptr 12 0), (10, i6 v1)], [bG a5, yS0, yP0, yF0, yW0, cG 1 0 0 2 0 0 0 3 0 0 4 0 0, yI 0 a6, yI 0 v2, yS a8 a9, yP v3 v4, yF0, yW0, cG 8 a8 a10 9 v3 v5 a11 10 0 0 11 0 0]⟩
abbrev L25_4_e (v1 : Int) (v2 : List Int) (v3 : Nat) (v4 : List ProdD) (v5 : Nat) := evH prg 13 [1, 2, 4, 5, 6, 7, 8, 10] ir25_l4 (L25_4_s a1 a2 a3 a4 a5 a6 a8 a9 a10 a11 v1 v2 v3 v4 v5)
def L25_4_x (e : E_L25_4) (r : Option (Out × St)) : Prop := match e with | .k0 x0 x1 x2 x3 => ∃ g, r = some ((.brk 2), ⟨fr 272 g [(1, .ptr 0 0), (2, .ptr 5 0), (4, ls 1 eBool a1), (5, ls 1 eBool a2), (6, .sl 6 0 1 0 a3), (7, .sl 7 0 1 0 a4), (8, .ptr 12 0)], [bG a5, yS0, yP0, yF0, yW0, cG 1 0 0 2 0 0 0 3 0 0 4 0 0, yI 0 a6, yI 0 x0, yS a8 a9, yP x1 x2, yF0, yW0, cG 8 a8 a10 9 x1 x3 a11 10 0 0 11 0 0]⟩)
abbrev L25_4_d0 (v2 : List Int) (x2 v3 : Nat) (v4 : List ProdD) (v5 : Nat) : List AB := [bG a5, yS0, yP0, yF0, yW0, cG 1 0 0 2 0 0 0 3 0 0 4 0 0, yI 0 a6, yI 0 (v2.set x2 (-1)), yS a8 a9, yP v3 v4, yF0, yW0, cG 8 a8 a10 9 v3 v5 a11 10 0 0 11 0 0]
abbrev L25_4_d1 (v2 : List Int) (x2 v3 : Nat) (v4 : List ProdD) (v5 : Nat) (x4 : ProdD) : List AB := [bG a5, yS0, yP0, yF0, yW0, cG 1 0 0 2 0 0 0 3 0 0 4 0 0, yI 0 a6, yI 0 (v2.set x2 (-1)), yS a8 a9, yP v3 v4, yF0, yW0, cG 8 a8 a10 9 v3 v5 a11 10 0 0 11 0 0, yY0, bP x4]
abbrev L25_4_d2 (g9 : Nat → AV) (v1 : Int) (x9_0 : Bool) (v2 : List Int) (x2 v3 : Nat) (v4 : List ProdD) (v5 : Nat) (x4 : ProdD) : St := ⟨fr 272 g9 [(1, .ptr 0 0), (2, .ptr 5 0), (4, ls 1 eBool a1), (5, ls 1 eBool a2), (6, .sl 6 0 1 0 a3), (7, .sl 7 0 1 0 a4), (8, .ptr 12 0), (10, i6 v1), (11, .ptr 14 0), (12, vb x9_0)], [bG a5, yS0, yP0, yF0, yW0, cG 1 0 0 2 0 0 0 3 0 0 4 0 0, yI 0 a6, yI 0 (v2.set x2 (-1)), yS a8 a9, yP v3 v4, yF0, yW0, cG 8 a8 a10 9 v3 v5 a11 10 0 0 11 0 0, yY0, bP x4]⟩
abbrev L25_4_d3 (v2 : List Int) (x2 v5 v3 : Nat) (v4 : List ProdD) (x4 : ProdD) : List AB := [bG a5, yS0, yP0, yF0, yW0, cG 1 0 0 2 0 0 0 3 0 0 4 0 0, yI 0 a6, yI 0 ((v2.set x2 (-1)).set x2 ((v5 : Nat) : Int)), yS a8 a9, yP v3 v4, yF0, yW0, cG 8 a8 a10 9 v3 v5 a11 10 0 0 11 0 0, yY0, bP x4]
abbrev L25_4_d4 (v2 : List Int) (x2 v5 v3 : Nat) (v4 : List ProdD) (x4 : ProdD) (x13 : Int) : List AB := [bG a5, yS0, yP0, yF0, yW0, cG 1 0 0 2 0 0 0 3 0 0 4 0 0, yI 0 a6, yI 0 ((v2.set x2 (-1)).set x2 ((v5 : Nat) : Int)), yS a8 a9, yP v3 v4, yF0, yW0, cG 8 a8 a10 9 v3 v5 a11 10 0 0 11 0 0, yY0, bP x4, yY0, .cells 46 [i6 x13, ls 6 eSym x4.right, vs x4.cons, i6 x4.role, vb x4.prefer, vb x4.avoid, i6 x4.frm]]
abbrev L25_4_d5 (v2 : List Int) (x2 v5 v3 : Nat) (v4 : List ProdD) (x4 : ProdD) (x13 : Int) : List AB := [bG a5, yS0, yP0, yF0, yW0, cG 1 0 0 2 0 0 0 3 0 0 4 0 0, yI 0 a6, yI 0 ((v2.set x2 (-1)).set x2 ((v5 : Nat) : Int)), yS a8 a9, yP v3 v4, yF0, yW0, cG 8 a8 a10 9 v3 v5 a11 10 0 0 11 0 0, yY0, bP x4, yY0, .cells 46 [i6 x13, ls 6 eSym x4.right, vs x4.cons, i6 x4.role, vb x4.prefer, vb x4.avoid, i6 x4.frm], yY 0 x4.right]
abbrev L25_4_d6 (g15 : Nat → AV) (v1 : Int) (v2 : List Int) (x2 v5 v3 : Nat) (v4 : List ProdD) (x4 : ProdD) (x13 : Int) (x15_0 : List SymD) : St := ⟨fr 272 g15 [(1, .ptr 0 0), (2, .ptr 5 0), (4, ls 1 eBool a1), (5, ls 1 eBool a2), (6, .sl 6 0 1 0 a3), (7, .sl 7 0 1 0 a4), (8, .ptr 12 0), (10, i6 v1), (14, .ptr 16 0)], [bG a5, yS0, yP0, yF0, yW0, cG 1 0 0 2 0 0 0 3 0 0 4 0 0, yI 0 a6, yI 0 ((v2.set x2 (-1)).set x2 ((v5 : Nat) : Int)), yS a8 a9, yP v3 v4, yF0, yW0, cG 8 a8 a10 9 v3 v5 a11 10 0 0 11 0 0, yY0, bP x4, yY0, .cells 46 [i6 x13, .sl 17 0 6 0 x4.right.length, vs x4.cons, i6 x4.role, vb x4.prefer, vb x4.avoid, i6 x4.frm], yY 0 x15_0]⟩
abbrev L25_4_d7 (v2 : List Int) (x2 v5 v3 : Nat) (v4 : List ProdD) (x4 : ProdD) (x13 : Int) (x15_0 : List SymD) : List AB := [bG a5, yS0, yP0, yF0, yW0, cG 1 0 0 2 0 0 0 3 0 0 4 0 0, yI 0 a6, yI 0 ((v2.set x2 (-1)).set x2 ((v5 : Nat) : Int)), yS a8 a9, yP v3 v4, yF0, yW0, cG 8 a8 a10 9 v3 v5 a11 10 0 0 11 0 0, yY0, bP x4, yY0, .cells 46 [i6 x13, .sl 17 0 6 0 x4.right.length, vs x4.cons, i6 x4.role, vb x4.prefer, vb x4.avoid, i6 x4.frm], yY 0 x15_0, .row 46 7 0 [[i6 x13, .sl 17 0 6 0 x4.right.length, vs x4.cons, i6 x4.role, vb x4.prefer, vb x4.avoid, i6 x4.frm]]]
abbrev L25_4_d8 (v2 : List Int) (x2 v5 v3 : Nat) (v4 : List ProdD) (x13 : Int) (x4 : ProdD) (x15_0 : List SymD) : List AB := [bG a5, yS0, yP0, yF0, yW0, cG 1 0 0 2 0 0 0 3 0 0 4 0 0, yI 0 a6, yI 0 ((v2.set x2 (-1)).set x2 ((v5 : Nat) : Int)), yS a8 a9, .row 46 7 v3 (splice (ra eProd v4) v5 [[i6 x13, .sl 17 0 6 0 x4.right.length, vs x4.cons, i6 x4.role, vb x4.prefer, vb x4.avoid, i6 x4.frm]]), yF0, yW0, cG 8 a8 a10 9 v3 v5 a11 10 0 0 11 0 0, yY0, bP x4, yY0, .cells 46 [i6 x13, .sl 17 0 6 0 x4.right.length, vs x4.cons, i6 x4.role, vb x4.prefer, vb x4.avoid, i6 x4.frm], yY 0 x15_0, .row 46 7 0 [[i6 x13, .sl 17 0 6 0 x4.right.length, vs x4.cons, i6 x4.role, vb x4.prefer, vb x4.avoid, i6 x4.frm]]]
abbrev L25_4_d9 (v2 : List Int) (x2 v5 v3 : Nat) (v4 : List ProdD) (x13 : Int) (x15_0 : List SymD) (x4 : ProdD) : List AB := [bG a5, yS0, yP0, yF0, yW0, cG 1 0 0 2 0 0 0 3 0 0 4 0 0, yI 0 a6, yI 0 ((v2.set x2 (-1)).set x2 ((v5 : Nat) : Int)), yS a8 a9, yP v3 (splice v4 v5 [(⟨x13, x15_0.take x4.right.length, x4.cons, x4.role, x4.prefer, x4.avoid, x4.frm⟩ : ProdD)]), yF0, yW0, .cells 27 [.sl 8 a8 1 0 a10, (.sl 9 v3 7 0 (v5 + 1)), i6 a11, .sl 10 0 3 0 0, .sl 11 0 5 0 0]]
abbrev L25_4_d10 (v2 : List Int) (x2 v5 v3 : Nat) (v4 : List ProdD) (x13 : Int) (x4 : ProdD) (x15_0 : List SymD) : List AB := [bG a5, yS0, yP0, yF0, yW0, cG 1 0 0 2 0 0 0 3 0 0 4 0 0, yI 0 a6, yI 0 ((v2.set x2 (-1)).set x2 ((v5 : Nat) : Int)), yS a8 a9, .row 46 7 (v3 + 1) ((ra eProd v4).take v5 ++ [[i6 x13, .sl 17 0 6 0 x4.right.length, vs x4.cons, i6 x4.role, vb x4.prefer, vb x4.avoid, i6 x4.frm]]), yF0, yW0, cG 8 a8 a10 9 v3 v5 a11 10 0 0 11 0 0, yY0, bP x4, yY0, .cells 46 [i6 x13, .sl 17 0 6 0 x4.right.length, vs x4.cons, i6 x4.role, vb x4.prefer, vb x4.avoid, i6 x4.frm], yY 0 x15_0, .row 46 7 0 [[i6 x13, .sl 17 0 6 0 x4.right.length, vs x4.cons, i6 x4.role, vb x4.prefer, vb x4.avoid, i6 x4.frm]]]
abbrev L25_4_d11 (v2 : List Int) (x2 v5 v3 : Nat) (v4 : List ProdD) (x13 : Int) (x15_0 : List SymD) (x4 : ProdD) : List AB := [bG a5, yS0, yP0, yF0, yW0, cG 1 0 0 2 0 0 0 3 0 0 4 0 0, yI 0 a6, yI 0 ((v2.set x2 (-1)).set x2 ((v5 : Nat) : Int)), yS a8 a9, yP (v3 + 1) (v4.take v5 ++ [(⟨x13, x15_0.take x4.right.length, x4.cons, x4.role, x4.prefer, x4.avoid, x4.frm⟩ : ProdD)]), yF0, yW0, .cells 27 [.sl 8 a8 1 0 a10, (.sl 9 (v3 + 1) 7 0 (v5 + 1)), i6 a11, .sl 10 0 3 0 0, .sl 11 0 5 0 0]]
abbrev L25_4_d12 (g9 : Nat → AV) (v1 : Int) (v2 : List Int) (x2 v3 : Nat) (v4 : List ProdD) (v5 : Nat) (x4 : ProdD) : St := ⟨fr 272 g9 [(1, .ptr 0 0), (2, .ptr 5 0), (4, ls 1 eBool a1), (5, ls 1 eBool a2), (6, .sl 6 0 1 0 a3), (7, .sl 7 0 1 0 a4), (8, .ptr 12 0), (10, i6 v1), (11, .ptr 14 0), (12, vb false)], [bG a5, yS0, yP0, yF0, yW0, cG 1 0 0 2 0 0 0 3 0 0 4 0 0, yI 0 a6, yI 0 (v2.set x2 (-1)), yS a8 a9, yP v3 v4, yF0, yW0, cG 8 a8 a10 9 v3 v5 a11 10 0 0 11 0 0, yY0, bP x4]⟩
abbrev L25_4_d13 (g7 : Nat → AV) (v1 : Int) (v2 : List Int) (x2 v3 : Nat) (v4 : List ProdD) (v5 : Nat) (x4 : ProdD) : St := ⟨fr 272 g7 [(1, .ptr 0 0), (2, .ptr 5 0), (4, ls 1 eBool a1), (5, ls 1 eBool a2), (6, .sl 6 0 1 0 a3), (7, .sl 7 0 1 0 a4), (8, .ptr 12 0), (10, i6 v1), (11, .ptr 14 0), (12, vb false)], [bG a5, yS0, yP0, yF0, yW0, cG 1 0 0 2 0 0 0 3 0 0 4 0 0, yI 0 a6, yI 0 (v2.set x2 (-1)), yS a8 a9, yP v3 v4, yF0, yW0, cG 8 a8 a10 9 v3 v5 a11 10 0 0 11 0 0, yY0, bP x4]⟩
abbrev L25_4_c0 (v2 : List Int) (x2 v3 : Nat) (v4 : List ProdD) (v5 : Nat) : List (Nat × Hint) := [(1090, .r ud (L25_4_d0 a5 a6 a8 a9 a10 a11 v2 x2 v3 v4 v5))]
abbrev L25_4_c1 (g9 : Nat → AV) (v1 : Int) (x9_0 : Bool) (v2 : List Int) (x2 v3 : Nat) (v4 : List ProdD) (v5 : Nat) (x4 : ProdD) : List (Nat × Hint) := [(2004, .l (.brk 4) (L25_4_d2 a1 a2 a3 a4 a5 a6 a8 a9 a10 a11 g9 v1 x9_0 v2 x2 v3 v4 v5 x4))]
abbrev L25_4_c2 (v2 : List Int) (x2 v5 v3 : Nat) (v4 : List ProdD) (x4 : ProdD) : List (Nat × Hint) := [(1143, .r ud (L25_4_d3 a5 a6 a8 a9 a10 a11 v2 x2 v5 v3 v4 x4))]
abbrev L25_4_c3 (x4 : ProdD) (v2 : List Int) (x2 v5 v3 : Nat) (v4 : List ProdD) (x13 : Int) : List (Nat × Hint) := [(153, .r (.sl 17 0 6 0 x4.right.length) (L25_4_d5 a5 a6 a8 a9 a10 a11 v2 x2 v5 v3 v4 x4 x13))]
abbrev L25_4_c4 (g15 : Nat → AV) (v1 : Int) (v2 : List Int) (x2 v5 v3 : Nat) (v4 : List ProdD) (x4 : ProdD) (x13 : Int) (x15_0 : List SymD) : List (Nat × Hint) := [(2006, .l (.brk 6) (L25_4_d6 a1 a2 a3 a4 a5 a6 a8 a9 a10 a11 g15 v1 v2 x2 v5 v3 v4 x4 x13 x15_0))]
abbrev L25_4_c5 (v3 v5 : Nat) (v2 : List Int) (x2 : Nat) (v4 : List ProdD) (x13 : Int) (x4 : ProdD) (x15_0 : List SymD) : List (Nat × Hint) := [(187, .r (.sl 9 v3 7 0 (v5 + 1)) (L25_4_d8 a5 a6 a8 a9 a10 a11 v2 x2 v5 v3 v4 x13 x4 x15_0))]
abbrev L25_4_c6 (v3 v5 : Nat) (v2 : List Int) (x2 : Nat) (v4 : List ProdD) (x13 : Int) (x4 : ProdD) (x15_0 : List SymD) : List (Nat × Hint) := [(187, .r (.sl 9 (v3 + 1) 7 0 (v5 + 1)) (L25_4_d10 a5 a6 a8 a9 a10 a11 v2 x2 v5 v3 v4 x13 x4 x15_0))]
theorem L25_4_ok (v1 : Int) (v2 : List Int) (v3 : Nat) (v4 : List ProdD) (v5 : Nat) {r : E_L25_4 ⊕ (Int × (List Int) × Nat × (List ProdD) × Nat)} (h : L25_4 a1 a2 a3 a4 a5 a6 v1 v2 v3 v4 v5 = some r) : OkR (fun e => L25_4_x a1 a2 a3 a4 a5 a6 a8 a9 a10 a11 e (L25_4_e a1 a2 a3 a4 a5 a6 a8 a9 a10 a11 v1 v2 v3 v4 v5)) (fun s => L25_4_e a1 a2 a3 a4 a5 a6 a8 a9 a10 a11 v1 v2 v3 v4 v5 = L25_4_e a1 a2 a3 a4 a5 a6 a8 a9 a10 a11 s.1 s.2.1 s.2.2.1 s.2.2.2.1 s.2.2.2.2) r := by
 unfold L25_4 at h
 refine bi h ?_ ?_ <;> intro h1 h
 ·
  refine bn h fun x2 h2 h => ?_
  have q2 := ((idx_sl h2) : idxA 1 (.sl 7 0 1 0 a4) (i6 v1) = some (.rp 7 0 1 x2 0))
  refine bn h fun x3 h3 h => ?_
  have q3 := (⟨st_row (v' := (-1)) rfl h3 rfl rfl (Nat.le_of_ble_eq_true rfl) rfl, rfl⟩ : stA [bG a5, yS0, yP0, yF0, yW0, cG 1 0 0 2 0 0 0 3 0 0 4 0 0, yI 0 a6, yI 0 v2, yS a8 a9, yP v3 v4, yF0, yW0, cG 8 a8 a10 9 v3 v5 a11 10 0 0 11 0 0] 1 (.rp 7 0 1 x2 0) (i6 (-1)) = some (L25_4_d0 a5 a6 a8 a9 a10 a11 v2 x2 v3 v4 v5) ∧ ud = ud)
  refine bn h fun x4 h4 h => ?_
  refine bn h fun x5 h5 h => ?_
  refine bi h ?_ ?_ <;> intro h6 h
  ·
   refine bn h fun x7 h7 h => ?_
   refine bi h ?_ ?_ <;> intro h8 h
   ·
    refine bn h fun r9 h9 h => ?_
    cases r9 with
    | k0 x9_0 =>
     obtain ⟨g9, e9⟩ := L25_3_7_run a1 a2 a3 a4 v1 a5 a6 (v2.set x2 (-1)) a8 a9 v3 v4 a10 v5 a11 x4 (true, 0) _ h9
     have q9 := ((oK (ac (ar (ar (ar (ar (ac (ar (ar (ar (ar (ar (ar (ac (ar (ac rfl)))))))))))))))) : okT 15 (L25_4_d1 a5 a6 a8 a9 a10 a11 v2 x2 v3 v4 v5 x4) = true)
     have q10 := (e9 : L25_3_7_e a1 a2 a3 a4 v1 a5 a6 (v2.set x2 (-1)) a8 a9 v3 v4 a10 v5 a11 x4 true 0 = some ((.brk 4), L25_4_d2 a1 a2 a3 a4 a5 a6 a8 a9 a10 a11 g9 v1 x9_0 v2 x2 v3 v4 v5 x4))
     refine bi h ?_ ?_ <;> intro h10 h
     ·
      have q12 := ((idx_sl h2) : idxA 1 (.sl 7 0 1 0 a4) (i6 v1) = some (.rp 7 0 1 x2 0))
      refine bn h fun x11 h11 h => ?_
      have q13 := (⟨st_row (v' := ((v5 : Nat) : Int)) rfl h11 rfl rfl (Nat.le_of_ble_eq_true rfl) rfl, rfl⟩ : stA (L25_4_d1 a5 a6 a8 a9 a10 a11 v2 x2 v3 v4 v5 x4) 1 (.rp 7 0 1 x2 0) (i6 ((v5 : Nat) : Int)) = some (L25_4_d3 a5 a6 a8 a9 a10 a11 v2 x2 v5 v3 v4 x4) ∧ ud = ud)
      refine bn h fun x12 h12 h => ?_
      have q14 := ((idx_sl h12) : idxA 1 (.sl 6 0 1 0 a3) (i6 x4.left) = some (.rp 6 0 1 x12 0))
      refine bn h fun x13 h13 h => ?_
      have q15 := ((ld_row rfl h13 rfl) : ldA [bG a5, yS0, yP0, yF0, yW0, cG 1 0 0 2 0 0 0 3 0 0 4 0 0, yI 0 a6, yI 0 ((v2.set x2 (-1)).set x2 ((v5 : Nat) : Int)), yS a8 a9, yP v3 v4, yF0, yW0, cG 8 a8 a10 9 v3 v5 a11 10 0 0 11 0 0, yY0, bP x4, yY0, bP x4] .false 1 (.rp 6 0 1 x12 0) = some (i6 x13))
      refine bi h ?_ ?_ <;> intro h14 h
      ·
       have q16 := ((ap_nil (h := (L25_4_d4 a5 a6 a8 a9 a10 a11 v2 x2 v5 v3 v4 x4 x13)) (e := eSym) (news := x4.right) rows_l rfl h14) : appA (L25_4_d4 a5 a6 a8 a9 a10 a11 v2 x2 v5 v3 v4 x4 x13) 68 6 48 n0 (ls 6 eSym x4.right) = some ((.sl 17 0 6 0 x4.right.length), L25_4_d5 a5 a6 a8 a9 a10 a11 v2 x2 v5 v3 v4 x4 x13))
       refine bn h fun r15 h15 h => ?_
       cases r15 with
       | k0 x15_0 =>
        obtain ⟨g15, e15⟩ := L25_2_4_run a1 a2 a3 a4 v1 a5 a6 ((v2.set x2 (-1)).set x2 ((v5 : Nat) : Int)) a8 a9 v3 v4 a10 v5 a11 x4 x13 x4.right.length (0, x4.right) _ h15
        have q17 := ((oK (ac (ar (ar (ar (ar (ac (ar (ar (ar (ar (ar (ar (ac (ar (ac (ar (ac (ar rfl))))))))))))))))))) : okT 18 [bG a5, yS0, yP0, yF0, yW0, cG 1 0 0 2 0 0 0 3 0 0 4 0 0, yI 0 a6, yI 0 ((v2.set x2 (-1)).set x2 ((v5 : Nat) : Int)), yS a8 a9, yP v3 v4, yF0, yW0, cG 8 a8 a10 9 v3 v5 a11 10 0 0 11 0 0, yY0, bP x4, yY0, .cells 46 [i6 x13, .sl 17 0 6 0 x4.right.length, vs x4.cons, i6 x4.role, vb x4.prefer, vb x4.avoid, i6 x4.frm], yY 0 x4.right] = true)
        have q18 := (e15 : L25_2_4_e a1 a2 a3 a4 v1 a5 a6 ((v2.set x2 (-1)).set x2 ((v5 : Nat) : Int)) a8 a9 v3 v4 a10 v5 a11 x4 x13 x4.right.length 0 x4.right = some ((.brk 6), L25_4_d6 a1 a2 a3 a4 a5 a6 a8 a9 a10 a11 g15 v1 v2 x2 v5 v3 v4 x4 x13 x15_0))
        refine bi h ?_ ?_ <;> intro h16 h
        ·
         refine bi h ?_ ?_ <;> intro h17 h
         ·
          have q19 := ((ap_pin (e := eProd) (xs := v4) (cs := [i6 x13, .sl 17 0 6 0 x4.right.length, vs x4.cons, i6 x4.role, vb x4.prefer, vb x4.avoid, i6 x4.frm]) rfl rfl h16 h17) : appA (L25_4_d7 a5 a6 a8 a9 a10 a11 v2 x2 v5 v3 v4 x4 x13 x15_0) 46 7 72 (.sl 9 v3 7 0 v5) (.sl 18 0 7 0 1) = some ((.sl 9 v3 7 0 (v5 + 1)), L25_4_d8 a5 a6 a8 a9 a10 a11 v2 x2 v5 v3 v4 x13 x4 x15_0))
          refine bi h ?_ ?_ <;> intro h18 h
          ·
           rw [← sj h]
           exact rnd ([(84, .v (i6 (lP a5))), (85, .d true), (90, .v (.rp 7 0 1 x2 0))] ++ ((L25_4_c0 a5 a6 a8 a9 a10 a11 v2 x2 v3 v4 v5) ++ ([(94, .v (.ro (eProd x4))), (99, .v (.ro [.val (.bool x5)])), (100, .d true), (105, .v (.ro [.val (.bool x7)])), (106, .d true)] ++ ((L25_4_c1 a1 a2 a3 a4 a5 a6 a8 a9 a10 a11 g9 v1 x9_0 v2 x2 v3 v4 v5 x4) ++ ([(136, .d true), (143, .v (.rp 7 0 1 x2 0))] ++ ((L25_4_c2 a5 a6 a8 a9 a10 a11 v2 x2 v5 v3 v4 x4) ++ ([(148, .v (.rp 6 0 1 x12 0)), (149, .v (i6 x13))] ++ ((L25_4_c3 a5 a6 a8 a9 a10 a11 x4 v2 x2 v5 v3 v4 x13) ++ ((L25_4_c4 a1 a2 a3 a4 a5 a6 a8 a9 a10 a11 g15 v1 v2 x2 v5 v3 v4 x4 x13 x15_0) ++ ((L25_4_c5 a5 a6 a8 a9 a10 a11 v3 v5 v2 x2 v4 x13 x4 x15_0) ++ [(6000, .d true), (6001, .r ud (L25_4_d9 a5 a6 a8 a9 a10 a11 v2 x2 v5 v3 v4 x13 x15_0 x4))])))))))))) (apc (lg a5.prods eProd 7) (av h1 (apc q2 (apc q3 (apc (ig eProd 7 .i64 h4) (apc (ig eBool 1 .i64 h5) (av h6 (apc (ig eBool 1 .i64 h7) (av h8 (apc q9 (apc q10 (av h10 (apc q12 (apc q13 (apc q14 (apc q15 (apc q16 (apc q17 (apc q18 (apc q19 (apc ((frz_of rfl (frz_same rfl (frz_same abl_row (frz_same abl_row (frz_same abl_row (frz_same abl_row (frz_same rfl (frz_same abl_row (frz_same abl_row (frz_same abl_row (frz_con (frz_pin (e := eProd) (xs := v4) (w := (⟨x13, x15_0.take x4.right.length, x4.cons, x4.role, x4.prefer, x4.avoid, x4.frm⟩ : ProdD)) (fzc_p (fzc_s rfl (purP_sl (e := eSym) (xs := x15_0) rfl h18) (fzc_p (fzc_p (fzc_p (fzc_p (fzc_p fzc_nil)))))))) (frz_same abl_row (frz_same abl_row (frz_same rfl frz_nil)))))))))))))) : frzT 13 [bG a5, yS0, yP0, yF0, yW0, cG 1 0 0 2 0 0 0 3 0 0 4 0 0, yI 0 a6, yI 0 ((v2.set x2 (-1)).set x2 ((v5 : Nat) : Int)), yS a8 a9, .row 46 7 v3 (splice (ra eProd v4) v5 [[i6 x13, .sl 17 0 6 0 x4.right.length, vs x4.cons, i6 x4.role, vb x4.prefer, vb x4.avoid, i6 x4.frm]]), yF0, yW0, .cells 27 [.sl 8 a8 1 0 a10, (.sl 9 v3 7 0 (v5 + 1)), i6 a11, .sl 10 0 3 0 0, .sl 11 0 5 0 0], yY0, bP x4, yY0, .cells 46 [i6 x13, .sl 17 0 6 0 x4.right.length, vs x4.cons, i6 x4.role, vb x4.prefer, vb x4.avoid, i6 x4.frm], yY 0 x15_0, .row 46 7 0 [[i6 x13, .sl 17 0 6 0 x4.right.length, vs x4.cons, i6 x4.role, vb x4.prefer, vb x4.avoid, i6 x4.frm]]] = some (L25_4_d9 a5 a6 a8 a9 a10 a11 v2 x2 v5 v3 v4 x13 x15_0 x4)) apn))))))))))))))))))))) (by kernel_rfl)
          ·
           cases h
         ·
          have q19 := ((ap_pout (e := eProd) (xs := v4) (cs := [i6 x13, .sl 17 0 6 0 x4.right.length, vs x4.cons, i6 x4.role, vb x4.prefer, vb x4.avoid, i6 x4.frm]) rfl rfl h16 h17) : appA (L25_4_d7 a5 a6 a8 a9 a10 a11 v2 x2 v5 v3 v4 x4 x13 x15_0) 46 7 72 (.sl 9 v3 7 0 v5) (.sl 18 0 7 0 1) = some ((.sl 9 (v3 + 1) 7 0 (v5 + 1)), L25_4_d10 a5 a6 a8 a9 a10 a11 v2 x2 v5 v3 v4 x13 x4 x15_0))
          refine bi h ?_ ?_ <;> intro h18 h
          ·
           rw [← sj h]
           exact rnd ([(84, .v (i6 (lP a5))), (85, .d true), (90, .v (.rp 7 0 1 x2 0))] ++ ((L25_4_c0 a5 a6 a8 a9 a10 a11 v2 x2 v3 v4 v5) ++ ([(94, .v (.ro (eProd x4))), (99, .v (.ro [.val (.bool x5)])), (100, .d true), (105, .v (.ro [.val (.bool x7)])), (106, .d true)] ++ ((L25_4_c1 a1 a2 a3 a4 a5 a6 a8 a9 a10 a11 g9 v1 x9_0 v2 x2 v3 v4 v5 x4) ++ ([(136, .d true), (143, .v (.rp 7 0 1 x2 0))] ++ ((L25_4_c2 a5 a6 a8 a9 a10 a11 v2 x2 v5 v3 v4 x4) ++ ([(148, .v (.rp 6 0 1 x12 0)), (149, .v (i6 x13))] ++ ((L25_4_c3 a5 a6 a8 a9 a10 a11 x4 v2 x2 v5 v3 v4 x13) ++ ((L25_4_c4 a1 a2 a3 a4 a5 a6 a8 a9 a10 a11 g15 v1 v2 x2 v5 v3 v4 x4 x13 x15_0) ++ ((L25_4_c6 a5 a6 a8 a9 a10 a11 v3 v5 v2 x2 v4 x13 x4 x15_0) ++ [(6000, .d true), (6001, .r ud (L25_4_d11 a5 a6 a8 a9 a10 a11 v2 x2 v5 v3 v4 x13 x15_0 x4))])))))))))) (apc (lg a5.prods eProd 7) (av h1 (apc q2 (apc q3 (apc (ig eProd 7 .i64 h4) (apc (ig eBool 1 .i64 h5) (av h6 (apc (ig eBool 1 .i64 h7) (av h8 (apc q9 (apc q10 (av h10 (apc q12 (apc q13 (apc q14 (apc q15 (apc q16 (apc q17 (apc q18 (apc q19 (apc ((frz_of rfl (frz_same rfl (frz_same abl_row (frz_same abl_row (frz_same abl_row (frz_same abl_row (frz_same rfl (frz_same abl_row (frz_same abl_row (frz_same abl_row (frz_con (frz_pout (e := eProd) (xs := v4) (w := (⟨x13, x15_0.take x4.right.length, x4.cons, x4.role, x4.prefer, x4.avoid, x4.frm⟩ : ProdD)) (fzc_p (fzc_s rfl (purP_sl (e := eSym) (xs := x15_0) rfl h18) (fzc_p (fzc_p (fzc_p (fzc_p (fzc_p fzc_nil)))))))) (frz_same abl_row (frz_same abl_row (frz_same rfl frz_nil)))))))))))))) : frzT 13 [bG a5, yS0, yP0, yF0, yW0, cG 1 0 0 2 0 0 0 3 0 0 4 0 0, yI 0 a6, yI 0 ((v2.set x2 (-1)).set x2 ((v5 : Nat) : Int)), yS a8 a9, .row 46 7 (v3 + 1) ((ra eProd v4).take v5 ++ [[i6 x13, .sl 17 0 6 0 x4.right.length, vs x4.cons, i6 x4.role, vb x4.prefer, vb x4.avoid, i6 x4.frm]]), yF0, yW0, .cells 27 [.sl 8 a8 1 0 a10, (.sl 9 (v3 + 1) 7 0 (v5 + 1)), i6 a11, .sl 10 0 3 0 0, .sl 11 0 5 0 0], yY0, bP x4, yY0, .cells 46 [i6 x13, .sl 17 0 6 0 x4.right.length, vs x4.cons, i6 x4.role, vb x4.prefer, vb x4.avoid, i6 x4.frm], yY 0 x15_0, .row 46 7 0 [[i6 x13, .sl 17 0 6 0 x4.right.length, vs x4.cons, i6 x4.role, vb x4.prefer, vb x4.avoid, i6 x4.frm]]] = some (L25_4_d11 a5 a6 a8 a9 a10 a11 v2 x2 v5 v3 v4 x13 x15_0 x4)) apn))))))))))))))))))))) (by kernel_rfl)
          ·
           cases h
        ·
         cases h
      ·
       cases h
     ·
      rw [← sj h]
      exact rnd ([(84, .v (i6 (lP a5))), (85, .d true), (90, .v (.rp 7 0 1 x2 0))] ++ ((L25_4_c0 a5 a6 a8 a9 a10 a11 v2 x2 v3 v4 v5) ++ ([(94, .v (.ro (eProd x4))), (99, .v (.ro [.val (.bool x5)])), (100, .d true), (105, .v (.ro [.val (.bool x7)])), (106, .d true)] ++ ((L25_4_c1 a1 a2 a3 a4 a5 a6 a8 a9 a10 a11 g9 v1 x9_0 v2 x2 v3 v4 v5 x4) ++ [(136, .d false), (6000, .d true)])))) (apc (lg a5.prods eProd 7) (av h1 (apc q2 (apc q3 (apc (ig eProd 7 .i64 h4) (apc (ig eBool 1 .i64 h5) (av h6 (apc (ig eBool 1 .i64 h7) (av h8 (apc q9 (apc q10 (av h10 (apc ((oK (ac (ar (ar (ar (ar (ac (ar (ar (ar (ar (ar (ar (ac rfl)))))))))))))) : okT 13 (L25_4_d1 a5 a6 a8 a9 a10 a11 v2 x2 v3 v4 v5 x4) = true) apn))))))))))))) (by kernel_rfl)
   ·
    refine bn h fun r9 h9 h => ?_
    cases r9 with
    | k0 =>
     obtain ⟨g9, e9⟩ := L25_3_8_run a1 a2 a3 a4 v1 a5 a6 (v2.set x2 (-1)) a8 a9 v3 v4 a10 v5 a11 x4 0 _ h9
     rw [← sj h]
     exact rnd ([(84, .v (i6 (lP a5))), (85, .d true), (90, .v (.rp 7 0 1 x2 0))] ++ ((L25_4_c0 a5 a6 a8 a9 a10 a11 v2 x2 v3 v4 v5) ++ [(94, .v (.ro (eProd x4))), (99, .v (.ro [.val (.bool x5)])), (100, .d true), (105, .v (.ro [.val (.bool x7)])), (106, .d false), (2004, .l (.brk 4) (L25_4_d12 a1 a2 a3 a4 a5 a6 a8 a9 a10 a11 g9 v1 v2 x2 v3 v4 v5 x4)), (6000, .d true)])) (apc (lg a5.prods eProd 7) (av h1 (apc q2 (apc q3 (apc (ig eProd 7 .i64 h4) (apc (ig eBool 1 .i64 h5) (av h6 (apc (ig eBool 1 .i64 h7) (av h8 (apc ((oK (ac (ar (ar (ar (ar (ac (ar (ar (ar (ar (ar (ar (ac (ar (ac rfl)))))))))))))))) : okT 15 (L25_4_d1 a5 a6 a8 a9 a10 a11 v2 x2 v3 v4 v5 x4) = true) (apc (e9 : L25_3_8_e a1 a2 a3 a4 v1 a5 a6 (v2.set x2 (-1)) a8 a9 v3 v4 a10 v5 a11 x4 0 = some ((.brk 4), L25_4_d12 a1 a2 a3 a4 a5 a6 a8 a9 a10 a11 g9 v1 v2 x2 v3 v4 v5 x4)) (apc ((oK (ac (ar (ar (ar (ar (ac (ar (ar (ar (ar (ar (ar (ac rfl)))))))))))))) : okT 13 (L25_4_d1 a5 a6 a8 a9 a10 a11 v2 x2 v3 v4 v5 x4) = true) apn)))))))))))) (by kernel_rfl)
  ·
   refine bn h fun r7 h7 h => ?_
   cases r7 with
   | k0 =>
    obtain ⟨g7, e7⟩ := L25_3_8_run a1 a2 a3 a4 v1 a5 a6 (v2.set x2 (-1)) a8 a9 v3 v4 a10 v5 a11 x4 0 _ h7
    rw [← sj h]
    exact rnd ([(84, .v (i6 (lP a5))), (85, .d true), (90, .v (.rp 7 0 1 x2 0))] ++ ((L25_4_c0 a5 a6 a8 a9 a10 a11 v2 x2 v3 v4 v5) ++ [(94, .v (.ro (eProd x4))), (99, .v (.ro [.val (.bool x5)])), (100, .d false), (2004, .l (.brk 4) (L25_4_d13 a1 a2 a3 a4 a5 a6 a8 a9 a10 a11 g7 v1 v2 x2 v3 v4 v5 x4)), (6000, .d true)])) (apc (lg a5.prods eProd 7) (av h1 (apc q2 (apc q3 (apc (ig eProd 7 .i64 h4) (apc (ig eBool 1 .i64 h5) (av h6 (apc ((oK (ac (ar (ar (ar (ar (ac (ar (ar (ar (ar (ar (ar (ac (ar (ac rfl)))))))))))))))) : okT 15 (L25_4_d1 a5 a6 a8 a9 a10 a11 v2 x2 v3 v4 v5 x4) = true) (apc (e7 : L25_3_8_e a1 a2 a3 a4 v1 a5 a6 (v2.set x2 (-1)) a8 a9 v3 v4 a10 v5 a11 x4 0 = some ((.brk 4), L25_4_d13 a1 a2 a3 a4 a5 a6 a8 a9 a10 a11 g7 v1 v2 x2 v3 v4 v5 x4)) (apc ((oK (ac (ar (ar (ar (ar (ac (ar (ar (ar (ar (ar (ar (ac rfl)))))))))))))) : okT 13 (L25_4_d1 a5 a6 a8 a9 a10 a11 v2 x2 v3 v4 v5 x4) = true) apn)))))))))) (by kernel_rfl)
 ·
  rw [← sj h]
  exact xbrk [(84, .v (i6 (lP a5))), (85, .d false), (6000, .d true)] (apc (lg a5.prods eProd 7) (av h1 apn)) (by kernel_rfl)
theorem L25_4_run (s0 : Int × (List Int) × Nat × (List ProdD) × Nat) (e : E_L25_4) (h : runL (fun s => L25_4 a1 a2 a3 a4 a5 a6 s.1 s.2.1 s.2.2.1 s.2.2.2.1 s.2.2.2.2) s0 = some e) : L25_4_x a1 a2 a3 a4 a5 a6 a8 a9 a10 a11 e (L25_4_e a1 a2 a3 a4 a5 a6 a8 a9 a10 a11 s0.1 s0.2.1 s0.2.2.1 s0.2.2.2.1 s0.2.2.2.2) := by
  have q := @loop_sound' (Int × (List Int) × Nat × (List ProdD) × Nat) E_L25_4 (fun s => L25_4 a1 a2 a3 a4 a5 a6 s.1 s.2.1 s.2.2.1 s.2.2.2.1 s.2.2.2.2) (fun s => L25_4_e a1 a2 a3 a4 a5 a6 a8 a9 a10 a11 s.1 s.2.1 s.2.2.1 s.2.2.2.1 s.2.2.2.2) (L25_4_x a1 a2 a3 a4 a5 a6 a8 a9 a10 a11) (fun s r h => L25_4_ok a1 a2 a3 a4 a5 a6 a8 a9 a10 a11 s.1 s.2.1 s.2.2.1 s.2.2.2.1 s.2.2.2.2 h) s0 e h
  exact q
end
inductive E_L25_1_2 where
  | k0 (x0 : Nat) (x1 : List ForbD) (x2 : Nat)
section
variable (a1 a2 : Nat) (a3 : GramD) (a4 a5 : List Int) (a6 : Nat) (a7 : List ByteArray) (a8 : Nat) (a9 : List ProdD) (a10 a11 : Nat) (a12 : Int)
def L25_1_2 (v1 : Int) (v2 : Nat) (v3 : List ForbD) (v4 : Nat) : Option (E_L25_1_2 ⊕ (Int × Nat × (List ForbD) × Nat)) :=
  (bif (decide (v1 < (a3.forbid.length : Int))) then ((getI a3.forbid v1).bind fun x2 => ((ixN a2 x2.parent).bind fun x3 => ((a5[x3]?).bind fun x4 => (bif (decide (x4 ≥ 0)) then ((ixN a2 x2.child).bind fun x6 => ((a5[x6]?).bind fun x7 => (bif (decide (x7 ≥ 0)) then (bif (apOk v4 1 v3.length 24) then (bif (decide (v4 + 1 ≤ v3.length)) then (some (.inr ((IntKind.wrap .i64 (v1 + 1)), v2, (splice v3 v4 [(⟨x4, x2.at_, x7⟩ : ForbD)]), v4 + 1))) else (some (.inr ((IntKind.wrap .i64 (v1 + 1)), v2 + 1, (v3.take v4 ++ [(⟨x4, x2.at_, x7⟩ : ForbD)]), v4 + 1)))) else none) else (some (.inr ((IntKind.wrap .i64 (v1 + 1)), v2, v3, v4)))))) else (some (.inr ((IntKind.wrap .i64 (v1 + 1)), v2, v3, v4))))))) else (some (.inl (.k0 v2 v3 v4))))
def L25_1_2_s (v1 : Int) (v2 : Nat) (v3 : List ForbD) (v4 : Nat) : St := ⟨fr 272 ug [(1, .ptr 0 0), (2, .ptr 5 0), (6, .sl 6 0 1 0 a1), (7, .sl 7 0 1 0 a2), (8, .ptr 12 0), (16, i6 v1)], [bG a3, yS0, yP0, yF0, yW0, cG 1 0 0 2 0 0 0 3 0 0 4 0 0, yI 0 a4, yI 0 a5, yS a6 a7, yP a8 a9, yF v2 v3, yW0, cG 8 a6 a10 9 a8 a11 a12 10 v2 v4 11 0 0]⟩
abbrev L25_1_2_e (v1 : Int) (v2 : Nat) (v3 : List ForbD) (v4 : Nat) := evH prg 13 [1, 2, 6, 7, 8, 16] ir25_l1 (L25_1_2_s a1 a2 a3 a4 a5 a6 a7 a8 a9 a10 a11 a12 v1 v2 v3 v4)
def L25_1_2_x (e : E_L25_1_2) (r : Option (Out × St)) : Prop := match e with | .k0 x0 x1 x2 => ∃ g, r = some ((.brk 8), ⟨fr 272 g [(1, .ptr 0 0), (2, .ptr 5 0), (6, .sl 6 0 1 0 a1), (7, .sl 7 0 1 0 a2), (8, .ptr 12 0)], [bG a3, yS0, yP0, yF0, yW0, cG 1 0 0 2 0 0 0 3 0 0 4 0 0, yI 0 a4, yI 0 a5, yS a6 a7, yP a8 a9, yF x0 x1, yW0, cG 8 a6 a10 9 a8 a11 a12 10 x0 x2 11 0 0]⟩)
abbrev L25_1_2_d0 (v2 : Nat) (v3 : List ForbD) (v4 : Nat) (x2 : ForbD) : List AB := [bG a3, yS0, yP0, yF0, yW0, cG 1 0 0 2 0 0 0 3 0 0 4 0 0, yI 0 a4, yI 0 a5, yS a6 a7, yP a8 a9, yF v2 v3, yW0, cG 8 a6 a10 9 a8 a11 a12 10 v2 v4 11 0 0, .cells 78 ((eForb x2).map .p)]
abbrev L25_1_2_d1 (v2 : Nat) (v3 : List ForbD) (v4 : Nat) (x4 : Int) (x2 : ForbD) (x7 : Int) : List AB := [bG a3, yS0, yP0, yF0, yW0, cG 1 0 0 2 0 0 0 3 0 0 4 0 0, yI 0 a4, yI 0 a5, yS a6 a7, yP a8 a9, yF v2 (splice v3 v4 [(⟨x4, x2.at_, x7⟩ : ForbD)]), yW0, cG 8 a6 a10 9 a8 a11 a12 10 v2 v4 11 0 0, .cells 78 ((eForb x2).map .p), .row 78 3 0 [[i6 x4, i6 x2.at_, i6 x7]]]
abbrev L25_1_2_d2 (v2 : Nat) (v3 : List ForbD) (v4 : Nat) (x2 : ForbD) (x4 x7 : Int) : List AB := [bG a3, yS0, yP0, yF0, yW0, cG 1 0 0 2 0 0 0 3 0 0 4 0 0, yI 0 a4, yI 0 a5, yS a6 a7, yP a8 a9, yF v2 v3, yW0, cG 8 a6 a10 9 a8 a11 a12 10 v2 v4 11 0 0, .cells 78 ((eForb x2).map .p), .row 78 3 0 [[i6 x4, i6 x2.at_, i6 x7]]]
abbrev L25_1_2_d3 (v2 : Nat) (v3 : List ForbD) (v4 : Nat) (x4 : Int) (x2 : ForbD) (x7 : Int) : List AB := [bG a3, yS0, yP0, yF0, yW0, cG 1 0 0 2 0 0 0 3 0 0 4 0 0, yI 0 a4, yI 0 a5, yS a6 a7, yP a8 a9, yF (v2 + 1) (v3.take v4 ++ [(⟨x4, x2.at_, x7⟩ : ForbD)]), yW0, cG 8 a6 a10 9 a8 a11 a12 10 v2 v4 11 0 0, .cells 78 ((eForb x2).map .p), .row 78 3 0 [[i6 x4, i6 x2.at_, i6 x7]]]
abbrev L25_1_2_c0 (x3 : Nat) (x4 : Int) (x6 : Nat) (x7 : Int) : List (Nat × Hint) := [(213, .d true), (220, .v (.rp 7 0 1 x3 0)), (221, .v (i6 x4)), (227, .v (.rp 7 0 1 x6 0)), (228, .v (i6 x7))]
theorem L25_1_2_ok (v1 : Int) (v2 : Nat) (v3 : List ForbD) (v4 : Nat) {r : E_L25_1_2 ⊕ (Int × Nat × (List ForbD) × Nat)} (h : L25_1_2 a2 a3 a5 v1 v2 v3 v4 = some r) : OkR (fun e => L25_1_2_x a1 a2 a3 a4 a5 a6 a7 a8 a9 a10 a11 a12 e (L25_1_2_e a1 a2 a3 a4 a5 a6 a7 a8 a9 a10 a11 a12 v1 v2 v3 v4)) (fun s => L25_1_2_e a1 a2 a3 a4 a5 a6 a7 a8 a9 a10 a11 a12 v1 v2 v3 v4 = L25_1_2_e a1 a2 a3 a4 a5 a6 a7 a8 a9 a10 a11 a12 s.1 s.2.1 s.2.2.1 s.2.2.2) r := by
 unfold L25_1_2 at h
 refine bi h ?_ ?_ <;> intro h1 h
 ·
  refine bn h fun x2 h2 h => ?_
  refine bn h fun x3 h3 h => ?_
  have q3 := ((idx_sl h3) : idxA 1 (.sl 7 0 1 0 a2) (i6 x2.parent) = some (.rp 7 0 1 x3 0))
  refine bn h fun x4 h4 h => ?_
  have q4 := ((ld_row rfl h4 rfl) : ldA (L25_1_2_d0 a3 a4 a5 a6 a7 a8 a9 a10 a11 a12 v2 v3 v4 x2) .false 1 (.rp 7 0 1 x3 0) = some (i6 x4))
  refine bi h ?_ ?_ <;> intro h5 h
  ·
   refine bn h fun x6 h6 h => ?_
   have q6 := ((idx_sl h6) : idxA 1 (.sl 7 0 1 0 a2) (i6 x2.child) = some (.rp 7 0 1 x6 0))
   refine bn h fun x7 h7 h => ?_
   have q7 := ((ld_row rfl h7 rfl) : ldA (L25_1_2_d0 a3 a4 a5 a6 a7 a8 a9 a10 a11 a12 v2 v3 v4 x2) .false 1 (.rp 7 0 1 x6 0) = some (i6 x7))
   refine bi h ?_ ?_ <;> intro h8 h
   ·
    have q9 := ((idx_sl h3) : idxA 1 (.sl 7 0 1 0 a2) (i6 x2.parent) = some (.rp 7 0 1 x3 0))
    have q10 := ((ld_row rfl h4 rfl) : ldA (L25_1_2_d0 a3 a4 a5 a6 a7 a8 a9 a10 a11 a12 v2 v3 v4 x2) .false 1 (.rp 7 0 1 x3 0) = some (i6 x4))
    have q11 := ((idx_sl h6) : idxA 1 (.sl 7 0 1 0 a2) (i6 x2.child) = some (.rp 7 0 1 x6 0))
    have q12 := ((ld_row rfl h7 rfl) : ldA (L25_1_2_d0 a3 a4 a5 a6 a7 a8 a9 a10 a11 a12 v2 v3 v4 x2) .false 1 (.rp 7 0 1 x6 0) = some (i6 x7))
    refine bi h ?_ ?_ <;> intro h9 h
    ·
     refine bi h ?_ ?_ <;> intro h10 h
     ·
      rw [← sj h]
      exact rnd ([(192, .v (i6 (lF a3))), (193, .d true), (199, .v (.ro (eForb x2))), (204, .v (.rp 7 0 1 x3 0)), (205, .v (i6 x4)), (206, .d true), (211, .v (.rp 7 0 1 x6 0)), (212, .v (i6 x7))] ++ ((L25_1_2_c0 x3 x4 x6 x7) ++ [(231, .r (.sl 10 v2 3 0 (v4 + 1)) (L25_1_2_d1 a3 a4 a5 a6 a7 a8 a9 a10 a11 a12 v2 v3 v4 x4 x2 x7)), (6000, .d true)])) (apc (lg a3.forbid eForb 3) (av h1 (apc (ig eForb 3 .i64 h2) (apc q3 (apc q4 (av h5 (apc q6 (apc q7 (av h8 (apc q9 (apc q10 (apc q11 (apc q12 (apc ((ap_in (e := eForb) (xs := v3) (news := [(⟨x4, x2.at_, x7⟩ : ForbD)]) rfl (rows_x (e := eForb) (xs := [(⟨x4, x2.at_, x7⟩ : ForbD)]) rfl) rfl h9 h10) : appA (L25_1_2_d2 a3 a4 a5 a6 a7 a8 a9 a10 a11 a12 v2 v3 v4 x2 x4 x7) 78 3 24 (.sl 10 v2 3 0 v4) (.sl 14 0 3 0 1) = some ((.sl 10 v2 3 0 (v4 + 1)), L25_1_2_d1 a3 a4 a5 a6 a7 a8 a9 a10 a11 a12 v2 v3 v4 x4 x2 x7)) (apc ((oK (ac (ar (ar (ar (ar (ac (ar (ar (ar (ar (ar (ar (ac rfl)))))))))))))) : okT 13 [bG a3, yS0, yP0, yF0, yW0, cG 1 0 0 2 0 0 0 3 0 0 4 0 0, yI 0 a4, yI 0 a5, yS a6 a7, yP a8 a9, yF v2 (splice v3 v4 [(⟨x4, x2.at_, x7⟩ : ForbD)]), yW0, .cells 27 [.sl 8 a6 1 0 a10, .sl 9 a8 7 0 a11, i6 a12, (.sl 10 v2 3 0 (v4 + 1)), .sl 11 0 5 0 0], .cells 78 ((eForb x2).map .p), .row 78 3 0 [[i6 x4, i6 x2.at_, i6 x7]]] = true) apn))))))))))))))) (by kernel_rfl)
     ·
      rw [← sj h]
      exact rnd ([(192, .v (i6 (lF a3))), (193, .d true), (199, .v (.ro (eForb x2))), (204, .v (.rp 7 0 1 x3 0)), (205, .v (i6 x4)), (206, .d true), (211, .v (.rp 7 0 1 x6 0)), (212, .v (i6 x7))] ++ ((L25_1_2_c0 x3 x4 x6 x7) ++ [(231, .r (.sl 10 (v2 + 1) 3 0 (v4 + 1)) (L25_1_2_d3 a3 a4 a5 a6 a7 a8 a9 a10 a11 a12 v2 v3 v4 x4 x2 x7)), (6000, .d true)])) (apc (lg a3.forbid eForb 3) (av h1 (apc (ig eForb 3 .i64 h2) (apc q3 (apc q4 (av h5 (apc q6 (apc q7 (av h8 (apc q9 (apc q10 (apc q11 (apc q12 (apc ((ap_out (e := eForb) (xs := v3) (news := [(⟨x4, x2.at_, x7⟩ : ForbD)]) rfl (rows_x (e := eForb) (xs := [(⟨x4, x2.at_, x7⟩ : ForbD)]) rfl) rfl h9 h10) : appA (L25_1_2_d2 a3 a4 a5 a6 a7 a8 a9 a10 a11 a12 v2 v3 v4 x2 x4 x7) 78 3 24 (.sl 10 v2 3 0 v4) (.sl 14 0 3 0 1) = some ((.sl 10 (v2 + 1) 3 0 (v4 + 1)), L25_1_2_d3 a3 a4 a5 a6 a7 a8 a9 a10 a11 a12 v2 v3 v4 x4 x2 x7)) (apc ((oK (ac (ar (ar (ar (ar (ac (ar (ar (ar (ar (ar (ar (ac rfl)))))))))))))) : okT 13 [bG a3, yS0, yP0, yF0, yW0, cG 1 0 0 2 0 0 0 3 0 0 4 0 0, yI 0 a4, yI 0 a5, yS a6 a7, yP a8 a9, yF (v2 + 1) (v3.take v4 ++ [(⟨x4, x2.at_, x7⟩ : ForbD)]), yW0, .cells 27 [.sl 8 a6 1 0 a10, .sl 9 a8 7 0 a11, i6 a12, (.sl 10 (v2 + 1) 3 0 (v4 + 1)), .sl 11 0 5 0 0], .cells 78 ((eForb x2).map .p), .row 78 3 0 [[i6 x4, i6 x2.at_, i6 x7]]] = true) apn))))))))))))))) (by kernel_rfl)
    ·
     cases h
   ·
    rw [← sj h]
    exact rnd [(192, .v (i6 (lF a3))), (193, .d true), (199, .v (.ro (eForb x2))), (204, .v (.rp 7 0 1 x3 0)), (205, .v (i6 x4)), (206, .d true), (211, .v (.rp 7 0 1 x6 0)), (212, .v (i6 x7)), (213, .d false), (6000, .d true)] (apc (lg a3.forbid eForb 3) (av h1 (apc (ig eForb 3 .i64 h2) (apc q3 (apc q4 (av h5 (apc q6 (apc q7 (av h8 (apc ((oK (ac (ar (ar (ar (ar (ac (ar (ar (ar (ar (ar (ar (ac rfl)))))))))))))) : okT 13 (L25_1_2_d0 a3 a4 a5 a6 a7 a8 a9 a10 a11 a12 v2 v3 v4 x2) = true) apn)))))))))) (by kernel_rfl)
  ·
   rw [← sj h]
   exact rnd [(192, .v (i6 (lF a3))), (193, .d true), (199, .v (.ro (eForb x2))), (204, .v (.rp 7 0 1 x3 0)), (205, .v (i6 x4)), (206, .d false), (6000, .d true)] (apc (lg a3.forbid eForb 3) (av h1 (apc (ig eForb 3 .i64 h2) (apc q3 (apc q4 (av h5 (apc ((oK (ac (ar (ar (ar (ar (ac (ar (ar (ar (ar (ar (ar (ac rfl)))))))))))))) : okT 13 (L25_1_2_d0 a3 a4 a5 a6 a7 a8 a9 a10 a11 a12 v2 v3 v4 x2) = true) apn))))))) (by kernel_rfl)
 ·
  rw [← sj h]
  exact xbrk [(192, .v (i6 (lF a3))), (193, .d false), (6000, .d true)] (apc (lg a3.forbid eForb 3) (av h1 apn)) (by kernel_rfl)
theorem L25_1_2_run (s0 : Int × Nat × (List ForbD) × Nat) (e : E_L25_1_2) (h : runL (fun s => L25_1_2 a2 a3 a5 s.1 s.2.1 s.2.2.1 s.2.2.2) s0 = some e) : L25_1_2_x a1 a2 a3 a4 a5 a6 a7 a8 a9 a10 a11 a12 e (L25_1_2_e a1 a2 a3 a4 a5 a6 a7 a8 a9 a10 a11 a12 s0.1 s0.2.1 s0.2.2.1 s0.2.2.2) := by
  have q := @loop_sound' (Int × Nat × (List ForbD) × Nat) E_L25_1_2 (fun s => L25_1_2 a2 a3 a5 s.1 s.2.1 s.2.2.1 s.2.2.2) (fun s => L25_1_2_e a1 a2 a3 a4 a5 a6 a7 a8 a9 a10 a11 a12 s.1 s.2.1 s.2.2.1 s.2.2.2) (L25_1_2_x a1 a2 a3 a4 a5 a6 a7 a8 a9 a10 a11 a12) (fun s r h => L25_1_2_ok a1 a2 a3 a4 a5 a6 a7 a8 a9 a10 a11 a12 s.1 s.2.1 s.2.2.1 s.2.2.2 h) s0 e h
  exact q
end
inductive E_L25_0_2 where
  | k0 (x0 : Nat) (x1 : List FollD) (x2 : Nat)
section
variable (a1 : Nat) (a2 : GramD) (a3 a4 : List Int) (a5 : Nat) (a6 : List ByteArray) (a7 : Nat) (a8 : List ProdD) (a9 : Nat) (a10 : List ForbD) (a11 a12 : Nat) (a13 : Int) (a14 : Nat)
def L25_0_2 (v1 : Int) (v2 : Nat) (v3 : List FollD) (v4 : Nat) : Option (E_L25_0_2 ⊕ (Int × Nat × (List FollD) × Nat)) :=
  (bif (decide (v1 < (a2.follow.length : Int))) then ((getI a2.follow v1).bind fun x2 => ((ixN a1 x2.sort).bind fun x3 => ((a3[x3]?).bind fun x4 => (bif (decide (x4 ≥ 0)) then (bif (apOk v4 1 v3.length 40) then (bif (decide (v4 + 1 ≤ v3.length)) then (some (.inr ((IntKind.wrap .i64 (v1 + 1)), v2, (splice v3 v4 [(⟨x4, x2.a, x2.b, x2.c, x2.d⟩ : FollD)]), v4 + 1))) else (some (.inr ((IntKind.wrap .i64 (v1 + 1)), v2 + 1, (v3.take v4 ++ [(⟨x4, x2.a, x2.b, x2.c, x2.d⟩ : FollD)]), v4 + 1)))) else none) else (some (.inr ((IntKind.wrap .i64 (v1 + 1)), v2, v3, v4))))))) else (some (.inl (.k0 v2 v3 v4))))
def L25_0_2_s (v1 : Int) (v2 : Nat) (v3 : List FollD) (v4 : Nat) : St := ⟨fr 272 ug [(1, .ptr 0 0), (2, .ptr 5 0), (6, .sl 6 0 1 0 a1), (8, .ptr 12 0), (18, i6 v1)], [bG a2, yS0, yP0, yF0, yW0, cG 1 0 0 2 0 0 0 3 0 0 4 0 0, yI 0 a3, yI 0 a4, yS a5 a6, yP a7 a8, yF a9 a10, yW v2 v3, cG 8 a5 a11 9 a7 a12 a13 10 a9 a14 11 v2 v4]⟩
abbrev L25_0_2_e (v1 : Int) (v2 : Nat) (v3 : List FollD) (v4 : Nat) := evH prg 13 [1, 2, 6, 8, 18] ir25_l0 (L25_0_2_s a1 a2 a3 a4 a5 a6 a7 a8 a9 a10 a11 a12 a13 a14 v1 v2 v3 v4)
def L25_0_2_x (e : E_L25_0_2) (r : Option (Out × St)) : Prop := match e with | .k0 x0 x1 x2 => ∃ g, r = some ((.brk 10), ⟨fr 272 g [(1, .ptr 0 0), (2, .ptr 5 0), (6, .sl 6 0 1 0 a1), (8, .ptr 12 0)], [bG a2, yS0, yP0, yF0, yW0, cG 1 0 0 2 0 0 0 3 0 0 4 0 0, yI 0 a3, yI 0 a4, yS a5 a6, yP a7 a8, yF a9 a10, yW x0 x1, cG 8 a5 a11 9 a7 a12 a13 10 a9 a14 11 x0 x2]⟩)
abbrev L25_0_2_d0 (v2 : Nat) (v3 : List FollD) (v4 : Nat) : List AB := [bG a2, yS0, yP0, yF0, yW0, cG 1 0 0 2 0 0 0 3 0 0 4 0 0, yI 0 a3, yI 0 a4, yS a5 a6, yP a7 a8, yF a9 a10, yW v2 v3, cG 8 a5 a11 9 a7 a12 a13 10 a9 a14 11 v2 v4]
abbrev L25_0_2_d1 (v2 : Nat) (v3 : List FollD) (v4 : Nat) (x4 : Int) (x2 : FollD) : List AB := [bG a2, yS0, yP0, yF0, yW0, cG 1 0 0 2 0 0 0 3 0 0 4 0 0, yI 0 a3, yI 0 a4, yS a5 a6, yP a7 a8, yF a9 a10, yW v2 (splice v3 v4 [(⟨x4, x2.a, x2.b, x2.c, x2.d⟩ : FollD)]), cG 8 a5 a11 9 a7 a12 a13 10 a9 a14 11 v2 v4, .row 80 5 0 [[i6 x4, vi .u64 x2.a, vi .u64 x2.b, vi .u64 x2.c, vi .u64 x2.d]]]
abbrev L25_0_2_d2 (v2 : Nat) (v3 : List FollD) (v4 : Nat) (x4 : Int) (x2 : FollD) : List AB := [bG a2, yS0, yP0, yF0, yW0, cG 1 0 0 2 0 0 0 3 0 0 4 0 0, yI 0 a3, yI 0 a4, yS a5 a6, yP a7 a8, yF a9 a10, yW v2 v3, cG 8 a5 a11 9 a7 a12 a13 10 a9 a14 11 v2 v4, .row 80 5 0 [[i6 x4, vi .u64 x2.a, vi .u64 x2.b, vi .u64 x2.c, vi .u64 x2.d]]]
abbrev L25_0_2_d3 (v2 : Nat) (v3 : List FollD) (v4 : Nat) (x4 : Int) (x2 : FollD) : List AB := [bG a2, yS0, yP0, yF0, yW0, cG 1 0 0 2 0 0 0 3 0 0 4 0 0, yI 0 a3, yI 0 a4, yS a5 a6, yP a7 a8, yF a9 a10, yW (v2 + 1) (v3.take v4 ++ [(⟨x4, x2.a, x2.b, x2.c, x2.d⟩ : FollD)]), cG 8 a5 a11 9 a7 a12 a13 10 a9 a14 11 v2 v4, .row 80 5 0 [[i6 x4, vi .u64 x2.a, vi .u64 x2.b, vi .u64 x2.c, vi .u64 x2.d]]]
abbrev L25_0_2_c0 (x2 : FollD) (x3 : Nat) (x4 : Int) : List (Nat × Hint) := [(249, .d true), (256, .v (.ro (eFoll x2))), (259, .v (.rp 6 0 1 x3 0)), (260, .v (i6 x4)), (264, .v (.ro (eFoll x2)))]
theorem L25_0_2_ok (v1 : Int) (v2 : Nat) (v3 : List FollD) (v4 : Nat) {r : E_L25_0_2 ⊕ (Int × Nat × (List FollD) × Nat)} (h : L25_0_2 a1 a2 a3 v1 v2 v3 v4 = some r) : OkR (fun e => L25_0_2_x a1 a2 a3 a4 a5 a6 a7 a8 a9 a10 a11 a12 a13 a14 e (L25_0_2_e a1 a2 a3 a4 a5 a6 a7 a8 a9 a10 a11 a12 a13 a14 v1 v2 v3 v4)) (fun s => L25_0_2_e a1 a2 a3 a4 a5 a6 a7 a8 a9 a10 a11 a12 a13 a14 v1 v2 v3 v4 = L25_0_2_e a1 a2 a3 a4 a5 a6 a7 a8 a9 a10 a11 a12 a13 a14 s.1 s.2.1 s.2.2.1 s.2.2.2) r := by
 unfold L25_0_2 at h
 refine bi h ?_ ?_ <;> intro h1 h
 ·
  refine bn h fun x2 h2 h => ?_
  refine bn h fun x3 h3 h => ?_
  have q3 := ((idx_sl h3) : idxA 1 (.sl 6 0 1 0 a1) (i6 x2.sort) = some (.rp 6 0 1 x3 0))
  refine bn h fun x4 h4 h => ?_
  have q4 := ((ld_row rfl h4 rfl) : ldA (L25_0_2_d0 a2 a3 a4 a5 a6 a7 a8 a9 a10 a11 a12 a13 a14 v2 v3 v4) .false 1 (.rp 6 0 1 x3 0) = some (i6 x4))
  refine bi h ?_ ?_ <;> intro h5 h
  ·
   have q7 := ((idx_sl h3) : idxA 1 (.sl 6 0 1 0 a1) (i6 x2.sort) = some (.rp 6 0 1 x3 0))
   have q8 := ((ld_row rfl h4 rfl) : ldA (L25_0_2_d0 a2 a3 a4 a5 a6 a7 a8 a9 a10 a11 a12 a13 a14 v2 v3 v4) .false 1 (.rp 6 0 1 x3 0) = some (i6 x4))
   refine bi h ?_ ?_ <;> intro h6 h
   ·
    refine bi h ?_ ?_ <;> intro h7 h
    ·
     rw [← sj h]
     exact rnd ([(236, .v (i6 (lW a2))), (237, .d true), (244, .v (.ro (eFoll x2))), (247, .v (.rp 6 0 1 x3 0)), (248, .v (i6 x4))] ++ ((L25_0_2_c0 x2 x3 x4) ++ [(269, .r (.sl 11 v2 5 0 (v4 + 1)) (L25_0_2_d1 a2 a3 a4 a5 a6 a7 a8 a9 a10 a11 a12 a13 a14 v2 v3 v4 x4 x2)), (6000, .d true)])) (apc (lg a2.follow eFoll 5) (av h1 (apc (ig eFoll 5 .i64 h2) (apc q3 (apc q4 (av h5 (apc (ig eFoll 5 .i64 h2) (apc q7 (apc q8 (apc (ig eFoll 5 .i64 h2) (apc ((ap_in (e := eFoll) (xs := v3) (news := [(⟨x4, x2.a, x2.b, x2.c, x2.d⟩ : FollD)]) rfl (rows_x (e := eFoll) (xs := [(⟨x4, x2.a, x2.b, x2.c, x2.d⟩ : FollD)]) rfl) rfl h6 h7) : appA (L25_0_2_d2 a2 a3 a4 a5 a6 a7 a8 a9 a10 a11 a12 a13 a14 v2 v3 v4 x4 x2) 80 5 40 (.sl 11 v2 5 0 v4) (.sl 13 0 5 0 1) = some ((.sl 11 v2 5 0 (v4 + 1)), L25_0_2_d1 a2 a3 a4 a5 a6 a7 a8 a9 a10 a11 a12 a13 a14 v2 v3 v4 x4 x2)) (apc ((oK (ac (ar (ar (ar (ar (ac (ar (ar (ar (ar (ar (ar (ac rfl)))))))))))))) : okT 13 [bG a2, yS0, yP0, yF0, yW0, cG 1 0 0 2 0 0 0 3 0 0 4 0 0, yI 0 a3, yI 0 a4, yS a5 a6, yP a7 a8, yF a9 a10, yW v2 (splice v3 v4 [(⟨x4, x2.a, x2.b, x2.c, x2.d⟩ : FollD)]), .cells 27 [.sl 8 a5 1 0 a11, .sl 9 a7 7 0 a12, i6 a13, .sl 10 a9 3 0 a14, (.sl 11 v2 5 0 (v4 + 1))], .row 80 5 0 [[i6 x4, vi .u64 x2.a, vi .u64 x2.b, vi .u64 x2.c, vi .u64 x2.d]]] = true) apn)))))))))))) (by kernel_rfl)
    ·
     rw [← sj h]
     exact rnd ([(236, .v (i6 (lW a2))), (237, .d true), (244, .v (.ro (eFoll x2))), (247, .v (.rp 6 0 1 x3 0)), (248, .v (i6 x4))] ++ ((L25_0_2_c0 x2 x3 x4) ++ [(269, .r (.sl 11 (v2 + 1) 5 0 (v4 + 1)) (L25_0_2_d3 a2 a3 a4 a5 a6 a7 a8 a9 a10 a11 a12 a13 a14 v2 v3 v4 x4 x2)), (6000, .d true)])) (apc (lg a2.follow eFoll 5) (av h1 (apc (ig eFoll 5 .i64 h2) (apc q3 (apc q4 (av h5 (apc (ig eFoll 5 .i64 h2) (apc q7 (apc q8 (apc (ig eFoll 5 .i64 h2) (apc ((ap_out (e := eFoll) (xs := v3) (news := [(⟨x4, x2.a, x2.b, x2.c, x2.d⟩ : FollD)]) rfl (rows_x (e := eFoll) (xs := [(⟨x4, x2.a, x2.b, x2.c, x2.d⟩ : FollD)]) rfl) rfl h6 h7) : appA (L25_0_2_d2 a2 a3 a4 a5 a6 a7 a8 a9 a10 a11 a12 a13 a14 v2 v3 v4 x4 x2) 80 5 40 (.sl 11 v2 5 0 v4) (.sl 13 0 5 0 1) = some ((.sl 11 (v2 + 1) 5 0 (v4 + 1)), L25_0_2_d3 a2 a3 a4 a5 a6 a7 a8 a9 a10 a11 a12 a13 a14 v2 v3 v4 x4 x2)) (apc ((oK (ac (ar (ar (ar (ar (ac (ar (ar (ar (ar (ar (ar (ac rfl)))))))))))))) : okT 13 [bG a2, yS0, yP0, yF0, yW0, cG 1 0 0 2 0 0 0 3 0 0 4 0 0, yI 0 a3, yI 0 a4, yS a5 a6, yP a7 a8, yF a9 a10, yW (v2 + 1) (v3.take v4 ++ [(⟨x4, x2.a, x2.b, x2.c, x2.d⟩ : FollD)]), .cells 27 [.sl 8 a5 1 0 a11, .sl 9 a7 7 0 a12, i6 a13, .sl 10 a9 3 0 a14, (.sl 11 (v2 + 1) 5 0 (v4 + 1))], .row 80 5 0 [[i6 x4, vi .u64 x2.a, vi .u64 x2.b, vi .u64 x2.c, vi .u64 x2.d]]] = true) apn)))))))))))) (by kernel_rfl)
   ·
    cases h
  ·
   rw [← sj h]
   exact rnd [(236, .v (i6 (lW a2))), (237, .d true), (244, .v (.ro (eFoll x2))), (247, .v (.rp 6 0 1 x3 0)), (248, .v (i6 x4)), (249, .d false), (6000, .d true)] (apc (lg a2.follow eFoll 5) (av h1 (apc (ig eFoll 5 .i64 h2) (apc q3 (apc q4 (av h5 (apc ((oK (ac (ar (ar (ar (ar (ac (ar (ar (ar (ar (ar (ar (ac rfl)))))))))))))) : okT 13 (L25_0_2_d0 a2 a3 a4 a5 a6 a7 a8 a9 a10 a11 a12 a13 a14 v2 v3 v4) = true) apn))))))) (by kernel_rfl)
 ·
  rw [← sj h]
  exact xbrk [(236, .v (i6 (lW a2))), (237, .d false), (6000, .d true)] (apc (lg a2.follow eFoll 5) (av h1 apn)) (by kernel_rfl)
theorem L25_0_2_run (s0 : Int × Nat × (List FollD) × Nat) (e : E_L25_0_2) (h : runL (fun s => L25_0_2 a1 a2 a3 s.1 s.2.1 s.2.2.1 s.2.2.2) s0 = some e) : L25_0_2_x a1 a2 a3 a4 a5 a6 a7 a8 a9 a10 a11 a12 a13 a14 e (L25_0_2_e a1 a2 a3 a4 a5 a6 a7 a8 a9 a10 a11 a12 a13 a14 s0.1 s0.2.1 s0.2.2.1 s0.2.2.2) := by
  have q := @loop_sound' (Int × Nat × (List FollD) × Nat) E_L25_0_2 (fun s => L25_0_2 a1 a2 a3 s.1 s.2.1 s.2.2.1 s.2.2.2) (fun s => L25_0_2_e a1 a2 a3 a4 a5 a6 a7 a8 a9 a10 a11 a12 a13 a14 s.1 s.2.1 s.2.2.1 s.2.2.2) (L25_0_2_x a1 a2 a3 a4 a5 a6 a7 a8 a9 a10 a11 a12 a13 a14) (fun s r h => L25_0_2_ok a1 a2 a3 a4 a5 a6 a7 a8 a9 a10 a11 a12 a13 a14 s.1 s.2.1 s.2.2.1 s.2.2.2 h) s0 e h
  exact q
end
inductive R_F25 where
  | k0 (x0 : List ByteArray) (x1 : List ProdD) (x2 : Int) (x3 : List ForbD) (x4 : List FollD)
  | k1
def F25_v (a1 : GramD) (r : R_F25) : AV := match r with | .k0 x0 x1 x2 x3 x4 => (.tup [aH x0 x1 x2 x3 x4, vb true]) | .k1 => (.tup [(.agg [n0, n0, i6 0, n0, n0]), vb false])
def F25 (a1 : GramD) : Option R_F25 :=
  ((F39 a1).bind fun x1 => ((getI x1 a1.start).bind fun x2 => (bif x2 then ((F39 a1).bind fun x4 => ((F40_2 a1).bind fun x5 => (bif (mkOk (a1.sorts.length : Int) 8) then (bif (mkOk (a1.prods.length : Int) 8) then ((runL (fun s => L25_5 x4 x5 (Int.toNat (a1.sorts.length : Int)) a1 s.1 s.2.1 s.2.2.1 s.2.2.2.1 s.2.2.2.2) (0, (List.replicate (Int.toNat (a1.sorts.length : Int)) 0), 0, [], 0)).bind fun r8 => match r8 with | .k0 x8_0 x8_1 x8_2 x8_3 => ((ixN (Int.toNat (a1.sorts.length : Int)) a1.start).bind fun x9 => ((x8_0[x9]?).bind fun x10 => ((runL (fun s => L25_4 x4 x5 (Int.toNat (a1.sorts.length : Int)) (Int.toNat (a1.prods.length : Int)) a1 x8_0 s.1 s.2.1 s.2.2.1 s.2.2.2.1 s.2.2.2.2) (0, (List.replicate (Int.toNat (a1.prods.length : Int)) 0), 0, [], 0)).bind fun r11 => match r11 with | .k0 x11_0 x11_1 x11_2 x11_3 => ((runL (fun s => L25_1_2 (Int.toNat (a1.prods.length : Int)) a1 x11_0 s.1 s.2.1 s.2.2.1 s.2.2.2) (0, 0, [], 0)).bind fun r12 => match r12 with | .k0 x12_0 x12_1 x12_2 => ((runL (fun s => L25_0_2 (Int.toNat (a1.sorts.length : Int)) a1 x8_0 s.1 s.2.1 s.2.2.1 s.2.2.2) (0, 0, [], 0)).bind fun r13 => match r13 with | .k0 x13_0 x13_1 x13_2 => (bif (decide (x8_3 ≤ x8_2.length)) then (bif (decide (x11_3 ≤ x11_2.length)) then (bif (decide (x12_2 ≤ x12_1.length)) then (bif (decide (x13_2 ≤ x13_1.length)) then (some (.k0 (x8_2.take x8_3) (x11_2.take x11_3) x10 (x12_1.take x12_2) (x13_1.take x13_2))) else none) else none) else none) else none))))))) else none) else none))) else (some (.k1)))))
abbrev F25_d0 (a1 : GramD) : List AB := [bG a1, yS0, yP0, yF0, yW0, cG 1 0 0 2 0 0 0 3 0 0 4 0 0]
abbrev F25_d1 (g8 : Nat → AV) (x4 x5 : List Bool) (a1 : GramD) (x8_0 : List Int) (x8_1 : Nat) (x8_2 : List ByteArray) (x8_3 : Nat) : St := ⟨fr 272 g8 [(1, .ptr 0 0), (2, .ptr 5 0), (4, ls 1 eBool x4), (5, ls 1 eBool x5), (6, (.sl 6 0 1 0 (tS a1))), (7, (.sl 7 0 1 0 (tP a1))), (8, .ptr 12 0)], [bG a1, yS0, yP0, yF0, yW0, cG 1 0 0 2 0 0 0 3 0 0 4 0 0, yI 0 x8_0, yI 0 (List.replicate (tP a1) 0), yS x8_1 x8_2, yP0, yF0, yW0, cG 8 x8_1 x8_3 9 0 0 0 10 0 0 11 0 0]⟩
abbrev F25_d2 (g11 : Nat → AV) (x4 x5 : List Bool) (a1 : GramD) (x8_0 x11_0 : List Int) (x8_1 : Nat) (x8_2 : List ByteArray) (x11_1 : Nat) (x11_2 : List ProdD) (x8_3 x11_3 : Nat) (x10 : Int) : St := ⟨fr 272 g11 [(1, .ptr 0 0), (2, .ptr 5 0), (4, ls 1 eBool x4), (5, ls 1 eBool x5), (6, (.sl 6 0 1 0 (tS a1))), (7, (.sl 7 0 1 0 (tP a1))), (8, .ptr 12 0)], [bG a1, yS0, yP0, yF0, yW0, cG 1 0 0 2 0 0 0 3 0 0 4 0 0, yI 0 x8_0, yI 0 x11_0, yS x8_1 x8_2, yP x11_1 x11_2, yF0, yW0, cG 8 x8_1 x8_3 9 x11_1 x11_3 x10 10 0 0 11 0 0]⟩
abbrev F25_d3 (g12 : Nat → AV) (a1 : GramD) (x8_0 x11_0 : List Int) (x8_1 : Nat) (x8_2 : List ByteArray) (x11_1 : Nat) (x11_2 : List ProdD) (x12_0 : Nat) (x12_1 : List ForbD) (x8_3 x11_3 : Nat) (x10 : Int) (x12_2 : Nat) : St := ⟨fr 272 g12 [(1, .ptr 0 0), (2, .ptr 5 0), (6, (.sl 6 0 1 0 (tS a1))), (7, (.sl 7 0 1 0 (tP a1))), (8, .ptr 12 0)], [bG a1, yS0, yP0, yF0, yW0, cG 1 0 0 2 0 0 0 3 0 0 4 0 0, yI 0 x8_0, yI 0 x11_0, yS x8_1 x8_2, yP x11_1 x11_2, yF x12_0 x12_1, yW0, cG 8 x8_1 x8_3 9 x11_1 x11_3 x10 10 x12_0 x12_2 11 0 0]⟩
abbrev F25_d4 (g13 : Nat → AV) (a1 : GramD) (x8_0 x11_0 : List Int) (x8_1 : Nat) (x8_2 : List ByteArray) (x11_1 : Nat) (x11_2 : List ProdD) (x12_0 : Nat) (x12_1 : List ForbD) (x13_0 : Nat) (x13_1 : List FollD) (x8_3 x11_3 : Nat) (x10 : Int) (x12_2 x13_2 : Nat) : St := ⟨fr 272 g13 [(1, .ptr 0 0), (2, .ptr 5 0), (6, (.sl 6 0 1 0 (tS a1))), (8, .ptr 12 0)], [bG a1, yS0, yP0, yF0, yW0, cG 1 0 0 2 0 0 0 3 0 0 4 0 0, yI 0 x8_0, yI 0 x11_0, yS x8_1 x8_2, yP x11_1 x11_2, yF x12_0 x12_1, yW x13_0 x13_1, cG 8 x8_1 x8_3 9 x11_1 x11_3 x10 10 x12_0 x12_2 11 x13_0 x13_2]⟩
abbrev F25_c0 (a1 : GramD) : List (Nat × Hint) := [(34, .r (.sl 6 0 1 0 (tS a1)) [yI 0 (List.replicate (tS a1) 0)]), (37, .v (i6 (lP a1)))]
abbrev F25_c1 (a1 : GramD) : List (Nat × Hint) := [(38, .r (.sl 7 0 1 0 (tP a1)) [yI 0 (List.replicate (tP a1) 0)])]
abbrev F25_c2 (g8 : Nat → AV) (x4 x5 : List Bool) (a1 : GramD) (x8_0 : List Int) (x8_1 : Nat) (x8_2 : List ByteArray) (x8_3 : Nat) : List (Nat × Hint) := [(2000, .l (.brk 0) (F25_d1 g8 x4 x5 a1 x8_0 x8_1 x8_2 x8_3))]
abbrev F25_c3 (g11 : Nat → AV) (x4 x5 : List Bool) (a1 : GramD) (x8_0 x11_0 : List Int) (x8_1 : Nat) (x8_2 : List ByteArray) (x11_1 : Nat) (x11_2 : List ProdD) (x8_3 x11_3 : Nat) (x10 : Int) : List (Nat × Hint) := [(2002, .l (.brk 2) (F25_d2 g11 x4 x5 a1 x8_0 x11_0 x8_1 x8_2 x11_1 x11_2 x8_3 x11_3 x10))]
abbrev F25_c4 (g12 : Nat → AV) (a1 : GramD) (x8_0 x11_0 : List Int) (x8_1 : Nat) (x8_2 : List ByteArray) (x11_1 : Nat) (x11_2 : List ProdD) (x12_0 : Nat) (x12_1 : List ForbD) (x8_3 x11_3 : Nat) (x10 : Int) (x12_2 : Nat) : List (Nat × Hint) := [(2008, .l (.brk 8) (F25_d3 g12 a1 x8_0 x11_0 x8_1 x8_2 x11_1 x11_2 x12_0 x12_1 x8_3 x11_3 x10 x12_2))]
abbrev F25_c5 (g13 : Nat → AV) (a1 : GramD) (x8_0 x11_0 : List Int) (x8_1 : Nat) (x8_2 : List ByteArray) (x11_1 : Nat) (x11_2 : List ProdD) (x12_0 : Nat) (x12_1 : List ForbD) (x13_0 : Nat) (x13_1 : List FollD) (x8_3 x11_3 : Nat) (x10 : Int) (x12_2 x13_2 : Nat) : List (Nat × Hint) := [(2010, .l (.brk 10) (F25_d4 g13 a1 x8_0 x11_0 x8_1 x8_2 x11_1 x11_2 x12_0 x12_1 x13_0 x13_1 x8_3 x11_3 x10 x12_2 x13_2))]
theorem F25_ok (a1 : GramD) {r : R_F25} (h : F25 a1 = some r) : PR1 prg 25 [aG a1] (F25_v a1 r) := by
 unfold F25 at h
 refine bn h fun x1 h1 h => ?_
 have q0 := (((F39_ok a1 h1).cp rfl _) : CP prg 39 [aG a1] (F25_d0 a1) = some (ls 1 eBool x1))
 refine bn h fun x2 h2 h => ?_
 refine bi h ?_ ?_ <;> intro h3 h
 ·
  refine bn h fun x4 h4 h => ?_
  have q3 := (((F39_ok a1 h4).cp rfl _) : CP prg 39 [aG a1] (F25_d0 a1) = some (ls 1 eBool x4))
  refine bn h fun x5 h5 h => ?_
  have q4 := (((F40_2_ok a1 h5).cp rfl _) : CP prg 40 [aG a1, vb true] (F25_d0 a1) = some (ls 1 eBool x5))
  refine bi h ?_ ?_ <;> intro h6 h
  ·
   have q6 := ((mk_row (e := eI64) (z := 0) h6 rfl) : mkA 3 1 8 [.val (.int .i64 0)] (i6 (lS a1)) (i6 (lS a1)) 6 = some ((.sl 6 0 1 0 (tS a1)), yI 0 (List.replicate (tS a1) 0)))
   refine bi h ?_ ?_ <;> intro h7 h
   ·
    have q8 := ((mk_row (e := eI64) (z := 0) h7 rfl) : mkA 3 1 8 [.val (.int .i64 0)] (i6 (lP a1)) (i6 (lP a1)) 7 = some ((.sl 7 0 1 0 (tP a1)), yI 0 (List.replicate (tP a1) 0)))
    refine bn h fun r8 h8 h => ?_
    cases r8 with
    | k0 x8_0 x8_1 x8_2 x8_3 =>
     obtain ⟨g8, e8⟩ := L25_5_run x4 x5 (tS a1) (tP a1) a1 (List.replicate (tP a1) 0) (0, (List.replicate (tS a1) 0), 0, [], 0) _ h8
     have q9 := ((oK (ac (ar (ar (ar (ar (ac (ar (ar (ar (ar (ar (ar (ac rfl)))))))))))))) : okT 13 [bG a1, yS0, yP0, yF0, yW0, cG 1 0 0 2 0 0 0 3 0 0 4 0 0, yI 0 (List.replicate (tS a1) 0), yI 0 (List.replicate (tP a1) 0), yS0, yP0, yF0, yW0, cG 8 0 0 9 0 0 0 10 0 0 11 0 0] = true)
     have q10 := (e8 : L25_5_e x4 x5 (tS a1) (tP a1) a1 (List.replicate (tP a1) 0) 0 (List.replicate (tS a1) 0) 0 ([]) 0 = some ((.brk 0), F25_d1 g8 x4 x5 a1 x8_0 x8_1 x8_2 x8_3))
     refine bn h fun x9 h9 h => ?_
     have q11 := ((idx_sl h9) : idxA 1 (.sl 6 0 1 0 (tS a1)) (i6 a1.start) = some (.rp 6 0 1 x9 0))
     refine bn h fun x10 h10 h => ?_
     have q12 := ((ld_row rfl h10 rfl) : ldA [bG a1, yS0, yP0, yF0, yW0, cG 1 0 0 2 0 0 0 3 0 0 4 0 0, yI 0 x8_0, yI 0 (List.replicate (tP a1) 0), yS x8_1 x8_2, yP0, yF0, yW0, cG 8 x8_1 x8_3 9 0 0 0 10 0 0 11 0 0] .false 1 (.rp 6 0 1 x9 0) = some (i6 x10))
     refine bn h fun r11 h11 h => ?_
     cases r11 with
     | k0 x11_0 x11_1 x11_2 x11_3 =>
      obtain ⟨g11, e11⟩ := L25_4_run x4 x5 (tS a1) (tP a1) a1 x8_0 x8_1 x8_2 x8_3 x10 (0, (List.replicate (tP a1) 0), 0, [], 0) _ h11
      have q13 := ((oK (ac (ar (ar (ar (ar (ac (ar (ar (ar (ar (ar (ar (ac rfl)))))))))))))) : okT 13 [bG a1, yS0, yP0, yF0, yW0, cG 1 0 0 2 0 0 0 3 0 0 4 0 0, yI 0 x8_0, yI 0 (List.replicate (tP a1) 0), yS x8_1 x8_2, yP0, yF0, yW0, cG 8 x8_1 x8_3 9 0 0 x10 10 0 0 11 0 0] = true)
      have q14 := (e11 : L25_4_e x4 x5 (tS a1) (tP a1) a1 x8_0 x8_1 x8_2 x8_3 x10 0 (List.replicate (tP a1) 0) 0 ([]) 0 = some ((.brk 2), F25_d2 g11 x4 x5 a1 x8_0 x11_0 x8_1 x8_2 x11_1 x11_2 x8_3 x11_3 x10))
      refine bn h fun r12 h12 h => ?_
      cases r12 with
      | k0 x12_0 x12_1 x12_2 =>
       obtain ⟨g12, e12⟩ := L25_1_2_run (tS a1) (tP a1) a1 x8_0 x11_0 x8_1 x8_2 x11_1 x11_2 x8_3 x11_3 x10 (0, 0, [], 0) _ h12
       have q15 := ((oK (ac (ar (ar (ar (ar (ac (ar (ar (ar (ar (ar (ar (ac rfl)))))))))))))) : okT 13 [bG a1, yS0, yP0, yF0, yW0, cG 1 0 0 2 0 0 0 3 0 0 4 0 0, yI 0 x8_0, yI 0 x11_0, yS x8_1 x8_2, yP x11_1 x11_2, yF0, yW0, cG 8 x8_1 x8_3 9 x11_1 x11_3 x10 10 0 0 11 0 0] = true)
       have q16 := (e12 : L25_1_2_e (tS a1) (tP a1) a1 x8_0 x11_0 x8_1 x8_2 x11_1 x11_2 x8_3 x11_3 x10 0 0 ([]) 0 = some ((.brk 8), F25_d3 g12 a1 x8_0 x11_0 x8_1 x8_2 x11_1 x11_2 x12_0 x12_1 x8_3 x11_3 x10 x12_2))
       refine bn h fun r13 h13 h => ?_
       cases r13 with
       | k0 x13_0 x13_1 x13_2 =>
        obtain ⟨g13, e13⟩ := L25_0_2_run (tS a1) a1 x8_0 x11_0 x8_1 x8_2 x11_1 x11_2 x12_0 x12_1 x8_3 x11_3 x10 x12_2 (0, 0, [], 0) _ h13
        have q17 := ((oK (ac (ar (ar (ar (ar (ac (ar (ar (ar (ar (ar (ar (ac rfl)))))))))))))) : okT 13 [bG a1, yS0, yP0, yF0, yW0, cG 1 0 0 2 0 0 0 3 0 0 4 0 0, yI 0 x8_0, yI 0 x11_0, yS x8_1 x8_2, yP x11_1 x11_2, yF x12_0 x12_1, yW0, cG 8 x8_1 x8_3 9 x11_1 x11_3 x10 10 x12_0 x12_2 11 0 0] = true)
        have q18 := (e13 : L25_0_2_e (tS a1) a1 x8_0 x11_0 x8_1 x8_2 x11_1 x11_2 x12_0 x12_1 x8_3 x11_3 x10 x12_2 0 0 ([]) 0 = some ((.brk 10), F25_d4 g13 a1 x8_0 x11_0 x8_1 x8_2 x11_1 x11_2 x12_0 x12_1 x13_0 x13_1 x8_3 x11_3 x10 x12_2 x13_2))
        refine bi h ?_ ?_ <;> intro h14 h
        ·
         refine bi h ?_ ?_ <;> intro h15 h
         ·
          refine bi h ?_ ?_ <;> intro h16 h
          ·
           refine bi h ?_ ?_ <;> intro h17 h
           ·
            rw [← sj h]
            exact fpo (v := (.tup [(.agg [.sl 8 x8_1 1 0 x8_3, .sl 9 x11_1 7 0 x11_3, i6 x10, .sl 10 x12_0 3 0 x12_2, .sl 11 x13_0 5 0 x13_2]), vb true])) (h' := [bG a1, yS0, yP0, yF0, yW0, cG 8 x8_1 x8_3 9 x11_1 x11_3 x10 10 x12_0 x12_2 11 x13_0 x13_2, yI 0 x8_0, yI 0 x11_0, yS x8_1 x8_2, yP x11_1 x11_2, yF x12_0 x12_1, yW x13_0 x13_1, cG 8 x8_1 x8_3 9 x11_1 x11_3 x10 10 x12_0 x12_2 11 x13_0 x13_2]) ([(20, .v (ls 1 eBool x1)), (23, .v (.ro [.val (.bool x2)])), (24, .d true), (28, .v (ls 1 eBool x4)), (30, .v (ls 1 eBool x5)), (33, .v (i6 (lS a1)))] ++ ((F25_c0 a1) ++ ((F25_c1 a1) ++ ((F25_c2 g8 x4 x5 a1 x8_0 x8_1 x8_2 x8_3) ++ ([(78, .v (.rp 6 0 1 x9 0)), (79, .v (i6 x10))] ++ ((F25_c3 g11 x4 x5 a1 x8_0 x11_0 x8_1 x8_2 x11_1 x11_2 x8_3 x11_3 x10) ++ ((F25_c4 g12 a1 x8_0 x11_0 x8_1 x8_2 x11_1 x11_2 x12_0 x12_1 x8_3 x11_3 x10 x12_2) ++ ((F25_c5 g13 a1 x8_0 x11_0 x8_1 x8_2 x11_1 x11_2 x12_0 x12_1 x13_0 x13_1 x8_3 x11_3 x10 x12_2 x13_2) ++ [(6000, .d true)])))))))) (apc q0 (apc (ig eBool 1 .i64 h2) (av h3 (apc q3 (apc q4 (apc (lg a1.sorts eStr 1) (apc q6 (apc (lg a1.prods eProd 7) (apc q8 (apc q9 (apc q10 (apc q11 (apc q12 (apc q13 (apc q14 (apc q15 (apc q16 (apc q17 (apc q18 apn))))))))))))))))))) (purA_tup (purAs_cons (purA_agg (purAs_cons (purA_sl (e := eStr) rfl h14) (purAs_cons (purA_sl (e := eProd) rfl h15) (purAs_cons rfl (purAs_cons (purA_sl (e := eForb) rfl h16) (purAs_cons (purA_sl (e := eFoll) rfl h17) purAs_nil)))))) (purAs_cons rfl purAs_nil))) (by kernel_rfl)
           ·
            cases h
          ·
           cases h
         ·
          cases h
        ·
         cases h
   ·
    cases h
  ·
   cases h
 ·
  rw [← sj h]
  exact fpr [(20, .v (ls 1 eBool x1)), (23, .v (.ro [.val (.bool x2)])), (24, .d false)] (apc q0 (apc (ig eBool 1 .i64 h2) (av h3 apn))) rfl (by kernel_rfl)
inductive E_L41_0_2 where
  | k0
section
def L41_0_2 : Option (E_L41_0_2 ⊕ (Unit)) :=
  (some (.inl (.k0)))
def L41_0_2_s : St := ⟨fr 55 ug [(1, .ptr 0 0), (3, .mp 1), (8, n0), (9, i6 0), (10, i6 0)], [.cells 27 [n0, n0, i6 0, n0, n0], .map []]⟩
abbrev L41_0_2_e := evH prg 2 [1, 3, 8, 9, 10] ir41_l0 (L41_0_2_s)
def L41_0_2_x (e : E_L41_0_2) (r : Option (Out × St)) : Prop := match e with | .k0 => ∃ g, r = some ((.brk 0), ⟨fr 55 g [(1, .ptr 0 0), (8, n0)], [.cells 27 [n0, n0, i6 0, n0, n0], .map []]⟩)
theorem L41_0_2_ok {r : E_L41_0_2 ⊕ (Unit)} (h : L41_0_2 = some r) : OkR (fun e => L41_0_2_x e (L41_0_2_e)) (fun s => L41_0_2_e = L41_0_2_e) r := by
 unfold L41_0_2 at h
 rw [← sj h]
 exact xbrk [(6000, .d true)] apn (by kernel_rfl)
theorem L41_0_2_run (s0 : Unit) (e : E_L41_0_2) (h : runL (fun s => L41_0_2) s0 = some e) : L41_0_2_x e (L41_0_2_e) := by
  have q := @loop_sound' (Unit) E_L41_0_2 (fun s => L41_0_2) (fun s => L41_0_2_e) (L41_0_2_x) (fun s r h => L41_0_2_ok h) s0 e h
  exact q
end
inductive R_F41_2 where
  | k0
def F41_2_v (r : R_F41_2) : AV := match r with | .k0 => (vb false)
def F41_2 : Option R_F41_2 :=
  ((runL (fun s => L41_0_2) ()).bind fun r1 => match r1 with | .k0 => (some (.k0)))
abbrev F41_2_d0 (g1 : Nat → AV) : St := ⟨fr 55 g1 [(1, .ptr 0 0), (8, n0)], [.cells 27 [n0, n0, i6 0, n0, n0], .map []]⟩
theorem F41_2_ok {r : R_F41_2} (h : F41_2 = some r) : PR1 prg 41 [(.agg [n0, n0, i6 0, n0, n0])] (F41_2_v r) := by
 unfold F41_2 at h
 refine bn h fun r1 h1 h => ?_
 cases r1 with
 | k0 =>
  obtain ⟨g1, e1⟩ := L41_0_2_run () _ h1
  rw [← sj h]
  exact fpr [(2000, .l (.brk 0) (F41_2_d0 g1)), (6000, .d true)] (apc ((oK (ac (ac rfl))) : okT 2 [.cells 27 [n0, n0, i6 0, n0, n0], .map []] = true) (apc (e1 : L41_0_2_e = some ((.brk 0), F41_2_d0 g1)) apn)) rfl (by kernel_rfl)
inductive E_L15_0_2 where
  | k0
section
def L15_0_2 : Option (E_L15_0_2 ⊕ (Unit)) :=
  ((F41_2).bind fun r1 => match r1 with | .k0 => (some (.inl (.k0))))
def L15_0_2_s : St := ⟨fr 14 ug [(1, .ptr 0 0), (5, (.agg [(.fn 41 []), (.fn 42 []), (.fn 43 []), (.fn 44 [])])), (6, i6 0)], [.cells 27 [n0, n0, i6 0, n0, n0]]⟩
abbrev L15_0_2_e := evH prg 1 [1, 5, 6] ir15_l0 (L15_0_2_s)
def L15_0_2_x (e : E_L15_0_2) (r : Option (Out × St)) : Prop := match e with | .k0 => ∃ g y, r = some (.ret, ⟨fr 14 g [(2, i6 160)], y⟩)
theorem L15_0_2_ok {r : E_L15_0_2 ⊕ (Unit)} (h : L15_0_2 = some r) : OkR (fun e => L15_0_2_x e (L15_0_2_e)) (fun s => L15_0_2_e = L15_0_2_e) r := by
 unfold L15_0_2 at h
 refine bn h fun r1 h1 h => ?_
 cases r1 with
 | k0 =>
  rw [← sj h]
  exact xretY [(11, .v (vb false)), (6000, .d true)] (apc (((F41_2_ok  h1).cp rfl _) : CP prg 41 [(.agg [n0, n0, i6 0, n0, n0])] [.cells 27 [n0, n0, i6 0, n0, n0]] = some (vb false)) apn) (by kernel_rfl)
theorem L15_0_2_run (s0 : Unit) (e : E_L15_0_2) (h : runL (fun s => L15_0_2) s0 = some e) : L15_0_2_x e (L15_0_2_e) := by
  have q := @loop_sound' (Unit) E_L15_0_2 (fun s => L15_0_2) (fun s => L15_0_2_e) (L15_0_2_x) (fun s r h => L15_0_2_ok h) s0 e h
  exact q
end
inductive R_F15_2 where
  | k0
def F15_2_v (r : R_F15_2) : AV := match r with | .k0 => (i6 160)
def F15_2 : Option R_F15_2 :=
  ((runL (fun s => L15_0_2) ()).bind fun r1 => match r1 with | .k0 => (some (.k0)))
theorem F15_2_ok {r : R_F15_2} (h : F15_2 = some r) : PR1 prg 15 [(.agg [n0, n0, i6 0, n0, n0])] (F15_2_v r) := by
 unfold F15_2 at h
 refine bn h fun r1 h1 h => ?_
 cases r1 with
 | k0 =>
  obtain ⟨g1, y1, e1⟩ := L15_0_2_run () _ h1
  rw [← sj h]
  exact fpr [(2000, .l .ret ⟨fr 14 g1 [(2, i6 160)], y1⟩), (6000, .d true)] (apc ((oK (ac rfl)) : okT 1 [.cells 27 [n0, n0, i6 0, n0, n0]] = true) (apc (e1 : L15_0_2_e = some (.ret, ⟨fr 14 g1 [(2, i6 160)], y1⟩)) apn)) rfl (by kernel_rfl)
inductive R_F13_2 where
  | k0
def F13_2_v (r : R_F13_2) : AV := match r with | .k0 => (.tup [i6 160, i6 0])
def F13_2 : Option R_F13_2 :=
  ((F15_2).bind fun r1 => match r1 with | .k0 => (some (.k0)))
theorem F13_2_ok {r : R_F13_2} (h : F13_2 = some r) : PR1 prg 13 [(.agg [n0, n0, i6 0, n0, n0])] (F13_2_v r) := by
 unfold F13_2 at h
 refine bn h fun r1 h1 h => ?_
 cases r1 with
 | k0 =>
  rw [← sj h]
  exact fpr [(8, .v (i6 160))] (apc (((F15_2_ok  h1).cp rfl _) : CP prg 15 [(.agg [n0, n0, i6 0, n0, n0])] [.cells 27 [n0, n0, i6 0, n0, n0]] = some (i6 160)) apn) rfl (by kernel_rfl)
inductive R_F24_2 where
  | k0
def F24_2_v (r : R_F24_2) : AV := match r with | .k0 => (.tup [(.agg [n0, n0, i6 0, n0, n0]), i6 160])
def F24_2 : Option R_F24_2 :=
  ((F15_2).bind fun r1 => match r1 with | .k0 => (some (.k0)))
theorem F24_2_ok {r : R_F24_2} (h : F24_2 = some r) : PR1 prg 24 [(.agg [n0, n0, i6 0, n0, n0])] (F24_2_v r) := by
 unfold F24_2 at h
 refine bn h fun r1 h1 h => ?_
 cases r1 with
 | k0 =>
  rw [← sj h]
  exact fpr [(25, .v (i6 160))] (apc (((F15_2_ok  h1).cp rfl _) : CP prg 15 [(.agg [n0, n0, i6 0, n0, n0])] [.cells 27 [n0, n0, i6 0, n0, n0], yS0, yP0, yF0, yW0, cG 1 0 0 2 0 0 0 3 0 0 4 0 0] = some (i6 160)) apn) rfl (by kernel_rfl)
inductive E_L18_4_3 where
  | k0
section
variable (a1 : GramD)
def L18_4_3 : Option (E_L18_4_3 ⊕ (Unit)) :=
  (some (.inl (.k0)))
def L18_4_3_s : St := ⟨fr 191 ug [(2, .ptr 0 0), (3, .ptr 1 0), (5, i6 0)], [.cells 27 [n0, n0, i6 0, n0, n0], bG a1]⟩
abbrev L18_4_3_e := evH prg 2 [2, 3, 5] ir18_l4 (L18_4_3_s a1)
def L18_4_3_x (e : E_L18_4_3) (r : Option (Out × St)) : Prop := match e with | .k0 => ∃ g, r = some ((.brk 0), ⟨fr 191 g [(2, .ptr 0 0), (3, .ptr 1 0)], [.cells 27 [n0, n0, i6 0, n0, n0], bG a1]⟩)
theorem L18_4_3_ok {r : E_L18_4_3 ⊕ (Unit)} (h : L18_4_3 = some r) : OkR (fun e => L18_4_3_x a1 e (L18_4_3_e a1)) (fun s => L18_4_3_e a1 = L18_4_3_e a1) r := by
 unfold L18_4_3 at h
 rw [← sj h]
 exact xbrk [(6000, .d true)] apn (by kernel_rfl)
theorem L18_4_3_run (s0 : Unit) (e : E_L18_4_3) (h : runL (fun s => L18_4_3) s0 = some e) : L18_4_3_x a1 e (L18_4_3_e a1) := by
  have q := @loop_sound' (Unit) E_L18_4_3 (fun s => L18_4_3) (fun s => L18_4_3_e a1) (L18_4_3_x a1) (fun s r h => L18_4_3_ok a1 h) s0 e h
  exact q
end
inductive E_L18_3_3 where
  | k0
section
variable (a1 : GramD)
def L18_3_3 : Option (E_L18_3_3 ⊕ (Unit)) :=
  (some (.inl (.k0)))
def L18_3_3_s : St := ⟨fr 191 ug [(2, .ptr 0 0), (3, .ptr 1 0), (6, i6 0)], [.cells 27 [n0, n0, i6 0, n0, n0], bG a1]⟩
abbrev L18_3_3_e := evH prg 2 [2, 3, 6] ir18_l3 (L18_3_3_s a1)
def L18_3_3_x (e : E_L18_3_3) (r : Option (Out × St)) : Prop := match e with | .k0 => ∃ g, r = some ((.brk 2), ⟨fr 191 g [(2, .ptr 0 0), (3, .ptr 1 0)], [.cells 27 [n0, n0, i6 0, n0, n0], bG a1]⟩)
theorem L18_3_3_ok {r : E_L18_3_3 ⊕ (Unit)} (h : L18_3_3 = some r) : OkR (fun e => L18_3_3_x a1 e (L18_3_3_e a1)) (fun s => L18_3_3_e a1 = L18_3_3_e a1) r := by
 unfold L18_3_3 at h
 rw [← sj h]
 exact xbrk [(6000, .d true)] apn (by kernel_rfl)
theorem L18_3_3_run (s0 : Unit) (e : E_L18_3_3) (h : runL (fun s => L18_3_3) s0 = some e) : L18_3_3_x a1 e (L18_3_3_e a1) := by
  have q := @loop_sound' (Unit) E_L18_3_3 (fun s => L18_3_3) (fun s => L18_3_3_e a1) (L18_3_3_x a1) (fun s r h => L18_3_3_ok a1 h) s0 e h
  exact q
end
inductive E_L18_1_3 where
  | k0
section
variable (a1 : GramD)
def L18_1_3 : Option (E_L18_1_3 ⊕ (Unit)) :=
  (some (.inl (.k0)))
def L18_1_3_s : St := ⟨fr 191 ug [(2, .ptr 0 0), (3, .ptr 1 0), (10, i6 0)], [.cells 27 [n0, n0, i6 0, n0, n0], bG a1]⟩
abbrev L18_1_3_e := evH prg 2 [2, 3, 10] ir18_l1 (L18_1_3_s a1)
def L18_1_3_x (e : E_L18_1_3) (r : Option (Out × St)) : Prop := match e with | .k0 => ∃ g, r = some ((.brk 6), ⟨fr 191 g [(2, .ptr 0 0), (3, .ptr 1 0)], [.cells 27 [n0, n0, i6 0, n0, n0], bG a1]⟩)
theorem L18_1_3_ok {r : E_L18_1_3 ⊕ (Unit)} (h : L18_1_3 = some r) : OkR (fun e => L18_1_3_x a1 e (L18_1_3_e a1)) (fun s => L18_1_3_e a1 = L18_1_3_e a1) r := by
 unfold L18_1_3 at h
 rw [← sj h]
 exact xbrk [(6000, .d true)] apn (by kernel_rfl)
theorem L18_1_3_run (s0 : Unit) (e : E_L18_1_3) (h : runL (fun s => L18_1_3) s0 = some e) : L18_1_3_x a1 e (L18_1_3_e a1) := by
  have q := @loop_sound' (Unit) E_L18_1_3 (fun s => L18_1_3) (fun s => L18_1_3_e a1) (L18_1_3_x a1) (fun s r h => L18_1_3_ok a1 h) s0 e h
  exact q
end
inductive E_L18_0_3 where
  | k0
section
variable (a1 : GramD)
def L18_0_3 : Option (E_L18_0_3 ⊕ (Unit)) :=
  (some (.inl (.k0)))
def L18_0_3_s : St := ⟨fr 191 ug [(2, .ptr 0 0), (3, .ptr 1 0), (11, i6 0)], [.cells 27 [n0, n0, i6 0, n0, n0], bG a1]⟩
abbrev L18_0_3_e := evH prg 2 [2, 3, 11] ir18_l0 (L18_0_3_s a1)
def L18_0_3_x (e : E_L18_0_3) (r : Option (Out × St)) : Prop := match e with | .k0 => ∃ g, r = some ((.brk 8), ⟨fr 191 g [(2, .ptr 0 0), (3, .ptr 1 0)], [.cells 27 [n0, n0, i6 0, n0, n0], bG a1]⟩)
theorem L18_0_3_ok {r : E_L18_0_3 ⊕ (Unit)} (h : L18_0_3 = some r) : OkR (fun e => L18_0_3_x a1 e (L18_0_3_e a1)) (fun s => L18_0_3_e a1 = L18_0_3_e a1) r := by
 unfold L18_0_3 at h
 rw [← sj h]
 exact xbrk [(6000, .d true)] apn (by kernel_rfl)
theorem L18_0_3_run (s0 : Unit) (e : E_L18_0_3) (h : runL (fun s => L18_0_3) s0 = some e) : L18_0_3_x a1 e (L18_0_3_e a1) := by
  have q := @loop_sound' (Unit) E_L18_0_3 (fun s => L18_0_3) (fun s => L18_0_3_e a1) (L18_0_3_x a1) (fun s r h => L18_0_3_ok a1 h) s0 e h
  exact q
end
def F18_3_v (a1 : GramD) (x0 : Bool) : AV := (vb x0)
def F18_3 (a1 : GramD) : Option Bool :=
  (bif (0 != a1.start) then (some false) else (bif (0 != (a1.sorts.length : Int)) then (some false) else (bif (0 != (a1.prods.length : Int)) then (some false) else (bif (0 != (a1.forbid.length : Int)) then (some false) else (bif (0 != (a1.follow.length : Int)) then (some false) else ((runL (fun s => L18_4_3) ()).bind fun r6 => match r6 with | .k0 => ((runL (fun s => L18_3_3) ()).bind fun r7 => match r7 with | .k0 => ((runL (fun s => L18_1_3) ()).bind fun r8 => match r8 with | .k0 => ((runL (fun s => L18_0_3) ()).bind fun r9 => match r9 with | .k0 => (some true))))))))))
abbrev F18_3_d0 (g6 : Nat → AV) (a1 : GramD) : St := ⟨fr 191 g6 [(2, .ptr 0 0), (3, .ptr 1 0)], [.cells 27 [n0, n0, i6 0, n0, n0], bG a1]⟩
abbrev F18_3_d1 (g7 : Nat → AV) (a1 : GramD) : St := ⟨fr 191 g7 [(2, .ptr 0 0), (3, .ptr 1 0)], [.cells 27 [n0, n0, i6 0, n0, n0], bG a1]⟩
abbrev F18_3_d2 (g8 : Nat → AV) (a1 : GramD) : St := ⟨fr 191 g8 [(2, .ptr 0 0), (3, .ptr 1 0)], [.cells 27 [n0, n0, i6 0, n0, n0], bG a1]⟩
abbrev F18_3_d3 (g9 : Nat → AV) (a1 : GramD) : St := ⟨fr 191 g9 [(2, .ptr 0 0), (3, .ptr 1 0)], [.cells 27 [n0, n0, i6 0, n0, n0], bG a1]⟩
abbrev F18_3_d4 (a1 : GramD) : List AB := [.cells 27 [n0, n0, i6 0, n0, n0], bG a1]
theorem F18_3_ok (a1 : GramD) {r : Bool} (h : F18_3 a1 = some r) : PR1 prg 18 [(.agg [n0, n0, i6 0, n0, n0]), aG a1] (F18_3_v a1 r) := by
 unfold F18_3 at h
 refine bi h ?_ ?_ <;> intro h1 h
 ·
  rw [← sj h]
  exact fpr [(16, .d true)] (av h1 apn) rfl (by kernel_rfl)
 ·
  refine bi h ?_ ?_ <;> intro h2 h
  ·
   rw [← sj h]
   exact fpr [(16, .d false), (23, .v (i6 (lS a1))), (24, .d true)] (av h1 (apc (lg a1.sorts eStr 1) (av h2 apn))) rfl (by kernel_rfl)
  ·
   refine bi h ?_ ?_ <;> intro h3 h
   ·
    rw [← sj h]
    exact fpr [(16, .d false), (23, .v (i6 (lS a1))), (24, .d false), (32, .v (i6 (lP a1))), (33, .d true)] (av h1 (apc (lg a1.sorts eStr 1) (av h2 (apc (lg a1.prods eProd 7) (av h3 apn))))) rfl (by kernel_rfl)
   ·
    refine bi h ?_ ?_ <;> intro h4 h
    ·
     rw [← sj h]
     exact fpr [(16, .d false), (23, .v (i6 (lS a1))), (24, .d false), (32, .v (i6 (lP a1))), (33, .d false), (41, .v (i6 (lF a1))), (42, .d true)] (av h1 (apc (lg a1.sorts eStr 1) (av h2 (apc (lg a1.prods eProd 7) (av h3 (apc (lg a1.forbid eForb 3) (av h4 apn))))))) rfl (by kernel_rfl)
    ·
     refine bi h ?_ ?_ <;> intro h5 h
     ·
      rw [← sj h]
      exact fpr [(16, .d false), (23, .v (i6 (lS a1))), (24, .d false), (32, .v (i6 (lP a1))), (33, .d false), (41, .v (i6 (lF a1))), (42, .d false), (50, .v (i6 (lW a1))), (51, .d true)] (av h1 (apc (lg a1.sorts eStr 1) (av h2 (apc (lg a1.prods eProd 7) (av h3 (apc (lg a1.forbid eForb 3) (av h4 (apc (lg a1.follow eFoll 5) (av h5 apn))))))))) rfl (by kernel_rfl)
     ·
      refine bn h fun r6 h6 h => ?_
      cases r6 with
      | k0 =>
       obtain ⟨g6, e6⟩ := L18_4_3_run a1 () _ h6
       refine bn h fun r7 h7 h => ?_
       cases r7 with
       | k0 =>
        obtain ⟨g7, e7⟩ := L18_3_3_run a1 () _ h7
        refine bn h fun r8 h8 h => ?_
        cases r8 with
        | k0 =>
         obtain ⟨g8, e8⟩ := L18_1_3_run a1 () _ h8
         refine bn h fun r9 h9 h => ?_
         cases r9 with
         | k0 =>
          obtain ⟨g9, e9⟩ := L18_0_3_run a1 () _ h9
          rw [← sj h]
          exact fpr [(16, .d false), (23, .v (i6 (lS a1))), (24, .d false), (32, .v (i6 (lP a1))), (33, .d false), (41, .v (i6 (lF a1))), (42, .d false), (50, .v (i6 (lW a1))), (51, .d false), (2000, .l (.brk 0) (F18_3_d0 g6 a1)), (2002, .l (.brk 2) (F18_3_d1 g7 a1)), (2006, .l (.brk 6) (F18_3_d2 g8 a1)), (2008, .l (.brk 8) (F18_3_d3 g9 a1)), (6000, .d true)] (av h1 (apc (lg a1.sorts eStr 1) (av h2 (apc (lg a1.prods eProd 7) (av h3 (apc (lg a1.forbid eForb 3) (av h4 (apc (lg a1.follow eFoll 5) (av h5 (apc ((oK (ac (ac rfl))) : okT 2 (F18_3_d4 a1) = true) (apc (e6 : L18_4_3_e a1 = some ((.brk 0), F18_3_d0 g6 a1)) (apc ((oK (ac (ac rfl))) : okT 2 (F18_3_d4 a1) = true) (apc (e7 : L18_3_3_e a1 = some ((.brk 2), F18_3_d1 g7 a1)) (apc ((oK (ac (ac rfl))) : okT 2 (F18_3_d4 a1) = true) (apc (e8 : L18_1_3_e a1 = some ((.brk 6), F18_3_d2 g8 a1)) (apc ((oK (ac (ac rfl))) : okT 2 (F18_3_d4 a1) = true) (apc (e9 : L18_0_3_e a1 = some ((.brk 8), F18_3_d3 g9 a1)) apn))))))))))))))))) rfl (by kernel_rfl)
inductive E_L18_4_4 where
  | k0
section
variable (a1 : GramD)
def L18_4_4 : Option (E_L18_4_4 ⊕ (Unit)) :=
  (bif (decide (0 < (a1.sorts.length : Int))) then ((getI a1.sorts 0).bind fun x2 => none) else (some (.inl (.k0))))
def L18_4_4_s : St := ⟨fr 191 ug [(2, .ptr 0 0), (3, .ptr 1 0), (5, i6 0)], [bG a1, .cells 27 [n0, n0, i6 0, n0, n0]]⟩
abbrev L18_4_4_e := evH prg 2 [2, 3, 5] ir18_l4 (L18_4_4_s a1)
def L18_4_4_x (e : E_L18_4_4) (r : Option (Out × St)) : Prop := match e with | .k0 => ∃ g, r = some ((.brk 0), ⟨fr 191 g [(2, .ptr 0 0), (3, .ptr 1 0)], [bG a1, .cells 27 [n0, n0, i6 0, n0, n0]]⟩)
theorem L18_4_4_ok {r : E_L18_4_4 ⊕ (Unit)} (h : L18_4_4 a1 = some r) : OkR (fun e => L18_4_4_x a1 e (L18_4_4_e a1)) (fun s => L18_4_4_e a1 = L18_4_4_e a1) r := by
 unfold L18_4_4 at h
 refine bi h ?_ ?_ <;> intro h1 h
 ·
  refine bn h fun x2 h2 h => ?_
  cases h
 ·
  rw [← sj h]
  exact xbrk [(56, .v (i6 (lS a1))), (57, .d false), (6000, .d true)] (apc (lg a1.sorts eStr 1) (av h1 apn)) (by kernel_rfl)
theorem L18_4_4_run (s0 : Unit) (e : E_L18_4_4) (h : runL (fun s => L18_4_4 a1) s0 = some e) : L18_4_4_x a1 e (L18_4_4_e a1) := by
  have q := @loop_sound' (Unit) E_L18_4_4 (fun s => L18_4_4 a1) (fun s => L18_4_4_e a1) (L18_4_4_x a1) (fun s r h => L18_4_4_ok a1 h) s0 e h
  exact q
end
inductive E_L18_3_4 where
  | k0
section
variable (a1 : GramD)
def L18_3_4 : Option (E_L18_3_4 ⊕ (Unit)) :=
  (bif (decide (0 < (a1.prods.length : Int))) then ((getI a1.prods 0).bind fun x2 => none) else (some (.inl (.k0))))
def L18_3_4_s : St := ⟨fr 191 ug [(2, .ptr 0 0), (3, .ptr 1 0), (6, i6 0)], [bG a1, .cells 27 [n0, n0, i6 0, n0, n0]]⟩
abbrev L18_3_4_e := evH prg 2 [2, 3, 6] ir18_l3 (L18_3_4_s a1)
def L18_3_4_x (e : E_L18_3_4) (r : Option (Out × St)) : Prop := match e with | .k0 => ∃ g, r = some ((.brk 2), ⟨fr 191 g [(2, .ptr 0 0), (3, .ptr 1 0)], [bG a1, .cells 27 [n0, n0, i6 0, n0, n0]]⟩)
theorem L18_3_4_ok {r : E_L18_3_4 ⊕ (Unit)} (h : L18_3_4 a1 = some r) : OkR (fun e => L18_3_4_x a1 e (L18_3_4_e a1)) (fun s => L18_3_4_e a1 = L18_3_4_e a1) r := by
 unfold L18_3_4 at h
 refine bi h ?_ ?_ <;> intro h1 h
 ·
  refine bn h fun x2 h2 h => ?_
  cases h
 ·
  rw [← sj h]
  exact xbrk [(74, .v (i6 (lP a1))), (75, .d false), (6000, .d true)] (apc (lg a1.prods eProd 7) (av h1 apn)) (by kernel_rfl)
theorem L18_3_4_run (s0 : Unit) (e : E_L18_3_4) (h : runL (fun s => L18_3_4 a1) s0 = some e) : L18_3_4_x a1 e (L18_3_4_e a1) := by
  have q := @loop_sound' (Unit) E_L18_3_4 (fun s => L18_3_4 a1) (fun s => L18_3_4_e a1) (L18_3_4_x a1) (fun s r h => L18_3_4_ok a1 h) s0 e h
  exact q
end
inductive E_L18_1_4 where
  | k0
section
variable (a1 : GramD)
def L18_1_4 : Option (E_L18_1_4 ⊕ (Unit)) :=
  (bif (decide (0 < (a1.forbid.length : Int))) then ((getI a1.forbid 0).bind fun x2 => none) else (some (.inl (.k0))))
def L18_1_4_s : St := ⟨fr 191 ug [(2, .ptr 0 0), (3, .ptr 1 0), (10, i6 0)], [bG a1, .cells 27 [n0, n0, i6 0, n0, n0]]⟩
abbrev L18_1_4_e := evH prg 2 [2, 3, 10] ir18_l1 (L18_1_4_s a1)
def L18_1_4_x (e : E_L18_1_4) (r : Option (Out × St)) : Prop := match e with | .k0 => ∃ g, r = some ((.brk 6), ⟨fr 191 g [(2, .ptr 0 0), (3, .ptr 1 0)], [bG a1, .cells 27 [n0, n0, i6 0, n0, n0]]⟩)
theorem L18_1_4_ok {r : E_L18_1_4 ⊕ (Unit)} (h : L18_1_4 a1 = some r) : OkR (fun e => L18_1_4_x a1 e (L18_1_4_e a1)) (fun s => L18_1_4_e a1 = L18_1_4_e a1) r := by
 unfold L18_1_4 at h
 refine bi h ?_ ?_ <;> intro h1 h
 ·
  refine bn h fun x2 h2 h => ?_
  cases h
 ·
  rw [← sj h]
  exact xbrk [(158, .v (i6 (lF a1))), (159, .d false), (6000, .d true)] (apc (lg a1.forbid eForb 3) (av h1 apn)) (by kernel_rfl)
theorem L18_1_4_run (s0 : Unit) (e : E_L18_1_4) (h : runL (fun s => L18_1_4 a1) s0 = some e) : L18_1_4_x a1 e (L18_1_4_e a1) := by
  have q := @loop_sound' (Unit) E_L18_1_4 (fun s => L18_1_4 a1) (fun s => L18_1_4_e a1) (L18_1_4_x a1) (fun s r h => L18_1_4_ok a1 h) s0 e h
  exact q
end
inductive E_L18_0_4 where
  | k0
section
variable (a1 : GramD)
def L18_0_4 : Option (E_L18_0_4 ⊕ (Unit)) :=
  (bif (decide (0 < (a1.follow.length : Int))) then ((getI a1.follow 0).bind fun x2 => none) else (some (.inl (.k0))))
def L18_0_4_s : St := ⟨fr 191 ug [(2, .ptr 0 0), (3, .ptr 1 0), (11, i6 0)], [bG a1, .cells 27 [n0, n0, i6 0, n0, n0]]⟩
abbrev L18_0_4_e := evH prg 2 [2, 3, 11] ir18_l0 (L18_0_4_s a1)
def L18_0_4_x (e : E_L18_0_4) (r : Option (Out × St)) : Prop := match e with | .k0 => ∃ g, r = some ((.brk 8), ⟨fr 191 g [(2, .ptr 0 0), (3, .ptr 1 0)], [bG a1, .cells 27 [n0, n0, i6 0, n0, n0]]⟩)
theorem L18_0_4_ok {r : E_L18_0_4 ⊕ (Unit)} (h : L18_0_4 a1 = some r) : OkR (fun e => L18_0_4_x a1 e (L18_0_4_e a1)) (fun s => L18_0_4_e a1 = L18_0_4_e a1) r := by
 unfold L18_0_4 at h
 refine bi h ?_ ?_ <;> intro h1 h
 ·
  refine bn h fun x2 h2 h => ?_
  cases h
 ·
  rw [← sj h]
  exact xbrk [(176, .v (i6 (lW a1))), (177, .d false), (6000, .d true)] (apc (lg a1.follow eFoll 5) (av h1 apn)) (by kernel_rfl)
theorem L18_0_4_run (s0 : Unit) (e : E_L18_0_4) (h : runL (fun s => L18_0_4 a1) s0 = some e) : L18_0_4_x a1 e (L18_0_4_e a1) := by
  have q := @loop_sound' (Unit) E_L18_0_4 (fun s => L18_0_4 a1) (fun s => L18_0_4_e a1) (L18_0_4_x a1) (fun s r h => L18_0_4_ok a1 h) s0 e h
  exact q
end
def F18_4_v (a1 : GramD) (x0 : Bool) : AV := (vb x0)
def F18_4 (a1 : GramD) : Option Bool :=
  (bif (a1.start != 0) then (some false) else (bif ((a1.sorts.length : Int) != 0) then (some false) else (bif ((a1.prods.length : Int) != 0) then (some false) else (bif ((a1.forbid.length : Int) != 0) then (some false) else (bif ((a1.follow.length : Int) != 0) then (some false) else ((runL (fun s => L18_4_4 a1) ()).bind fun r6 => match r6 with | .k0 => ((runL (fun s => L18_3_4 a1) ()).bind fun r7 => match r7 with | .k0 => ((runL (fun s => L18_1_4 a1) ()).bind fun r8 => match r8 with | .k0 => ((runL (fun s => L18_0_4 a1) ()).bind fun r9 => match r9 with | .k0 => (some true))))))))))
abbrev F18_4_d0 (g6 : Nat → AV) (a1 : GramD) : St := ⟨fr 191 g6 [(2, .ptr 0 0), (3, .ptr 1 0)], [bG a1, .cells 27 [n0, n0, i6 0, n0, n0]]⟩
abbrev F18_4_d1 (g7 : Nat → AV) (a1 : GramD) : St := ⟨fr 191 g7 [(2, .ptr 0 0), (3, .ptr 1 0)], [bG a1, .cells 27 [n0, n0, i6 0, n0, n0]]⟩
abbrev F18_4_d2 (g8 : Nat → AV) (a1 : GramD) : St := ⟨fr 191 g8 [(2, .ptr 0 0), (3, .ptr 1 0)], [bG a1, .cells 27 [n0, n0, i6 0, n0, n0]]⟩
abbrev F18_4_d3 (g9 : Nat → AV) (a1 : GramD) : St := ⟨fr 191 g9 [(2, .ptr 0 0), (3, .ptr 1 0)], [bG a1, .cells 27 [n0, n0, i6 0, n0, n0]]⟩
abbrev F18_4_d4 (a1 : GramD) : List AB := [bG a1, .cells 27 [n0, n0, i6 0, n0, n0]]
theorem F18_4_ok (a1 : GramD) {r : Bool} (h : F18_4 a1 = some r) : PR1 prg 18 [aG a1, (.agg [n0, n0, i6 0, n0, n0])] (F18_4_v a1 r) := by
 unfold F18_4 at h
 refine bi h ?_ ?_ <;> intro h1 h
 ·
  rw [← sj h]
  exact fpr [(16, .d true)] (av h1 apn) rfl (by kernel_rfl)
 ·
  refine bi h ?_ ?_ <;> intro h2 h
  ·
   rw [← sj h]
   exact fpr [(16, .d false), (20, .v (i6 (lS a1))), (24, .d true)] (av h1 (apc (lg a1.sorts eStr 1) (av h2 apn))) rfl (by kernel_rfl)
  ·
   refine bi h ?_ ?_ <;> intro h3 h
   ·
    rw [← sj h]
    exact fpr [(16, .d false), (20, .v (i6 (lS a1))), (24, .d false), (29, .v (i6 (lP a1))), (33, .d true)] (av h1 (apc (lg a1.sorts eStr 1) (av h2 (apc (lg a1.prods eProd 7) (av h3 apn))))) rfl (by kernel_rfl)
   ·
    refine bi h ?_ ?_ <;> intro h4 h
    ·
     rw [← sj h]
     exact fpr [(16, .d false), (20, .v (i6 (lS a1))), (24, .d false), (29, .v (i6 (lP a1))), (33, .d false), (38, .v (i6 (lF a1))), (42, .d true)] (av h1 (apc (lg a1.sorts eStr 1) (av h2 (apc (lg a1.prods eProd 7) (av h3 (apc (lg a1.forbid eForb 3) (av h4 apn))))))) rfl (by kernel_rfl)
    ·
     refine bi h ?_ ?_ <;> intro h5 h
     ·
      rw [← sj h]
      exact fpr [(16, .d false), (20, .v (i6 (lS a1))), (24, .d false), (29, .v (i6 (lP a1))), (33, .d false), (38, .v (i6 (lF a1))), (42, .d false), (47, .v (i6 (lW a1))), (51, .d true)] (av h1 (apc (lg a1.sorts eStr 1) (av h2 (apc (lg a1.prods eProd 7) (av h3 (apc (lg a1.forbid eForb 3) (av h4 (apc (lg a1.follow eFoll 5) (av h5 apn))))))))) rfl (by kernel_rfl)
     ·
      refine bn h fun r6 h6 h => ?_
      cases r6 with
      | k0 =>
       obtain ⟨g6, e6⟩ := L18_4_4_run a1 () _ h6
       refine bn h fun r7 h7 h => ?_
       cases r7 with
       | k0 =>
        obtain ⟨g7, e7⟩ := L18_3_4_run a1 () _ h7
        refine bn h fun r8 h8 h => ?_
        cases r8 with
        | k0 =>
         obtain ⟨g8, e8⟩ := L18_1_4_run a1 () _ h8
         refine bn h fun r9 h9 h => ?_
         cases r9 with
         | k0 =>
          obtain ⟨g9, e9⟩ := L18_0_4_run a1 () _ h9
          rw [← sj h]
          exact fpr [(16, .d false), (20, .v (i6 (lS a1))), (24, .d false), (29, .v (i6 (lP a1))), (33, .d false), (38, .v (i6 (lF a1))), (42, .d false), (47, .v (i6 (lW a1))), (51, .d false), (2000, .l (.brk 0) (F18_4_d0 g6 a1)), (2002, .l (.brk 2) (F18_4_d1 g7 a1)), (2006, .l (.brk 6) (F18_4_d2 g8 a1)), (2008, .l (.brk 8) (F18_4_d3 g9 a1)), (6000, .d true)] (av h1 (apc (lg a1.sorts eStr 1) (av h2 (apc (lg a1.prods eProd 7) (av h3 (apc (lg a1.forbid eForb 3) (av h4 (apc (lg a1.follow eFoll 5) (av h5 (apc ((oK (ac (ac rfl))) : okT 2 (F18_4_d4 a1) = true) (apc (e6 : L18_4_4_e a1 = some ((.brk 0), F18_4_d0 g6 a1)) (apc ((oK (ac (ac rfl))) : okT 2 (F18_4_d4 a1) = true) (apc (e7 : L18_3_4_e a1 = some ((.brk 2), F18_4_d1 g7 a1)) (apc ((oK (ac (ac rfl))) : okT 2 (F18_4_d4 a1) = true) (apc (e8 : L18_1_4_e a1 = some ((.brk 6), F18_4_d2 g8 a1)) (apc ((oK (ac (ac rfl))) : okT 2 (F18_4_d4 a1) = true) (apc (e9 : L18_0_4_e a1 = some ((.brk 8), F18_4_d3 g9 a1)) apn))))))))))))))))) rfl (by kernel_rfl)
inductive E_L35_0 where
  | k0 (x0 : Int)
  | k1
section
variable (a1 : List Bool) (a2 : Int)
def L35_0 (v1 : Int) : Option (E_L35_0 ⊕ (Int)) :=
  (bif (decide (v1 < a2)) then ((getI a1 v1).bind fun x2 => (bif ((false == x2) && true) then (some (.inl (.k0 v1))) else (some (.inr ((IntKind.wrap .i64 (v1 + 1))))))) else (some (.inl (.k1))))
def L35_0_s (v1 : Int) : St := ⟨fr 19 ug [(0, ls 1 eBool a1), (1, vb false), (7, i6 a2), (8, i6 v1)], []⟩
abbrev L35_0_e (v1 : Int) := evH prg 0 [0, 1, 7, 8] ir35_l0 (L35_0_s a1 a2 v1)
def L35_0_x (e : E_L35_0) (r : Option (Out × St)) : Prop := match e with | .k0 x0 => ∃ g y, r = some (.ret, ⟨fr 19 g [(4, i6 x0)], y⟩) | .k1 => ∃ g, r = some ((.brk 0), ⟨fr 19 g [(0, ls 1 eBool a1)], []⟩)
theorem L35_0_ok (v1 : Int) {r : E_L35_0 ⊕ (Int)} (h : L35_0 a1 a2 v1 = some r) : OkR (fun e => L35_0_x a1 e (L35_0_e a1 a2 v1)) (fun s => L35_0_e a1 a2 v1 = L35_0_e a1 a2 s) r := by
 unfold L35_0 at h
 refine bi h ?_ ?_ <;> intro h1 h
 ·
  refine bn h fun x2 h2 h => ?_
  refine bi h ?_ ?_ <;> intro h3 h
  ·
   rw [← sj h]
   exact xretY [(9, .d true), (14, .v (.ro [.val (.bool x2)])), (16, .d true), (6000, .d true)] (av h1 (apc (ig eBool 1 .i64 h2) (av h3 apn))) (by kernel_rfl)
  ·
   rw [← sj h]
   exact rnd [(9, .d true), (14, .v (.ro [.val (.bool x2)])), (16, .d false), (6000, .d true)] (av h1 (apc (ig eBool 1 .i64 h2) (av h3 (apc ((oK rfl) : okT 0 [] = true) apn)))) (by kernel_rfl)
 ·
  rw [← sj h]
  exact xbrk [(9, .d false), (6000, .d true)] (av h1 apn) (by kernel_rfl)
theorem L35_0_run (s0 : Int) (e : E_L35_0) (h : runL (fun s => L35_0 a1 a2 s) s0 = some e) : L35_0_x a1 e (L35_0_e a1 a2 s0) := by
  have q := @loop_sound' (Int) E_L35_0 (fun s => L35_0 a1 a2 s) (fun s => L35_0_e a1 a2 s) (L35_0_x a1) (fun s r h => L35_0_ok a1 a2 s h) s0 e h
  exact q
end
def F35_v (a1 : List Bool) (x0 : Int) : AV := (i6 x0)
def F35 (a1 : List Bool) : Option Int :=
  ((runL (fun s => L35_0 a1 (a1.length : Int) s) 0).bind fun r1 => match r1 with | .k0 x1_0 => (some x1_0) | .k1 => (some (-1)))
theorem F35_ok (a1 : List Bool) {r : Int} (h : F35 a1 = some r) : PR1 prg 35 [ls 1 eBool a1, vb false] (F35_v a1 r) := by
 unfold F35 at h
 refine bn h fun r1 h1 h => ?_
 cases r1 with
 | k0 x1_0 =>
  obtain ⟨g1, y1, e1⟩ := L35_0_run a1 (a1.length : Int) 0 _ h1
  rw [← sj h]
  exact fpr [(7, .v (i6 (a1.length : Int))), (2000, .l .ret ⟨fr 19 g1 [(4, i6 x1_0)], y1⟩), (6000, .d true)] (apc (lg a1 eBool 1) (apc ((oK rfl) : okT 0 [] = true) (apc (e1 : L35_0_e a1 (a1.length : Int) 0 = some (.ret, ⟨fr 19 g1 [(4, i6 x1_0)], y1⟩)) apn))) rfl (by kernel_rfl)
 | k1 =>
  obtain ⟨g1, e1⟩ := L35_0_run a1 (a1.length : Int) 0 _ h1
  rw [← sj h]
  exact fpr [(7, .v (i6 (a1.length : Int))), (2000, .l (.brk 0) ⟨fr 19 g1 [(0, ls 1 eBool a1)], []⟩), (6000, .d true)] (apc (lg a1 eBool 1) (apc ((oK rfl) : okT 0 [] = true) (apc (e1 : L35_0_e a1 (a1.length : Int) 0 = some ((.brk 0), ⟨fr 19 g1 [(0, ls 1 eBool a1)], []⟩)) apn))) rfl (by kernel_rfl)
def F65_2_v (a1 : Int) (a2 : GramD) (a3 : Nat) (a4 : List Bool) (a5 : Nat) (a6 : List Bool) (a7 : Nat) (a8 : List Bool) (a9 : Nat) (x0 : (List Bool)) : AV := (.tup [])
def F65_2_h (a1 : Int) (a2 : GramD) (a3 : Nat) (a4 : List Bool) (a5 : Nat) (a6 : List Bool) (a7 : Nat) (a8 : List Bool) (a9 : Nat) (x0 : (List Bool)) : List AB := [bG a2, .cells 86 [(.fn 38 [])], yB a3 a4, yB a5 x0, yB a7 a8, .cells 83 [.sl 3 a5 1 0 a9], .cells 111 [(.fn 65 [.ptr 5 0, .ptr 0 0, .ptr 1 0, .ptr 6 0])]]
abbrev T_F65_2 := Int → GramD → Nat → (List Bool) → Nat → (List Bool) → Nat → (List Bool) → Nat → Option (List Bool)
abbrev H_F65_2 (f : T_F65_2) : Prop := ∀ (a1 : Int) (a2 : GramD) (a3 : Nat) (a4 : List Bool) (a5 : Nat) (a6 : List Bool) (a7 : Nat) (a8 : List Bool) (a9 : Nat) {r : (List Bool)}, f a1 a2 a3 a4 a5 a6 a7 a8 a9 = some r → ∀ hx : List AB, CS prg 65 [i6 a1, .ptr 5 0, .ptr 0 0, .ptr 1 0, .ptr 6 0] ([bG a2, .cells 86 [(.fn 38 [])], yB a3 a4, yB a5 a6, yB a7 a8, .cells 83 [.sl 3 a5 1 0 a9], .cells 111 [(.fn 65 [.ptr 5 0, .ptr 0 0, .ptr 1 0, .ptr 6 0])]] ++ hx) = some (F65_2_v a1 a2 a3 a4 a5 a6 a7 a8 a9 r, F65_2_h a1 a2 a3 a4 a5 a6 a7 a8 a9 r ++ hx)
inductive R_F38 where
  | k0
def F38_v (a1 : ProdD) (r : R_F38) : AV := match r with | .k0 => (vb true)
def F38 : Option R_F38 :=
  (some (.k0))
theorem F38_ok (a1 : ProdD) {r : R_F38} (h : F38 = some r) : PR1 prg 38 [aP a1] (F38_v a1 r) := by
 unfold F38 at h
 rw [← sj h]
 exact fpr [] apn rfl (by kernel_rfl)
inductive E_L65_0_4 where
  | k0 (x0 : List Bool)
def L65_0_4 (rF65_2 : T_F65_2) (a2 : GramD) (a5 : ProdD) (a6 : Int) (a7 : Nat) (a8 : List Bool) (a9 a11 : Nat) (a12 : List Bool) (a13 : Nat) (v1 : Int) (v2 : List Bool) : Option (E_L65_0_4 ⊕ (Int × (List Bool))) :=
  (bif (decide (v1 < a6)) then ((getI a5.right v1).bind fun x2 => (bif (x2.kind == 1) then ((rF65_2 x2.sort a2 a7 a8 a9 v2 a11 a12 a13).bind fun x4 => (some (.inr ((IntKind.wrap .i64 (v1 + 1)), x4)))) else (some (.inr ((IntKind.wrap .i64 (v1 + 1)), v2))))) else (some (.inl (.k0 v2))))
def L65_0_4_s (a1 : Int) (a2 : GramD) (a3 a4 : Int) (a5 : ProdD) (a6 : Int) (a7 : Nat) (a8 : List Bool) (a9 a11 : Nat) (a12 : List Bool) (a13 : Nat) (v1 : Int) (v2 : List Bool) : St := ⟨fr 55 ug [(0, i6 a1), (3, .ptr 1 0), (4, .ptr 6 0), (18, ls 7 eProd a2.prods), (19, i6 a3), (20, i6 a4), (40, ls 6 eSym a5.right), (41, i6 a6), (42, i6 v1)], [bG a2, .cells 86 [(.fn 38 [])], yB a7 a8, yB a9 v2, yB a11 a12, .cells 83 [.sl 3 a9 1 0 a13], .cells 111 [(.fn 65 [.ptr 5 0, .ptr 0 0, .ptr 1 0, .ptr 6 0])], yY0, bP a5]⟩
abbrev L65_0_4_e (a1 : Int) (a2 : GramD) (a3 a4 : Int) (a5 : ProdD) (a6 : Int) (a7 : Nat) (a8 : List Bool) (a9 a11 : Nat) (a12 : List Bool) (a13 : Nat) (v1 : Int) (v2 : List Bool) := evH prg 9 [0, 3, 4, 18, 19, 20, 40, 41, 42] ir65_l0 (L65_0_4_s a1 a2 a3 a4 a5 a6 a7 a8 a9 a11 a12 a13 v1 v2)
def L65_0_4_x (a1 : Int) (a2 : GramD) (a3 a4 : Int) (a5 : ProdD) (a6 : Int) (a7 : Nat) (a8 : List Bool) (a9 a11 : Nat) (a12 : List Bool) (a13 : Nat) (e : E_L65_0_4) (r : Option (Out × St)) : Prop := match e with | .k0 x0 => ∃ g, r = some ((.brk 2), ⟨fr 55 g [(0, i6 a1), (3, .ptr 1 0), (4, .ptr 6 0), (18, ls 7 eProd a2.prods), (19, i6 a3), (20, i6 a4), (40, ls 6 eSym a5.right)], [bG a2, .cells 86 [(.fn 38 [])], yB a7 a8, yB a9 x0, yB a11 a12, .cells 83 [.sl 3 a9 1 0 a13], .cells 111 [(.fn 65 [.ptr 5 0, .ptr 0 0, .ptr 1 0, .ptr 6 0])], yY0, bP a5]⟩)
abbrev L65_0_4_d0 (a2 : GramD) (a7 : Nat) (a8 : List Bool) (a9 : Nat) (x4 : List Bool) (a11 : Nat) (a12 : List Bool) (a13 : Nat) (a5 : ProdD) (x2 : SymD) : List AB := [bG a2, .cells 86 [(.fn 38 [])], yB a7 a8, yB a9 x4, yB a11 a12, .cells 83 [.sl 3 a9 1 0 a13], .cells 111 [(.fn 65 [.ptr 5 0, .ptr 0 0, .ptr 1 0, .ptr 6 0])], yY0, bP a5, .cells 68 ((eSym x2).map .p)]
abbrev L65_0_4_d1 (a2 : GramD) (a7 : Nat) (a8 : List Bool) (a9 : Nat) (v2 : List Bool) (a11 : Nat) (a12 : List Bool) (a13 : Nat) (a5 : ProdD) (x2 : SymD) : List AB := [bG a2, .cells 86 [(.fn 38 [])], yB a7 a8, yB a9 v2, yB a11 a12, .cells 83 [.sl 3 a9 1 0 a13], .cells 111 [(.fn 65 [.ptr 5 0, .ptr 0 0, .ptr 1 0, .ptr 6 0])], yY0, bP a5, .cells 68 ((eSym x2).map .p)]
theorem L65_0_4_ok (rF65_2 : T_F65_2) (hF65_2 : H_F65_2 rF65_2) (a1 : Int) (a2 : GramD) (a3 a4 : Int) (a5 : ProdD) (a6 : Int) (a7 : Nat) (a8 : List Bool) (a9 a11 : Nat) (a12 : List Bool) (a13 : Nat) (v1 : Int) (v2 : List Bool) {r : E_L65_0_4 ⊕ (Int × (List Bool))} (h : L65_0_4 rF65_2 a2 a5 a6 a7 a8 a9 a11 a12 a13 v1 v2 = some r) : OkR (fun e => L65_0_4_x a1 a2 a3 a4 a5 a6 a7 a8 a9 a11 a12 a13 e (L65_0_4_e a1 a2 a3 a4 a5 a6 a7 a8 a9 a11 a12 a13 v1 v2)) (fun s => L65_0_4_e a1 a2 a3 a4 a5 a6 a7 a8 a9 a11 a12 a13 v1 v2 = L65_0_4_e a1 a2 a3 a4 a5 a6 a7 a8 a9 a11 a12 a13 s.1 s.2) r := by
 unfold L65_0_4 at h
 refine bi h ?_ ?_ <;> intro h1 h
 ·
  refine bn h fun x2 h2 h => ?_
  refine bi h ?_ ?_ <;> intro h3 h
  ·
   refine bn h fun x4 h4 h => ?_
   rw [← sj h]
   exact rnd [(43, .d true), (44, .v (.ro (eSym x2))), (48, .d true), (52, .r (.tup []) (L65_0_4_d0 a2 a7 a8 a9 x4 a11 a12 a13 a5 x2)), (6000, .d true)] (av h1 (apc (ig eSym 6 .i64 h2) (av h3 (apc ((hF65_2 x2.sort a2 a7 a8 a9 v2 a11 a12 a13 h4 [yY0, bP a5, .cells 68 ((eSym x2).map .p)]) : CS prg 65 [i6 x2.sort, .ptr 5 0, .ptr 0 0, .ptr 1 0, .ptr 6 0] (L65_0_4_d1 a2 a7 a8 a9 v2 a11 a12 a13 a5 x2) = some ((.tup []), L65_0_4_d0 a2 a7 a8 a9 x4 a11 a12 a13 a5 x2)) (apc ((oK (ac (ac (ar (ar (ar (ac (ac (ar (ac rfl)))))))))) : okT 9 (L65_0_4_d0 a2 a7 a8 a9 x4 a11 a12 a13 a5 x2) = true) apn))))) (by kernel_rfl)
  ·
   rw [← sj h]
   exact rnd [(43, .d true), (44, .v (.ro (eSym x2))), (48, .d false), (6000, .d true)] (av h1 (apc (ig eSym 6 .i64 h2) (av h3 (apc ((oK (ac (ac (ar (ar (ar (ac (ac (ar (ac rfl)))))))))) : okT 9 (L65_0_4_d1 a2 a7 a8 a9 v2 a11 a12 a13 a5 x2) = true) apn)))) (by kernel_rfl)
 ·
  rw [← sj h]
  exact xbrk [(43, .d false), (6000, .d true)] (av h1 apn) (by kernel_rfl)
theorem L65_0_4_run (rF65_2 : T_F65_2) (hF65_2 : H_F65_2 rF65_2) (a1 : Int) (a2 : GramD) (a3 a4 : Int) (a5 : ProdD) (a6 : Int) (a7 : Nat) (a8 : List Bool) (a9 a11 : Nat) (a12 : List Bool) (a13 : Nat) (s0 : Int × (List Bool)) (e : E_L65_0_4) (h : runL (fun s => L65_0_4 rF65_2 a2 a5 a6 a7 a8 a9 a11 a12 a13 s.1 s.2) s0 = some e) : L65_0_4_x a1 a2 a3 a4 a5 a6 a7 a8 a9 a11 a12 a13 e (L65_0_4_e a1 a2 a3 a4 a5 a6 a7 a8 a9 a11 a12 a13 s0.1 s0.2) := by
  have q := @loop_sound' (Int × (List Bool)) E_L65_0_4 (fun s => L65_0_4 rF65_2 a2 a5 a6 a7 a8 a9 a11 a12 a13 s.1 s.2) (fun s => L65_0_4_e a1 a2 a3 a4 a5 a6 a7 a8 a9 a11 a12 a13 s.1 s.2) (L65_0_4_x a1 a2 a3 a4 a5 a6 a7 a8 a9 a11 a12 a13) (fun s r h => L65_0_4_ok rF65_2 hF65_2 a1 a2 a3 a4 a5 a6 a7 a8 a9 a11 a12 a13 s.1 s.2 h) s0 e h
  exact q
inductive E_L65_1_2 where
  | k0 (x0 : List Bool)
def L65_1_2 (rF65_2 : T_F65_2) (a1 : Int) (a2 : GramD) (a3 : Int) (a4 : Nat) (a5 : List Bool) (a6 a8 : Nat) (a9 : List Bool) (a10 : Nat) (v1 : Int) (v2 : List Bool) : Option (E_L65_1_2 ⊕ (Int × (List Bool))) :=
  (bif (decide (v1 < a3)) then ((getI a2.prods v1).bind fun x2 => (bif (x2.left != a1) then (some (.inr ((IntKind.wrap .i64 (v1 + 1)), v2))) else (bif (x2.role == 11) then (some (.inr ((IntKind.wrap .i64 (v1 + 1)), v2))) else ((F38).bind fun r5 => match r5 with | .k0 => ((runL (fun s => L65_0_4 rF65_2 a2 x2 (x2.right.length : Int) a4 a5 a6 a8 a9 a10 s.1 s.2) (0, v2)).bind fun r6 => match r6 with | .k0 x6_0 => (some (.inr ((IntKind.wrap .i64 (v1 + 1)), x6_0)))))))) else (some (.inl (.k0 v2))))
def L65_1_2_s (a1 : Int) (a2 : GramD) (a3 : Int) (a4 : Nat) (a5 : List Bool) (a6 a8 : Nat) (a9 : List Bool) (a10 : Nat) (v1 : Int) (v2 : List Bool) : St := ⟨fr 55 ug [(0, i6 a1), (3, .ptr 1 0), (4, .ptr 6 0), (18, ls 7 eProd a2.prods), (19, i6 a3), (20, i6 v1)], [bG a2, .cells 86 [(.fn 38 [])], yB a4 a5, yB a6 v2, yB a8 a9, .cells 83 [.sl 3 a6 1 0 a10], .cells 111 [(.fn 65 [.ptr 5 0, .ptr 0 0, .ptr 1 0, .ptr 6 0])]]⟩
abbrev L65_1_2_e (a1 : Int) (a2 : GramD) (a3 : Int) (a4 : Nat) (a5 : List Bool) (a6 a8 : Nat) (a9 : List Bool) (a10 : Nat) (v1 : Int) (v2 : List Bool) := evH prg 7 [0, 3, 4, 18, 19, 20] ir65_l1 (L65_1_2_s a1 a2 a3 a4 a5 a6 a8 a9 a10 v1 v2)
def L65_1_2_x (a1 : Int) (a2 : GramD) (a3 : Int) (a4 : Nat) (a5 : List Bool) (a6 a8 : Nat) (a9 : List Bool) (a10 : Nat) (e : E_L65_1_2) (r : Option (Out × St)) : Prop := match e with | .k0 x0 => ∃ g, r = some ((.brk 0), ⟨fr 55 g [(0, i6 a1), (18, ls 7 eProd a2.prods)], [bG a2, .cells 86 [(.fn 38 [])], yB a4 a5, yB a6 x0, yB a8 a9, .cells 83 [.sl 3 a6 1 0 a10], .cells 111 [(.fn 65 [.ptr 5 0, .ptr 0 0, .ptr 1 0, .ptr 6 0])]]⟩)
abbrev L65_1_2_d0 (a2 : GramD) (a4 : Nat) (a5 : List Bool) (a6 : Nat) (v2 : List Bool) (a8 : Nat) (a9 : List Bool) (a10 : Nat) (x2 : ProdD) : List AB := [bG a2, .cells 86 [(.fn 38 [])], yB a4 a5, yB a6 v2, yB a8 a9, .cells 83 [.sl 3 a6 1 0 a10], .cells 111 [(.fn 65 [.ptr 5 0, .ptr 0 0, .ptr 1 0, .ptr 6 0])], yY0, bP x2]
abbrev L65_1_2_d1 (g6 : Nat → AV) (a1 : Int) (a2 : GramD) (a3 v1 : Int) (x2 : ProdD) (a4 : Nat) (a5 : List Bool) (a6 : Nat) (x6_0 : List Bool) (a8 : Nat) (a9 : List Bool) (a10 : Nat) : St := ⟨fr 55 g6 [(0, i6 a1), (3, .ptr 1 0), (4, .ptr 6 0), (18, ls 7 eProd a2.prods), (19, i6 a3), (20, i6 v1), (40, ls 6 eSym x2.right)], [bG a2, .cells 86 [(.fn 38 [])], yB a4 a5, yB a6 x6_0, yB a8 a9, .cells 83 [.sl 3 a6 1 0 a10], .cells 111 [(.fn 65 [.ptr 5 0, .ptr 0 0, .ptr 1 0, .ptr 6 0])], yY0, bP x2]⟩
theorem L65_1_2_ok (rF65_2 : T_F65_2) (hF65_2 : H_F65_2 rF65_2) (a1 : Int) (a2 : GramD) (a3 : Int) (a4 : Nat) (a5 : List Bool) (a6 a8 : Nat) (a9 : List Bool) (a10 : Nat) (v1 : Int) (v2 : List Bool) {r : E_L65_1_2 ⊕ (Int × (List Bool))} (h : L65_1_2 rF65_2 a1 a2 a3 a4 a5 a6 a8 a9 a10 v1 v2 = some r) : OkR (fun e => L65_1_2_x a1 a2 a3 a4 a5 a6 a8 a9 a10 e (L65_1_2_e a1 a2 a3 a4 a5 a6 a8 a9 a10 v1 v2)) (fun s => L65_1_2_e a1 a2 a3 a4 a5 a6 a8 a9 a10 v1 v2 = L65_1_2_e a1 a2 a3 a4 a5 a6 a8 a9 a10 s.1 s.2) r := by
 unfold L65_1_2 at h
 refine bi h ?_ ?_ <;> intro h1 h
 ·
  refine bn h fun x2 h2 h => ?_
  refine bi h ?_ ?_ <;> intro h3 h
  ·
   rw [← sj h]
   exact rnd [(21, .d true), (22, .v (.ro (eProd x2))), (27, .d true), (6000, .d true)] (av h1 (apc (ig eProd 7 .i64 h2) (av h3 (apc ((oK (ac (ac (ar (ar (ar (ac (ac rfl)))))))) : okT 7 (L65_1_2_d0 a2 a4 a5 a6 v2 a8 a9 a10 x2) = true) apn)))) (by kernel_rfl)
  ·
   refine bi h ?_ ?_ <;> intro h4 h
   ·
    rw [← sj h]
    exact rnd [(21, .d true), (22, .v (.ro (eProd x2))), (27, .d false), (31, .d true), (6000, .d true)] (av h1 (apc (ig eProd 7 .i64 h2) (av h3 (av h4 (apc ((oK (ac (ac (ar (ar (ar (ac (ac rfl)))))))) : okT 7 (L65_1_2_d0 a2 a4 a5 a6 v2 a8 a9 a10 x2) = true) apn))))) (by kernel_rfl)
   ·
    refine bn h fun r5 h5 h => ?_
    cases r5 with
    | k0 =>
     refine bn h fun r6 h6 h => ?_
     cases r6 with
     | k0 x6_0 =>
      obtain ⟨g6, e6⟩ := L65_0_4_run rF65_2 hF65_2 a1 a2 a3 v1 x2 (x2.right.length : Int) a4 a5 a6 a8 a9 a10 (0, v2) _ h6
      rw [← sj h]
      exact rnd [(21, .d true), (22, .v (.ro (eProd x2))), (27, .d false), (31, .d false), (36, .v (vb true)), (41, .v (i6 (x2.right.length : Int))), (2002, .l (.brk 2) (L65_1_2_d1 g6 a1 a2 a3 v1 x2 a4 a5 a6 x6_0 a8 a9 a10)), (6000, .d true)] (av h1 (apc (ig eProd 7 .i64 h2) (av h3 (av h4 (apc (((F38_ok x2 h5).cp rfl _) : CP prg 38 [aP x2] (L65_1_2_d0 a2 a4 a5 a6 v2 a8 a9 a10 x2) = some (vb true)) (apc (lg x2.right eSym 6) (apc ((oK (ac (ac (ar (ar (ar (ac (ac (ar (ac rfl)))))))))) : okT 9 (L65_1_2_d0 a2 a4 a5 a6 v2 a8 a9 a10 x2) = true) (apc (e6 : L65_0_4_e a1 a2 a3 v1 x2 (x2.right.length : Int) a4 a5 a6 a8 a9 a10 0 v2 = some ((.brk 2), L65_1_2_d1 g6 a1 a2 a3 v1 x2 a4 a5 a6 x6_0 a8 a9 a10)) (apc ((oK (ac (ac (ar (ar (ar (ac (ac rfl)))))))) : okT 7 [bG a2, .cells 86 [(.fn 38 [])], yB a4 a5, yB a6 x6_0, yB a8 a9, .cells 83 [.sl 3 a6 1 0 a10], .cells 111 [(.fn 65 [.ptr 5 0, .ptr 0 0, .ptr 1 0, .ptr 6 0])], yY0, bP x2] = true) apn))))))))) (by kernel_rfl)
 ·
  rw [← sj h]
  exact xbrk [(21, .d false), (6000, .d true)] (av h1 apn) (by kernel_rfl)
theorem L65_1_2_run (rF65_2 : T_F65_2) (hF65_2 : H_F65_2 rF65_2) (a1 : Int) (a2 : GramD) (a3 : Int) (a4 : Nat) (a5 : List Bool) (a6 a8 : Nat) (a9 : List Bool) (a10 : Nat) (s0 : Int × (List Bool)) (e : E_L65_1_2) (h : runL (fun s => L65_1_2 rF65_2 a1 a2 a3 a4 a5 a6 a8 a9 a10 s.1 s.2) s0 = some e) : L65_1_2_x a1 a2 a3 a4 a5 a6 a8 a9 a10 e (L65_1_2_e a1 a2 a3 a4 a5 a6 a8 a9 a10 s0.1 s0.2) := by
  have q := @loop_sound' (Int × (List Bool)) E_L65_1_2 (fun s => L65_1_2 rF65_2 a1 a2 a3 a4 a5 a6 a8 a9 a10 s.1 s.2) (fun s => L65_1_2_e a1 a2 a3 a4 a5 a6 a8 a9 a10 s.1 s.2) (L65_1_2_x a1 a2 a3 a4 a5 a6 a8 a9 a10) (fun s r h => L65_1_2_ok rF65_2 hF65_2 a1 a2 a3 a4 a5 a6 a8 a9 a10 s.1 s.2 h) s0 e h
  exact q
def F65_2_b (rF65_2 : T_F65_2) (a1 : Int) (a2 : GramD) (a3 : Nat) (a4 : List Bool) (a5 : Nat) (a6 : List Bool) (a7 : Nat) (a8 : List Bool) (a9 : Nat) : Option (List Bool) :=
  ((ixN a9 a1).bind fun x1 => ((a6[x1]?).bind fun x2 => (bif x2 then (some a6) else ((runL (fun s => L65_1_2 rF65_2 a1 a2 (a2.prods.length : Int) a3 a4 a5 a7 a8 a9 s.1 s.2) (0, a6.set x1 true)).bind fun r4 => match r4 with | .k0 x4_0 => (some x4_0)))))
abbrev F65_2_d0 (a2 : GramD) (a3 : Nat) (a4 : List Bool) (a5 : Nat) (a6 : List Bool) (a7 : Nat) (a8 : List Bool) (a9 : Nat) : List AB := [bG a2, .cells 86 [(.fn 38 [])], yB a3 a4, yB a5 a6, yB a7 a8, .cells 83 [.sl 3 a5 1 0 a9], .cells 111 [(.fn 65 [.ptr 5 0, .ptr 0 0, .ptr 1 0, .ptr 6 0])]]
abbrev F65_2_d1 (a2 : GramD) (a3 : Nat) (a4 : List Bool) (a5 : Nat) (a6 : List Bool) (x1 a7 : Nat) (a8 : List Bool) (a9 : Nat) : List AB := [bG a2, .cells 86 [(.fn 38 [])], yB a3 a4, yB a5 (a6.set x1 true), yB a7 a8, .cells 83 [.sl 3 a5 1 0 a9], .cells 111 [(.fn 65 [.ptr 5 0, .ptr 0 0, .ptr 1 0, .ptr 6 0])]]
abbrev F65_2_d2 (g4 : Nat → AV) (a1 : Int) (a2 : GramD) (a3 : Nat) (a4 : List Bool) (a5 : Nat) (x4_0 : List Bool) (a7 : Nat) (a8 : List Bool) (a9 : Nat) : St := ⟨fr 55 g4 [(0, i6 a1), (18, ls 7 eProd a2.prods)], [bG a2, .cells 86 [(.fn 38 [])], yB a3 a4, yB a5 x4_0, yB a7 a8, .cells 83 [.sl 3 a5 1 0 a9], .cells 111 [(.fn 65 [.ptr 5 0, .ptr 0 0, .ptr 1 0, .ptr 6 0])]]⟩
theorem F65_2_bok (rF65_2 : T_F65_2) (hF65_2 : H_F65_2 rF65_2) (a1 : Int) (a2 : GramD) (a3 : Nat) (a4 : List Bool) (a5 : Nat) (a6 : List Bool) (a7 : Nat) (a8 : List Bool) (a9 : Nat) {r : (List Bool)} (h : F65_2_b rF65_2 a1 a2 a3 a4 a5 a6 a7 a8 a9 = some r) : ∀ hx : List AB, CS prg 65 [i6 a1, .ptr 5 0, .ptr 0 0, .ptr 1 0, .ptr 6 0] ([bG a2, .cells 86 [(.fn 38 [])], yB a3 a4, yB a5 a6, yB a7 a8, .cells 83 [.sl 3 a5 1 0 a9], .cells 111 [(.fn 65 [.ptr 5 0, .ptr 0 0, .ptr 1 0, .ptr 6 0])]] ++ hx) = some (F65_2_v a1 a2 a3 a4 a5 a6 a7 a8 a9 r, F65_2_h a1 a2 a3 a4 a5 a6 a7 a8 a9 r ++ hx) := by
 unfold F65_2_b at h
 refine bn h fun x1 h1 h => ?_
 have q0 := ((idx_sl h1) : idxA 1 (.sl 3 a5 1 0 a9) (i6 a1) = some (.rp 3 a5 1 x1 0))
 refine bn h fun x2 h2 h => ?_
 refine bi h ?_ ?_ <;> intro h3 h
 ·
  rw [← sj h]
  exact fcF (m := 7) (v := (.tup [])) (h' := (F65_2_d0 a2 a3 a4 a5 a6 a7 a8 a9)) [(12, .v (.rp 3 a5 1 x1 0)), (13, .v (vb true))] (apc q0 (apc (((ld_row (V := vb x2) rfl h2 rfl).trans (congrArg (fun z => some (vb z)) h3)) : ldA (F65_2_d0 a2 a3 a4 a5 a6 a7 a8 a9) .false 1 (.rp 3 a5 1 x1 0) = some (vb true)) apn)) rfl (ac (ac (ar (ar (ar (ac (ac rfl))))))) rfl (ac (ac (ar (ar (ar (ac (ac rfl))))))) rfl (by kernel_rfl)
 ·
  refine bn h fun r4 h4 h => ?_
  cases r4 with
  | k0 x4_0 =>
   obtain ⟨g4, e4⟩ := L65_1_2_run rF65_2 hF65_2 a1 a2 (lP a2) a3 a4 a5 a7 a8 a9 (0, a6.set x1 true) _ h4
   rw [← sj h]
   exact fcF (m := 7) (v := (.tup [])) (h' := [bG a2, .cells 86 [(.fn 38 [])], yB a3 a4, yB a5 x4_0, yB a7 a8, .cells 83 [.sl 3 a5 1 0 a9], .cells 111 [(.fn 65 [.ptr 5 0, .ptr 0 0, .ptr 1 0, .ptr 6 0])]]) [(12, .v (.rp 3 a5 1 x1 0)), (13, .v (vb false)), (16, .v (.rp 3 a5 1 x1 0)), (1016, .r ud (F65_2_d1 a2 a3 a4 a5 a6 x1 a7 a8 a9)), (19, .v (i6 (lP a2))), (2000, .l (.brk 0) (F65_2_d2 g4 a1 a2 a3 a4 a5 x4_0 a7 a8 a9)), (6000, .d true)] (apc q0 (apc (((ld_row (V := vb x2) rfl h2 rfl).trans (congrArg (fun z => some (vb z)) h3)) : ldA (F65_2_d0 a2 a3 a4 a5 a6 a7 a8 a9) .false 1 (.rp 3 a5 1 x1 0) = some (vb false)) (apc ((idx_sl h1) : idxA 1 (.sl 3 a5 1 0 a9) (i6 a1) = some (.rp 3 a5 1 x1 0)) (apc (⟨st_row (v' := true) rfl h2 rfl rfl (Nat.le_of_ble_eq_true rfl) rfl, rfl⟩ : stA (F65_2_d0 a2 a3 a4 a5 a6 a7 a8 a9) 1 (.rp 3 a5 1 x1 0) (vb true) = some (F65_2_d1 a2 a3 a4 a5 a6 x1 a7 a8 a9) ∧ ud = ud) (apc (lg a2.prods eProd 7) (apc ((oK (ac (ac (ar (ar (ar (ac (ac rfl)))))))) : okT 7 (F65_2_d1 a2 a3 a4 a5 a6 x1 a7 a8 a9) = true) (apc (e4 : L65_1_2_e a1 a2 (lP a2) a3 a4 a5 a7 a8 a9 0 (a6.set x1 true) = some ((.brk 0), F65_2_d2 g4 a1 a2 a3 a4 a5 x4_0 a7 a8 a9)) apn))))))) rfl (ac (ac (ar (ar (ar (ac (ac rfl))))))) rfl (ac (ac (ar (ar (ar (ac (ac rfl))))))) rfl (by kernel_rfl)
def F65_2 : Nat → T_F65_2
  | 0 => fun _ _ _ _ _ _ _ _ _ => none
  | Nf + 1 => F65_2_b (F65_2 Nf)
theorem F65_2_ok (Nf : Nat) : H_F65_2 (F65_2 Nf) := by
  induction Nf with
  | zero => intro a1 a2 a3 a4 a5 a6 a7 a8 a9 r h; have h : (none : Option (List Bool)) = some r := h; cases h
  | succ Nf ih => intro a1 a2 a3 a4 a5 a6 a7 a8 a9 r h; exact F65_2_bok (F65_2 Nf) ih a1 a2 a3 a4 a5 a6 a7 a8 a9 h
def F37_v (a1 : GramD) (x0 : (List Bool)) : AV := (ls 1 eBool x0)
def F37 (Nf : Nat) (a1 : GramD) : Option (List Bool) :=
  (bif (mkOk (a1.sorts.length : Int) 1) then ((F65_2 Nf a1.start a1 0 ([]) 0 (List.replicate (Int.toNat (a1.sorts.length : Int)) false) 0 ([]) (Int.toNat (a1.sorts.length : Int))).bind fun x2 => (bif (decide ((Int.toNat (a1.sorts.length : Int)) ≤ x2.length)) then (some (x2.take (Int.toNat (a1.sorts.length : Int)))) else none)) else none)
abbrev F37_d0 (a1 : GramD) : List AB := [bG a1, .cells 86 [(.fn 38 [])], yB0]
abbrev F37_d1 (a1 : GramD) : List AB := [bG a1, .cells 86 [(.fn 38 [])], yB0, yB 0 (List.replicate (tS a1) false)]
abbrev F37_d2 (a1 : GramD) (x2 : List Bool) : List AB := [bG a1, .cells 86 [(.fn 38 [])], yB 0 ([]), yB 0 x2, yB 0 ([]), .cells 83 [(.sl 3 0 1 0 (tS a1))], .cells 111 [(.fn 65 [.ptr 5 0, .ptr 0 0, .ptr 1 0, .ptr 6 0])]]
abbrev F37_c0 (a1 : GramD) : List (Nat × Hint) := [(10, .r (.sl 3 0 1 0 (tS a1)) (F37_d1 a1))]
abbrev F37_c1 (a1 : GramD) (x2 : List Bool) : List (Nat × Hint) := [(15, .r (.tup []) (F37_d2 a1 x2))]
theorem F37_ok (Nf : Nat) (a1 : GramD) {r : (List Bool)} (h : F37 Nf a1 = some r) : PR2 prg 37 [aG a1, (.fn 38 [])] (F37_v a1 r) := by
 unfold F37 at h
 refine bi h ?_ ?_ <;> intro h1 h
 ·
  have q1 := ((mk_row' (h := (F37_d0 a1)) (e := eBool) (z := false) h1 rfl) : (mkA 4 1 1 [.val (.bool false)] (i6 (lS a1)) (i6 (lS a1)) 3).map (fun x => (x.1, (F37_d0 a1) ++ [x.2])) = some ((.sl 3 0 1 0 (tS a1)), F37_d1 a1))
  refine bn h fun x2 h2 h => ?_
  have q2 := ((F65_2_ok Nf a1.start a1 0 ([]) 0 (List.replicate (tS a1) false) 0 ([]) (tS a1) h2 []) : CS prg 65 [i6 a1.start, .ptr 5 0, .ptr 0 0, .ptr 1 0, .ptr 6 0] [bG a1, .cells 86 [(.fn 38 [])], yB0, yB 0 (List.replicate (tS a1) false), yB0, .cells 83 [(.sl 3 0 1 0 (tS a1))], .cells 111 [(.fn 65 [.ptr 5 0, .ptr 0 0, .ptr 1 0, .ptr 6 0])]] = some ((.tup []), F37_d2 a1 x2))
  refine bi h ?_ ?_ <;> intro h3 h
  ·
   rw [← sj h]
   exact fpn (v := (.sl 3 0 1 0 (tS a1))) (h' := (F37_d2 a1 x2)) ([(9, .v (i6 (lS a1)))] ++ ((F37_c0 a1) ++ (F37_c1 a1 x2))) (apc (lg a1.sorts eStr 1) (apc q1 (apc q2 apn))) (purA_sl (e := eBool) rfl h3) rfl (purA_sl (e := eBool) (getq rfl (nols_ra (fun _ => rfl))) h3) (by kernel_rfl)
  ·
   cases h
 ·
  cases h
inductive R_F13 where
  | k0 (x0 x1 : Int)
def F13_v (a1 : GramD) (r : R_F13) : AV := match r with | .k0 x0 x1 => (.tup [i6 x0, i6 x1])
def F13 (Nf : Nat) (a1 : GramD) : Option R_F13 :=
  ((F15 a1).bind fun x1 => (bif (x1 != 0) then (some (.k0 x1 0)) else ((F36 a1).bind fun x3 => ((F35 x3).bind fun x4 => (bif (decide (x4 ≥ 0)) then (some (.k0 161 x4)) else ((F37 Nf a1).bind fun x6 => ((F35 x6).bind fun x7 => (bif (decide (x7 ≥ 0)) then (some (.k0 162 x7)) else (some (.k0 0 0))))))))))
theorem F13_ok (Nf : Nat) (a1 : GramD) {r : R_F13} (h : F13 Nf a1 = some r) : PR1 prg 13 [aG a1] (F13_v a1 r) := by
 unfold F13 at h
 refine bn h fun x1 h1 h => ?_
 have q0 := (((F15_ok a1 h1).cp rfl _) : CP prg 15 [aG a1] [bG a1] = some (i6 x1))
 refine bi h ?_ ?_ <;> intro h2 h
 ·
  rw [← sj h]
  exact fpr [(8, .v (i6 x1)), (10, .d true)] (apc q0 (av h2 apn)) rfl (by kernel_rfl)
 ·
  refine bn h fun x3 h3 h => ?_
  have q2 := (((F36_ok a1 h3).cp rfl _) : CP prg 36 [aG a1] [bG a1] = some (ls 1 eBool x3))
  refine bn h fun x4 h4 h => ?_
  have q3 := (((F35_ok x3 h4).cp rfl _) : CP prg 35 [ls 1 eBool x3, vb false] [bG a1] = some (i6 x4))
  refine bi h ?_ ?_ <;> intro h5 h
  ·
   rw [← sj h]
   exact fpr [(8, .v (i6 x1)), (10, .d false), (13, .v (ls 1 eBool x3)), (14, .v (i6 x4)), (16, .d true)] (apc q0 (av h2 (apc q2 (apc q3 (av h5 apn))))) rfl (by kernel_rfl)
  ·
   refine bn h fun x6 h6 h => ?_
   have q5 := (((F37_ok Nf a1 h6).cp rfl _) : CP prg 37 [aG a1, (.fn 38 [])] [bG a1] = some (ls 1 eBool x6))
   refine bn h fun x7 h7 h => ?_
   have q6 := (((F35_ok x6 h7).cp rfl _) : CP prg 35 [ls 1 eBool x6, vb false] [bG a1] = some (i6 x7))
   refine bi h ?_ ?_ <;> intro h8 h
   ·
    rw [← sj h]
    exact fpr [(8, .v (i6 x1)), (10, .d false), (13, .v (ls 1 eBool x3)), (14, .v (i6 x4)), (16, .d false), (19, .v (ls 1 eBool x6)), (20, .v (i6 x7)), (22, .d true)] (apc q0 (av h2 (apc q2 (apc q3 (av h5 (apc q5 (apc q6 (av h8 apn)))))))) rfl (by kernel_rfl)
   ·
    rw [← sj h]
    exact fpr [(8, .v (i6 x1)), (10, .d false), (13, .v (ls 1 eBool x3)), (14, .v (i6 x4)), (16, .d false), (19, .v (ls 1 eBool x6)), (20, .v (i6 x7)), (22, .d false)] (apc q0 (av h2 (apc q2 (apc q3 (av h5 (apc q5 (apc q6 (av h8 apn)))))))) rfl (by kernel_rfl)
def F5_v (a1 : GramD) (x0 : Bool) : AV := (vb x0)
def F5 (Nf : Nat) (a1 : GramD) : Option Bool :=
  ((F9 a1).bind fun x1 => (bif x1 then ((F10).bind fun x3 => (some x3)) else ((F11 a1).bind fun r3 => match r3 with | .k0 x3_0 x3_1 x3_2 x3_3 x3_4 => ((F24 Nf (⟨x3_0, x3_1, x3_2, x3_3, x3_4⟩ : GramD)).bind fun r4 => match r4 with | .k0 x4_0 => ((F18 (⟨x3_0, x3_1, x3_2, x3_3, x3_4⟩ : GramD) a1).bind fun x5 => (bif x5 then ((F12 a1).bind fun x7 => (bif (x7 != 0) then (bif (x4_0 == x7) then ((F18_2).bind fun r10 => match r10 with | .k0 => ((F10).bind fun x11 => (some x11))) else (some false)) else ((F25 a1).bind fun r9 => match r9 with | .k0 x9_0 x9_1 x9_2 x9_3 x9_4 => ((F13_2).bind fun r10 => match r10 with | .k0 => ((F24_2).bind fun r11 => match r11 with | .k0 => (bif (x4_0 == 0) then ((F18_3 (⟨x9_0, x9_1, x9_2, x9_3, x9_4⟩ : GramD)).bind fun x13 => (bif x13 then (some false) else (some false))) else (some false)))) | .k1 => (bif (x4_0 == 161) then ((F18_2).bind fun r11 => match r11 with | .k0 => ((F10).bind fun x12 => (some x12))) else (some false))))) else (some false))) | .k1 x4_0 x4_1 x4_2 x4_3 x4_4 => ((F18 (⟨x3_0, x3_1, x3_2, x3_3, x3_4⟩ : GramD) a1).bind fun x5 => (bif x5 then ((F12 a1).bind fun x7 => (bif (x7 != 0) then (bif (0 == x7) then ((F18_4 (⟨x4_0, x4_1, x4_2, x4_3, x4_4⟩ : GramD)).bind fun x10 => (bif x10 then ((F10).bind fun x12 => (some x12)) else (some false))) else (some false)) else ((F25 a1).bind fun r9 => match r9 with | .k0 x9_0 x9_1 x9_2 x9_3 x9_4 => ((F13 Nf (⟨x4_0, x4_1, x4_2, x4_3, x4_4⟩ : GramD)).bind fun r10 => match r10 with | .k0 x10_0 x10_1 => ((F24 Nf (⟨x4_0, x4_1, x4_2, x4_3, x4_4⟩ : GramD)).bind fun r11 => match r11 with | .k0 x11_0 => ((F18 (⟨x4_0, x4_1, x4_2, x4_3, x4_4⟩ : GramD) (⟨x9_0, x9_1, x9_2, x9_3, x9_4⟩ : GramD)).bind fun x12 => (bif x12 then (bif (x10_0 == 0) then (bif (x11_0 == 0) then ((F18_3 (⟨x4_0, x4_1, x4_2, x4_3, x4_4⟩ : GramD)).bind fun x16 => (bif x16 then ((F10).bind fun x18 => (some x18)) else (some false))) else (some false)) else (some false)) else (some false))) | .k1 x11_0 x11_1 x11_2 x11_3 x11_4 => ((F18 (⟨x4_0, x4_1, x4_2, x4_3, x4_4⟩ : GramD) (⟨x9_0, x9_1, x9_2, x9_3, x9_4⟩ : GramD)).bind fun x12 => (bif x12 then (bif (x10_0 == 0) then ((F18 (⟨x11_0, x11_1, x11_2, x11_3, x11_4⟩ : GramD) (⟨x4_0, x4_1, x4_2, x4_3, x4_4⟩ : GramD)).bind fun x15 => (bif x15 then ((F10).bind fun x17 => (some x17)) else (some false))) else (some false)) else (some false))))) | .k1 => (some false)))) else (some false)))))))
abbrev F5_d0 (a1 : GramD) (x3_0 : List ByteArray) (x3_1 : List ProdD) (x3_2 : Int) (x3_3 : List ForbD) (x3_4 : List FollD) : List AB := [bG a1, yS0, yP0, yF0, yW0, cH x3_0 x3_1 x3_2 x3_3 x3_4]
abbrev F5_d1 (a1 : GramD) (x3_0 : List ByteArray) (x3_1 : List ProdD) (x3_2 : Int) (x3_3 : List ForbD) (x3_4 : List FollD) : List AB := [bG a1, yS0, yP0, yF0, yW0, cH x3_0 x3_1 x3_2 x3_3 x3_4, yS0, yP0, yF0, yW0, .cells 27 [n0, n0, i6 0, n0, n0]]
abbrev F5_d2 (a1 : GramD) (x3_0 : List ByteArray) (x3_1 : List ProdD) (x3_2 : Int) (x3_3 : List ForbD) (x3_4 : List FollD) (x9_0 : List ByteArray) (x9_1 : List ProdD) (x9_2 : Int) (x9_3 : List ForbD) (x9_4 : List FollD) : List AB := [bG a1, yS0, yP0, yF0, yW0, cH x3_0 x3_1 x3_2 x3_3 x3_4, yS0, yP0, yF0, yW0, .cells 27 [n0, n0, i6 0, n0, n0], yS0, yP0, yF0, yW0, cH x9_0 x9_1 x9_2 x9_3 x9_4]
abbrev F5_d3 (a1 : GramD) (x3_0 : List ByteArray) (x3_1 : List ProdD) (x3_2 : Int) (x3_3 : List ForbD) (x3_4 : List FollD) (x9_0 : List ByteArray) (x9_1 : List ProdD) (x9_2 : Int) (x9_3 : List ForbD) (x9_4 : List FollD) : List AB := [bG a1, yS0, yP0, yF0, yW0, cH x3_0 x3_1 x3_2 x3_3 x3_4, yS0, yP0, yF0, yW0, .cells 27 [n0, n0, i6 0, n0, n0], yS0, yP0, yF0, yW0, cH x9_0 x9_1 x9_2 x9_3 x9_4, yS0, yP0, yF0, yW0, .cells 27 [n0, n0, i6 0, n0, n0]]
abbrev F5_d4 (a1 : GramD) (x3_0 : List ByteArray) (x3_1 : List ProdD) (x3_2 : Int) (x3_3 : List ForbD) (x3_4 : List FollD) : List AB := [bG a1, yS0, yP0, yF0, yW0, cH x3_0 x3_1 x3_2 x3_3 x3_4, yS0, yP0, yF0, yW0, .cells 27 [n0, n0, i6 0, n0, n0], yS0, yP0, yF0, yW0, .cells 27 [n0, n0, i6 0, n0, n0]]
abbrev F5_c0 (x3_0 : List ByteArray) (x3_1 : List ProdD) (x3_2 : Int) (x3_3 : List ForbD) (x3_4 : List FollD) : List (Nat × Hint) := [(17, .v (aH x3_0 x3_1 x3_2 x3_3 x3_4))]
abbrev F5_c1 (x4_0 : Int) : List (Nat × Hint) := [(20, .v (.tup [(.agg [n0, n0, i6 0, n0, n0]), i6 x4_0]))]
abbrev F5_c2 (x9_0 : List ByteArray) (x9_1 : List ProdD) (x9_2 : Int) (x9_3 : List ForbD) (x9_4 : List FollD) : List (Nat × Hint) := [(44, .v (.tup [aH x9_0 x9_1 x9_2 x9_3 x9_4, vb true]))]
abbrev F5_c3 : List (Nat × Hint) := [(66, .v (.tup [(.agg [n0, n0, i6 0, n0, n0]), i6 160]))]
abbrev F5_c4 : List (Nat × Hint) := [(44, .v (.tup [(.agg [n0, n0, i6 0, n0, n0]), vb false]))]
abbrev F5_c5 (x4_0 : List ByteArray) (x4_1 : List ProdD) (x4_2 : Int) (x4_3 : List ForbD) (x4_4 : List FollD) : List (Nat × Hint) := [(20, .v (.tup [aH x4_0 x4_1 x4_2 x4_3 x4_4, i6 0]))]
abbrev F5_c6 (x11_0 : Int) : List (Nat × Hint) := [(66, .v (.tup [(.agg [n0, n0, i6 0, n0, n0]), i6 x11_0]))]
abbrev F5_c7 (x11_0 : List ByteArray) (x11_1 : List ProdD) (x11_2 : Int) (x11_3 : List ForbD) (x11_4 : List FollD) : List (Nat × Hint) := [(66, .v (.tup [aH x11_0 x11_1 x11_2 x11_3 x11_4, i6 0]))]
theorem F5_ok (Nf : Nat) (a1 : GramD) {r : Bool} (h : F5 Nf a1 = some r) : PR1 prg 5 [aG a1] (F5_v a1 r) := by
 unfold F5 at h
 refine bn h fun x1 h1 h => ?_
 refine bi h ?_ ?_ <;> intro h2 h
 ·
  refine bn h fun x3 h3 h => ?_
  rw [← sj h]
  exact fpr [(14, .v (vb true)), (15, .v (vb x3))] (apc ((((F9_ok a1 h1).cp rfl _).trans (congrArg (fun z => some (vb z)) h2)) : CP prg 9 [aG a1] [bG a1] = some (vb true)) (apc (((F10_ok  h3).cp rfl _) : CP prg 10 [] [bG a1] = some (vb x3)) apn)) rfl (by kernel_rfl)
 ·
  have q0 := ((((F9_ok a1 h1).cp rfl _).trans (congrArg (fun z => some (vb z)) h2)) : CP prg 9 [aG a1] [bG a1] = some (vb false))
  refine bn h fun r3 h3 h => ?_
  cases r3 with
  | k0 x3_0 x3_1 x3_2 x3_3 x3_4 =>
   have q1 := (((F11_ok a1 h3).cp rfl _) : CP prg 11 [aG a1] [bG a1] = some (aH x3_0 x3_1 x3_2 x3_3 x3_4))
   refine bn h fun r4 h4 h => ?_
   cases r4 with
   | k0 x4_0 =>
    have q2 := (((F24_ok Nf (⟨x3_0, x3_1, x3_2, x3_3, x3_4⟩ : GramD) h4).cp rfl _) : CP prg 24 [aH x3_0 x3_1 x3_2 x3_3 x3_4] (F5_d0 a1 x3_0 x3_1 x3_2 x3_3 x3_4) = some (.tup [(.agg [n0, n0, i6 0, n0, n0]), i6 x4_0]))
    refine bn h fun x5 h5 h => ?_
    refine bi h ?_ ?_ <;> intro h6 h
    ·
     have q3 := ((((F18_ok (⟨x3_0, x3_1, x3_2, x3_3, x3_4⟩ : GramD) a1 h5).cp rfl _).trans (congrArg (fun z => some (vb z)) h6)) : CP prg 18 [aH x3_0 x3_1 x3_2 x3_3 x3_4, aG a1] (F5_d1 a1 x3_0 x3_1 x3_2 x3_3 x3_4) = some (vb true))
     refine bn h fun x7 h7 h => ?_
     have q4 := (((F12_ok a1 h7).cp rfl _) : CP prg 12 [aG a1] (F5_d1 a1 x3_0 x3_1 x3_2 x3_3 x3_4) = some (i6 x7))
     refine bi h ?_ ?_ <;> intro h8 h
     ·
      refine bi h ?_ ?_ <;> intro h9 h
      ·
       refine bn h fun r10 h10 h => ?_
       cases r10 with
       | k0 =>
        refine bn h fun x11 h11 h => ?_
        rw [← sj h]
        exact fpr ([(14, .v (vb false))] ++ ((F5_c0 x3_0 x3_1 x3_2 x3_3 x3_4) ++ ((F5_c1 x4_0) ++ [(25, .v (vb true)), (28, .v (i6 x7)), (30, .d true), (33, .d true), (37, .v (vb true)), (40, .v (vb x11))]))) (apc q0 (apc q1 (apc q2 (apc q3 (apc q4 (av h8 (av h9 (apc (((F18_2_ok  h10).cp rfl _) : CP prg 18 [(.agg [n0, n0, i6 0, n0, n0]), (.agg [n0, n0, i6 0, n0, n0])] (F5_d1 a1 x3_0 x3_1 x3_2 x3_3 x3_4) = some (vb true)) (apc (((F10_ok  h11).cp rfl _) : CP prg 10 [] (F5_d1 a1 x3_0 x3_1 x3_2 x3_3 x3_4) = some (vb x11)) apn))))))))) rfl (by kernel_rfl)
      ·
       rw [← sj h]
       exact fpr ([(14, .v (vb false))] ++ ((F5_c0 x3_0 x3_1 x3_2 x3_3 x3_4) ++ ((F5_c1 x4_0) ++ [(25, .v (vb true)), (28, .v (i6 x7)), (30, .d true), (33, .d false)]))) (apc q0 (apc q1 (apc q2 (apc q3 (apc q4 (av h8 (av h9 apn))))))) rfl (by kernel_rfl)
     ·
      refine bn h fun r9 h9 h => ?_
      cases r9 with
      | k0 x9_0 x9_1 x9_2 x9_3 x9_4 =>
       have q6 := (((F25_ok a1 h9).cp rfl _) : CP prg 25 [aG a1] (F5_d1 a1 x3_0 x3_1 x3_2 x3_3 x3_4) = some (.tup [aH x9_0 x9_1 x9_2 x9_3 x9_4, vb true]))
       refine bn h fun r10 h10 h => ?_
       cases r10 with
       | k0 =>
        have q7 := (((F13_2_ok  h10).cp rfl _) : CP prg 13 [(.agg [n0, n0, i6 0, n0, n0])] (F5_d2 a1 x3_0 x3_1 x3_2 x3_3 x3_4 x9_0 x9_1 x9_2 x9_3 x9_4) = some (.tup [i6 160, i6 0]))
        refine bn h fun r11 h11 h => ?_
        cases r11 with
        | k0 =>
         have q8 := (((F24_2_ok  h11).cp rfl _) : CP prg 24 [(.agg [n0, n0, i6 0, n0, n0])] (F5_d2 a1 x3_0 x3_1 x3_2 x3_3 x3_4 x9_0 x9_1 x9_2 x9_3 x9_4) = some (.tup [(.agg [n0, n0, i6 0, n0, n0]), i6 160]))
         refine bi h ?_ ?_ <;> intro h12 h
         ·
          refine bn h fun x13 h13 h => ?_
          refine bi h ?_ ?_ <;> intro h14 h
          ·
           rw [← sj h]
           exact fpr ([(14, .v (vb false))] ++ ((F5_c0 x3_0 x3_1 x3_2 x3_3 x3_4) ++ ((F5_c1 x4_0) ++ ([(25, .v (vb true)), (28, .v (i6 x7)), (30, .d false)] ++ ((F5_c2 x9_0 x9_1 x9_2 x9_3 x9_4) ++ ([(61, .v (.tup [i6 160, i6 0]))] ++ (F5_c3 ++ [(70, .d true), (74, .v (vb true))]))))))) (apc q0 (apc q1 (apc q2 (apc q3 (apc q4 (av h8 (apc q6 (apc q7 (apc q8 (av h12 (apc ((((F18_3_ok (⟨x9_0, x9_1, x9_2, x9_3, x9_4⟩ : GramD) h13).cp rfl _).trans (congrArg (fun z => some (vb z)) h14)) : CP prg 18 [(.agg [n0, n0, i6 0, n0, n0]), aH x9_0 x9_1 x9_2 x9_3 x9_4] (F5_d3 a1 x3_0 x3_1 x3_2 x3_3 x3_4 x9_0 x9_1 x9_2 x9_3 x9_4) = some (vb true)) apn))))))))))) rfl (by kernel_rfl)
          ·
           rw [← sj h]
           exact fpr ([(14, .v (vb false))] ++ ((F5_c0 x3_0 x3_1 x3_2 x3_3 x3_4) ++ ((F5_c1 x4_0) ++ ([(25, .v (vb true)), (28, .v (i6 x7)), (30, .d false)] ++ ((F5_c2 x9_0 x9_1 x9_2 x9_3 x9_4) ++ ([(61, .v (.tup [i6 160, i6 0]))] ++ (F5_c3 ++ [(70, .d true), (74, .v (vb false))]))))))) (apc q0 (apc q1 (apc q2 (apc q3 (apc q4 (av h8 (apc q6 (apc q7 (apc q8 (av h12 (apc ((((F18_3_ok (⟨x9_0, x9_1, x9_2, x9_3, x9_4⟩ : GramD) h13).cp rfl _).trans (congrArg (fun z => some (vb z)) h14)) : CP prg 18 [(.agg [n0, n0, i6 0, n0, n0]), aH x9_0 x9_1 x9_2 x9_3 x9_4] (F5_d3 a1 x3_0 x3_1 x3_2 x3_3 x3_4 x9_0 x9_1 x9_2 x9_3 x9_4) = some (vb false)) apn))))))))))) rfl (by kernel_rfl)
         ·
          rw [← sj h]
          exact fpr ([(14, .v (vb false))] ++ ((F5_c0 x3_0 x3_1 x3_2 x3_3 x3_4) ++ ((F5_c1 x4_0) ++ ([(25, .v (vb true)), (28, .v (i6 x7)), (30, .d false)] ++ ((F5_c2 x9_0 x9_1 x9_2 x9_3 x9_4) ++ ([(61, .v (.tup [i6 160, i6 0]))] ++ (F5_c3 ++ [(70, .d false)]))))))) (apc q0 (apc q1 (apc q2 (apc q3 (apc q4 (av h8 (apc q6 (apc q7 (apc q8 (av h12 apn)))))))))) rfl (by kernel_rfl)
      | k1 =>
       have q6 := (((F25_ok a1 h9).cp rfl _) : CP prg 25 [aG a1] (F5_d1 a1 x3_0 x3_1 x3_2 x3_3 x3_4) = some (.tup [(.agg [n0, n0, i6 0, n0, n0]), vb false]))
       refine bi h ?_ ?_ <;> intro h10 h
       ·
        refine bn h fun r11 h11 h => ?_
        cases r11 with
        | k0 =>
         refine bn h fun x12 h12 h => ?_
         rw [← sj h]
         exact fpr ([(14, .v (vb false))] ++ ((F5_c0 x3_0 x3_1 x3_2 x3_3 x3_4) ++ ((F5_c1 x4_0) ++ ([(25, .v (vb true)), (28, .v (i6 x7)), (30, .d false)] ++ (F5_c4 ++ [(50, .d true), (54, .v (vb true)), (57, .v (vb x12))]))))) (apc q0 (apc q1 (apc q2 (apc q3 (apc q4 (av h8 (apc q6 (av h10 (apc (((F18_2_ok  h11).cp rfl _) : CP prg 18 [(.agg [n0, n0, i6 0, n0, n0]), (.agg [n0, n0, i6 0, n0, n0])] (F5_d4 a1 x3_0 x3_1 x3_2 x3_3 x3_4) = some (vb true)) (apc (((F10_ok  h12).cp rfl _) : CP prg 10 [] (F5_d4 a1 x3_0 x3_1 x3_2 x3_3 x3_4) = some (vb x12)) apn)))))))))) rfl (by kernel_rfl)
       ·
        rw [← sj h]
        exact fpr ([(14, .v (vb false))] ++ ((F5_c0 x3_0 x3_1 x3_2 x3_3 x3_4) ++ ((F5_c1 x4_0) ++ ([(25, .v (vb true)), (28, .v (i6 x7)), (30, .d false)] ++ (F5_c4 ++ [(50, .d false)]))))) (apc q0 (apc q1 (apc q2 (apc q3 (apc q4 (av h8 (apc q6 (av h10 apn)))))))) rfl (by kernel_rfl)
    ·
     rw [← sj h]
     exact fpr ([(14, .v (vb false))] ++ ((F5_c0 x3_0 x3_1 x3_2 x3_3 x3_4) ++ ((F5_c1 x4_0) ++ [(25, .v (vb false))]))) (apc q0 (apc q1 (apc q2 (apc ((((F18_ok (⟨x3_0, x3_1, x3_2, x3_3, x3_4⟩ : GramD) a1 h5).cp rfl _).trans (congrArg (fun z => some (vb z)) h6)) : CP prg 18 [aH x3_0 x3_1 x3_2 x3_3 x3_4, aG a1] (F5_d1 a1 x3_0 x3_1 x3_2 x3_3 x3_4) = some (vb false)) apn)))) rfl (by kernel_rfl)
   | k1 x4_0 x4_1 x4_2 x4_3 x4_4 =>
    have q2 := (((F24_ok Nf (⟨x3_0, x3_1, x3_2, x3_3, x3_4⟩ : GramD) h4).cp rfl _) : CP prg 24 [aH x3_0 x3_1 x3_2 x3_3 x3_4] (F5_d0 a1 x3_0 x3_1 x3_2 x3_3 x3_4) = some (.tup [aH x4_0 x4_1 x4_2 x4_3 x4_4, i6 0]))
    refine bn h fun x5 h5 h => ?_
    refine bi h ?_ ?_ <;> intro h6 h
    ·
     have q3 := ((((F18_ok (⟨x3_0, x3_1, x3_2, x3_3, x3_4⟩ : GramD) a1 h5).cp rfl _).trans (congrArg (fun z => some (vb z)) h6)) : CP prg 18 [aH x3_0 x3_1 x3_2 x3_3 x3_4, aG a1] [bG a1, yS0, yP0, yF0, yW0, cH x3_0 x3_1 x3_2 x3_3 x3_4, yS0, yP0, yF0, yW0, cH x4_0 x4_1 x4_2 x4_3 x4_4] = some (vb true))
     refine bn h fun x7 h7 h => ?_
     have q4 := (((F12_ok a1 h7).cp rfl _) : CP prg 12 [aG a1] [bG a1, yS0, yP0, yF0, yW0, cH x3_0 x3_1 x3_2 x3_3 x3_4, yS0, yP0, yF0, yW0, cH x4_0 x4_1 x4_2 x4_3 x4_4] = some (i6 x7))
     refine bi h ?_ ?_ <;> intro h8 h
     ·
      refine bi h ?_ ?_ <;> intro h9 h
      ·
       refine bn h fun x10 h10 h => ?_
       refine bi h ?_ ?_ <;> intro h11 h
       ·
        refine bn h fun x12 h12 h => ?_
        rw [← sj h]
        exact fpr ([(14, .v (vb false))] ++ ((F5_c0 x3_0 x3_1 x3_2 x3_3 x3_4) ++ ((F5_c5 x4_0 x4_1 x4_2 x4_3 x4_4) ++ [(25, .v (vb true)), (28, .v (i6 x7)), (30, .d true), (33, .d true), (37, .v (vb true)), (40, .v (vb x12))]))) (apc q0 (apc q1 (apc q2 (apc q3 (apc q4 (av h8 (av h9 (apc ((((F18_4_ok (⟨x4_0, x4_1, x4_2, x4_3, x4_4⟩ : GramD) h10).cp rfl _).trans (congrArg (fun z => some (vb z)) h11)) : CP prg 18 [aH x4_0 x4_1 x4_2 x4_3 x4_4, (.agg [n0, n0, i6 0, n0, n0])] [bG a1, yS0, yP0, yF0, yW0, cH x3_0 x3_1 x3_2 x3_3 x3_4, yS0, yP0, yF0, yW0, cH x4_0 x4_1 x4_2 x4_3 x4_4] = some (vb true)) (apc (((F10_ok  h12).cp rfl _) : CP prg 10 [] [bG a1, yS0, yP0, yF0, yW0, cH x3_0 x3_1 x3_2 x3_3 x3_4, yS0, yP0, yF0, yW0, cH x4_0 x4_1 x4_2 x4_3 x4_4] = some (vb x12)) apn))))))))) rfl (by kernel_rfl)
       ·
        rw [← sj h]
        exact fpr ([(14, .v (vb false))] ++ ((F5_c0 x3_0 x3_1 x3_2 x3_3 x3_4) ++ ((F5_c5 x4_0 x4_1 x4_2 x4_3 x4_4) ++ [(25, .v (vb true)), (28, .v (i6 x7)), (30, .d true), (33, .d true), (37, .v (vb false))]))) (apc q0 (apc q1 (apc q2 (apc q3 (apc q4 (av h8 (av h9 (apc ((((F18_4_ok (⟨x4_0, x4_1, x4_2, x4_3, x4_4⟩ : GramD) h10).cp rfl _).trans (congrArg (fun z => some (vb z)) h11)) : CP prg 18 [aH x4_0 x4_1 x4_2 x4_3 x4_4, (.agg [n0, n0, i6 0, n0, n0])] [bG a1, yS0, yP0, yF0, yW0, cH x3_0 x3_1 x3_2 x3_3 x3_4, yS0, yP0, yF0, yW0, cH x4_0 x4_1 x4_2 x4_3 x4_4] = some (vb false)) apn)))))))) rfl (by kernel_rfl)
      ·
       rw [← sj h]
       exact fpr ([(14, .v (vb false))] ++ ((F5_c0 x3_0 x3_1 x3_2 x3_3 x3_4) ++ ((F5_c5 x4_0 x4_1 x4_2 x4_3 x4_4) ++ [(25, .v (vb true)), (28, .v (i6 x7)), (30, .d true), (33, .d false)]))) (apc q0 (apc q1 (apc q2 (apc q3 (apc q4 (av h8 (av h9 apn))))))) rfl (by kernel_rfl)
     ·
      refine bn h fun r9 h9 h => ?_
      cases r9 with
      | k0 x9_0 x9_1 x9_2 x9_3 x9_4 =>
       have q6 := (((F25_ok a1 h9).cp rfl _) : CP prg 25 [aG a1] [bG a1, yS0, yP0, yF0, yW0, cH x3_0 x3_1 x3_2 x3_3 x3_4, yS0, yP0, yF0, yW0, cH x4_0 x4_1 x4_2 x4_3 x4_4] = some (.tup [aH x9_0 x9_1 x9_2 x9_3 x9_4, vb true]))
       refine bn h fun r10 h10 h => ?_
       cases r10 with
       | k0 x10_0 x10_1 =>
        have q7 := (((F13_ok Nf (⟨x4_0, x4_1, x4_2, x4_3, x4_4⟩ : GramD) h10).cp rfl _) : CP prg 13 [aH x4_0 x4_1 x4_2 x4_3 x4_4] [bG a1, yS0, yP0, yF0, yW0, cH x3_0 x3_1 x3_2 x3_3 x3_4, yS0, yP0, yF0, yW0, cH x4_0 x4_1 x4_2 x4_3 x4_4, yS0, yP0, yF0, yW0, cH x9_0 x9_1 x9_2 x9_3 x9_4] = some (.tup [i6 x10_0, i6 x10_1]))
        refine bn h fun r11 h11 h => ?_
        cases r11 with
        | k0 x11_0 =>
         have q8 := (((F24_ok Nf (⟨x4_0, x4_1, x4_2, x4_3, x4_4⟩ : GramD) h11).cp rfl _) : CP prg 24 [aH x4_0 x4_1 x4_2 x4_3 x4_4] [bG a1, yS0, yP0, yF0, yW0, cH x3_0 x3_1 x3_2 x3_3 x3_4, yS0, yP0, yF0, yW0, cH x4_0 x4_1 x4_2 x4_3 x4_4, yS0, yP0, yF0, yW0, cH x9_0 x9_1 x9_2 x9_3 x9_4] = some (.tup [(.agg [n0, n0, i6 0, n0, n0]), i6 x11_0]))
         refine bn h fun x12 h12 h => ?_
         refine bi h ?_ ?_ <;> intro h13 h
         ·
          have q9 := ((((F18_ok (⟨x4_0, x4_1, x4_2, x4_3, x4_4⟩ : GramD) (⟨x9_0, x9_1, x9_2, x9_3, x9_4⟩ : GramD) h12).cp rfl _).trans (congrArg (fun z => some (vb z)) h13)) : CP prg 18 [aH x4_0 x4_1 x4_2 x4_3 x4_4, aH x9_0 x9_1 x9_2 x9_3 x9_4] [bG a1, yS0, yP0, yF0, yW0, cH x3_0 x3_1 x3_2 x3_3 x3_4, yS0, yP0, yF0, yW0, cH x4_0 x4_1 x4_2 x4_3 x4_4, yS0, yP0, yF0, yW0, cH x9_0 x9_1 x9_2 x9_3 x9_4, yS0, yP0, yF0, yW0, .cells 27 [n0, n0, i6 0, n0, n0]] = some (vb true))
          refine bi h ?_ ?_ <;> intro h14 h
          ·
           refine bi h ?_ ?_ <;> intro h15 h
           ·
            refine bn h fun x16 h16 h => ?_
            refine bi h ?_ ?_ <;> intro h17 h
            ·
             refine bn h fun x18 h18 h => ?_
             rw [← sj h]
             exact fpr ([(14, .v (vb false))] ++ ((F5_c0 x3_0 x3_1 x3_2 x3_3 x3_4) ++ ((F5_c5 x4_0 x4_1 x4_2 x4_3 x4_4) ++ ([(25, .v (vb true)), (28, .v (i6 x7)), (30, .d false)] ++ ((F5_c2 x9_0 x9_1 x9_2 x9_3 x9_4) ++ ([(61, .v (.tup [i6 x10_0, i6 x10_1]))] ++ ((F5_c6 x11_0) ++ [(74, .v (vb true)), (78, .d true), (82, .d true), (87, .v (vb true)), (90, .v (vb x18))]))))))) (apc q0 (apc q1 (apc q2 (apc q3 (apc q4 (av h8 (apc q6 (apc q7 (apc q8 (apc q9 (av h14 (av h15 (apc ((((F18_3_ok (⟨x4_0, x4_1, x4_2, x4_3, x4_4⟩ : GramD) h16).cp rfl _).trans (congrArg (fun z => some (vb z)) h17)) : CP prg 18 [(.agg [n0, n0, i6 0, n0, n0]), aH x4_0 x4_1 x4_2 x4_3 x4_4] [bG a1, yS0, yP0, yF0, yW0, cH x3_0 x3_1 x3_2 x3_3 x3_4, yS0, yP0, yF0, yW0, cH x4_0 x4_1 x4_2 x4_3 x4_4, yS0, yP0, yF0, yW0, cH x9_0 x9_1 x9_2 x9_3 x9_4, yS0, yP0, yF0, yW0, .cells 27 [n0, n0, i6 0, n0, n0]] = some (vb true)) (apc (((F10_ok  h18).cp rfl _) : CP prg 10 [] [bG a1, yS0, yP0, yF0, yW0, cH x3_0 x3_1 x3_2 x3_3 x3_4, yS0, yP0, yF0, yW0, cH x4_0 x4_1 x4_2 x4_3 x4_4, yS0, yP0, yF0, yW0, cH x9_0 x9_1 x9_2 x9_3 x9_4, yS0, yP0, yF0, yW0, .cells 27 [n0, n0, i6 0, n0, n0]] = some (vb x18)) apn)))))))))))))) rfl (by kernel_rfl)
            ·
             rw [← sj h]
             exact fpr ([(14, .v (vb false))] ++ ((F5_c0 x3_0 x3_1 x3_2 x3_3 x3_4) ++ ((F5_c5 x4_0 x4_1 x4_2 x4_3 x4_4) ++ ([(25, .v (vb true)), (28, .v (i6 x7)), (30, .d false)] ++ ((F5_c2 x9_0 x9_1 x9_2 x9_3 x9_4) ++ ([(61, .v (.tup [i6 x10_0, i6 x10_1]))] ++ ((F5_c6 x11_0) ++ [(74, .v (vb true)), (78, .d true), (82, .d true), (87, .v (vb false))]))))))) (apc q0 (apc q1 (apc q2 (apc q3 (apc q4 (av h8 (apc q6 (apc q7 (apc q8 (apc q9 (av h14 (av h15 (apc ((((F18_3_ok (⟨x4_0, x4_1, x4_2, x4_3, x4_4⟩ : GramD) h16).cp rfl _).trans (congrArg (fun z => some (vb z)) h17)) : CP prg 18 [(.agg [n0, n0, i6 0, n0, n0]), aH x4_0 x4_1 x4_2 x4_3 x4_4] [bG a1, yS0, yP0, yF0, yW0, cH x3_0 x3_1 x3_2 x3_3 x3_4, yS0, yP0, yF0, yW0, cH x4_0 x4_1 x4_2 x4_3 x4_4, yS0, yP0, yF0, yW0, cH x9_0 x9_1 x9_2 x9_3 x9_4, yS0, yP0, yF0, yW0, .cells 27 [n0, n0, i6 0, n0, n0]] = some (vb false)) apn))))))))))))) rfl (by kernel_rfl)
           ·
            rw [← sj h]
            exact fpr ([(14, .v (vb false))] ++ ((F5_c0 x3_0 x3_1 x3_2 x3_3 x3_4) ++ ((F5_c5 x4_0 x4_1 x4_2 x4_3 x4_4) ++ ([(25, .v (vb true)), (28, .v (i6 x7)), (30, .d false)] ++ ((F5_c2 x9_0 x9_1 x9_2 x9_3 x9_4) ++ ([(61, .v (.tup [i6 x10_0, i6 x10_1]))] ++ ((F5_c6 x11_0) ++ [(74, .v (vb true)), (78, .d true), (82, .d false)]))))))) (apc q0 (apc q1 (apc q2 (apc q3 (apc q4 (av h8 (apc q6 (apc q7 (apc q8 (apc q9 (av h14 (av h15 apn)))))))))))) rfl (by kernel_rfl)
          ·
           rw [← sj h]
           exact fpr ([(14, .v (vb false))] ++ ((F5_c0 x3_0 x3_1 x3_2 x3_3 x3_4) ++ ((F5_c5 x4_0 x4_1 x4_2 x4_3 x4_4) ++ ([(25, .v (vb true)), (28, .v (i6 x7)), (30, .d false)] ++ ((F5_c2 x9_0 x9_1 x9_2 x9_3 x9_4) ++ ([(61, .v (.tup [i6 x10_0, i6 x10_1]))] ++ ((F5_c6 x11_0) ++ [(74, .v (vb true)), (78, .d false)]))))))) (apc q0 (apc q1 (apc q2 (apc q3 (apc q4 (av h8 (apc q6 (apc q7 (apc q8 (apc q9 (av h14 apn))))))))))) rfl (by kernel_rfl)
         ·
          rw [← sj h]
          exact fpr ([(14, .v (vb false))] ++ ((F5_c0 x3_0 x3_1 x3_2 x3_3 x3_4) ++ ((F5_c5 x4_0 x4_1 x4_2 x4_3 x4_4) ++ ([(25, .v (vb true)), (28, .v (i6 x7)), (30, .d false)] ++ ((F5_c2 x9_0 x9_1 x9_2 x9_3 x9_4) ++ ([(61, .v (.tup [i6 x10_0, i6 x10_1]))] ++ ((F5_c6 x11_0) ++ [(74, .v (vb false))]))))))) (apc q0 (apc q1 (apc q2 (apc q3 (apc q4 (av h8 (apc q6 (apc q7 (apc q8 (apc ((((F18_ok (⟨x4_0, x4_1, x4_2, x4_3, x4_4⟩ : GramD) (⟨x9_0, x9_1, x9_2, x9_3, x9_4⟩ : GramD) h12).cp rfl _).trans (congrArg (fun z => some (vb z)) h13)) : CP prg 18 [aH x4_0 x4_1 x4_2 x4_3 x4_4, aH x9_0 x9_1 x9_2 x9_3 x9_4] [bG a1, yS0, yP0, yF0, yW0, cH x3_0 x3_1 x3_2 x3_3 x3_4, yS0, yP0, yF0, yW0, cH x4_0 x4_1 x4_2 x4_3 x4_4, yS0, yP0, yF0, yW0, cH x9_0 x9_1 x9_2 x9_3 x9_4, yS0, yP0, yF0, yW0, .cells 27 [n0, n0, i6 0, n0, n0]] = some (vb false)) apn)))))))))) rfl (by kernel_rfl)
        | k1 x11_0 x11_1 x11_2 x11_3 x11_4 =>
         have q8 := (((F24_ok Nf (⟨x4_0, x4_1, x4_2, x4_3, x4_4⟩ : GramD) h11).cp rfl _) : CP prg 24 [aH x4_0 x4_1 x4_2 x4_3 x4_4] [bG a1, yS0, yP0, yF0, yW0, cH x3_0 x3_1 x3_2 x3_3 x3_4, yS0, yP0, yF0, yW0, cH x4_0 x4_1 x4_2 x4_3 x4_4, yS0, yP0, yF0, yW0, cH x9_0 x9_1 x9_2 x9_3 x9_4] = some (.tup [aH x11_0 x11_1 x11_2 x11_3 x11_4, i6 0]))
         refine bn h fun x12 h12 h => ?_
         refine bi h ?_ ?_ <;> intro h13 h
         ·
          have q9 := ((((F18_ok (⟨x4_0, x4_1, x4_2, x4_3, x4_4⟩ : GramD) (⟨x9_0, x9_1, x9_2, x9_3, x9_4⟩ : GramD) h12).cp rfl _).trans (congrArg (fun z => some (vb z)) h13)) : CP prg 18 [aH x4_0 x4_1 x4_2 x4_3 x4_4, aH x9_0 x9_1 x9_2 x9_3 x9_4] [bG a1, yS0, yP0, yF0, yW0, cH x3_0 x3_1 x3_2 x3_3 x3_4, yS0, yP0, yF0, yW0, cH x4_0 x4_1 x4_2 x4_3 x4_4, yS0, yP0, yF0, yW0, cH x9_0 x9_1 x9_2 x9_3 x9_4, yS0, yP0, yF0, yW0, cH x11_0 x11_1 x11_2 x11_3 x11_4] = some (vb true))
          refine bi h ?_ ?_ <;> intro h14 h
          ·
           refine bn h fun x15 h15 h => ?_
           refine bi h ?_ ?_ <;> intro h16 h
           ·
            refine bn h fun x17 h17 h => ?_
            rw [← sj h]
            exact fpr ([(14, .v (vb false))] ++ ((F5_c0 x3_0 x3_1 x3_2 x3_3 x3_4) ++ ((F5_c5 x4_0 x4_1 x4_2 x4_3 x4_4) ++ ([(25, .v (vb true)), (28, .v (i6 x7)), (30, .d false)] ++ ((F5_c2 x9_0 x9_1 x9_2 x9_3 x9_4) ++ ([(61, .v (.tup [i6 x10_0, i6 x10_1]))] ++ ((F5_c7 x11_0 x11_1 x11_2 x11_3 x11_4) ++ [(74, .v (vb true)), (78, .d true), (87, .v (vb true)), (90, .v (vb x17))]))))))) (apc q0 (apc q1 (apc q2 (apc q3 (apc q4 (av h8 (apc q6 (apc q7 (apc q8 (apc q9 (av h14 (apc ((((F18_ok (⟨x11_0, x11_1, x11_2, x11_3, x11_4⟩ : GramD) (⟨x4_0, x4_1, x4_2, x4_3, x4_4⟩ : GramD) h15).cp rfl _).trans (congrArg (fun z => some (vb z)) h16)) : CP prg 18 [aH x11_0 x11_1 x11_2 x11_3 x11_4, aH x4_0 x4_1 x4_2 x4_3 x4_4] [bG a1, yS0, yP0, yF0, yW0, cH x3_0 x3_1 x3_2 x3_3 x3_4, yS0, yP0, yF0, yW0, cH x4_0 x4_1 x4_2 x4_3 x4_4, yS0, yP0, yF0, yW0, cH x9_0 x9_1 x9_2 x9_3 x9_4, yS0, yP0, yF0, yW0, cH x11_0 x11_1 x11_2 x11_3 x11_4] = some (vb true)) (apc (((F10_ok  h17).cp rfl _) : CP prg 10 [] [bG a1, yS0, yP0, yF0, yW0, cH x3_0 x3_1 x3_2 x3_3 x3_4, yS0, yP0, yF0, yW0, cH x4_0 x4_1 x4_2 x4_3 x4_4, yS0, yP0, yF0, yW0, cH x9_0 x9_1 x9_2 x9_3 x9_4, yS0, yP0, yF0, yW0, cH x11_0 x11_1 x11_2 x11_3 x11_4] = some (vb x17)) apn))))))))))))) rfl (by kernel_rfl)
           ·
            rw [← sj h]
            exact fpr ([(14, .v (vb false))] ++ ((F5_c0 x3_0 x3_1 x3_2 x3_3 x3_4) ++ ((F5_c5 x4_0 x4_1 x4_2 x4_3 x4_4) ++ ([(25, .v (vb true)), (28, .v (i6 x7)), (30, .d false)] ++ ((F5_c2 x9_0 x9_1 x9_2 x9_3 x9_4) ++ ([(61, .v (.tup [i6 x10_0, i6 x10_1]))] ++ ((F5_c7 x11_0 x11_1 x11_2 x11_3 x11_4) ++ [(74, .v (vb true)), (78, .d true), (87, .v (vb false))]))))))) (apc q0 (apc q1 (apc q2 (apc q3 (apc q4 (av h8 (apc q6 (apc q7 (apc q8 (apc q9 (av h14 (apc ((((F18_ok (⟨x11_0, x11_1, x11_2, x11_3, x11_4⟩ : GramD) (⟨x4_0, x4_1, x4_2, x4_3, x4_4⟩ : GramD) h15).cp rfl _).trans (congrArg (fun z => some (vb z)) h16)) : CP prg 18 [aH x11_0 x11_1 x11_2 x11_3 x11_4, aH x4_0 x4_1 x4_2 x4_3 x4_4] [bG a1, yS0, yP0, yF0, yW0, cH x3_0 x3_1 x3_2 x3_3 x3_4, yS0, yP0, yF0, yW0, cH x4_0 x4_1 x4_2 x4_3 x4_4, yS0, yP0, yF0, yW0, cH x9_0 x9_1 x9_2 x9_3 x9_4, yS0, yP0, yF0, yW0, cH x11_0 x11_1 x11_2 x11_3 x11_4] = some (vb false)) apn)))))))))))) rfl (by kernel_rfl)
          ·
           rw [← sj h]
           exact fpr ([(14, .v (vb false))] ++ ((F5_c0 x3_0 x3_1 x3_2 x3_3 x3_4) ++ ((F5_c5 x4_0 x4_1 x4_2 x4_3 x4_4) ++ ([(25, .v (vb true)), (28, .v (i6 x7)), (30, .d false)] ++ ((F5_c2 x9_0 x9_1 x9_2 x9_3 x9_4) ++ ([(61, .v (.tup [i6 x10_0, i6 x10_1]))] ++ ((F5_c7 x11_0 x11_1 x11_2 x11_3 x11_4) ++ [(74, .v (vb true)), (78, .d false)]))))))) (apc q0 (apc q1 (apc q2 (apc q3 (apc q4 (av h8 (apc q6 (apc q7 (apc q8 (apc q9 (av h14 apn))))))))))) rfl (by kernel_rfl)
         ·
          rw [← sj h]
          exact fpr ([(14, .v (vb false))] ++ ((F5_c0 x3_0 x3_1 x3_2 x3_3 x3_4) ++ ((F5_c5 x4_0 x4_1 x4_2 x4_3 x4_4) ++ ([(25, .v (vb true)), (28, .v (i6 x7)), (30, .d false)] ++ ((F5_c2 x9_0 x9_1 x9_2 x9_3 x9_4) ++ ([(61, .v (.tup [i6 x10_0, i6 x10_1]))] ++ ((F5_c7 x11_0 x11_1 x11_2 x11_3 x11_4) ++ [(74, .v (vb false))]))))))) (apc q0 (apc q1 (apc q2 (apc q3 (apc q4 (av h8 (apc q6 (apc q7 (apc q8 (apc ((((F18_ok (⟨x4_0, x4_1, x4_2, x4_3, x4_4⟩ : GramD) (⟨x9_0, x9_1, x9_2, x9_3, x9_4⟩ : GramD) h12).cp rfl _).trans (congrArg (fun z => some (vb z)) h13)) : CP prg 18 [aH x4_0 x4_1 x4_2 x4_3 x4_4, aH x9_0 x9_1 x9_2 x9_3 x9_4] [bG a1, yS0, yP0, yF0, yW0, cH x3_0 x3_1 x3_2 x3_3 x3_4, yS0, yP0, yF0, yW0, cH x4_0 x4_1 x4_2 x4_3 x4_4, yS0, yP0, yF0, yW0, cH x9_0 x9_1 x9_2 x9_3 x9_4, yS0, yP0, yF0, yW0, cH x11_0 x11_1 x11_2 x11_3 x11_4] = some (vb false)) apn)))))))))) rfl (by kernel_rfl)
      | k1 =>
       rw [← sj h]
       exact fpr ([(14, .v (vb false))] ++ ((F5_c0 x3_0 x3_1 x3_2 x3_3 x3_4) ++ ((F5_c5 x4_0 x4_1 x4_2 x4_3 x4_4) ++ [(25, .v (vb true)), (28, .v (i6 x7)), (30, .d false), (44, .v (.tup [(.agg [n0, n0, i6 0, n0, n0]), vb false]))]))) (apc q0 (apc q1 (apc q2 (apc q3 (apc q4 (av h8 (apc (((F25_ok a1 h9).cp rfl _) : CP prg 25 [aG a1] [bG a1, yS0, yP0, yF0, yW0, cH x3_0 x3_1 x3_2 x3_3 x3_4, yS0, yP0, yF0, yW0, cH x4_0 x4_1 x4_2 x4_3 x4_4] = some (.tup [(.agg [n0, n0, i6 0, n0, n0]), vb false])) apn))))))) rfl (by kernel_rfl)
    ·
     rw [← sj h]
     exact fpr ([(14, .v (vb false))] ++ ((F5_c0 x3_0 x3_1 x3_2 x3_3 x3_4) ++ ((F5_c5 x4_0 x4_1 x4_2 x4_3 x4_4) ++ [(25, .v (vb false))]))) (apc q0 (apc q1 (apc q2 (apc ((((F18_ok (⟨x3_0, x3_1, x3_2, x3_3, x3_4⟩ : GramD) a1 h5).cp rfl _).trans (congrArg (fun z => some (vb z)) h6)) : CP prg 18 [aH x3_0 x3_1 x3_2 x3_3 x3_4, aG a1] [bG a1, yS0, yP0, yF0, yW0, cH x3_0 x3_1 x3_2 x3_3 x3_4, yS0, yP0, yF0, yW0, cH x4_0 x4_1 x4_2 x4_3 x4_4] = some (vb false)) apn)))) rfl (by kernel_rfl)
end
end Go.Proofs.Try
