/- The law's closed part: it answers true. -/
import Derived.Test.YtefidjmkfefilaaDoorW14
import Derived.Test.YtefidjmkfefilaaDoorW24
import Derived.Test.YtefidjmkfefilaaDoorW34
import Derived.Test.YtefidjmkfefilaaDoorVE
import Derived.Test.YtefidjmkfefilaaDoorFT4
import Derived.Test.YtefidjmkfefilaaDoorFB4
namespace Go.Proofs.Tryd
set_option linter.unusedSimpArgs false
set_option linter.unusedVariables false
open Go Go.Vs
def gSc : List AV := match gS with | .agg xs => xs | _ => []
def hW : List AB := [.row 9 1 0 [], .row 53 7 0 [], .row 85 3 0 [], .row 87 5 0 [], .cells 27 gSc]
theorem cpw {fn : Nat} {args : List AV} {x : AV} (hp : AV.pure.pures args = true) (h : callP prg (evalN prg 100) fn args [] = some x) (h0 : List AB) : CP prg fn args h0 = some x := by
  have := CP_of 100 h
  rw [CP_in _ _ hp] at this ⊢
  exact this
theorem works : PR1 prg 11 [] (vb true) :=
  fpr (n := 30) [(12, .v gS), (15, .v (.tup [.p (.lst 1 [[.val (.int .i64 1)], [.val (.int .i64 0)], [.val (.int .i64 (-1))]]), vi .i64 0])), (20, .v (.tup [.p (.lst 1 [[.val (.bool true)], [.val (.bool false)], [.val (.bool false)]]), vi .i64 0])), (25, .v (.tup [.p (.lst 1 [[.val (.bool false)], [.val (.bool true)], [.val (.bool false)]]), vi .i64 0])), (30, .v (.tup [vs ⟨([120] : List UInt8).toArray⟩, vi .i64 0])), (35, .v (.tup [vs ⟨([] : List UInt8).toArray⟩, vi .i64 161]))]
    (apc (cpw rfl r40 [] : CP prg 40 [] [] = some gS) (apc (cpw rfl r13 hW : CP prg 13 [gS] hW = some (.tup [.p (.lst 1 [[.val (.int .i64 1)], [.val (.int .i64 0)], [.val (.int .i64 (-1))]]), vi .i64 0])) (apc (cpw rfl r23 hW : CP prg 23 [gS] hW = some (.tup [.p (.lst 1 [[.val (.bool true)], [.val (.bool false)], [.val (.bool false)]]), vi .i64 0])) (apc (cpw rfl r22 hW : CP prg 22 [gS] hW = some (.tup [.p (.lst 1 [[.val (.bool false)], [.val (.bool true)], [.val (.bool false)]]), vi .i64 0]))
      (apc (cpw rfl r14a hW : CP prg 14 [gS, vi .i64 0] hW = some (.tup [vs ⟨([120] : List UInt8).toArray⟩, vi .i64 0])) (apc (cpw rfl r14b hW : CP prg 14 [gS, vi .i64 2] hW = some (.tup [vs ⟨([] : List UInt8).toArray⟩, vi .i64 161])) apn)))))) rfl (by kernel_rfl)
end Go.Proofs.Tryd
namespace Go.Proofs.Tryd
set_option linter.unusedSimpArgs false
set_option linter.unusedVariables false
open Go Go.Vs
noncomputable def F11 : Option Bool := some true
def F11_v (x0 : Bool) : AV := vb x0
theorem F11_ok {r : Bool} (h : F11 = some r) : PR1 prg 11 [] (F11_v r) := by cases h; exact works
theorem PR1_of {fn : Nat} {args : List AV} {x : AV} (hp : AV.pure.pures args = true) (h : CP prg fn args [] = some x) : PR1 prg fn args x := by
  rw [CP_in _ _ hp] at h
  obtain ⟨r, h1, h2⟩ := Option.bind_eq_some_iff.1 h
  exact ⟨r.1, r.2, h1, h2⟩
def v4 (s : SymD) : V4 := ⟨.ofInt 64 s.a, .ofInt 64 s.b, .ofInt 64 s.c, .ofInt 64 s.d⟩
def wOk (s : SymD) : Bool := decide ((0 ≤ s.a ∧ s.a < 18446744073709551616) ∧ (0 ≤ s.b ∧ s.b < 18446744073709551616) ∧ (0 ≤ s.c ∧ s.c < 18446744073709551616) ∧ (0 ≤ s.d ∧ s.d < 18446744073709551616))
theorem v4_of {s : SymD} (h : wOk s = true) : ofV (v4 s) = ⟨s.a, s.b, s.c, s.d⟩ := by
  have h := of_decide_eq_true h
  have key : ∀ n : Int, 0 ≤ n ∧ n < 18446744073709551616 → ((BitVec.ofInt 64 n).toNat : Int) = n := by
    intro n hn
    rw [BitVec.toNat_ofInt]
    omega
  simp only [ofV, v4, key _ h.1, key _ h.2.1, key _ h.2.2.1, key _ h.2.2.2]
inductive R_F49 where
  | k0 (x0 : Int) (x1 : Bool)
noncomputable def F49 (s : SymD) : Option R_F49 := bif wOk s then some (match bytesS (v4 s) with | [] => .k0 0 false | c :: _ => .k0 c true) else none
def F49_v (s : SymD) (r : R_F49) : AV := match r with | .k0 x0 x1 => .tup [vi .u8 x0, vb x1]
theorem F49_ok (s : SymD) {r : R_F49} (h : F49 s = some r) : PR1 prg 49 [.agg ((List.take 4 (List.drop 1 (eSym s))).map .p)] (F49_v s r) := by
  unfold F49 at h
  cases hw : wOk s with
  | false => rw [hw] at h; cases h
  | true =>
    rw [hw] at h
    have hl := least (v4 s) []
    rw [v4_of hw] at hl
    refine PR1_of rfl ?_
    have e : setI ⟨s.a, s.b, s.c, s.d⟩ = .agg ((List.take 4 (List.drop 1 (eSym s))).map .p) := rfl
    rw [← e, hl]
    simp only [cond_true, Option.some.injEq] at h
    subst h
    cases bytesS (v4 s) <;> rfl
end Go.Proofs.Tryd
namespace Go.Proofs.Tryd
open Go Go.Vs
abbrev eOp (g : GramD) (sh : List Int) (nu : List Bool) : List PV := (eGram g) ++ [.lst 1 (sh.map eI64), .lst 1 (nu.map eBool)]
abbrev bS (l : List SetD) : AB := .row 46 4 0 (ra eSet l)
end Go.Proofs.Tryd
