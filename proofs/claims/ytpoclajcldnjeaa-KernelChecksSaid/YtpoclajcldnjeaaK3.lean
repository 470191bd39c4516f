/- Whether a grammar may be: the program and the document's answer say the same. -/
import Derived.Test.YtpoclajcldnjeaaG32
import Derived.Test.YtpoclajcldnjeaaVE
import Derived.Test.YtpoclajcldnjeaaW3
import Derived.Test.YtpoclajcldnjeaaRows
import Derived.ProofKit
namespace Go.Proofs.Try
set_option linter.unusedSimpArgs false
set_option linter.unusedVariables false
open Go Go.Vs
def u64ok (a : Int) : Prop := 0 ≤ a ∧ a ≤ 18446744073709551615
def i64ok (a : Int) : Prop := -9223372036854775808 ≤ a ∧ a ≤ 9223372036854775807
structure SymOk (s : SymD) : Prop where
  kind : i64ok s.kind
  a : u64ok s.a
  b : u64ok s.b
  c : u64ok s.c
  d : u64ok s.d
  sort : i64ok s.sort
structure ProdOk (p : ProdD) : Prop where
  left : i64ok p.left
  right : ∀ s ∈ p.right, SymOk s
  len : p.right.length ≤ 40
  role : i64ok p.role
structure GramOk (g : GramD) : Prop where
  sorts : g.sorts.length ≤ 40
  prods : g.prods.length ≤ 80
  forbid : g.forbid.length ≤ 200
  follow : g.follow.length ≤ 200
  prod : ∀ p ∈ g.prods, ProdOk p
  foll : ∀ f ∈ g.follow, u64ok f.a ∧ u64ok f.b ∧ u64ok f.c ∧ u64ok f.d
  forb : ∀ f ∈ g.forbid, i64ok f.at_
def inR (n : Nat) (x : Int) : Bool := decide (0 ≤ x) && decide (x < (n : Int))
def sortOk (g : GramD) (x : Int) : Bool := inR g.sorts.length x
def emptyW (a b c d : Int) : Bool := (a == 0) && ((b == 0) && ((c == 0) && ((d == 0) && true)))
def pk {α : Type} (l : List α) (f : α → Bool) (k : Nat) : Bool := match l[k]? with | some t => f t | none => true
def pv {α : Type} (l : List α) (f : α → Bool) (i : Nat) : Bool := (List.range i).all (pk l f)
def okName (g : GramD) (i : Nat) (s : ByteArray) : Bool := !decide (s = .empty) && !decide ((s.size : Int) > 1000) && pv g.sorts (fun t => !decide (t = s)) i
def okSym (g : GramD) (p : ProdD) (s : SymD) : Bool :=
  bif s.kind == 0 then !emptyW s.a s.b s.c s.d && (s.sort == 0) else bif s.kind == 1 then emptyW s.a s.b s.c s.d && sortOk g s.sort && !(p.role == 11) else false
def okProd (g : GramD) (p : ProdD) : Bool :=
  sortOk g p.left && !decide ((p.right.length : Int) > 30) && !decide (p.role < 0) && !decide (p.role > 11) && !decide (p.frm < -1) && !decide ((p.cons.size : Int) > 64) && (decide (p.cons = .empty) || (p.role == 0)) && !(p.prefer && p.avoid) && allF (fun _ s => okSym g p s) 0 p.right
theorem eqE (s : ByteArray) : (s.toList == (⟨([] : List UInt8).toArray⟩ : ByteArray).toList) = decide (s = .empty) := bytes_list
theorem bsome (c d : Bool) : (bif c then some d else some false) = some (c && d) := by cases c <;> rfl
theorem q41 (g : GramD) : F31 g = some (sortOk g g.start) := bsome _ _
theorem q41_2 (g : GramD) (p : ProdD) : F31_2 g p = some (sortOk g p.left) := bsome _ _
theorem q41_3 (g : GramD) (p : SymD) : F31_3 g p = some (sortOk g p.sort) := bsome _ _
theorem q41_4 (g : GramD) (p : FollD) : F31_4 g p = some (sortOk g p.sort) := bsome _ _
theorem q73 (p : ProdD) (g : GramD) : F67 p g = some (sortOk g p.left) := bsome _ _
theorem q73_2 (s : SymD) (g : GramD) : F67_2 s g = some (sortOk g s.sort) := bsome _ _
theorem or4 {a b c d : Int} (ha : u64ok a) (hb : u64ok b) (hc : u64ok c) (hd : u64ok d) :
    ((IntKind.wrap .u64 ((BitVec.ofInt (IntKind.bits .u64) (IntKind.wrap .u64 ((BitVec.ofInt (IntKind.bits .u64) (IntKind.wrap .u64 ((BitVec.ofInt (IntKind.bits .u64) a ||| BitVec.ofInt (IntKind.bits .u64) b).toNat : Int)) ||| BitVec.ofInt (IntKind.bits .u64) c).toNat : Int)) ||| BitVec.ofInt (IntKind.bits .u64) d).toNat : Int)) == 0) = emptyW a b c d := by
  have e2 : ∀ x y : BitVec 64, decide ((x ||| y) = 0#64) = (decide (x = 0#64) && decide (y = 0#64)) := by
    intro x y
    by_cases hx : x = 0#64
    · subst hx; simp
    · have : ¬ (x ||| y) = 0#64 := by
        intro h
        apply hx
        apply BitVec.eq_of_getLsbD_eq
        intro i hi
        have := congrArg (fun z => z.getLsbD i) h
        simp only [BitVec.getLsbD_or, BitVec.getLsbD_zero, Bool.or_eq_false_iff] at this
        rw [this.1]; simp
      simp [hx, this]
  rw [or_zero, or_u64, or_u64, e2, e2, ofInt_zero ha, ofInt_zero hb, ofInt_zero hc, ofInt_zero hd]
  simp only [emptyW, Bool.and_assoc, Bool.and_true]
theorem q44 {s : SymD} (h : SymOk s) : F34 s = some (emptyW s.a s.b s.c s.d) := by
  unfold F34
  rw [or4 h.a h.b h.c h.d]
theorem q44_2 {f : FollD} (h : u64ok f.a ∧ u64ok f.b ∧ u64ok f.c ∧ u64ok f.d) : F34_2 f = some (emptyW f.a f.b f.c f.d) := by
  unfold F34_2
  rw [or4 h.1 h.2.1 h.2.2.1 h.2.2.2]
theorem range_take {α : Type} (l : List α) (f : α → Bool) : ∀ (i : Nat), i ≤ l.length → pv l f i = (l.take i).all f
  | 0, _ => rfl
  | i + 1, h => by
    have hx : l[i]? = some l[i] := List.getElem?_eq_getElem (by omega)
    have ih := range_take l f i (by omega)
    unfold pv at ih ⊢
    rw [List.range_succ, List.all_append, ih, List.take_add_one, hx, List.all_append]
    simp [pk, hx]
theorem l12_5 (g : GramD) {i : Nat} {x : ByteArray} (hi : g.sorts[i]? = some x) (hn : g.sorts.length ≤ 40) :
    runL (fun s => L12_5_2 (i : Int) g s) 0 = some (bif pv g.sorts (fun t => !decide (t = x)) i then E_L12_5_2.k1 else E_L12_5_2.k0) := by
  have hl : i < g.sorts.length := (List.getElem?_eq_some_iff.1 hi).1
  refine loop_range (pk g.sorts (fun t => !decide (t = x))) (fun k hk => ?_) ?_
  · have hy : g.sorts[k]? = some g.sorts[k] := List.getElem?_eq_getElem (by omega)
    simp only [L12_5_2, getI_nat, hi, hy, Option.bind_some, decide_eq_true (show (k : Int) < (i : Int) by omega), cond_true, bytes_list, w_S (show k < 4611686018427387904 by omega), pk]
    by_cases e : g.sorts[k] = x <;> simp [e]
  · simp [L12_5_2]
theorem beqF {a b : Int} (h : ¬ a = b) : (a == b) = false := by simp [h]
theorem bneT {a b : Int} (h : ¬ a = b) : (a != b) = true := by simp [h]
theorem l42_0 {g : GramD} {p : ProdD} (hp : ProdOk p) : runL (fun s => L32_0 g p s) 0 = some (bif allF (fun _ s => okSym g p s) 0 p.right then E_L32_0.k1 else E_L32_0.k0) := by
  have hlen := hp.len
  refine loop_list (fun _ s => okSym g p s) (fun i x hx => ?_) ?_
  · have hl : i < p.right.length := (List.getElem?_eq_some_iff.1 hx).1
    have hs := hp.right x (List.mem_of_getElem? hx)
    simp only [L32_0, getI_nat, hx, Option.bind_some, decide_eq_true (show (i : Int) < (p.right.length : Int) by omega), cond_true, q44 hs, q41_3, w_S (show i < 4611686018427387904 by omega), okSym]
    by_cases k0 : x.kind = 0
    · rw [k0]
      cases emptyW x.a x.b x.c x.d <;> by_cases hz : x.sort = 0 <;> first | (simp [hz]; done) | simp [beqF hz, bneT hz]
    · by_cases k1 : x.kind = 1
      · rw [k1]
        cases emptyW x.a x.b x.c x.d <;> cases sortOk g x.sort <;> by_cases hr : p.role = 11 <;> first | (simp [hr]; done) | simp [beqF hr]
      · simp [beqF k0, beqF k1, bneT k0, bneT k1]
  · simp [L32_0]
theorem q42 {g : GramD} {p : ProdD} (hp : ProdOk p) : F32 g p = some (okProd g p) := by
  unfold F32 okProd
  rw [q41_2, l42_0 hp, eqE]
  simp only [Option.bind_some]
  cases sortOk g p.left <;> simp only [cond_true, cond_false, Bool.false_and, Bool.true_and]
  cases decide ((p.right.length : Int) > 30) <;> simp only [cond_true, cond_false, Bool.false_and, Bool.true_and, Bool.not_true, Bool.not_false]
  cases decide (p.role < 0) <;> simp only [cond_true, cond_false, Bool.false_and, Bool.true_and, Bool.not_true, Bool.not_false]
  cases decide (p.role > 11) <;> simp only [cond_true, cond_false, Bool.false_and, Bool.true_and, Bool.not_true, Bool.not_false]
  cases decide (p.frm < -1) <;> simp only [cond_true, cond_false, Bool.false_and, Bool.true_and, Bool.not_true, Bool.not_false]
  cases decide ((p.cons.size : Int) > 64) <;> simp only [cond_true, cond_false, Bool.false_and, Bool.true_and, Bool.not_true, Bool.not_false]
  cases decide (p.cons = ByteArray.empty) <;> by_cases hr : p.role = 0 <;> cases p.prefer <;> cases p.avoid <;> cases allF (fun _ s => okSym g p s) 0 p.right <;> first | (simp [hr]; done) | simp [beqF hr, bneT hr]
theorem l12_4 {g : GramD} (hg : GramOk g) : runL (fun s => L12_4 g s) 0 = some (bif allF (fun _ p => okProd g p) 0 g.prods then E_L12_4.k1 else E_L12_4.k0) := by
  have hlen := hg.prods
  refine loop_list (fun _ p => okProd g p) (fun i x hx => ?_) ?_
  · have hl : i < g.prods.length := (List.getElem?_eq_some_iff.1 hx).1
    simp only [L12_4, getI_nat, hx, Option.bind_some, decide_eq_true (show (i : Int) < (g.prods.length : Int) by omega), cond_true, q42 (hg.prod x (List.mem_of_getElem? hx)), w_S (show i < 4611686018427387904 by omega)]
    cases okProd g x <;> rfl
  · simp [L12_4]
def okForb (g : GramD) (f : ForbD) : Bool :=
  match getI g.prods f.parent, getI g.prods f.child with
  | some p, some c => !(p.role == 11) && !(c.role == 11) && !decide (f.at_ < 1) && !decide (f.at_ > (p.right.length : Int)) && (match getI p.right (f.at_ - 1) with | some s => (s.kind == 1) && (s.sort == c.left) | none => false)
  | _, _ => false
theorem getI_none {α : Type} {l : List α} {i : Int} (h : i < 0 ∨ (l.length : Int) ≤ i) : getI l i = none := by
  unfold getI
  split
  · rw [List.getElem?_eq_none (by omega)]
  · rfl
theorem getI_in {α : Type} {l : List α} {i : Int} (h0 : ¬ i < 0) (h1 : ¬ (l.length : Int) ≤ i) : ∃ x, getI l i = some x := by
  unfold getI
  rw [if_pos (by omega)]
  exact ⟨_, List.getElem?_eq_getElem (by omega)⟩
theorem q43 {g : GramD} (hg : GramOk g) {f : ForbD} (hf : i64ok f.at_) : F33 g f = some (okForb g f) := by
  unfold F33 okForb
  by_cases h1 : f.parent < 0
  · simp [h1, getI_none (l := g.prods) (.inl h1)]
  by_cases h2 : (g.prods.length : Int) ≤ f.parent
  · simp [h2, h1, getI_none (l := g.prods) (.inr h2)]
  obtain ⟨p, hp⟩ := getI_in h1 h2
  by_cases h3 : f.child < 0
  · simp [h1, h2, h3, hp, getI_none (l := g.prods) (.inl h3)]
  by_cases h4 : (g.prods.length : Int) ≤ f.child
  · simp [h1, h2, h3, h4, hp, getI_none (l := g.prods) (.inr h4)]
  obtain ⟨c, hc⟩ := getI_in h3 h4
  simp only [hp, hc, decide_eq_false h1, decide_eq_false h3, decide_eq_false (show ¬ f.parent ≥ (g.prods.length : Int) from h2), decide_eq_false (show ¬ f.child ≥ (g.prods.length : Int) from h4), cond_false, Option.bind_some]
  by_cases h5 : p.role = 11
  · simp [h5]
  by_cases h6 : c.role = 11
  · simp [beqF h5, h6]
  by_cases h7 : f.at_ < 1
  · simp [beqF h5, beqF h6, h7]
  by_cases h8 : f.at_ > (p.right.length : Int)
  · simp [beqF h5, beqF h6, h7, h8]
  have hb1 : (p.role == 11) = false := by simp [h5]
  have hb2 : (c.role == 11) = false := by simp [h6]
  simp only [hb1, hb2, decide_eq_false h7, decide_eq_false h8, cond_false, Bool.not_false, Bool.true_and]
  unfold i64ok at hf
  rw [w_id (by omega)]
  obtain ⟨s, hs⟩ := getI_in (l := p.right) (i := f.at_ - 1) (by omega) (by omega)
  rw [hs]
  simp only [Option.bind_some]
  exact bsome _ _
theorem l12_6 (g : GramD) (hn : g.sorts.length ≤ 40) : runL (fun s => L12_6 g s) 0 = some (bif allF (okName g) 0 g.sorts then E_L12_6.k1 else E_L12_6.k0) := by
  refine loop_list (okName g) (fun i x hx => ?_) ?_
  · have hl : i < g.sorts.length := (List.getElem?_eq_some_iff.1 hx).1
    simp only [L12_6, getI_nat, hx, Option.bind_some, decide_eq_true (show (i : Int) < (g.sorts.length : Int) by omega), cond_true, eqE, l12_5 g hx hn, w_S (show i < 4611686018427387904 by omega), okName]
    cases decide (x = ByteArray.empty) <;> cases decide ((x.size : Int) > 1000) <;> simp
    cases pv g.sorts (fun t => !decide (t = x)) i <;> simp
  · simp [L12_6]
end Go.Proofs.Try
namespace Go.Proofs.Try
set_option linter.unusedSimpArgs false
set_option linter.unusedVariables false
open Go Go.Vs
def eqFo (x y : ForbD) : Bool := (x.parent == y.parent) && ((x.at_ == y.at_) && ((x.child == y.child) && true))
def okForbI (g : GramD) (i : Nat) (f : ForbD) : Bool := okForb g f && pv g.forbid (fun t => !eqFo t f) i
def okFollI (g : GramD) (i : Nat) (f : FollD) : Bool := sortOk g f.sort && !emptyW f.a f.b f.c f.d && pv g.follow (fun t => !(t.sort == f.sort)) i
theorem l12_2 (g : GramD) {i : Nat} {x : ForbD} (hi : g.forbid[i]? = some x) (hn : g.forbid.length ≤ 200) :
    runL (fun s => L12_2_2 (i : Int) g s) 0 = some (bif pv g.forbid (fun t => !eqFo t x) i then E_L12_2_2.k1 else E_L12_2_2.k0) := by
  have hl : i < g.forbid.length := (List.getElem?_eq_some_iff.1 hi).1
  refine loop_range (pk g.forbid (fun t => !eqFo t x)) (fun k hk => ?_) ?_
  · have hy : g.forbid[k]? = some g.forbid[k] := List.getElem?_eq_getElem (by omega)
    simp only [L12_2_2, getI_nat, hi, hy, Option.bind_some, decide_eq_true (show (k : Int) < (i : Int) by omega), cond_true, w_S (show k < 4611686018427387904 by omega), eqFo, pk]
    cases (g.forbid[k].parent == x.parent && (g.forbid[k].at_ == x.at_ && (g.forbid[k].child == x.child && true))) <;> rfl
  · simp [L12_2_2]
theorem l12_3 {g : GramD} (hg : GramOk g) : runL (fun s => L12_3 g s) 0 = some (bif allF (okForbI g) 0 g.forbid then E_L12_3.k1 else E_L12_3.k0) := by
  have hn := hg.forbid
  refine loop_list (okForbI g) (fun i x hx => ?_) ?_
  · have hl : i < g.forbid.length := (List.getElem?_eq_some_iff.1 hx).1
    simp only [L12_3, getI_nat, hx, Option.bind_some, decide_eq_true (show (i : Int) < (g.forbid.length : Int) by omega), cond_true, q43 hg (hg.forb x (List.mem_of_getElem? hx)), l12_2 g hx hn, w_S (show i < 4611686018427387904 by omega), okForbI]
    cases okForb g x
    · rfl
    · simp only [cond_true, Bool.true_and]
      cases pv g.forbid (fun t => !eqFo t x) i <;> rfl
  · simp [L12_3]
theorem l12_0 (g : GramD) {i : Nat} {x : FollD} (hi : g.follow[i]? = some x) (hn : g.follow.length ≤ 200) :
    runL (fun s => L12_0_2 (i : Int) g s) 0 = some (bif pv g.follow (fun t => !(t.sort == x.sort)) i then E_L12_0_2.k1 else E_L12_0_2.k0) := by
  have hl : i < g.follow.length := (List.getElem?_eq_some_iff.1 hi).1
  refine loop_range (pk g.follow (fun t => !(t.sort == x.sort))) (fun k hk => ?_) ?_
  · have hy : g.follow[k]? = some g.follow[k] := List.getElem?_eq_getElem (by omega)
    simp only [L12_0_2, getI_nat, hi, hy, Option.bind_some, decide_eq_true (show (k : Int) < (i : Int) by omega), cond_true, w_S (show k < 4611686018427387904 by omega), pk]
    cases (g.follow[k].sort == x.sort) <;> rfl
  · simp [L12_0_2]
theorem l12_1 {g : GramD} (hg : GramOk g) : runL (fun s => L12_1 g s) 0 = some (bif allF (okFollI g) 0 g.follow then E_L12_1.k1 else E_L12_1.k0) := by
  have hn := hg.follow
  refine loop_list (okFollI g) (fun i x hx => ?_) ?_
  · have hl : i < g.follow.length := (List.getElem?_eq_some_iff.1 hx).1
    simp only [L12_1, getI_nat, hx, Option.bind_some, decide_eq_true (show (i : Int) < (g.follow.length : Int) by omega), cond_true, q41_4, q44_2 (hg.foll x (List.mem_of_getElem? hx)), l12_0 g hx hn, w_S (show i < 4611686018427387904 by omega), okFollI]
    cases sortOk g x.sort
    · rfl
    · cases emptyW x.a x.b x.c x.d
      · simp only [cond_true, cond_false, Bool.true_and, Bool.not_false]
        cases pv g.follow (fun t => !(t.sort == x.sort)) i <;> rfl
      · rfl
  · simp [L12_1]
def okSorts (g : GramD) : Bool := !decide ((g.sorts.length : Int) < 1) && sortOk g g.start && allF (okName g) 0 g.sorts
def okProds (g : GramD) : Bool := allF (fun _ p => okProd g p) 0 g.prods
def okForbs (g : GramD) : Bool := allF (okForbI g) 0 g.forbid
def okFolls (g : GramD) : Bool := allF (okFollI g) 0 g.follow
def chkB (g : GramD) : Bool := okSorts g && okProds g && okForbs g && okFolls g
def chkN (g : GramD) : Int := bif chkB g then 0 else 160
theorem q12 {g : GramD} (hg : GramOk g) : F12 g = some (chkN g) := by
  have h1 := hg.sorts
  have h2 := hg.prods
  unfold F12 chkN chkB okSorts okProds okForbs okFolls
  rw [q41, l12_6 g h1, l12_4 hg, l12_3 hg, l12_1 hg, decide_eq_false (show ¬ (g.sorts.length : Int) > 1000 by omega), decide_eq_false (show ¬ (g.prods.length : Int) > 1000 by omega)]
  simp only [Option.bind_some, cond_false]
  cases decide ((g.sorts.length : Int) < 1) <;> cases sortOk g g.start <;> cases allF (okName g) 0 g.sorts <;> cases allF (fun _ p => okProd g p) 0 g.prods <;> cases allF (okForbI g) 0 g.forbid <;> cases allF (okFollI g) 0 g.follow <;> rfl
theorem seen_inv {α K : Type} [DecidableEq K] {l : List α} {key : α → K} {m : List (K × Int)} {i : Nat} {x : α} (hx : l[i]? = some x) (hm : ∀ s, mget 0 m s = if (l.take i).any (fun t => decide (key t = s)) then 1 else 0) :
    mget 0 (mput (key x) (IntKind.wrap .i64 (mget 0 m (key x) + 1)) m) (key x) = (if (l.take i).any (fun t => decide (key t = key x)) then 2 else 1) ∧ ((l.take i).any (fun t => decide (key t = key x)) = false → ∀ s, mget 0 (mput (key x) (IntKind.wrap .i64 (mget 0 m (key x) + 1)) m) s = if (l.take (i + 1)).any (fun t => decide (key t = s)) then 1 else 0) := by
  constructor
  · rw [mget_mput, if_pos rfl, hm (key x)]
    split <;> rfl
  · intro hn s
    rw [mget_mput, hm (key x), hn, List.take_add_one, hx, List.any_append]
    by_cases e : s = key x
    · subst e; simp; rfl
    · rw [if_neg e, hm s]
      have : ¬ key x = s := fun h => e h.symm
      simp [this]
theorem dup_take {α : Type} {l : List α} {i : Nat} (f : α → Bool) (hi : i ≤ l.length) : pv l (fun t => !f t) i = !((l.take i).any f) := by
  rw [range_take l (fun t => !f t) i hi]
  induction l.take i with
  | nil => rfl
  | cons x xs ih => simp only [List.all_cons, List.any_cons, ih]; cases f x <;> simp
theorem q57 {g : GramD} (hg : GramOk g) : F41 g = some (okSorts g) := by
  have hn := hg.sorts
  have key := loop_chk (step := fun s => L41_0 g (g.sorts.length : Int) s.1 s.2) (l := g.sorts) (emb := fun i m => ((i : Int), m)) (okName g) (fun i m x => mput x (IntKind.wrap .i64 (mget 0 m x + 1)) m) E_L41_0.k0 E_L41_0.k1
    (fun i m => ∀ s, mget 0 m s = if (g.sorts.take i).any (fun t => decide (t = s)) then 1 else 0) (fun i x m hx hm => ?_) (fun m _ => ?_) g.sorts.length 0 [] (by omega) (by intro s; simp [mget, mfind])
  · rw [List.drop_zero] at key
    unfold F41 okSorts
    have e : ((0 : Nat) : Int) = 0 := rfl
    simp only [e] at key
    cases hall : allF (okName g) 0 g.sorts with
    | true =>
      obtain ⟨b, hb, _⟩ := key.1 hall
      rw [hb]
      simp only [Option.bind_some, decide_eq_true (show (g.sorts.length : Int) ≤ 1000 by omega), cond_true, sortOk, inR]
      by_cases h1 : (g.sorts.length : Int) < 1
      · simp [h1, show ¬ (g.sorts.length : Int) ≥ 1 by omega]
      · rw [decide_eq_true (show (g.sorts.length : Int) ≥ 1 by omega), decide_eq_false h1]
        simp only [cond_true, Bool.not_false, Bool.true_and, Bool.and_true]
        exact bsome _ _
    | false =>
      rw [key.2 hall]
      simp
  · have hl : i < g.sorts.length := (List.getElem?_eq_some_iff.1 hx).1
    obtain ⟨h1, h2⟩ := seen_inv (key := fun t => t) hx hm
    have hd := dup_take (l := g.sorts) (i := i) (fun t => decide (t = x)) (by omega)
    simp only [L41_0, getI_nat, hx, Option.bind_some, decide_eq_true (show (i : Int) < (g.sorts.length : Int) by omega), cond_true, eqE, h1, w_S (show i < 4611686018427387904 by omega), okName, hd]
    cases decide (x = ByteArray.empty) <;> cases decide ((x.size : Int) > 1000) <;> cases hxm : (g.sorts.take i).any (fun t => decide (t = x)) <;> simp
    exact h2 hxm
  · simp [L41_0]
theorem l58_0 {g : GramD} {p : ProdD} (hp : ProdOk p) : runL (fun s => L42_0_2 g p (p.right.length : Int) s) 0 = some (bif allF (fun _ s => okSym g p s) 0 p.right then E_L42_0_2.k1 else E_L42_0_2.k0) := by
  have hlen := hp.len
  refine loop_list (fun _ s => okSym g p s) (fun i x hx => ?_) ?_
  · have hl : i < p.right.length := (List.getElem?_eq_some_iff.1 hx).1
    have he : ((x.a == 0) && ((x.b == 0) && ((x.c == 0) && ((x.d == 0) && true)))) = emptyW x.a x.b x.c x.d := rfl
    simp only [L42_0_2, getI_nat, hx, Option.bind_some, decide_eq_true (show (i : Int) < (p.right.length : Int) by omega), cond_true, q73_2, w_S (show i < 4611686018427387904 by omega), okSym, he]
    by_cases k0 : x.kind = 0
    · rw [k0]
      cases emptyW x.a x.b x.c x.d <;> by_cases hz : x.sort = 0 <;> first | (simp [hz]; done) | simp [beqF hz, bneT hz]
    · by_cases k1 : x.kind = 1
      · rw [k1]
        cases emptyW x.a x.b x.c x.d <;> cases sortOk g x.sort <;> by_cases hr : p.role = 11 <;> first | (simp [hr]; done) | simp [beqF hr]
      · simp [beqF k0, beqF k1, bneT k0, bneT k1]
  · simp [L42_0_2]
theorem q58 {g : GramD} (hg : GramOk g) : F42 g = some (okProds g) := by
  have hlen := hg.prods
  have key : runL (fun s => L42_1 g (g.prods.length : Int) s) 0 = some (bif allF (fun _ p => okProd g p) 0 g.prods then E_L42_1.k1 else E_L42_1.k0) := by
    refine loop_list (fun _ p => okProd g p) (fun i p hx => ?_) ?_
    · have hl : i < g.prods.length := (List.getElem?_eq_some_iff.1 hx).1
      have hp := hg.prod p (List.mem_of_getElem? hx)
      simp only [L42_1, getI_nat, hx, Option.bind_some, decide_eq_true (show (i : Int) < (g.prods.length : Int) by omega), cond_true, q73, l58_0 hp, eqE, w_S (show i < 4611686018427387904 by omega), okProd]
      cases sortOk g p.left <;> simp only [cond_true, cond_false, Bool.false_and, Bool.true_and]
      cases decide ((p.right.length : Int) > 30) <;> simp only [cond_true, cond_false, Bool.false_and, Bool.true_and, Bool.not_true, Bool.not_false]
      cases decide (p.role < 0) <;> simp only [cond_true, cond_false, Bool.false_and, Bool.true_and, Bool.not_true, Bool.not_false]
      cases decide (p.role > 11) <;> simp only [cond_true, cond_false, Bool.false_and, Bool.true_and, Bool.not_true, Bool.not_false]
      cases decide (p.frm < -1) <;> simp only [cond_true, cond_false, Bool.false_and, Bool.true_and, Bool.not_true, Bool.not_false]
      cases decide ((p.cons.size : Int) > 64) <;> simp only [cond_true, cond_false, Bool.false_and, Bool.true_and, Bool.not_true, Bool.not_false]
      cases decide (p.cons = ByteArray.empty) <;> by_cases hr : p.role = 0 <;> cases p.prefer <;> cases p.avoid <;> cases allF (fun _ s => okSym g p s) 0 p.right <;> first | (simp [hr]; done) | simp [beqF hr, bneT hr]
    · simp [L42_1]
  unfold F42 okProds
  rw [key]
  cases allF (fun _ p => okProd g p) 0 g.prods
  · rfl
  · simp only [cond_true, Option.bind_some, decide_eq_true (show (g.prods.length : Int) ≤ 1000 by omega)]
end Go.Proofs.Try
namespace Go.Proofs.Try
set_option linter.unusedSimpArgs false
set_option linter.unusedVariables false
open Go Go.Vs
theorem eqFo_key (t f : ForbD) : eqFo t f = decide ((t.parent, t.at_, t.child) = (f.parent, f.at_, f.child)) := by
  unfold eqFo
  by_cases h1 : t.parent = f.parent
  · by_cases h2 : t.at_ = f.at_
    · by_cases h3 : t.child = f.child
      · simp [h1, h2, h3]
      · simp [h1, h2, h3, beqF h3]
    · simp [h1, h2, beqF h2]
  · simp [h1, beqF h1]
theorem q59 {g : GramD} (hg : GramOk g) : F43 g = some (okForbs g) := by
  have hn := hg.forbid
  have key := loop_chk (step := fun s => L43_0 g (g.forbid.length : Int) s.1 s.2) (l := g.forbid) (emb := fun i m => ((i : Int), m)) (okForbI g)
    (fun i m x => mput (x.parent, x.at_, x.child) (IntKind.wrap .i64 (mget 0 m (x.parent, x.at_, x.child) + 1)) m) E_L43_0.k0 E_L43_0.k1
    (fun i m => ∀ s, mget 0 m s = if (g.forbid.take i).any (fun t => decide ((t.parent, t.at_, t.child) = s)) then 1 else 0) (fun i f m hx hm => ?_) (fun m _ => ?_) g.forbid.length 0 [] (by omega) (by intro s; simp [mget, mfind])
  · rw [List.drop_zero] at key
    have e : ((0 : Nat) : Int) = 0 := rfl
    simp only [e] at key
    unfold F43 okForbs
    cases hall : allF (okForbI g) 0 g.forbid with
    | true => obtain ⟨b, hb, _⟩ := key.1 hall; rw [hb]; rfl
    | false => rw [key.2 hall]; rfl
  · have hl : i < g.forbid.length := (List.getElem?_eq_some_iff.1 hx).1
    have hat := hg.forb f (List.mem_of_getElem? hx)
    unfold i64ok at hat
    obtain ⟨h1, h2⟩ := seen_inv (key := fun t : ForbD => (t.parent, t.at_, t.child)) hx hm
    have hd := dup_take (l := g.forbid) (i := i) (fun t => eqFo t f) (by omega)
    simp only [eqFo_key] at hd
    skip
    have hok : okForbI g i f = (okForb g f && !(g.forbid.take i).any (fun t => decide ((t.parent, t.at_, t.child) = (f.parent, f.at_, f.child)))) := by
      unfold okForbI
      simp only [eqFo_key]
      rw [hd]
    rw [hok]
    simp only [L43_0, getI_nat, hx, Option.bind_some, decide_eq_true (show (i : Int) < (g.forbid.length : Int) by omega), cond_true, h1, w_S (show i < 4611686018427387904 by omega)]
    cases hxm : (g.forbid.take i).any (fun t => decide ((t.parent, t.at_, t.child) = (f.parent, f.at_, f.child))) with
    | true => simp
    | false =>
      have h2 := h2 hxm
      simp only [Bool.not_false, Bool.and_true, Bool.false_eq_true, if_false, show decide ((1 : Int) > 1) = false from rfl, cond_false]
      have e73 : F68 f g = match getI g.prods f.parent with | some p => some (p.role != 11) | none => some false := by
        unfold F68
        by_cases a1 : f.parent < 0
        · simp [getI_none (l := g.prods) (.inl a1), show ¬ f.parent ≥ 0 by omega]
        · by_cases a2 : (g.prods.length : Int) ≤ f.parent
          · simp [getI_none (l := g.prods) (.inr a2), show ¬ f.parent < (g.prods.length : Int) by omega]
          · obtain ⟨p, hp⟩ := getI_in a1 a2
            simp [hp, show f.parent ≥ 0 by omega, show f.parent < (g.prods.length : Int) by omega]
      have e74 : F68_2 f g = match getI g.prods f.child with | some p => some (p.role != 11) | none => some false := by
        unfold F68_2
        by_cases a1 : f.child < 0
        · simp [getI_none (l := g.prods) (.inl a1), show ¬ f.child ≥ 0 by omega]
        · by_cases a2 : (g.prods.length : Int) ≤ f.child
          · simp [getI_none (l := g.prods) (.inr a2), show ¬ f.child < (g.prods.length : Int) by omega]
          · obtain ⟨p, hp⟩ := getI_in a1 a2
            simp [hp, show f.child ≥ 0 by omega, show f.child < (g.prods.length : Int) by omega]
      rw [e73, e74]
      unfold okForb
      cases hp : getI g.prods f.parent with
      | none => simp
      | some p =>
        cases hc : getI g.prods f.child with
        | none => by_cases r1 : p.role = 11 <;> first | (simp [r1]; done) | simp [bneT r1, beqF r1]
        | some c =>
          simp only [Option.bind_some]
          by_cases r1 : p.role = 11
          · simp [r1]
          by_cases r2 : c.role = 11
          · simp [bneT r1, beqF r1, r2]
          by_cases r3 : f.at_ < 1
          · simp [bneT r1, beqF r1, bneT r2, beqF r2, r3]
          by_cases r4 : f.at_ > (p.right.length : Int)
          · simp [bneT r1, beqF r1, bneT r2, beqF r2, r3, r4]
          rw [w_id (by omega)]
          obtain ⟨s, hs⟩ := getI_in (l := p.right) (i := f.at_ - 1) (by omega) (by omega)
          simp only [hs, Option.bind_some, bneT r1, beqF r1, bneT r2, beqF r2, decide_eq_false r3, decide_eq_false r4, cond_true, cond_false, Bool.not_false, Bool.true_and]
          by_cases r5 : s.kind = 1
          · by_cases r6 : s.sort = c.left
            · simpa [r5, r6] using h2
            · simp [r5, bneT r6, beqF r6]
          · simp [bneT r5, beqF r5]
  · simp [L43_0]
theorem q60 {g : GramD} (hg : GramOk g) : F44 g = some (okFolls g) := by
  have hn := hg.follow
  have key := loop_chk (step := fun s => L44_0 g (g.follow.length : Int) s.1 s.2) (l := g.follow) (emb := fun i m => ((i : Int), m)) (okFollI g)
    (fun i m x => mput x.sort (IntKind.wrap .i64 (mget 0 m x.sort + 1)) m) E_L44_0.k0 E_L44_0.k1
    (fun i m => ∀ s, mget 0 m s = if (g.follow.take i).any (fun t => decide (t.sort = s)) then 1 else 0) (fun i f m hx hm => ?_) (fun m _ => ?_) g.follow.length 0 [] (by omega) (by intro s; simp [mget, mfind])
  · rw [List.drop_zero] at key
    have e : ((0 : Nat) : Int) = 0 := rfl
    simp only [e] at key
    unfold F44 okFolls
    cases hall : allF (okFollI g) 0 g.follow with
    | true => obtain ⟨b, hb, _⟩ := key.1 hall; rw [hb]; rfl
    | false => rw [key.2 hall]; rfl
  · have hl : i < g.follow.length := (List.getElem?_eq_some_iff.1 hx).1
    obtain ⟨h1, h2⟩ := seen_inv (key := fun t : FollD => t.sort) hx hm
    have hd := dup_take (l := g.follow) (i := i) (fun t => t.sort == f.sort) (by omega)
    have hbeq : (g.follow.take i).any (fun t => t.sort == f.sort) = (g.follow.take i).any (fun t => decide (t.sort = f.sort)) := by
      congr 1
    rw [hbeq] at hd
    skip
    have he : ((f.a == 0) && ((f.b == 0) && ((f.c == 0) && ((f.d == 0) && true)))) = emptyW f.a f.b f.c f.d := rfl
    simp only [L44_0, getI_nat, hx, Option.bind_some, decide_eq_true (show (i : Int) < (g.follow.length : Int) by omega), cond_true, h1, w_S (show i < 4611686018427387904 by omega), okFollI, hd, he, sortOk, inR]
    cases hxm : (g.follow.take i).any (fun t => decide (t.sort = f.sort)) with
    | true => simp
    | false =>
      have h2 := h2 hxm
      by_cases a1 : f.sort < 0
      · simp [a1, show ¬ 0 ≤ f.sort by omega]
      by_cases a2 : (g.sorts.length : Int) ≤ f.sort
      · simp [a1, a2, show ¬ f.sort < (g.sorts.length : Int) by omega]
      cases emptyW f.a f.b f.c f.d
      · simpa [a1, a2, show 0 ≤ f.sort by omega, show f.sort < (g.sorts.length : Int) by omega] using h2
      · simp [a1, a2]
  · simp [L44_0]
theorem q29 {g : GramD} (hg : GramOk g) : F15 g = some (chkN g) := by
  have key : runL (fun s => L15_0 g s) 0 = some (bif (List.range 4).all (fun i => match i with | 0 => okSorts g | 1 => okProds g | 2 => okForbs g | _ => okFolls g) then E_L15_0.k1 else E_L15_0.k0) := by
    refine loop_range (n := 4) _ (fun i hi => ?_) ?_
    · match i, hi with
      | 0, _ => simp only [L15_0, q57 hg, Option.bind_some]; cases okSorts g <;> rfl
      | 1, _ => simp only [L15_0, q58 hg, Option.bind_some]; cases okProds g <;> rfl
      | 2, _ => simp only [L15_0, q59 hg, Option.bind_some]; cases okForbs g <;> rfl
      | 3, _ => simp only [L15_0, q60 hg, Option.bind_some]; cases okFolls g <;> rfl
      | n + 4, h => omega
    · rfl
  unfold F15 chkN chkB
  rw [key]
  show (some (bif (okSorts g && (okProds g && (okForbs g && (okFolls g && true)))) then E_L15_0.k1 else E_L15_0.k0)).bind _ = _
  cases okSorts g <;> cases okProds g <;> cases okForbs g <;> cases okFolls g <;> rfl
end Go.Proofs.Try
namespace Go.Proofs.Try
set_option linter.unusedSimpArgs false
set_option linter.unusedVariables false
open Go Go.Vs
structure SymV (n : Nat) (s : SymD) : Prop where
  k : s.kind = 0 ∨ s.kind = 1
  set : s.kind = 0 → emptyW s.a s.b s.c s.d = false
  sort : s.kind = 1 → 0 ≤ s.sort ∧ s.sort < n
structure ProdV (n : Nat) (p : ProdD) : Prop where
  left : 0 ≤ p.left ∧ p.left < n
  right : ∀ s ∈ p.right, SymV n s
  len : p.right.length ≤ 30
structure GramV (g : GramD) : Prop where
  n : 1 ≤ g.sorts.length
  prod : ∀ p ∈ g.prods, ProdV g.sorts.length p
  start : 0 ≤ g.start ∧ g.start < g.sorts.length
theorem val_of {g : GramD} (h : chkB g = true) : GramV g := by
  unfold chkB okSorts okProds at h
  simp only [Bool.and_eq_true, Bool.not_eq_true', decide_eq_false_iff_not] at h
  obtain ⟨⟨⟨⟨⟨h1, h3⟩, _⟩, h2⟩, _⟩, _⟩ := h
  unfold sortOk inR at h3
  simp only [Bool.and_eq_true, decide_eq_true_eq] at h3
  refine ⟨by omega, fun p hp => ?_, h3⟩
  obtain ⟨k, hk⟩ := List.getElem?_of_mem hp
  have hp2 := (allF_iff _ _).1 h2 k p hk
  unfold okProd at hp2
  simp only [Bool.and_eq_true, Bool.not_eq_true', decide_eq_false_iff_not] at hp2
  obtain ⟨⟨⟨⟨⟨⟨⟨⟨q1, q2⟩, _⟩, _⟩, _⟩, _⟩, _⟩, _⟩, q3⟩ := hp2
  refine ⟨?_, fun s hs => ?_, by omega⟩
  · unfold sortOk inR at q1
    simp only [Bool.and_eq_true, decide_eq_true_eq] at q1
    exact q1
  · obtain ⟨j, hj⟩ := List.getElem?_of_mem hs
    have hs2 := (allF_iff _ _).1 q3 j s hj
    unfold okSym at hs2
    by_cases k0 : s.kind = 0
    · rw [k0] at hs2
      simp only [beq_self_eq_true, cond_true, Bool.and_eq_true, Bool.not_eq_true'] at hs2
      exact ⟨.inl k0, fun _ => hs2.1, fun e => by rw [k0] at e; cases e⟩
    · by_cases k1 : s.kind = 1
      · rw [k1] at hs2
        have : ((1 : Int) == 0) = false := rfl
        simp only [this, cond_false, beq_self_eq_true, cond_true, Bool.and_eq_true, sortOk, inR, decide_eq_true_eq] at hs2
        exact ⟨.inr k1, fun e => absurd e k0, fun _ => hs2.1.2⟩
      · rw [beqF k0, beqF k1] at hs2
        cases hs2
theorem mk1 {k : Nat} (h : k ≤ 1000) : mkOk (k : Int) 1 = true := by
  unfold mkOk limit47
  exact decide_eq_true (by omega)
def hasB (is : List Bool) (s : SymD) : Bool := !(s.kind == 1) || (is[s.sort.toNat]?).getD false
def canB (is : List Bool) (p : ProdD) : Bool := (p.role != 11) && allF (fun _ s => hasB is s) 0 p.right
def updP (is : List Bool) (p : ProdD) : List Bool := bif canB is p then is.set p.left.toNat true else is
def swpP (g : GramD) (is : List Bool) : List Bool := g.prods.foldl updP is
def prodOf (g : GramD) : List Bool := itN (swpP g) g.sorts.length (List.replicate g.sorts.length false)
def ClosedP (g : GramD) (c : List Bool) : Prop := c.length = g.sorts.length ∧ ∀ p ∈ g.prods, canB c p = true → c[p.left.toNat]? = some true
theorem has_mono {a c : List Bool} (h : leB a c) (s : SymD) (hs : hasB a s = true) : hasB c s = true := by
  unfold hasB at hs ⊢
  cases hk : s.kind == 1 with
  | false => rfl
  | true =>
    rw [hk] at hs
    simp only [Bool.not_true, Bool.false_or] at hs ⊢
    cases ha : a[s.sort.toNat]? with
    | none => rw [ha] at hs; cases hs
    | some b =>
      rw [ha] at hs
      simp only [Option.getD_some] at hs
      subst hs
      rw [h.2 _ ha]; rfl
theorem can_mono {a c : List Bool} (h : leB a c) {p : ProdD} (hp : canB a p = true) : canB c p = true := by
  unfold canB at hp ⊢
  simp only [Bool.and_eq_true] at hp ⊢
  exact ⟨hp.1, (allF_iff _ _).2 (fun k x hx => has_mono h x ((allF_iff _ _).1 hp.2 k x hx))⟩
theorem updP_le (p : ProdD) (is : List Bool) : leB is (updP is p) := by
  unfold updP
  cases canB is p
  · exact leB.refl _
  · exact leB_set _
theorem swpP_le {g : GramD} (is : List Bool) : leB is (swpP g is) := fold_up updP_le g.prods is
theorem prodOf_len {g : GramD} : (prodOf g).length = g.sorts.length :=
  itN_inv (Inv := fun a => a.length = g.sorts.length) (fun a ha => (swpP_le a).1.symm.trans ha) _ _ (by simp)
theorem prodOf_fix {g : GramD} : swpP g (prodOf g) = prodOf g :=
  itN_fix cnt g.sorts.length (fun a => a.length = g.sorts.length) (fun a ha => (swpP_le a).1.symm.trans ha) (fun a _ hne => (leB_cnt (swpP_le a)).2 hne) (fun a ha => by have := cnt_le a; omega) g.sorts.length (List.replicate g.sorts.length false) (by simp) (by omega)
theorem prodOf_closed {g : GramD} (hv : GramV g) : ClosedP g (prodOf g) := by
  refine ⟨prodOf_len, fun p hp hc => ?_⟩
  have h := fold_fixB updP_le g.prods (prodOf g) prodOf_fix p hp
  unfold updP at h
  rw [hc] at h
  have hl := (hv.prod p hp).left
  rw [← h]
  exact set_get (by rw [prodOf_len]; omega)
theorem prodOf_least {g : GramD} {c : List Bool} (hc : ClosedP g c) : leB (prodOf g) c := by
  refine itN_le (fun a ha => fold_le g.prods a (fun p hp b hb => ?_) ha) _ _ (rep_false hc.1)
  unfold updP
  cases hcan : canB b p with
  | false => exact hb
  | true => exact leB_set' hb (hc.2 p hp (can_mono hb hcan))
section
variable {g : GramD} {n : Nat}
theorem q66 {is : List Bool} {p : ProdD} (hl : is.length = n) (hp : ProdV n p) : F66 p is = some (canB is p) := by
  have hlen := hp.len
  have key : runL (fun s => L66_0 is p s) 0 = some (bif allF (fun _ (s : SymD) => hasB is s) 0 p.right then E_L66_0.k1 else E_L66_0.k0) := by
    refine loop_list (fun _ (s : SymD) => hasB is s) (fun i s hx => ?_) ?_
    · have hi : i < p.right.length := (List.getElem?_eq_some_iff.1 hx).1
      have hv := hp.right s (List.mem_of_getElem? hx)
      simp only [L66_0, getI_nat, hx, Option.bind_some, decide_eq_true (show (i : Int) < (p.right.length : Int) by omega), cond_true, w_S (show i < 4611686018427387904 by omega), hasB]
      rcases hv.k with k0 | k1
      · rw [k0]; rfl
      · obtain ⟨h0, h1⟩ := hv.sort k1
        have hg : is[s.sort.toNat]? = some (is[s.sort.toNat]'(by omega)) := List.getElem?_eq_getElem _
        have hgi : getI is s.sort = some (is[s.sort.toNat]'(by omega)) := getI_some.2 ⟨h0, hg⟩
        rw [k1, hgi, hg]
        simp only [beq_self_eq_true, cond_true, Option.bind_some, Bool.not_true, Bool.false_or, Option.getD_some]
        cases is[s.sort.toNat]'(by omega) <;> rfl
    · simp [L66_0]
  unfold F66 canB
  rw [key]
  by_cases hr : p.role = 11
  · rw [hr]; rfl
  · rw [beqF hr, bneT hr]
    cases allF (fun _ (s : SymD) => hasB is s) 0 p.right <;> rfl
theorem l39_0 (hg : GramOk g) (hv : GramV g) (hn : n = g.sorts.length) {is : List Bool} (hl : is.length = n) : runL (fun s => L39_0_2 n g s.1 s.2) (0, is) = some (.k0 (swpP g is)) := by
  have hgp := hg.prods
  have := loop_foldl (step := fun s => L39_0_2 n g s.1 s.2) (l := g.prods) (emb := fun i a => ((i : Int), a)) updP E_L39_0_2.k0 (fun a => a.length = n) (fun i p a hx ha => by
    have hi : i < g.prods.length := (List.getElem?_eq_some_iff.1 hx).1
    have hpv : ProdV n p := by rw [hn]; exact hv.prod p (List.mem_of_getElem? hx)
    have hpl := hpv.left
    have ht : a.take n = a := List.take_of_length_le (by omega)
    have hle : decide (n ≤ a.length) = true := decide_eq_true (by omega)
    have hix : ixN n p.left = some p.left.toNat := ixN_some.2 ⟨by omega, by omega⟩
    have hga : a[p.left.toNat]? = some (a[p.left.toNat]'(by omega)) := List.getElem?_eq_getElem _
    refine ⟨?_, (updP_le p a).1.symm.trans ha⟩
    simp only [L39_0_2, getI_nat, hx, Option.bind_some, decide_eq_true (show (i : Int) < (g.prods.length : Int) by omega), cond_true, hle, ht, q66 ha hpv, hix, hga, w_S (show i < 4611686018427387904 by omega), updP]
    cases canB a p <;> rfl) (fun a _ => by simp [L39_0_2]) g.prods.length 0 is (by omega) hl
  rw [List.drop_zero] at this
  exact this
theorem q39 (hg : GramOk g) (hv : GramV g) : F39 g = some (prodOf g) := by
  have h40 := hg.sorts
  have key := loop_foldl (step := fun s => L39_1 g.sorts.length g s.1 s.2) (l := g.sorts) (emb := fun i a => ((i : Int), a)) (fun a _ => swpP g a) E_L39_1.k0 (fun a => a.length = g.sorts.length) (fun i p a hx ha => by
    have hi : i < g.sorts.length := (List.getElem?_eq_some_iff.1 hx).1
    refine ⟨?_, (swpP_le a).1.symm.trans ha⟩
    simp only [L39_1, decide_eq_true (show (i : Int) < (g.sorts.length : Int) by omega), cond_true, l39_0 hg hv rfl ha, Option.bind_some, w_S (show i < 4611686018427387904 by omega)]) (fun a _ => by simp [L39_1]) g.sorts.length 0 (List.replicate g.sorts.length false) (by omega) (by simp)
  rw [List.drop_zero, foldl_const] at key
  have e0 : ((0 : Nat) : Int) = 0 := rfl
  rw [e0] at key
  have hlen := prodOf_len (g := g)
  unfold prodOf at hlen
  unfold F39 prodOf
  simp only [mk1 (show g.sorts.length ≤ 1000 by omega), cond_true, Int.toNat_natCast, key, Option.bind_some, hlen, decide_eq_true (Nat.le_refl _)]
  rw [List.take_of_length_le (by omega)]
theorem q64 {s : SymD} {o : List Bool} (ho : o.length = n) (hs : SymV n s) : F64 s o n = some (!hasB o s) := by
  unfold F64 F63 hasB
  rcases hs.k with k0 | k1
  · simp [k0]
  · obtain ⟨h0, h1⟩ := hs.sort k1
    have hix : ixN n s.sort = some s.sort.toNat := ixN_some.2 ⟨by omega, by omega⟩
    have hg : o[s.sort.toNat]? = some (o[s.sort.toNat]'(by omega)) := List.getElem?_eq_getElem _
    simp only [k1, hix, hg, Option.bind_some]
    rfl
theorem q54 {p : ProdD} {o : List Bool} (ho : o.length = n) (hp : ProdV n p) : ∃ r, F54 p o n = some r ∧ ((r = .k1 ∧ allF (fun _ s => hasB o s) 0 p.right = true) ∨ (∃ a b c d e f, r = .k0 true a b c d e f) ∧ allF (fun _ s => hasB o s) 0 p.right = false) := by
  have hlen := hp.len
  have key := loop_find0 (l := p.right) (step := fun s => L72_0 p (p.right.length : Int) o n s) (hasB o) (fun i (s : SymD) => E_L72_0.k0 (i : Int) s.kind s.a s.b s.c s.d s.sort) (fin := .k1) (fun i s hx => by
    have hi : i < p.right.length := (List.getElem?_eq_some_iff.1 hx).1
    have hv := hp.right s (List.mem_of_getElem? hx)
    simp only [L72_0, getI_nat, hx, Option.bind_some, decide_eq_true (show (i : Int) < (p.right.length : Int) by omega), cond_true, q64 ho hv, w_S (show i < 4611686018427387904 by omega)]
    cases hasB o s <;> rfl) (by simp [L72_0])
  unfold F54 F72
  rcases key with ⟨h1, h2⟩ | ⟨j, s, h1, h2, _, h3⟩
  · rw [h2]
    exact ⟨_, rfl, .inl ⟨rfl, (allF_iff _ _).2 (fun k x hx => h1 x (List.mem_of_getElem? hx))⟩⟩
  · rw [h3]
    refine ⟨_, rfl, .inr ⟨⟨s.kind, s.a, s.b, s.c, s.d, s.sort, ?_⟩, ?_⟩⟩
    · rw [decide_eq_true (show (j : Int) ≥ 0 by omega)]
    · cases hall : allF (fun _ s => hasB o s) 0 p.right with
      | false => rfl
      | true => have := (allF_iff _ _).1 hall j s h1; rw [h2] at this; cases this
theorem l36_0 (hg : GramOk g) (hv : GramV g) (hn : n = g.sorts.length) {o : List Bool} (ho : o.length = n) :
    (runL (fun s => L36_0 g (g.prods.length : Int) o n s) 0 = some .k2 ∧ ∀ p ∈ g.prods, canB o p = true → o[p.left.toNat]? = some true) ∨
    ∃ (p : ProdD), p ∈ g.prods ∧ canB o p = true ∧ o[p.left.toNat]? = some false ∧ runL (fun s => L36_0 g (g.prods.length : Int) o n s) 0 = some (.k1 (o.set p.left.toNat true) p.left p.right p.cons p.role p.prefer p.avoid p.frm) := by
  have hgp := hg.prods
  have key := loop_find0 (l := g.prods) (step := fun s => L36_0 g (g.prods.length : Int) o n s) (fun p => !(canB o p && !((o[p.left.toNat]?).getD false))) (fun i (p : ProdD) => E_L36_0.k1 (o.set p.left.toNat true) p.left p.right p.cons p.role p.prefer p.avoid p.frm) (fin := .k2) (fun i p hx => by
    have hi : i < g.prods.length := (List.getElem?_eq_some_iff.1 hx).1
    have hpv : ProdV n p := by rw [hn]; exact hv.prod p (List.mem_of_getElem? hx)
    have hpl := hpv.left
    have hix : ixN n p.left = some p.left.toNat := ixN_some.2 ⟨by omega, by omega⟩
    have hga : o[p.left.toNat]? = some (o[p.left.toNat]'(by omega)) := List.getElem?_eq_getElem _
    obtain ⟨r, hr, hrr⟩ := q54 ho hpv
    simp only [L36_0, getI_nat, hx, Option.bind_some, decide_eq_true (show (i : Int) < (g.prods.length : Int) by omega), cond_true, hix, hga, hr, w_S (show i < 4611686018427387904 by omega), canB, Option.getD_some]
    cases p.role != 11 with
    | false => rfl
    | true =>
      simp only [cond_true, Bool.true_and]
      cases o[p.left.toNat]'(by omega) with
      | true => simp
      | false =>
        simp only [cond_false, Bool.not_false, Bool.and_true]
        rcases hrr with ⟨rfl, h⟩ | ⟨⟨a, b, c, d, e, f, rfl⟩, h⟩
        · rw [h]; rfl
        · rw [h]; rfl) (by simp [L36_0])
  rcases key with ⟨h1, h2⟩ | ⟨j, p, h1, h2, _, h3⟩
  · refine .inl ⟨h2, fun p hp hc => ?_⟩
    have := h1 p hp
    rw [hc] at this
    have hpl := (hv.prod p hp).left
    have hga : o[p.left.toNat]? = some (o[p.left.toNat]'(by omega)) := List.getElem?_eq_getElem _
    rw [hga] at this ⊢
    simpa using this
  · refine .inr ⟨p, List.mem_of_getElem? h1, ?_, ?_, h3⟩
    · cases hc : canB o p with
      | true => rfl
      | false => rw [hc] at h2; simp at h2
    · have hpl := (hv.prod p (List.mem_of_getElem? h1)).left
      have hga : o[p.left.toNat]? = some (o[p.left.toNat]'(by omega)) := List.getElem?_eq_getElem _
      rw [hga] at h2 ⊢
      simp at h2
      rw [h2.2]
theorem l36_1 (hg : GramOk g) (hv : GramV g) (hn : n = g.sorts.length) : ∀ (k : Nat) (o : List Bool), o.length = n → n ≤ cnt o + k → (∀ c, ClosedP g c → leB o c) → runL (fun s => L36_1 g n s) o = some (.k0 (prodOf g))
  | 0, o, ho, hk, hc => by
    rcases l36_0 hg hv hn ho with ⟨h1, h2⟩ | ⟨p, _, _, h2, _⟩
    · rw [runL_done (e := E_L36_1.k0 o) (by simp only [L36_1, h1, Option.bind_some])]
      rw [leB.antisymm (hc _ (prodOf_closed hv)) (prodOf_least ⟨by omega, h2⟩)]
    · have h3 := set_cnt h2
      have := cnt_le (o.set p.left.toNat true)
      simp only [List.length_set] at this
      omega
  | k + 1, o, ho, hk, hc => by
    rcases l36_0 hg hv hn ho with ⟨h1, h2⟩ | ⟨p, hp, hcan, h2, h1⟩
    · rw [runL_done (e := E_L36_1.k0 o) (by simp only [L36_1, h1, Option.bind_some])]
      rw [leB.antisymm (hc _ (prodOf_closed hv)) (prodOf_least ⟨by omega, h2⟩)]
    · have h3 := set_cnt h2
      rw [runL_next (s' := o.set p.left.toNat true) (by simp only [L36_1, h1, Option.bind_some])]
      exact l36_1 hg hv hn k _ (by simpa using ho) (by omega) (fun c hcc => leB_set' (hc c hcc) (hcc.2 p hp (can_mono (hc c hcc) hcan)))
theorem q36 (hg : GramOk g) (hv : GramV g) : F36 g = some (prodOf g) := by
  have h40 := hg.sorts
  have key := l36_1 hg hv rfl g.sorts.length (List.replicate g.sorts.length false) (by simp) (by omega) (fun c hc => rep_false hc.1)
  unfold F36
  simp only [mk1 (show g.sorts.length ≤ 1000 by omega), cond_true, Int.toNat_natCast, key, Option.bind_some, prodOf_len, decide_eq_true (Nat.le_refl _)]
  rw [List.take_of_length_le (by rw [prodOf_len]; omega)]
end
end Go.Proofs.Try
namespace Go.Proofs.Try
set_option linter.unusedSimpArgs false
set_option linter.unusedVariables false
open Go Go.Vs
def updS (p : ProdD) (o : List Bool) (s : SymD) : List Bool := bif (s.kind == 1) && (o[p.left.toNat]?).getD false then o.set s.sort.toNat true else o
def updR (c : ProdD → Bool) (o : List Bool) (p : ProdD) : List Bool := bif c p then p.right.foldl (updS p) o else o
def swpR (c : ProdD → Bool) (g : GramD) (o : List Bool) : List Bool := g.prods.foldl (updR c) o
def reachOf (c : ProdD → Bool) (g : GramD) : List Bool := itN (swpR c g) g.sorts.length ((List.replicate g.sorts.length false).set g.start.toNat true)
def ClosedR (c : ProdD → Bool) (g : GramD) (o : List Bool) : Prop := o.length = g.sorts.length ∧ ∀ p ∈ g.prods, c p = true → o[p.left.toNat]? = some true → ∀ s ∈ p.right, s.kind = 1 → o[s.sort.toNat]? = some true
theorem updS_le (p : ProdD) (s : SymD) (o : List Bool) : leB o (updS p o s) := by
  unfold updS
  cases (s.kind == 1) && (o[p.left.toNat]?).getD false
  · exact leB.refl _
  · exact leB_set _
theorem updR_le {c : ProdD → Bool} (p : ProdD) (o : List Bool) : leB o (updR c o p) := by
  unfold updR
  cases c p
  · exact leB.refl _
  · exact fold_up (updS_le p) _ _
theorem swpR_le {c : ProdD → Bool} {g : GramD} (o : List Bool) : leB o (swpR c g o) := fold_up updR_le g.prods o
section
variable {c : ProdD → Bool} {g : GramD} {n : Nat}
theorem reach_len : (reachOf c g).length = g.sorts.length :=
  itN_inv (Inv := fun a => a.length = g.sorts.length) (fun a ha => (swpR_le a).1.symm.trans ha) _ _ (by simp)
theorem reach_fix : swpR c g (reachOf c g) = reachOf c g :=
  itN_fix cnt g.sorts.length (fun a => a.length = g.sorts.length) (fun a ha => (swpR_le a).1.symm.trans ha) (fun a _ hne => (leB_cnt (swpR_le a)).2 hne) (fun a ha => by have := cnt_le a; omega) g.sorts.length _ (by simp) (by omega)
theorem reach_closed (hv : GramV g) : ClosedR c g (reachOf c g) := by
  refine ⟨reach_len, fun p hp hc hl s hs hk => ?_⟩
  have h := fold_fixB updR_le g.prods (reachOf c g) reach_fix p hp
  unfold updR at h
  rw [hc] at h
  have h2 := fold_fixB (updS_le p) p.right (reachOf c g) h s hs
  unfold updS at h2
  rw [hk, hl] at h2
  have hsv := ((hv.prod p hp).right s hs).sort hk
  rw [← h2]
  exact set_get (by rw [reach_len]; omega)
theorem reach_start (hv : GramV g) : (reachOf c g)[g.start.toNat]? = some true := by
  have hst := hv.start
  have : ∀ (k : Nat) (a : List Bool), a[g.start.toNat]? = some true → (itN (swpR c g) k a)[g.start.toNat]? = some true := by
    intro k
    induction k with
    | zero => intro a h; exact h
    | succ k ih => intro a h; exact ih _ ((swpR_le a).2 _ h)
  exact this _ _ (set_get (by simp; omega))
theorem reach_least {o : List Bool} (ho : ClosedR c g o) (hs : o[g.start.toNat]? = some true) : leB (reachOf c g) o := by
  refine itN_le (fun a ha => fold_le g.prods a (fun p hp b hb => ?_) ha) _ _ (leB_set' (rep_false ho.1) hs)
  unfold updR
  cases hc : c p with
  | false => exact hb
  | true =>
    refine fold_le p.right b (fun s hs d hd => ?_) hb
    unfold updS
    cases hk : s.kind == 1 with
    | false => exact hd
    | true =>
      cases hl : d[p.left.toNat]? with
      | none => exact hd
      | some b =>
        cases b with
        | false => exact hd
        | true => exact leB_set' hd (ho.2 p hp hc (hd.2 _ hl) s hs (eq_of_beq hk))
theorem at_sort {o : List Bool} {s : SymD} (ho : o.length = n) (hs : 0 ≤ s.sort ∧ s.sort < n) : ixN n s.sort = some s.sort.toNat ∧ o[s.sort.toNat]? = some (o[s.sort.toNat]'(by omega)) :=
  ⟨ixN_some.2 ⟨by omega, by omega⟩, List.getElem?_eq_getElem _⟩
theorem at_left {o : List Bool} {p : ProdD} (ho : o.length = n) (hp : ProdV n p) : ixN n p.left = some p.left.toNat ∧ o[p.left.toNat]? = some (o[p.left.toNat]'(by have := hp.left; omega)) := by
  have := hp.left
  exact ⟨ixN_some.2 ⟨by omega, by omega⟩, List.getElem?_eq_getElem _⟩
structure Went (c : ProdD → Bool) (g : GramD) (k : Nat) (o o' : List Bool) : Prop where
  le : leB o o'
  at_ : o'[k]? = some true
  new : ∀ p ∈ g.prods, c p = true → o'[p.left.toNat]? = some true → o[p.left.toNat]? ≠ some true → ∀ s ∈ p.right, s.kind = 1 → o'[s.sort.toNat]? = some true
  least : ∀ d, ClosedR c g d → leB o d → d[k]? = some true → leB o' d
theorem went_reach (hv : GramV g) {o' : List Bool} (h : Went c g g.start.toNat (List.replicate g.sorts.length false) o') : o' = reachOf c g := by
  have hno : ∀ i : Nat, (List.replicate g.sorts.length false)[i]? ≠ some true := by
    intro i h
    rw [List.getElem?_replicate] at h
    split at h <;> simp at h
  have hcl : ClosedR c g o' := ⟨by have := h.le.1; simpa using this.symm, fun p hp hc hl s hs hk => h.new p hp hc hl (hno _) s hs hk⟩
  exact leB.antisymm (h.least _ (reach_closed hv) (rep_false reach_len) (reach_start hv)) (reach_least hcl h.at_)
theorem lL40_0_4 {p : ProdD} (hp : ProdV n p) {o : List Bool} (ho : o.length = n) (hl : o[p.left.toNat]? = some true) : runL (fun s => L40_0_4 n p s.1 s.2) (0, o) = some (.k0 (p.right.foldl (updS p) o)) := by
  have hlen := hp.len
  have key := loop_foldl (l := p.right) (step := fun s => L40_0_4 n p s.1 s.2) (emb := fun i (a : List Bool) => ((i : Int), a)) (updS p) E_L40_0_4.k0 (fun a => a.length = n ∧ a[p.left.toNat]? = some true) (fun i s a hx ha => by
    have hi : i < p.right.length := (List.getElem?_eq_some_iff.1 hx).1
    have hv := hp.right s (List.mem_of_getElem? hx)
    refine ⟨?_, (updS_le p s a).1.symm.trans ha.1, (updS_le p s a).2 _ ha.2⟩
    simp only [L40_0_4, getI_nat, hx, Option.bind_some, decide_eq_true (show (i : Int) < (p.right.length : Int) by omega), cond_true, w_S (show i < 4611686018427387904 by omega), updS, ha.2, Option.getD_some, Bool.and_true]
    rcases hv.k with k0 | k1
    · rw [k0]; rfl
    · obtain ⟨h3, h4⟩ := at_sort ha.1 (hv.sort k1)
      rw [k1]
      simp only [beq_self_eq_true, cond_true, h3, h4, Option.bind_some]) (fun a _ => by simp [L40_0_4]) p.right.length 0 o (by omega) ⟨ho, hl⟩
  exact key
theorem foldS_no {p : ProdD} : ∀ (r : List SymD) {o : List Bool}, o[p.left.toNat]? = some false → r.foldl (updS p) o = o
  | [], o, h => rfl
  | s :: r, o, h => by
    have : updS p o s = o := by unfold updS; rw [h]; simp
    simp only [List.foldl_cons, this]
    exact foldS_no r h
def cAll (p : ProdD) : Bool := p.role != 11
theorem lL40_1_2 (hg : GramOk g) (hv : GramV g) (hn : n = g.sorts.length) {o : List Bool} (ho : o.length = n) : runL (fun s => L40_1_2 n g s.1 s.2) (0, o) = some (.k0 (swpR cAll g o)) := by
  have hgp := hg.prods
  have key := loop_foldl (l := g.prods) (step := fun s => L40_1_2 n g s.1 s.2) (emb := fun i (a : List Bool) => ((i : Int), a)) (updR cAll) E_L40_1_2.k0 (fun a => a.length = n) (fun i p a hx ha => by
    have hi : i < g.prods.length := (List.getElem?_eq_some_iff.1 hx).1
    have hpv : ProdV n p := by rw [hn]; exact hv.prod p (List.mem_of_getElem? hx)
    refine ⟨?_, (updR_le p a).1.symm.trans ha⟩
    simp only [L40_1_2, getI_nat, hx, Option.bind_some, decide_eq_true (show (i : Int) < (g.prods.length : Int) by omega), cond_true, w_S (show i < 4611686018427387904 by omega), updR, cAll]
    by_cases hr : p.role = 11
    · rw [hr]; rfl
    · obtain ⟨h1, h2⟩ := at_left ha hpv
      rw [beqF hr, bneT hr]
      simp only [cond_false, cond_true, h1, Option.bind_some]
      cases hx1 : a[p.left.toNat]'(by have := hpv.left; omega) with
      | false =>
        rw [hx1] at h2
        simp only [h2, Option.bind_some, cond_false, foldS_no p.right h2]
      | true =>
        rw [hx1] at h2
        simp only [h2, Option.bind_some, cond_true, lL40_0_4 hpv ha h2]) (fun a _ => by simp [L40_1_2]) g.prods.length 0 o (by omega) ho
  exact key
theorem q40 (hg : GramOk g) (hv : GramV g) : F40 g = some (reachOf cAll g) := by
  have h40 := hg.sorts
  have hst := hv.start
  have key := loop_foldl (step := fun s => L40_2 g.sorts.length g s.1 s.2) (l := g.sorts) (emb := fun i a => ((i : Int), a)) (fun a _ => swpR cAll g a) E_L40_2.k0 (fun a => a.length = g.sorts.length) (fun i p a hx ha => by
    have hi : i < g.sorts.length := (List.getElem?_eq_some_iff.1 hx).1
    refine ⟨?_, (swpR_le a).1.symm.trans ha⟩
    simp only [L40_2, decide_eq_true (show (i : Int) < (g.sorts.length : Int) by omega), cond_true, lL40_1_2 hg hv rfl ha, Option.bind_some, w_S (show i < 4611686018427387904 by omega)]) (fun a _ => by simp [L40_2]) g.sorts.length 0 ((List.replicate g.sorts.length false).set g.start.toNat true) (by omega) (by simp)
  rw [List.drop_zero, foldl_const] at key
  have e0 : ((0 : Nat) : Int) = 0 := rfl
  rw [e0] at key
  have hlen := reach_len (c := cAll) (g := g)
  unfold reachOf at hlen
  have hix : ixN g.sorts.length g.start = some g.start.toNat := ixN_some.2 ⟨by omega, by omega⟩
  have hrep : (List.replicate g.sorts.length false)[g.start.toNat]? = some false := by rw [List.getElem?_replicate, if_pos (by omega)]
  unfold F40 reachOf
  simp only [mk1 (show g.sorts.length ≤ 1000 by omega), cond_true, Int.toNat_natCast, q39 hg hv, Option.bind_some, hix, hrep, key, hlen, decide_eq_true (Nat.le_refl _)]
  rw [List.take_of_length_le (by omega)]
theorem walk (hg : GramOk g) (hv : GramV g) (hn : n = g.sorts.length) (a3 : Nat) (a4 : List Bool) (a5 a7 : Nat) (a8 : List Bool) : ∀ (N : Nat) (k : Int) (o : List Bool), 0 ≤ k ∧ k < n → o.length = n → n - cnt o < N →
    ∃ o', F65_2 N k g a3 a4 a5 o a7 a8 n = some o' ∧ Went cAll g k.toNat o o'
  | 0, _, _, _, _, h => by omega
  | N + 1, k, o, hk, ho, hN => by
    have hgp := hg.prods
    have hix : ixN n k = some k.toNat := ixN_some.2 ⟨by omega, by omega⟩
    have hga : o[k.toNat]? = some (o[k.toNat]'(by omega)) := List.getElem?_eq_getElem _
    show ∃ o', F65_2_b (F65_2 N) k g a3 a4 a5 o a7 a8 n = some o' ∧ _
    unfold F65_2_b
    simp only [hix, hga, Option.bind_some]
    cases hx : o[k.toNat]'(by omega) with
    | true =>
      rw [hx] at hga
      exact ⟨o, rfl, leB.refl o, hga, fun p _ _ h1 h2 => absurd h1 h2, fun d _ h _ => h⟩
    | false =>
      rw [hx] at hga
      simp only [cond_false]
      have hc1 := set_cnt hga
      have h1l : (o.set k.toNat true).length = n := by simpa using ho
      have hcb := cnt_le (o.set k.toNat true)
      rw [h1l] at hcb
      have hk1 : (o.set k.toNat true)[k.toNat]? = some true := set_get (by omega)
      have outer := loop_inv0 (l := g.prods) (step := fun s => L65_1_2 (F65_2 N) k g (g.prods.length : Int) a3 a4 a5 a7 a8 n s.1 s.2) (fun i (a : List Bool) => ((i : Int), a)) E_L65_1_2.k0
        (fun i a => leB (o.set k.toNat true) a ∧ (∀ p ∈ g.prods, cAll p = true → a[p.left.toNat]? = some true → (o.set k.toNat true)[p.left.toNat]? ≠ some true → ∀ s ∈ p.right, s.kind = 1 → a[s.sort.toNat]? = some true) ∧
          (∀ (j : Nat) p, j < i → g.prods[j]? = some p → cAll p = true → p.left = k → ∀ s ∈ p.right, s.kind = 1 → a[s.sort.toNat]? = some true) ∧ ∀ d, ClosedR cAll g d → leB (o.set k.toNat true) d → leB a d)
        (fun i p a hx ⟨i1, i2, i3, i4⟩ => by
          have hi : i < g.prods.length := (List.getElem?_eq_some_iff.1 hx).1
          have hmem := List.mem_of_getElem? hx
          have hpv : ProdV n p := by rw [hn]; exact hv.prod p hmem
          have ha : a.length = n := i1.1.symm.trans h1l
          have skip : (cAll p = true → p.left = k → False) → (leB (o.set k.toNat true) a ∧ (∀ p ∈ g.prods, cAll p = true → a[p.left.toNat]? = some true → (o.set k.toNat true)[p.left.toNat]? ≠ some true → ∀ s ∈ p.right, s.kind = 1 → a[s.sort.toNat]? = some true) ∧
            (∀ (j : Nat) p, j < i + 1 → g.prods[j]? = some p → cAll p = true → p.left = k → ∀ s ∈ p.right, s.kind = 1 → a[s.sort.toNat]? = some true) ∧ ∀ d, ClosedR cAll g d → leB (o.set k.toNat true) d → leB a d) := fun hno =>
            ⟨i1, i2, fun j q hj hq hc hl => by
              rcases Nat.lt_or_ge j i with h | h
              · exact i3 j q h hq hc hl
              · obtain rfl : j = i := by omega
                rw [hx] at hq
                cases hq
                exact (hno hc hl).elim, i4⟩
          simp only [L65_1_2, getI_nat, hx, Option.bind_some, decide_eq_true (show (i : Int) < (g.prods.length : Int) by omega), cond_true, w_S (show i < 4611686018427387904 by omega)]
          by_cases hl : p.left = k
          rotate_left
          · rw [bneT hl]
            exact ⟨a, rfl, skip (fun _ h => hl h)⟩
          by_cases hr : p.role = 11
          · rw [hl, hr]
            refine ⟨a, by simp, skip (fun h _ => ?_)⟩
            unfold cAll at h
            rw [hr] at h
            cases h
          have hcp : cAll p = true := by unfold cAll; rw [bneT hr]
          have hlb : (p.left != k) = false := by simp [hl]
          rw [hlb, beqF hr]
          simp only [cond_false, F38, Option.bind_some]
          have hplen := hpv.len
          have inner := loop_inv0 (l := p.right) (step := fun s => L65_0_4 (F65_2 N) g p (p.right.length : Int) a3 a4 a5 a7 a8 n s.1 s.2) (fun i (b : List Bool) => ((i : Int), b)) E_L65_0_4.k0
            (fun i b => leB a b ∧ (∀ p ∈ g.prods, cAll p = true → b[p.left.toNat]? = some true → (o.set k.toNat true)[p.left.toNat]? ≠ some true → ∀ s ∈ p.right, s.kind = 1 → b[s.sort.toNat]? = some true) ∧
              (∀ (j : Nat) s, j < i → p.right[j]? = some s → s.kind = 1 → b[s.sort.toNat]? = some true) ∧ ∀ d, ClosedR cAll g d → leB (o.set k.toNat true) d → leB b d)
            (fun i s b hxs ⟨j1, j2, j3, j4⟩ => by
              have hi : i < p.right.length := (List.getElem?_eq_some_iff.1 hxs).1
              have hsm := List.mem_of_getElem? hxs
              have hsv := hpv.right s hsm
              have hb : b.length = n := j1.1.symm.trans ha
              simp only [L65_0_4, getI_nat, hxs, Option.bind_some, decide_eq_true (show (i : Int) < (p.right.length : Int) by omega), cond_true, w_S (show i < 4611686018427387904 by omega)]
              rcases hsv.k with k0 | k1
              · refine ⟨b, by rw [k0]; rfl, j1, j2, fun j q hj hq hk => ?_, j4⟩
                rcases Nat.lt_or_ge j i with h | h
                · exact j3 j q h hq hk
                · obtain rfl : j = i := by omega
                  rw [hxs] at hq
                  cases hq
                  rw [k0] at hk; cases hk
              · have hss := hsv.sort k1
                have hcm := cnt_mono (i1.trans j1)
                obtain ⟨b', w1, w2⟩ := walk hg hv hn a3 a4 a5 a7 a8 N s.sort b hss hb (by omega)
                refine ⟨b', by rw [k1]; simp only [beq_self_eq_true, cond_true, w1, Option.bind_some], j1.trans w2.le, fun q hq hc h1 h2 t ht hk => ?_, fun j q hj hq hk => ?_, fun d hd h1 => ?_⟩
                · by_cases h3 : b[q.left.toNat]? = some true
                  · exact w2.le.2 _ (j2 q hq hc h3 h2 t ht hk)
                  · exact w2.new q hq hc h1 h3 t ht hk
                · rcases Nat.lt_or_ge j i with h | h
                  · exact w2.le.2 _ (j3 j q h hq hk)
                  · obtain rfl : j = i := by omega
                    rw [hxs] at hq
                    cases hq
                    exact w2.at_
                · exact w2.least d hd (j4 d hd h1) (hd.2 p hmem hcp (by rw [hl]; exact h1.2 _ hk1) s hsm k1))
            (fun b _ => by simp [L65_0_4]) (a := a) ⟨leB.refl a, i2, fun j s hj => by omega, i4⟩
          obtain ⟨b, b1, j1, j2, j3, j4⟩ := inner
          have e0 : ((0 : Nat) : Int) = 0 := rfl
          rw [e0] at b1
          refine ⟨b, by simp only [b1, Option.bind_some], i1.trans j1, j2, fun j q hj hq hc hl2 t ht hk => ?_, j4⟩
          rcases Nat.lt_or_ge j i with h | h
          · exact j1.2 _ (i3 j q h hq hc hl2 t ht hk)
          · obtain rfl : j = i := by omega
            rw [hx] at hq
            cases hq
            obtain ⟨m, hm⟩ := List.getElem?_of_mem ht
            exact j3 m t (List.getElem?_eq_some_iff.1 hm).1 hm hk)
        (fun a _ => by simp [L65_1_2]) (a := o.set k.toNat true) ⟨leB.refl _, fun p _ _ h1 h2 => absurd h1 h2, fun j p hj => by omega, fun d _ h => h⟩
      obtain ⟨b, b1, i1, i2, i3, i4⟩ := outer
      have e0 : ((0 : Nat) : Int) = 0 := rfl
      rw [e0] at b1
      refine ⟨b, by simp only [b1, Option.bind_some], (leB_set _).trans i1, i1.2 _ hk1, fun p hp hc h1 h2 s hs hks => ?_, fun d hd h1 h2 => i4 d hd (leB_set' h1 h2)⟩
      by_cases hl : p.left.toNat = k.toNat
      · obtain ⟨m, hm⟩ := List.getElem?_of_mem hp
        have := (hv.prod p hp).left
        exact i3 m p (List.getElem?_eq_some_iff.1 hm).1 hm hc (by omega) s hs hks
      · refine i2 p hp hc h1 (fun h3 => h2 ?_) s hs hks
        rw [List.getElem?_set, if_neg (fun e => hl e.symm)] at h3
        exact h3
theorem q37 (hg : GramOk g) (hv : GramV g) {N : Nat} (hN : g.sorts.length < N) : F37 N g = some (reachOf cAll g) := by
  have h40 := hg.sorts
  have hc0 : cnt (List.replicate g.sorts.length false) = 0 := by
    have : ∀ k : Nat, cnt (List.replicate k false) = 0 := by
      intro k
      induction k with
      | zero => rfl
      | succ k ih => unfold cnt; rw [List.replicate_succ]; simp
    exact this _
  obtain ⟨o', w1, w2⟩ := walk hg hv rfl 0 [] 0 0 [] N g.start (List.replicate g.sorts.length false) hv.start (by simp) (by omega)
  have := went_reach hv w2
  subst this
  unfold F37
  simp only [mk1 (show g.sorts.length ≤ 1000 by omega), cond_true, Int.toNat_natCast, w1, Option.bind_some, reach_len, decide_eq_true (Nat.le_refl _)]
  rw [List.take_of_length_le (by rw [reach_len]; omega)]
end
end Go.Proofs.Try
namespace Go.Proofs.Try
set_option linter.unusedSimpArgs false
set_option linter.unusedVariables false
open Go Go.Vs
def sameL {α : Type} (t : α → α → Bool) : List α → List α → Bool
  | [], [] => true
  | x :: xs, y :: ys => t x y && sameL t xs ys
  | _, _ => false
theorem sameL_refl {α : Type} {t : α → α → Bool} (h : ∀ x, t x x = true) : ∀ l, sameL t l l = true
  | [] => rfl
  | x :: xs => by simp only [sameL, h x, sameL_refl h xs, Bool.and_self]
theorem sameL_len {α : Type} {t : α → α → Bool} : ∀ l l', l.length ≠ l'.length → sameL t l l' = false
  | [], [], h => (h rfl).elim
  | x :: xs, y :: ys, h => by simp only [sameL, sameL_len xs ys (fun e => h (by simp [e])), Bool.and_false]
  | [], _ :: _, _ => rfl
  | _ :: _, [], _ => rfl
theorem drop_cons {α : Type} {l : List α} {i : Nat} {x : α} (h : l[i]? = some x) : l.drop i = x :: l.drop (i + 1) := by
  obtain ⟨h1, h2⟩ := List.getElem?_eq_some_iff.1 h
  rw [← h2]
  exact List.drop_eq_getElem_cons h1
theorem loop_same {α E : Type} {f : Int → Option (E ⊕ Int)} {k0 k1 : E} (t : α → α → Bool) {l l' : List α} (hlen : l.length = l'.length)
    (hf : ∀ (i : Nat) x y, i < l.length → l[i]? = some x → l'[i]? = some y → f (i : Int) = some (bif t x y then .inr ((i + 1 : Nat) : Int) else .inl k0)) (he : f (l.length : Int) = some (.inl k1)) :
    ∀ (m i : Nat), i + m = l.length → runL f (i : Int) = some (bif sameL t (l.drop i) (l'.drop i) then k1 else k0)
  | 0, i, hi => by
    have : i = l.length := by omega
    subst this
    rw [List.drop_length, hlen, List.drop_length]
    rw [hlen] at he
    exact runL_done he
  | m + 1, i, hi => by
    have h1 : i < l.length := by omega
    have g1 : l[i]? = some l[i] := List.getElem?_eq_getElem h1
    have g2 : l'[i]? = some (l'[i]'(by omega)) := List.getElem?_eq_getElem (by omega)
    have := hf i _ _ h1 g1 g2
    rw [drop_cons g1, drop_cons g2]
    simp only [sameL]
    cases ht : t l[i] (l'[i]'(by omega)) with
    | true =>
      rw [ht] at this
      simp only [cond_true] at this
      rw [runL_next this, Bool.true_and]
      exact loop_same t hlen hf he m (i + 1) (by omega)
    | false =>
      rw [ht] at this
      simp only [cond_false] at this
      simp only [Bool.false_and, cond_false]
      exact runL_done this
theorem loop_same0 {α E : Type} {f : Int → Option (E ⊕ Int)} {k0 k1 : E} (t : α → α → Bool) {l l' : List α} (hlen : l.length = l'.length)
    (hf : ∀ (i : Nat) x y, i < l.length → l[i]? = some x → l'[i]? = some y → f (i : Int) = some (bif t x y then .inr ((i + 1 : Nat) : Int) else .inl k0)) (he : f (l.length : Int) = some (.inl k1)) :
    runL f 0 = some (bif sameL t l l' then k1 else k0) := loop_same t hlen hf he l.length 0 (by omega)
def tStr (x y : ByteArray) : Bool := x.toList == y.toList
def tSym (x2 x3 : SymD) : Bool := (x2.kind == x3.kind) && ((x2.a == x3.a) && ((x2.b == x3.b) && ((x2.c == x3.c) && ((x2.d == x3.d) && ((x2.sort == x3.sort) && true)))))
def tForb (x2 x3 : ForbD) : Bool := (x2.parent == x3.parent) && ((x2.at_ == x3.at_) && ((x2.child == x3.child) && true))
def tFoll (x2 x3 : FollD) : Bool := (x2.sort == x3.sort) && ((x2.a == x3.a) && ((x2.b == x3.b) && ((x2.c == x3.c) && ((x2.d == x3.d) && true))))
def tProd (x y : ProdD) : Bool := (x.left == y.left) && ((x.cons.toList == y.cons.toList) && ((x.role == y.role) && ((x.prefer == y.prefer) && ((x.avoid == y.avoid) && ((x.frm == y.frm) && sameL tSym x.right y.right)))))
def eqG (a b : GramD) : Bool := (a.start == b.start) && (sameL tStr a.sorts b.sorts && (sameL tProd a.prods b.prods && (sameL tForb a.forbid b.forbid && sameL tFoll a.follow b.follow)))
theorem eqG_refl (a : GramD) : eqG a a = true := by
  unfold eqG
  rw [sameL_refl (fun x => by simp [tStr]), sameL_refl (fun x => ?_), sameL_refl (fun x => by simp [tForb]), sameL_refl (fun x => by simp [tFoll])]
  · simp
  · unfold tProd; rw [sameL_refl (fun x => by simp [tSym])]; simp
def Small (g : GramD) : Prop := g.sorts.length ≤ 40 ∧ g.prods.length ≤ 60 ∧ g.forbid.length ≤ 40 ∧ g.follow.length ≤ 40 ∧ ∀ p ∈ g.prods, p.right.length ≤ 40
theorem loop_any {α E : Type} {f : Int → Option (E ⊕ Int)} {k0 k1 : E} (t : α → Bool) {l : List α}
    (hf : ∀ (i : Nat) x, i < l.length → l[i]? = some x → f (i : Int) = some (bif t x then .inl k0 else .inr ((i + 1 : Nat) : Int))) (he : f (l.length : Int) = some (.inl k1)) :
    ∀ (m i : Nat), i + m = l.length → runL f (i : Int) = some (bif (l.drop i).any t then k0 else k1)
  | 0, i, hi => by
    have : i = l.length := by omega
    subst this
    rw [List.drop_length]
    exact runL_done he
  | m + 1, i, hi => by
    have h1 : i < l.length := by omega
    have g1 : l[i]? = some l[i] := List.getElem?_eq_getElem h1
    have := hf i _ h1 g1
    rw [drop_cons g1]
    simp only [List.any_cons]
    cases ht : t l[i] with
    | true =>
      rw [ht] at this
      exact runL_done this
    | false =>
      rw [ht] at this
      rw [runL_next this, Bool.false_or]
      exact loop_any t hf he m (i + 1) (by omega)
theorem lt62 {i n : Nat} (h : i < n) (hn : n ≤ 1000) : i < 4611686018427387904 := by omega
theorem dlt {i n : Nat} (h : i < n) : decide ((i : Int) < (n : Int)) = true := decide_eq_true (by omega)
theorem dge {n : Nat} : decide ((n : Int) < (n : Int)) = false := decide_eq_false (by omega)
theorem q9 (g : GramD) : F9 g = some true ∨ (F9 g = some false ∧ Small g) := by
  unfold F9
  by_cases h1 : g.sorts.length ≤ 40
  case neg => rw [decide_eq_true (show (g.sorts.length : Int) > 40 by omega)]; exact .inl rfl
  by_cases h2 : g.prods.length ≤ 60
  case neg => rw [decide_eq_true (show (g.prods.length : Int) > 60 by omega)]; left; cases decide ((g.sorts.length : Int) > 40) <;> rfl
  by_cases h3 : g.forbid.length ≤ 40
  case neg => rw [decide_eq_true (show (g.forbid.length : Int) > 40 by omega)]; left; cases decide ((g.sorts.length : Int) > 40) <;> cases decide ((g.prods.length : Int) > 60) <;> rfl
  by_cases h4 : g.follow.length ≤ 40
  case neg => rw [decide_eq_true (show (g.follow.length : Int) > 40 by omega)]; left; cases decide ((g.sorts.length : Int) > 40) <;> cases decide ((g.prods.length : Int) > 60) <;> cases decide ((g.forbid.length : Int) > 40) <;> rfl
  rw [decide_eq_false (show ¬ (g.sorts.length : Int) > 40 by omega), decide_eq_false (show ¬ (g.prods.length : Int) > 60 by omega), decide_eq_false (show ¬ (g.forbid.length : Int) > 40 by omega), decide_eq_false (show ¬ (g.follow.length : Int) > 40 by omega)]
  simp only [cond_false]
  have e1 := loop_any (f := fun s => L9_1 g s) (k0 := E_L9_1.k0) (k1 := E_L9_1.k1) (fun x : ByteArray => decide ((x.size : Int) > 1500)) (l := g.sorts) (fun i x hi hx => by
    simp only [L9_1, getI_nat, hx, dlt hi, cond_true, Option.bind_some, w_S (lt62 hi (by omega))]
    cases decide ((x.size : Int) > 1500) <;> rfl) (by simp only [L9_1, dge, cond_false]) g.sorts.length 0 (by omega)
  have e2 := loop_any (f := fun s => L9_0 g s) (k0 := E_L9_0.k0) (k1 := E_L9_0.k1) (fun x : ProdD => decide ((x.right.length : Int) > 40) || decide ((x.cons.size : Int) > 1500)) (l := g.prods) (fun i x hi hx => by
    simp only [L9_0, getI_nat, hx, dlt hi, cond_true, Option.bind_some, w_S (lt62 hi (by omega))]
    cases decide ((x.right.length : Int) > 40) <;> cases decide ((x.cons.size : Int) > 1500) <;> rfl) (by simp only [L9_0, dge, cond_false]) g.prods.length 0 (by omega)
  rw [show ((0 : Nat) : Int) = 0 from rfl] at e1 e2
  rw [e1]
  simp only [Option.bind_some]
  cases (g.sorts.drop 0).any fun x => decide ((x.size : Int) > 1500) with
  | true => exact .inl rfl
  | false =>
    simp only [Option.bind_some, cond_false, e2]
    cases hany : (g.prods.drop 0).any fun x => decide ((x.right.length : Int) > 40) || decide ((x.cons.size : Int) > 1500) with
    | true => exact .inl rfl
    | false =>
      refine .inr ⟨rfl, h1, h2, h3, h4, fun p hp => ?_⟩
      rw [List.drop_zero, List.any_eq_false] at hany
      have := hany p hp
      simp only [Bool.or_eq_true, decide_eq_true_eq, not_or] at this
      omega
section
variable {a b : GramD}
theorem ne_len {n m : Nat} : ((n : Int) != (m : Int)) = !(n == m) := by
  by_cases h : n = m
  · subst h; simp
  · have : (n : Int) ≠ (m : Int) := by omega
    show (!((n : Int) == (m : Int))) = !(n == m)
    rw [beq_false_of_ne h, beq_false_of_ne this]
theorem q18_4 (hl : a.sorts.length = b.sorts.length) (ha : a.sorts.length ≤ 1000) : runL (fun s => L18_4 a b s) 0 = some (bif sameL tStr a.sorts b.sorts then E_L18_4.k1 else .k0) :=
  loop_same0 (f := fun s => L18_4 a b s) (k0 := E_L18_4.k0) (k1 := E_L18_4.k1) tStr hl (fun i x y hi hx hy => by
    simp only [L18_4, getI_nat, hx, hy, dlt hi, cond_true, Option.bind_some, w_S (lt62 hi ha), tStr]
    cases x.toList == y.toList <;> rfl) (by simp only [L18_4, dge, cond_false])
theorem q18_2 {x y : ProdD} (hl : x.right.length = y.right.length) (ha : x.right.length ≤ 1000) : runL (fun s => L18_2_2 x y s) 0 = some (bif sameL tSym x.right y.right then E_L18_2_2.k1 else .k0) :=
  loop_same0 (f := fun s => L18_2_2 x y s) (k0 := E_L18_2_2.k0) (k1 := E_L18_2_2.k1) tSym hl (fun i x y hi hx hy => by
    simp only [L18_2_2, getI_nat, hx, hy, dlt hi, cond_true, Option.bind_some, w_S (lt62 hi ha)]
    change (bif !(tSym x y) then _ else _) = _
    cases tSym x y <;> rfl) (by simp only [L18_2_2, dge, cond_false])
theorem q18_1 (hl : a.forbid.length = b.forbid.length) (ha : a.forbid.length ≤ 1000) : runL (fun s => L18_1 a b s) 0 = some (bif sameL tForb a.forbid b.forbid then E_L18_1.k1 else .k0) :=
  loop_same0 (f := fun s => L18_1 a b s) (k0 := E_L18_1.k0) (k1 := E_L18_1.k1) tForb hl (fun i x y hi hx hy => by
    simp only [L18_1, getI_nat, hx, hy, dlt hi, cond_true, Option.bind_some, w_S (lt62 hi ha)]
    change (bif !(tForb x y) then _ else _) = _
    cases tForb x y <;> rfl) (by simp only [L18_1, dge, cond_false])
theorem q18_0 (hl : a.follow.length = b.follow.length) (ha : a.follow.length ≤ 1000) : runL (fun s => L18_0 a b s) 0 = some (bif sameL tFoll a.follow b.follow then E_L18_0.k1 else .k0) :=
  loop_same0 (f := fun s => L18_0 a b s) (k0 := E_L18_0.k0) (k1 := E_L18_0.k1) tFoll hl (fun i x y hi hx hy => by
    simp only [L18_0, getI_nat, hx, hy, dlt hi, cond_true, Option.bind_some, w_S (lt62 hi ha)]
    change (bif !(tFoll x y) then _ else _) = _
    cases tFoll x y <;> rfl) (by simp only [L18_0, dge, cond_false])
theorem q18_3 (hl : a.prods.length = b.prods.length) (ha : a.prods.length ≤ 1000) (hr : ∀ p ∈ a.prods, p.right.length ≤ 1000) : runL (fun s => L18_3 a b s) 0 = some (bif sameL tProd a.prods b.prods then E_L18_3.k1 else .k0) :=
  loop_same0 (f := fun s => L18_3 a b s) (k0 := E_L18_3.k0) (k1 := E_L18_3.k1) tProd hl (fun i x y hi hx hy => by
    have hxr := hr x (List.mem_of_getElem? hx)
    simp only [L18_3, getI_nat, hx, hy, dlt hi, cond_true, Option.bind_some, w_S (lt62 hi ha), bne, tProd, Bool.and_true]
    by_cases hl2 : x.right.length = y.right.length
    · have e : ((x.right.length : Int) == (y.right.length : Int)) = true := by rw [hl2]; exact beq_self_eq_true _
      rw [q18_2 hl2 hxr, e]
      cases x.left == y.left <;> cases x.cons.toList == y.cons.toList <;> cases x.role == y.role <;> cases x.prefer == y.prefer <;> cases x.avoid == y.avoid <;> cases x.frm == y.frm <;> first | rfl | (cases sameL tSym x.right y.right <;> rfl)
    · have e : ((x.right.length : Int) == (y.right.length : Int)) = false := beq_false_of_ne (by omega)
      rw [sameL_len _ _ hl2, e]
      cases x.left == y.left <;> cases x.cons.toList == y.cons.toList <;> cases x.role == y.role <;> cases x.prefer == y.prefer <;> cases x.avoid == y.avoid <;> cases x.frm == y.frm <;> rfl) (by simp only [L18_3, dge, cond_false])
theorem q18 (ha : Small a) : F18 a b = some (eqG a b) := by
  obtain ⟨h1, h2, h3, h4, h5⟩ := ha
  unfold F18 eqG
  rw [ne_len, ne_len, ne_len, ne_len]
  simp only [bne]
  by_cases l1 : a.sorts.length = b.sorts.length
  case neg => rw [sameL_len a.sorts b.sorts l1, beq_false_of_ne l1]; cases a.start == b.start <;> rfl
  by_cases l2 : a.prods.length = b.prods.length
  case neg => rw [sameL_len a.prods b.prods l2, beq_false_of_ne l2]; cases a.start == b.start <;> cases a.sorts.length == b.sorts.length <;> cases sameL tStr a.sorts b.sorts <;> rfl
  by_cases l3 : a.forbid.length = b.forbid.length
  case neg => rw [sameL_len a.forbid b.forbid l3, beq_false_of_ne l3]; cases a.start == b.start <;> cases a.sorts.length == b.sorts.length <;> cases sameL tStr a.sorts b.sorts <;> cases a.prods.length == b.prods.length <;> cases sameL tProd a.prods b.prods <;> rfl
  by_cases l4 : a.follow.length = b.follow.length
  case neg => rw [sameL_len a.follow b.follow l4, beq_false_of_ne l4]; cases a.start == b.start <;> cases a.sorts.length == b.sorts.length <;> cases sameL tStr a.sorts b.sorts <;> cases a.prods.length == b.prods.length <;> cases sameL tProd a.prods b.prods <;> cases a.forbid.length == b.forbid.length <;> cases sameL tForb a.forbid b.forbid <;> rfl
  rw [q18_4 l1 (by omega), q18_3 l2 (by omega) (fun p hp => by have := h5 p hp; omega), q18_1 l3 (by omega), q18_0 l4 (by omega), l1, l2, l3, l4]
  simp only [beq_self_eq_true]
  cases a.start == b.start <;> cases sameL tStr a.sorts b.sorts <;> cases sameL tProd a.prods b.prods <;> cases sameL tForb a.forbid b.forbid <;> cases sameL tFoll a.follow b.follow <;> rfl
theorem nil_ok {k b : Nat} (hk : k ≤ 1000) (hb : b ≤ 1000) : nilOk k b = true := by
  refine decide_eq_true ?_
  have : k * b ≤ 1000 * 1000 := Nat.mul_le_mul hk hb
  unfold limit47
  omega
theorem q11_0 (ha : a.prods.length ≤ 1000) (hr : ∀ p ∈ a.prods, p.right.length ≤ 1000) : ∀ (m i : Nat), i + m = a.prods.length → runL (fun s => L11_0 a a.prods.length s.1 s.2) ((i : Int), a.prods) = some (.k0 a.prods)
  | 0, i, hi => by
    have : i = a.prods.length := by omega
    subst this
    exact runL_done (by simp only [L11_0, dge, cond_false])
  | m + 1, i, hi => by
    have h1 : i < a.prods.length := by omega
    have g1 : a.prods[i]? = some a.prods[i] := List.getElem?_eq_getElem h1
    have hn := nil_ok (b := 48) (hr _ (List.mem_of_getElem? g1)) (by omega)
    have e : a.prods.set i ⟨a.prods[i].left, a.prods[i].right, a.prods[i].cons, a.prods[i].role, a.prods[i].prefer, a.prods[i].avoid, a.prods[i].frm⟩ = a.prods := List.set_getElem_self h1
    have : (fun s : Int × List ProdD => L11_0 a a.prods.length s.1 s.2) ((i : Int), a.prods) = some (.inr (((i + 1 : Nat) : Int), a.prods)) := by
      simp only [L11_0, getI_nat, g1, dlt h1, cond_true, Option.bind_some, w_S (lt62 h1 ha), hn, ixN_nat, if_pos h1, e]
    rw [runL_next this]
    exact q11_0 ha hr m (i + 1) (by omega)
theorem q11 (ha : Small a) : F11 a = some (.k0 a.sorts a.prods a.start a.forbid a.follow) := by
  obtain ⟨h1, h2, h3, h4, h5⟩ := ha
  have := q11_0 (a := a) (by omega) (fun p hp => by have := h5 p hp; omega) a.prods.length 0 (by omega)
  unfold F11
  rw [nil_ok (by omega) (by omega), nil_ok (by omega) (by omega), nil_ok (by omega) (by omega), nil_ok (by omega) (by omega)]
  simp only [cond_true]
  rw [show ((0 : Int), a.prods) = (((0 : Nat) : Int), a.prods) from rfl, this]
  simp only [Option.bind_some, Nat.le_refl, decide_true, cond_true, List.take_length]
end
end Go.Proofs.Try
namespace Go.Proofs.Try
set_option linter.unusedSimpArgs false
set_option linter.unusedVariables false
open Go Go.Vs
def ff : List Bool → Nat → Option Nat
  | [], _ => none
  | b :: bs, i => bif b then ff bs (i + 1) else some i
theorem loop_ff {E : Type} {step : Int → Option (E ⊕ Int)} {l : List Bool} (bad : Int → E) {fin : E} (h : ∀ (i : Nat) (x : Bool), l[i]? = some x → step (i : Int) = some (bif x then .inr ((i + 1 : Nat) : Int) else .inl (bad i))) (hend : step (l.length : Int) = some (.inl fin)) :
    ∀ (k i : Nat), i + k = l.length → runL step (i : Int) = some (match ff (l.drop i) i with | none => fin | some j => bad j)
  | 0, i, hi => by
    obtain rfl : i = l.length := by omega
    rw [List.drop_length]
    exact runL_done hend
  | k + 1, i, hi => by
    have hx : l[i]? = some l[i] := List.getElem?_eq_getElem (by omega)
    have hd : l.drop i = l[i] :: l.drop (i + 1) := (List.drop_eq_getElem_cons (by omega))
    have hs := h i _ hx
    rw [hd]
    simp only [ff]
    cases hp : l[i] with
    | true =>
      rw [hp] at hs
      rw [runL_next hs, loop_ff bad h hend k (i + 1) (by omega)]
      rfl
    | false =>
      rw [hp] at hs
      rw [runL_done hs]
      rfl
theorem q35 {l : List Bool} (hl : l.length ≤ 1000) : F35 l = some (match ff l 0 with | none => -1 | some j => (j : Int)) := by
  have key := loop_ff (step := fun s => L35_0 l (l.length : Int) s) (l := l) (fun j => E_L35_0.k0 j) (fin := .k1) (fun i x hx => by
    have hi : i < l.length := (List.getElem?_eq_some_iff.1 hx).1
    simp only [L35_0, getI_nat, hx, Option.bind_some, decide_eq_true (show (i : Int) < (l.length : Int) by omega), cond_true, w_S (show i < 4611686018427387904 by omega)]
    cases x <;> rfl) (by simp [L35_0]) l.length 0 (by omega)
  rw [List.drop_zero] at key
  have e0 : ((0 : Nat) : Int) = 0 := rfl
  rw [e0] at key
  unfold F35
  rw [key]
  cases ff l 0 <;> rfl
theorem l14_1 {l : List Bool} (hl : l.length ≤ 1000) : runL (fun s => L14_1 l s) 0 = some (match ff l 0 with | none => .k1 | some j => .k0 j) := by
  have key := loop_ff (step := fun s => L14_1 l s) (l := l) (fun j => E_L14_1.k0 j) (fin := .k1) (fun i x hx => by
    have hi : i < l.length := (List.getElem?_eq_some_iff.1 hx).1
    simp only [L14_1, getI_nat, hx, Option.bind_some, decide_eq_true (show (i : Int) < (l.length : Int) by omega), cond_true, w_S (show i < 4611686018427387904 by omega)]
    cases x <;> rfl) (by simp [L14_1]) l.length 0 (by omega)
  rw [List.drop_zero] at key
  exact key
theorem l14_0 {l : List Bool} (hl : l.length ≤ 1000) : runL (fun s => L14_0 l s) 0 = some (match ff l 0 with | none => .k1 | some j => .k0 j) := by
  have key := loop_ff (step := fun s => L14_0 l s) (l := l) (fun j => E_L14_0.k0 j) (fin := .k1) (fun i x hx => by
    have hi : i < l.length := (List.getElem?_eq_some_iff.1 hx).1
    simp only [L14_0, getI_nat, hx, Option.bind_some, decide_eq_true (show (i : Int) < (l.length : Int) by omega), cond_true, w_S (show i < 4611686018427387904 by omega)]
    cases x <;> rfl) (by simp [L14_0]) l.length 0 (by omega)
  rw [List.drop_zero] at key
  exact key
def wellOf (g : GramD) : Int × Int := bif chkB g then (match ff (prodOf g) 0 with | some j => (161, (j : Int)) | none => match ff (reachOf cAll g) 0 with | some j => (162, (j : Int)) | none => (0, 0)) else (160, 0)
section
variable {g : GramD}
theorem chk_no (h : chkB g = false) : chkN g = 160 := by unfold chkN; rw [h]; rfl
theorem chk_ok (h : chkB g = true) : chkN g = 0 := by unfold chkN; rw [h]; rfl
theorem q13 (hg : GramOk g) {N : Nat} (hN : g.sorts.length < N) : F13 N g = some (.k0 (wellOf g).1 (wellOf g).2) := by
  have h40 := hg.sorts
  unfold F13 wellOf
  rw [q29 hg]
  cases hc : chkB g with
  | false => rw [chk_no hc]; rfl
  | true =>
    have hv := val_of hc
    have p1 := q35 (l := prodOf g) (by rw [prodOf_len]; omega)
    have p2 := q35 (l := reachOf cAll g) (by rw [reach_len]; omega)
    rw [chk_ok hc]
    simp only [Option.bind_some, show ((0 : Int) != 0) = false from rfl, cond_false, cond_true, q36 hg hv, q37 hg hv hN, p1, p2]
    cases h1 : ff (prodOf g) 0 with
    | some j =>
      simp only
      rw [decide_eq_true (show (j : Int) ≥ 0 by omega)]
      rfl
    | none =>
      simp only [show decide ((-1 : Int) ≥ 0) = false from rfl, cond_false]
      cases h2 : ff (reachOf cAll g) 0 with
      | some j =>
        simp only
        rw [decide_eq_true (show (j : Int) ≥ 0 by omega)]
        rfl
      | none => rfl
theorem q14 (hg : GramOk g) : F14 g = some (.k0 (wellOf g).1 (wellOf g).2) := by
  have h40 := hg.sorts
  unfold F14 wellOf
  rw [q12 hg]
  cases hc : chkB g with
  | false => rw [chk_no hc]; rfl
  | true =>
    have hv := val_of hc
    have p1 := l14_1 (l := prodOf g) (by rw [prodOf_len]; omega)
    have p2 := l14_0 (l := reachOf cAll g) (by rw [reach_len]; omega)
    rw [chk_ok hc]
    simp only [Option.bind_some, show ((0 : Int) != 0) = false from rfl, cond_false, cond_true, q39 hg hv, q40 hg hv, p1, p2]
    cases h1 : ff (prodOf g) 0 with
    | some j => rfl
    | none =>
      simp only [Option.bind_some]
      cases h2 : ff (reachOf cAll g) 0 with
      | some j => rfl
      | none => rfl
def fi (nm : ByteArray) : List ByteArray → Nat → Option Nat
  | [], _ => none
  | s :: ss, i => bif s.toList == nm.toList then some i else fi nm ss (i + 1)
theorem q45 {nm : ByteArray} (hn : g.sorts.length ≤ 1000) : F45 g nm = some (match fi nm g.sorts 0 with | none => -1 | some j => (j : Int)) := by
  have key : ∀ (k i : Nat), i + k = g.sorts.length → runL (fun s => L45_0 g nm (g.sorts.length : Int) s) (i : Int) = some (match fi nm (g.sorts.drop i) i with | none => .k1 | some j => .k0 j) := by
    intro k
    induction k with
    | zero =>
      intro i hi
      obtain rfl : i = g.sorts.length := by omega
      rw [List.drop_length]
      simp only [fi]
      exact runL_done (by simp [L45_0])
    | succ k ih =>
      intro i hi
      have hx : g.sorts[i]? = some g.sorts[i] := List.getElem?_eq_getElem (by omega)
      have hd : g.sorts.drop i = g.sorts[i] :: g.sorts.drop (i + 1) := (List.drop_eq_getElem_cons (by omega))
      rw [hd]
      simp only [fi]
      have hs : L45_0 g nm (g.sorts.length : Int) (i : Int) = some (bif g.sorts[i].toList == nm.toList then .inl (.k0 (i : Int)) else .inr ((i + 1 : Nat) : Int)) := by
        simp only [L45_0, getI_nat, hx, Option.bind_some, decide_eq_true (show (i : Int) < (g.sorts.length : Int) by omega), cond_true, w_S (show i < 4611686018427387904 by omega), BEq.comm (a := nm.toList)]
        cases g.sorts[i].toList == nm.toList <;> rfl
      cases hp : g.sorts[i].toList == nm.toList with
      | true => rw [hp] at hs; rw [runL_done hs]; rfl
      | false => rw [hp] at hs; rw [runL_next hs, ih (i + 1) (by omega)]; rfl
  have k0 := key g.sorts.length 0 (by omega)
  rw [List.drop_zero] at k0
  have e0 : ((0 : Nat) : Int) = 0 := rfl
  rw [e0] at k0
  unfold F45
  rw [k0]
  cases fi nm g.sorts 0 <;> rfl
def findOf (g : GramD) (nm : ByteArray) : Int × Bool := match fi nm g.sorts 0 with | none => (0, false) | some j => ((j : Int), true)
theorem q16 {nm : ByteArray} (hn : g.sorts.length ≤ 1000) : F16 g nm = some (.k0 (findOf g nm).1 (findOf g nm).2) := by
  unfold F16 findOf
  rw [q45 hn]
  cases fi nm g.sorts 0 with
  | none => rfl
  | some j =>
    simp only [Option.bind_some]
    rw [decide_eq_true (show (j : Int) ≥ 0 by omega)]
    by_cases h : (0 : Int) < j
    · rw [if_pos h]
    · rw [if_neg h, show (j : Int) = 0 by omega]
theorem l3_2 {nm : ByteArray} (hn : g.sorts.length ≤ 1000) : runL (fun s => L3_2 nm g s.1 s.2.1 s.2.2) (0, false, (IntKind.wrap .i64 ((g.sorts.length : Int) - 1))) = some (.k0 (findOf g nm).1 (findOf g nm).2) := by
  have key : ∀ (i : Nat), i ≤ g.sorts.length → ∀ (v : Int) (b : Bool), (match fi nm (g.sorts.drop i) i with | none => (0, false) | some j => ((j : Int), true)) = (v, b) →
      runL (fun s => L3_2 nm g s.1 s.2.1 s.2.2) (v, b, (i : Int) - 1) = some (.k0 (findOf g nm).1 (findOf g nm).2) := by
    intro i
    induction i with
    | zero =>
      intro _ v b h
      rw [List.drop_zero] at h
      unfold findOf
      rw [h]
      exact runL_done (by simp [L3_2])
    | succ i ih =>
      intro hi v b h
      have hx : g.sorts[i]? = some g.sorts[i] := List.getElem?_eq_getElem (by omega)
      have hd : g.sorts.drop i = g.sorts[i] :: g.sorts.drop (i + 1) := (List.drop_eq_getElem_cons (by omega))
      have e1 : ((i + 1 : Nat) : Int) - 1 = (i : Int) := by omega
      have e2 : IntKind.wrap .i64 ((i : Int) - 1) = (i : Int) - 1 := w_id (by omega)
      rw [e1]
      have hs : L3_2 nm g v b (i : Int) = some (bif g.sorts[i].toList == nm.toList then .inr ((i : Int), true, (i : Int) - 1) else .inr (v, b, (i : Int) - 1)) := by
        simp only [L3_2, getI_nat, hx, Option.bind_some, decide_eq_true (show (i : Int) ≥ 0 by omega), cond_true, e2]
        cases g.sorts[i].toList == nm.toList <;> rfl
      cases hp : g.sorts[i].toList == nm.toList with
      | true =>
        rw [hp] at hs
        rw [runL_next (s' := ((i : Int), true, (i : Int) - 1)) hs]
        refine ih (by omega) _ _ ?_
        rw [hd]
        simp only [fi, hp, cond_true]
      | false =>
        rw [hp] at hs
        rw [runL_next (s' := (v, b, (i : Int) - 1)) hs]
        refine ih (by omega) _ _ ?_
        rw [hd]
        simp only [fi, hp, cond_false]
        exact h
  have := key g.sorts.length (Nat.le_refl _) 0 false (by rw [List.drop_length]; rfl)
  rw [w_id (by omega)]
  exact this
def idxs {α : Type} (p : α → Bool) : Nat → List α → List Int
  | _, [] => []
  | i, x :: xs => bif p x then (i : Int) :: idxs p (i + 1) xs else idxs p (i + 1) xs
theorem idxs_app {α : Type} (p : α → Bool) (x : α) : ∀ (l : List α) (i : Nat), idxs p i (l ++ [x]) = idxs p i l ++ (bif p x then [((i + l.length : Nat) : Int)] else [])
  | [], i => by simp only [List.nil_append, idxs, List.length_nil, Nat.add_zero]
  | y :: l, i => by
    simp only [List.cons_append, idxs, idxs_app p x l (i + 1), List.length_cons]
    rw [show i + 1 + l.length = i + (l.length + 1) by omega]
    cases p y <;> rfl
theorem idxs_len {α : Type} (p : α → Bool) : ∀ (l : List α) (i : Nat), (idxs p i l).length ≤ l.length
  | [], _ => Nat.le_refl _
  | x :: l, i => by
    have := idxs_len p l (i + 1)
    simp only [idxs]
    cases p x <;> simp <;> omega
theorem ap_ok {len n bytes : Nat} (h1 : len ≤ n) (h2 : len ≤ 10000) (h3 : bytes ≤ 1000) : apOk len 1 n bytes = true := by
  unfold apOk limit47
  refine decide_eq_true ⟨h1, ?_, by omega⟩
  have : (len + 1) * bytes ≤ 10001 * 1000 := Nat.mul_le_mul (by omega) h3
  omega
theorem loop_idxs {α E : Type} {step : Nat × Nat × Int × List Int → Option (E ⊕ (Nat × Nat × Int × List Int))} {l : List α} (p : α → Bool) (fin : Nat → Nat → List Int → E)
    (h : ∀ (i : Nat) (x : α) (g : Nat) (acc : List Int), l[i]? = some x → acc.length ≤ i → step (g, acc.length, (i : Int), acc) = some (.inr (bif p x then (g + 1, acc.length + 1, ((i + 1 : Nat) : Int), acc ++ [(i : Int)]) else (g, acc.length, ((i + 1 : Nat) : Int), acc))))
    (hend : ∀ (g : Nat) (acc : List Int), step (g, acc.length, (l.length : Int), acc) = some (.inl (fin g acc.length acc))) : ∃ g, runL step (0, 0, 0, []) = some (fin g (idxs p 0 l).length (idxs p 0 l)) := by
  have := loop_inv0 (l := l) (step := step) (fun i (a : Nat × List Int) => (a.1, a.2.length, (i : Int), a.2)) (fun a => fin a.1 a.2.length a.2) (fun i a => a.2 = idxs p 0 (l.take i)) (fun i x a hx ha => by
    have hi : i < l.length := (List.getElem?_eq_some_iff.1 hx).1
    have hle : a.2.length ≤ i := by rw [ha]; exact Nat.le_trans (idxs_len p _ 0) (by simp; omega)
    have hs := h i x a.1 a.2 hx hle
    have ht : l.take (i + 1) = l.take i ++ [x] := by rw [List.take_add_one, hx]; rfl
    have hlt : (l.take i).length = i := by simp; omega
    cases hp : p x with
    | true =>
      rw [hp] at hs
      refine ⟨(a.1 + 1, a.2 ++ [(i : Int)]), by rw [hs]; simp, ?_⟩
      simp only
      rw [ht, idxs_app, hp, hlt, ← ha]
      simp
    | false =>
      rw [hp] at hs
      refine ⟨(a.1, a.2), by rw [hs]; rfl, ?_⟩
      simp only
      rw [ht, idxs_app, hp, ← ha]
      simp) (fun a _ => hend a.1 a.2) (a := (0, [])) rfl
  obtain ⟨b, h1, h2⟩ := this
  rw [List.take_length] at h2
  refine ⟨b.1, ?_⟩
  rw [← h2]
  exact h1
def ofOf (g : GramD) (n : Int) : List Int := idxs (fun (p : ProdD) => p.left == n) 0 g.prods
theorem l17_0 {n : Int} (hg : GramOk g) : ∃ k, runL (fun s => L17_0 n g (g.prods.length : Int) s.1 s.2.1 s.2.2.1 s.2.2.2) (0, 0, 0, []) = some (.k0 k (ofOf g n).length (ofOf g n)) := by
  have hp := hg.prods
  refine loop_idxs (step := fun s => L17_0 n g (g.prods.length : Int) s.1 s.2.1 s.2.2.1 s.2.2.2) (fun (p : ProdD) => p.left == n) (fun a b c => E_L17_0.k0 a b c) (fun i x k acc hx ha => ?_) (fun k acc => by simp [L17_0])
  have hi : i < g.prods.length := (List.getElem?_eq_some_iff.1 hx).1
  simp only [L17_0, getI_nat, hx, Option.bind_some, decide_eq_true (show (i : Int) < (g.prods.length : Int) by omega), cond_true, w_S (show i < 4611686018427387904 by omega), ap_ok (Nat.le_refl acc.length) (show acc.length ≤ 10000 by omega) (show 8 ≤ 1000 by omega), decide_eq_false (show ¬ acc.length + 1 ≤ acc.length by omega), List.take_length]
  cases x.left == n <;> rfl
theorem l3_1 {n : Int} (hg : GramOk g) : ∃ k, runL (fun s => L3_1 n g s.1 s.2.1 s.2.2.1 s.2.2.2) (0, 0, 0, []) = some (.k0 k (ofOf g n).length (ofOf g n)) := by
  have hp := hg.prods
  refine loop_idxs (step := fun s => L3_1 n g s.1 s.2.1 s.2.2.1 s.2.2.2) (fun (p : ProdD) => p.left == n) (fun a b c => E_L3_1.k0 a b c) (fun i x k acc hx ha => ?_) (fun k acc => by simp [L3_1])
  have hi : i < g.prods.length := (List.getElem?_eq_some_iff.1 hx).1
  simp only [L3_1, getI_nat, hx, Option.bind_some, decide_eq_true (show (i : Int) < (g.prods.length : Int) by omega), cond_true, w_S (show i < 4611686018427387904 by omega), ap_ok (Nat.le_refl acc.length) (show acc.length ≤ 10000 by omega) (show 8 ≤ 1000 by omega), decide_eq_false (show ¬ acc.length + 1 ≤ acc.length by omega), List.take_length]
  cases x.left == n <;> rfl
theorem l3_0_2 {l : List Int} (hl : l.length ≤ 1000) : runL (fun s => L3_0_2 l l.length l s) 0 = some .k1 := by
  have := loop_list (step := fun s => L3_0_2 l l.length l s) (l := l) (fun _ _ => true) (bad := E_L3_0_2.k0) (fin := .k1) (fun i x hx => by
    have hi : i < l.length := (List.getElem?_eq_some_iff.1 hx).1
    have hix : ixN l.length (i : Int) = some i := by rw [ixN_nat, if_pos hi]
    have hb : (x != x) = false := by simp
    simp only [L3_0_2, getI_nat, hx, Option.bind_some, decide_eq_true (show (i : Int) < (l.length : Int) by omega), cond_true, hix, hb, cond_false, w_S (show i < 4611686018427387904 by omega)]) (by simp [L3_0_2])
  rw [this]
  have : allF (fun (_ : Nat) (_ : Int) => true) 0 l = true := (allF_iff _ _).2 (fun _ _ _ => rfl)
  rw [this]
  rfl
theorem q17 {n : Int} (hg : GramOk g) : F17 g n = some (bif chkB g then (bif decide (n < 0) || decide (n ≥ (g.sorts.length : Int)) then .k0 [] 4 else .k0 (ofOf g n) 0) else .k0 [] 160) := by
  unfold F17
  rw [q29 hg]
  cases hc : chkB g with
  | false => rw [chk_no hc]; rfl
  | true =>
    rw [chk_ok hc]
    obtain ⟨k, hk⟩ := l17_0 (n := n) hg
    simp only [Option.bind_some, show ((0 : Int) != 0) = false from rfl, cond_false, cond_true, hk, decide_eq_true (Nat.le_refl _), List.take_length]
    cases decide (n < 0) <;> cases decide (n ≥ (g.sorts.length : Int)) <;> rfl
structure ArgOk (g : GramD) : Prop where
  left : ∀ p ∈ g.prods, i64ok p.left
  role : ∀ p ∈ g.prods, i64ok p.role
  sym : ∀ p ∈ g.prods, ∀ s ∈ p.right, SymOk s
  foll : ∀ f ∈ g.follow, u64ok f.a ∧ u64ok f.b ∧ u64ok f.c ∧ u64ok f.d
  forb : ∀ f ∈ g.forbid, i64ok f.at_
theorem gram_ok (h : ArgOk g) (hs : Small g) : GramOk g :=
  ⟨hs.1, by have := hs.2.1; omega, by have := hs.2.2.1; omega, by have := hs.2.2.2.1; omega, fun p hp => ⟨h.left p hp, h.sym p hp, hs.2.2.2.2 p hp, h.role p hp⟩, h.foll, h.forb⟩
theorem law3 (h : ArgOk g) (nm : ByteArray) (n : Int) {N : Nat} (hN : 40 < N) : F3 N g nm n = some true := by
  unfold F3
  rcases q9 g with hv | ⟨hv, hs⟩
  · rw [hv]; rfl
  have hg := gram_ok h hs
  have h40 := hg.sorts
  rw [hv]
  simp only [Option.bind_some, cond_false]
  cases decide ((nm.size : Int) > 1500) with
  | true => rfl
  | false =>
    have eta : (⟨g.sorts, g.prods, g.start, g.forbid, g.follow⟩ : GramD) = g := rfl
    have hbs : ((findOf g nm).2 == (findOf g nm).2) = true := by simp
    have hb : ∀ x : Int, (x != x) = false := fun x => by simp
    have h18 : F18 g g = some true := by rw [q18 hs, eqG_refl]
    obtain ⟨k, hk⟩ := l3_1 (n := n) hg
    have hol : (ofOf g n).length ≤ 1000 := by have := idxs_len (fun (p : ProdD) => p.left == n) g.prods 0; have := hg.prods; unfold ofOf; omega
    simp only [cond_false, q11 hs, eta, q12 hg, q13 hg (show g.sorts.length < N by omega), q14 hg, q29 hg, Option.bind_some, hb, q16 (show g.sorts.length ≤ 1000 by omega), l3_2 (show g.sorts.length ≤ 1000 by omega), hbs, Bool.and_true, Bool.not_true, q17 hg, hk]
    cases hc : chkB g with
    | false =>
      rw [chk_no hc]
      simp only [cond_false, show ((160 : Int) == 0) = false from rfl, show ((160 : Int) != 0) = true from rfl, cond_true, Option.bind_some, hb, List.length_nil, show (((0 : Nat) : Int) != 0) = false from rfl, show runL (fun s => L3_0 []) () = some E_L3_0.k0 from runL_done rfl, h18, F10]
    | true =>
      rw [chk_ok hc]
      simp only [cond_true, show ((0 : Int) == 0) = true from rfl, show ((0 : Int) != 0) = false from rfl, cond_false]
      cases decide (n < 0) with
      | true => simp only [Bool.true_or, cond_true, Option.bind_some, hb, cond_false, List.length_nil, show (((0 : Nat) : Int) != 0) = false from rfl, show runL (fun s => L3_0 []) () = some E_L3_0.k0 from runL_done rfl, h18, F10]
      | false =>
        cases decide (n ≥ (g.sorts.length : Int)) with
        | true => simp only [Bool.or_true, cond_true, Option.bind_some, hb, cond_false, List.length_nil, show (((0 : Nat) : Int) != 0) = false from rfl, show runL (fun s => L3_0 []) () = some E_L3_0.k0 from runL_done rfl, h18, F10]
        | false => simp only [Bool.or_false, cond_true, Option.bind_some, hb, cond_false, l3_0_2 hol, h18, F10]
end
end Go.Proofs.Try
namespace Go.Proofs.Try
set_option linter.unusedSimpArgs false
set_option linter.unusedVariables false
open Go Go.Vs Go.RowKit Go.ChangeShapes Go.ChangeAt
theorem table {W : World} (h : laidMetH prog [] W) : ∀ n xs, prg.gl n = some xs → n < W.heap.size ∧ PRs (fun c => c < W.heap.size) W n 0 xs := by
  intro n xs hx
  cases hx
theorem kids : Kids prog (· < prog.types.size) := kids_rows (by kernel_rfl) (by kernel_rfl)
theorem full : ∀ t e, t < prog.types.size → prog.underlying t = some (.slice e) → 0 < prog.cellsOf e := slices_full_of prog (by kernel_rfl)
theorem own : ownKnob prog.godebug = none := by kernel_rfl
noncomputable def laidWorld (os : Os) : World := World.holding prog os ⟨#[], #[], []⟩
end Go.Proofs.Try
namespace Go.Proofs.Try
set_option linter.unusedSimpArgs false
set_option linter.unusedVariables false
open Go Go.Vs
theorem rows_of {α : Type} (e : α → List PV) (Q : α → Prop) : ∀ {rows : List (List PV)}, (∀ r ∈ rows, ∃ v, r = e v ∧ Q v) → ∃ l : List α, rows = l.map e ∧ ∀ v ∈ l, Q v
  | [], _ => ⟨[], rfl, by simp⟩
  | r :: rows, h => by
    obtain ⟨l, hl, hq⟩ := rows_of e Q (rows := rows) (fun q hq => h q (List.mem_cons_of_mem _ hq))
    obtain ⟨v, hv, hqv⟩ := h r (List.mem_cons_self ..)
    refine ⟨v :: l, by rw [hv, hl]; rfl, ?_⟩
    intro z hz
    rcases List.mem_cons.1 hz with rfl | hz
    · exact hqv
    · exact hq z hz
theorem i64_ok {n : Int} (h : IntKind.i64.min ≤ n ∧ n ≤ IntKind.i64.max) : i64ok n := h
theorem u64_ok {n : Int} (h : IntKind.u64.min ≤ n ∧ n ≤ IntKind.u64.max) : u64ok n := h
theorem str_row {r : List PV} (h : FitL [.str] r) : ∃ s, r = eStr s ∧ True := by
  match r, h with
  | [x], h =>
    simp only [FitL, Fit] at h
    obtain ⟨⟨s, rfl, _⟩, _⟩ := h
    exact ⟨s, rfl, trivial⟩
  | [], h => simp [FitL] at h
  | _ :: _ :: _, h => simp [FitL] at h
theorem sym_row {r : List PV} (h : FitL [.int .i64, .int .u64, .int .u64, .int .u64, .int .u64, .int .i64] r) : ∃ s, r = eSym s ∧ SymOk s := by
  match r, h with
  | [x0, x1, x2, x3, x4, x5], h =>
    simp only [FitL, Fit] at h
    obtain ⟨⟨n0, rfl, b0⟩, ⟨n1, rfl, b1⟩, ⟨n2, rfl, b2⟩, ⟨n3, rfl, b3⟩, ⟨n4, rfl, b4⟩, ⟨n5, rfl, b5⟩, _⟩ := h
    exact ⟨⟨n0, n1, n2, n3, n4, n5⟩, rfl, ⟨i64_ok b0, u64_ok b1, u64_ok b2, u64_ok b3, u64_ok b4, i64_ok b5⟩⟩
  | [], h => simp [FitL] at h
  | [_], h => simp [FitL] at h
  | [_, _], h => simp [FitL] at h
  | [_, _, _], h => simp [FitL] at h
  | [_, _, _, _], h => simp [FitL] at h
  | [_, _, _, _, _], h => simp [FitL] at h
  | _ :: _ :: _ :: _ :: _ :: _ :: _ :: _, h => simp [FitL] at h
theorem prod_row {r : List PV} (h : FitL [.int .i64, .sl 6 [.int .i64, .int .u64, .int .u64, .int .u64, .int .u64, .int .i64], .str, .int .i64, .bool, .bool, .int .i64] r) :
    ∃ p, r = eProd p ∧ (i64ok p.left ∧ i64ok p.role ∧ ∀ s ∈ p.right, SymOk s) := by
  match r, h with
  | [x0, x1, x2, x3, x4, x5, x6], h =>
    simp only [FitL, Fit] at h
    obtain ⟨⟨n0, rfl, b0⟩, ⟨rows, rfl, _, hrows⟩, ⟨c, rfl, _⟩, ⟨n3, rfl, b3⟩, ⟨p4, rfl⟩, ⟨p5, rfl⟩, ⟨n6, rfl, b6⟩, _⟩ := h
    obtain ⟨l, rfl, hl⟩ := rows_of eSym SymOk (fun r hr => sym_row (hrows r hr))
    exact ⟨⟨n0, l, c, n3, p4, p5, n6⟩, rfl, i64_ok b0, i64_ok b3, hl⟩
  | [], h => simp [FitL] at h
  | [_], h => simp [FitL] at h
  | [_, _], h => simp [FitL] at h
  | [_, _, _], h => simp [FitL] at h
  | [_, _, _, _], h => simp [FitL] at h
  | [_, _, _, _, _], h => simp [FitL] at h
  | [_, _, _, _, _, _], h => simp [FitL] at h
  | _ :: _ :: _ :: _ :: _ :: _ :: _ :: _ :: _, h => simp [FitL] at h
theorem forb_row {r : List PV} (h : FitL [.int .i64, .int .i64, .int .i64] r) : ∃ f, r = eForb f ∧ i64ok f.at_ := by
  match r, h with
  | [x0, x1, x2], h =>
    simp only [FitL, Fit] at h
    obtain ⟨⟨n0, rfl, b0⟩, ⟨n1, rfl, b1⟩, ⟨n2, rfl, b2⟩, _⟩ := h
    exact ⟨⟨n0, n1, n2⟩, rfl, i64_ok b1⟩
  | [], h => simp [FitL] at h
  | [_], h => simp [FitL] at h
  | [_, _], h => simp [FitL] at h
  | _ :: _ :: _ :: _ :: _, h => simp [FitL] at h
theorem foll_row {r : List PV} (h : FitL [.int .i64, .int .u64, .int .u64, .int .u64, .int .u64] r) : ∃ f, r = eFoll f ∧ (u64ok f.a ∧ u64ok f.b ∧ u64ok f.c ∧ u64ok f.d) := by
  match r, h with
  | [x0, x1, x2, x3, x4], h =>
    simp only [FitL, Fit] at h
    obtain ⟨⟨n0, rfl, b0⟩, ⟨n1, rfl, b1⟩, ⟨n2, rfl, b2⟩, ⟨n3, rfl, b3⟩, ⟨n4, rfl, b4⟩, _⟩ := h
    exact ⟨⟨n0, n1, n2, n3, n4⟩, rfl, u64_ok b1, u64_ok b2, u64_ok b3, u64_ok b4⟩
  | [], h => simp [FitL] at h
  | [_], h => simp [FitL] at h
  | [_, _], h => simp [FitL] at h
  | [_, _, _], h => simp [FitL] at h
  | [_, _, _, _], h => simp [FitL] at h
  | _ :: _ :: _ :: _ :: _ :: _ :: _, h => simp [FitL] at h
def shG : List Sh := [.sl 1 [.str], .sl 7 [.int .i64, .sl 6 [.int .i64, .int .u64, .int .u64, .int .u64, .int .u64, .int .i64], .str, .int .i64, .bool, .bool, .int .i64], .int .i64, .sl 3 [.int .i64, .int .i64, .int .i64], .sl 5 [.int .i64, .int .u64, .int .u64, .int .u64, .int .u64]]
theorem gram_of {xs : List PV} (h : FitL shG xs) : ∃ g : GramD, xs = eGram g ∧ ArgOk g := by
  unfold shG at h
  match xs, h with
  | [x0, x1, x2, x3, x4], h =>
    simp only [FitL] at h
    obtain ⟨h0, h1, h2, h3, h4, _⟩ := h
    simp only [Fit] at h0 h1 h2 h3 h4
    obtain ⟨r0, rfl, _, q0⟩ := h0
    obtain ⟨r1, rfl, _, q1⟩ := h1
    obtain ⟨n2, rfl, b2⟩ := h2
    obtain ⟨r3, rfl, _, q3⟩ := h3
    obtain ⟨r4, rfl, _, q4⟩ := h4
    obtain ⟨l0, rfl, _⟩ := rows_of eStr (fun _ => True) (fun r hr => str_row (q0 r hr))
    obtain ⟨l1, rfl, a1⟩ := rows_of eProd (fun p => i64ok p.left ∧ i64ok p.role ∧ ∀ s ∈ p.right, SymOk s) (fun r hr => prod_row (q1 r hr))
    obtain ⟨l3, rfl, a3⟩ := rows_of eForb (fun f => i64ok f.at_) (fun r hr => forb_row (q3 r hr))
    obtain ⟨l4, rfl, a4⟩ := rows_of eFoll (fun f => u64ok f.a ∧ u64ok f.b ∧ u64ok f.c ∧ u64ok f.d) (fun r hr => foll_row (q4 r hr))
    exact ⟨⟨l0, l1, n2, l3, l4⟩, rfl, ⟨fun p hp => (a1 p hp).1, fun p hp => (a1 p hp).2.1, fun p hp => (a1 p hp).2.2, a4, a3⟩⟩
  | [], h => simp [FitL] at h
  | [_], h => simp [FitL] at h
  | [_, _], h => simp [FitL] at h
  | [_, _, _], h => simp [FitL] at h
  | [_, _, _, _], h => simp [FitL] at h
  | _ :: _ :: _ :: _ :: _ :: _ :: _, h => simp [FitL] at h
theorem sh27 : shOfT prog 40 27 = some shG := by kernel_rfl
theorem ag27 : aggT prog 27 = some true := by kernel_rfl
set_option maxRecDepth 100000 in
theorem arg27 {a : AV} (h : ∃ ks xs, shOfT prog 40 27 = some ks ∧ FitL ks xs ∧ a = argA prog 27 xs) : ∃ g : GramD, a = .agg ((eGram g).map .p) ∧ ArgOk g := by
  obtain ⟨ks, xs, hk, hf, e⟩ := h
  have h2 := Option.some.inj (sh27.symm.trans hk)
  rw [← h2] at hf
  obtain ⟨g, e2, hg⟩ := gram_of hf
  refine ⟨g, ?_, hg⟩
  rw [e, e2]
  simp only [argA, ag27]
theorem sh3 : shOfT prog 40 3 = some [.int .i64] := by kernel_rfl
theorem ag3 : aggT prog 3 = some false := by kernel_rfl
set_option maxRecDepth 100000 in
theorem arg3 {a : AV} (h : ∃ ks xs, shOfT prog 40 3 = some ks ∧ FitL ks xs ∧ a = argA prog 3 xs) : ∃ n : Int, a = vi .i64 n ∧ i64ok n := by
  obtain ⟨ks, xs, hk, hf, e⟩ := h
  have h2 := Option.some.inj (sh3.symm.trans hk)
  rw [← h2] at hf
  match xs, hf with
  | [x], hf =>
    simp only [FitL, Fit] at hf
    obtain ⟨⟨n, rfl, hn⟩, _⟩ := hf
    refine ⟨n, ?_, i64_ok hn⟩
    rw [e]
    simp only [argA, ag3]
  | [], hf => simp [FitL] at hf
  | _ :: _ :: _, hf => simp [FitL] at hf
theorem sh9 : shOfT prog 40 9 = some [.str] := by kernel_rfl
theorem ag9 : aggT prog 9 = some false := by kernel_rfl
set_option maxRecDepth 100000 in
theorem arg9 {a : AV} (h : ∃ ks xs, shOfT prog 40 9 = some ks ∧ FitL ks xs ∧ a = argA prog 9 xs) : ∃ s : ByteArray, a = vs s := by
  obtain ⟨ks, xs, hk, hf, e⟩ := h
  have h2 := Option.some.inj (sh9.symm.trans hk)
  rw [← h2] at hf
  match xs, hf with
  | [x], hf =>
    simp only [FitL, Fit] at hf
    obtain ⟨⟨s, rfl, _⟩, _⟩ := hf
    refine ⟨s, ?_⟩
    rw [e]
    simp only [argA, ag9]
  | [], hf => simp [FitL] at hf
  | _ :: _ :: _, hf => simp [FitL] at hf
theorem checks (g : GramD) (nm : ByteArray) (n : Int) (h : ArgOk g) : CP prg 3 [.agg ((eGram g).map .p), vs nm, vi .i64 n] [] = some (vb true) :=
  (F3_ok 41 g nm n (law3 h nm n (by omega))).cp rfl []
end Go.Proofs.Try
