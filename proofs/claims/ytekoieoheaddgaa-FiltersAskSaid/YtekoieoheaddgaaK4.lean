/- Whether a grammar may be: the program and the document's answer say the same. -/
import Derived.Test.YtekoieoheaddgaaH4
import Derived.Test.YtekoieoheaddgaaVE
open Option renaming bind_some → bsm
open List renaming getElem?_eq_some_iff → gei, getElem?_eq_getElem → geg, mem_of_getElem? → mog
namespace Go.Proofs.Try
set_option linter.unusedSimpArgs false
set_option linter.unusedVariables false
open Go Go.Vs
def u64ok (a : Int) : Prop := 0 ≤ a ∧ a ≤ 18446744073709551615
def i64ok (a : Int) : Prop := -9223372036854775808 ≤ a ∧ a ≤ 9223372036854775807
structure SymOk (s : SymD) : Prop where
 kind : i64ok s.kind
 a : u64ok s.a
 b : u64ok s.b
 c : u64ok s.c
 d : u64ok s.d
 sort : i64ok s.sort
structure ProdOk (p : ProdD) : Prop where
 left : i64ok p.left
 right : ∀ s ∈ p.right, SymOk s
 len : p.right.length ≤ 200
 role : i64ok p.role
structure GramOk (g : GramD) : Prop where
 sorts : g.sorts.length ≤ 40
 prods : g.prods.length ≤ 80
 forbid : g.forbid.length ≤ 200
 follow : g.follow.length ≤ 200
 prod : ∀ p ∈ g.prods, ProdOk p
 foll : ∀ f ∈ g.follow, u64ok f.a ∧ u64ok f.b ∧ u64ok f.c ∧ u64ok f.d
 forb : ∀ f ∈ g.forbid, i64ok f.at_
def inR (n : Nat) (x : Int) : Bool := decide (0 ≤ x) && decide (x < (n : Int))
def sortOk (g : GramD) (x : Int) : Bool := inR g.sorts.length x
def emptyW (a b c d : Int) : Bool := (a == 0) && ((b == 0) && ((c == 0) && ((d == 0) && true)))
def pk {α : Type} (l : List α) (f : α → Bool) (k : Nat) : Bool := match l[k]? with | some t => f t | none => true
def pv {α : Type} (l : List α) (f : α → Bool) (i : Nat) : Bool := (List.range i).all (pk l f)
def okName (g : GramD) (i : Nat) (s : ByteArray) : Bool := !decide (s = .empty) && !decide ((s.size : Int) > 1000) && pv g.sorts (fun t => !decide (t = s)) i
def okSym (g : GramD) (p : ProdD) (s : SymD) : Bool :=
 bif s.kind == 0 then !emptyW s.a s.b s.c s.d && (s.sort == 0) else bif s.kind == 1 then emptyW s.a s.b s.c s.d && sortOk g s.sort && !(p.role == 11) else false
def okProd (g : GramD) (p : ProdD) : Bool :=
 sortOk g p.left && !decide ((p.right.length : Int) > 30) && !decide (p.role < 0) && !decide (p.role > 11) && !decide (p.frm < -1) && !decide ((p.cons.size : Int) > 64) && (decide (p.cons = .empty) || (p.role == 0)) && !(p.prefer && p.avoid) && allF (fun _ s => okSym g p s) 0 p.right
theorem eqE (s : ByteArray) : (s.toList == (⟨([] : List UInt8).toArray⟩ : ByteArray).toList) = decide (s = .empty) := bytes_list
theorem bsome (c d : Bool) : (bif c then some d else some false) = some (c && d) := by cases c <;> rfl
theorem q41 (g : GramD) : F22 g = some (sortOk g g.start) := bsome _ _
theorem q41_2 (g : GramD) (p : ProdD) : F22_2 g p = some (sortOk g p.left) := bsome _ _
theorem q41_3 (g : GramD) (p : SymD) : F22_3 g p = some (sortOk g p.sort) := bsome _ _
theorem q41_4 (g : GramD) (p : FollD) : F22_4 g p = some (sortOk g p.sort) := bsome _ _
theorem q73 (p : ProdD) (g : GramD) : F73 p g = some (sortOk g p.left) := bsome _ _
theorem q73_2 (s : SymD) (g : GramD) : F73_2 s g = some (sortOk g s.sort) := bsome _ _
theorem or4 {a b c d : Int} (ha : u64ok a) (hb : u64ok b) (hc : u64ok c) (hd : u64ok d) :
  ((IntKind.wrap .u64 ((BitVec.ofInt (IntKind.bits .u64) (IntKind.wrap .u64 ((BitVec.ofInt (IntKind.bits .u64) (IntKind.wrap .u64 ((BitVec.ofInt (IntKind.bits .u64) a ||| BitVec.ofInt (IntKind.bits .u64) b).toNat : Int)) ||| BitVec.ofInt (IntKind.bits .u64) c).toNat : Int)) ||| BitVec.ofInt (IntKind.bits .u64) d).toNat : Int)) == 0) = emptyW a b c d := by
 have e2 : ∀ x y : BitVec 64, decide ((x ||| y) = 0#64) = (decide (x = 0#64) && decide (y = 0#64)) := by
  intro x y
  by_cases hx : x = 0#64
  ·subst hx; simp
  ·have : ¬ (x ||| y) = 0#64 := by
    intro h
    apply hx
    apply BitVec.eq_of_getLsbD_eq
    intro i hi
    have := congrArg (fun z => z.getLsbD i) h
    simp only [BitVec.getLsbD_or, BitVec.getLsbD_zero, Bool.or_eq_false_iff] at this
    rw [this.1]; simp
   simp [hx, this]
 rw [or_zero, or_u64, or_u64, e2, e2, ofInt_zero ha, ofInt_zero hb, ofInt_zero hc, ofInt_zero hd]
 simp only [emptyW, Bool.and_assoc, Bool.and_true]
theorem q44 {s : SymD} (h : SymOk s) : F25 s = some (emptyW s.a s.b s.c s.d) := by
 unfold F25
 rw [or4 h.a h.b h.c h.d]
theorem q44_2 {f : FollD} (h : u64ok f.a ∧ u64ok f.b ∧ u64ok f.c ∧ u64ok f.d) : F25_2 f = some (emptyW f.a f.b f.c f.d) := by
 unfold F25_2
 rw [or4 h.1 h.2.1 h.2.2.1 h.2.2.2]
theorem range_take {α : Type} (l : List α) (f : α → Bool) : ∀ (i : Nat), i ≤ l.length → pv l f i = (l.take i).all f
 | 0, _ => rfl
 | i + 1, h => by
  have hx : l[i]? = some l[i] := geg (by omega)
  have ih := range_take l f i (by omega)
  unfold pv at ih ⊢
  rw [List.range_succ, List.all_append, ih, List.take_add_one, hx, List.all_append]
  simp [pk, hx]
theorem l12_5 (g : GramD) {i : Nat} {x : ByteArray} (hi : g.sorts[i]? = some x) (hn : g.sorts.length ≤ 40) :
  runL (fun s => L9_5_2 (i : Int) g s) 0 = some (bif pv g.sorts (fun t => !decide (t = x)) i then E_L9_5_2.k1 else E_L9_5_2.k0) := by
 have hl : i < g.sorts.length := (gei.1 hi).1
 refine loop_range (pk g.sorts (fun t => !decide (t = x))) (fun k hk => ?_) ?_
 ·have hy : g.sorts[k]? = some g.sorts[k] := geg (by omega)
  simp only [L9_5_2, getI_nat, hi, hy, bsm, decide_eq_true (show (k : Int) < (i : Int) by omega), cond_true, bytes_list, w_S (show k < 4611686018427387904 by omega), pk]
  by_cases e : g.sorts[k] = x <;> simp [e]
 ·simp [L9_5_2]
theorem beqF {a b : Int} (h : ¬ a = b) : (a == b) = false := by simp [h]
theorem bneT {a b : Int} (h : ¬ a = b) : (a != b) = true := by simp [h]
theorem l42_0 {g : GramD} {p : ProdD} (hp : ProdOk p) : runL (fun s => L23_0 g p s) 0 = some (bif allF (fun _ s => okSym g p s) 0 p.right then E_L23_0.k1 else E_L23_0.k0) := by
 have hlen := hp.len
 refine loop_list (fun _ s => okSym g p s) (fun i x hx => ?_) ?_
 ·have hl : i < p.right.length := (gei.1 hx).1
  have hs := hp.right x (mog hx)
  simp only [L23_0, getI_nat, hx, bsm, decide_eq_true (show (i : Int) < (p.right.length : Int) by omega), cond_true, q44 hs, q41_3, w_S (show i < 4611686018427387904 by omega), okSym]
  by_cases k0 : x.kind = 0
  ·rw [k0]
   cases emptyW x.a x.b x.c x.d <;> by_cases hz : x.sort = 0 <;> first | (simp [hz]; done) | simp [beqF hz, bneT hz]
  ·by_cases k1 : x.kind = 1
   ·rw [k1]
    cases emptyW x.a x.b x.c x.d <;> cases sortOk g x.sort <;> by_cases hr : p.role = 11 <;> first | (simp [hr]; done) | simp [beqF hr]
   ·simp [beqF k0, beqF k1, bneT k0, bneT k1]
 ·simp [L23_0]
theorem q42 {g : GramD} {p : ProdD} (hp : ProdOk p) : F23 g p = some (okProd g p) := by
 unfold F23 okProd
 rw [q41_2, l42_0 hp, eqE]
 simp only [bsm]
 cases sortOk g p.left <;> simp only [cond_true, cond_false, Bool.false_and, Bool.true_and]
 cases decide ((p.right.length : Int) > 30) <;> simp only [cond_true, cond_false, Bool.false_and, Bool.true_and, Bool.not_true, Bool.not_false]
 cases decide (p.role < 0) <;> simp only [cond_true, cond_false, Bool.false_and, Bool.true_and, Bool.not_true, Bool.not_false]
 cases decide (p.role > 11) <;> simp only [cond_true, cond_false, Bool.false_and, Bool.true_and, Bool.not_true, Bool.not_false]
 cases decide (p.frm < -1) <;> simp only [cond_true, cond_false, Bool.false_and, Bool.true_and, Bool.not_true, Bool.not_false]
 cases decide ((p.cons.size : Int) > 64) <;> simp only [cond_true, cond_false, Bool.false_and, Bool.true_and, Bool.not_true, Bool.not_false]
 cases decide (p.cons = ByteArray.empty) <;> by_cases hr : p.role = 0 <;> cases p.prefer <;> cases p.avoid <;> cases allF (fun _ s => okSym g p s) 0 p.right <;> first | (simp [hr]; done) | simp [beqF hr, bneT hr]
theorem l12_4 {g : GramD} (hg : GramOk g) : runL (fun s => L9_4 g s) 0 = some (bif allF (fun _ p => okProd g p) 0 g.prods then E_L9_4.k1 else E_L9_4.k0) := by
 have hlen := hg.prods
 refine loop_list (fun _ p => okProd g p) (fun i x hx => ?_) ?_
 ·have hl : i < g.prods.length := (gei.1 hx).1
  simp only [L9_4, getI_nat, hx, bsm, decide_eq_true (show (i : Int) < (g.prods.length : Int) by omega), cond_true, q42 (hg.prod x (mog hx)), w_S (show i < 4611686018427387904 by omega)]
  cases okProd g x <;> rfl
 ·simp [L9_4]
def okForb (g : GramD) (f : ForbD) : Bool :=
 match getI g.prods f.parent, getI g.prods f.child with
 | some p, some c => !(p.role == 11) && !(c.role == 11) && !decide (f.at_ < 1) && !decide (f.at_ > (p.right.length : Int)) && (match getI p.right (f.at_ - 1) with | some s => (s.kind == 1) && (s.sort == c.left) | none => false)
 | _, _ => false
theorem getI_none {α : Type} {l : List α} {i : Int} (h : i < 0 ∨ (l.length : Int) ≤ i) : getI l i = none := by
 unfold getI
 split
 ·rw [List.getElem?_eq_none (by omega)]
 ·rfl
theorem getI_in {α : Type} {l : List α} {i : Int} (h0 : ¬ i < 0) (h1 : ¬ (l.length : Int) ≤ i) : ∃ x, getI l i = some x := by
 unfold getI
 rw [if_pos (by omega)]
 exact ⟨_, geg (by omega)⟩
theorem q43 {g : GramD} (hg : GramOk g) {f : ForbD} (hf : i64ok f.at_) : F24 g f = some (okForb g f) := by
 unfold F24 okForb
 by_cases h1 : f.parent < 0
 ·simp [h1, getI_none (l := g.prods) (.inl h1)]
 by_cases h2 : (g.prods.length : Int) ≤ f.parent
 ·simp [h2, h1, getI_none (l := g.prods) (.inr h2)]
 obtain ⟨p, hp⟩ := getI_in h1 h2
 by_cases h3 : f.child < 0
 ·simp [h1, h2, h3, hp, getI_none (l := g.prods) (.inl h3)]
 by_cases h4 : (g.prods.length : Int) ≤ f.child
 ·simp [h1, h2, h3, h4, hp, getI_none (l := g.prods) (.inr h4)]
 obtain ⟨c, hc⟩ := getI_in h3 h4
 simp only [hp, hc, decide_eq_false h1, decide_eq_false h3, decide_eq_false (show ¬ f.parent ≥ (g.prods.length : Int) from h2), decide_eq_false (show ¬ f.child ≥ (g.prods.length : Int) from h4), cond_false, bsm]
 by_cases h5 : p.role = 11
 ·simp [h5]
 by_cases h6 : c.role = 11
 ·simp [beqF h5, h6]
 by_cases h7 : f.at_ < 1
 ·simp [beqF h5, beqF h6, h7]
 by_cases h8 : f.at_ > (p.right.length : Int)
 ·simp [beqF h5, beqF h6, h7, h8]
 have hb1 : (p.role == 11) = false := by simp [h5]
 have hb2 : (c.role == 11) = false := by simp [h6]
 simp only [hb1, hb2, decide_eq_false h7, decide_eq_false h8, cond_false, Bool.not_false, Bool.true_and]
 unfold i64ok at hf
 rw [w_id (by omega)]
 obtain ⟨s, hs⟩ := getI_in (l := p.right) (i := f.at_ - 1) (by omega) (by omega)
 rw [hs]
 simp only [bsm]
 exact bsome _ _
theorem l12_6 (g : GramD) (hn : g.sorts.length ≤ 40) : runL (fun s => L9_6 g s) 0 = some (bif allF (okName g) 0 g.sorts then E_L9_6.k1 else E_L9_6.k0) := by
 refine loop_list (okName g) (fun i x hx => ?_) ?_
 ·have hl : i < g.sorts.length := (gei.1 hx).1
  simp only [L9_6, getI_nat, hx, bsm, decide_eq_true (show (i : Int) < (g.sorts.length : Int) by omega), cond_true, eqE, l12_5 g hx hn, w_S (show i < 4611686018427387904 by omega), okName]
  cases decide (x = ByteArray.empty) <;> cases decide ((x.size : Int) > 1000) <;> simp
  cases pv g.sorts (fun t => !decide (t = x)) i <;> simp
 ·simp [L9_6]
def eqFo (x y : ForbD) : Bool := (x.parent == y.parent) && ((x.at_ == y.at_) && ((x.child == y.child) && true))
def okForbI (g : GramD) (i : Nat) (f : ForbD) : Bool := okForb g f && pv g.forbid (fun t => !eqFo t f) i
def okFollI (g : GramD) (i : Nat) (f : FollD) : Bool := sortOk g f.sort && !emptyW f.a f.b f.c f.d && pv g.follow (fun t => !(t.sort == f.sort)) i
theorem l12_2 (g : GramD) {i : Nat} {x : ForbD} (hi : g.forbid[i]? = some x) (hn : g.forbid.length ≤ 200) :
  runL (fun s => L9_2_2 (i : Int) g s) 0 = some (bif pv g.forbid (fun t => !eqFo t x) i then E_L9_2_2.k1 else E_L9_2_2.k0) := by
 have hl : i < g.forbid.length := (gei.1 hi).1
 refine loop_range (pk g.forbid (fun t => !eqFo t x)) (fun k hk => ?_) ?_
 ·have hy : g.forbid[k]? = some g.forbid[k] := geg (by omega)
  simp only [L9_2_2, getI_nat, hi, hy, bsm, decide_eq_true (show (k : Int) < (i : Int) by omega), cond_true, w_S (show k < 4611686018427387904 by omega), eqFo, pk]
  cases (g.forbid[k].parent == x.parent && (g.forbid[k].at_ == x.at_ && (g.forbid[k].child == x.child && true))) <;> rfl
 ·simp [L9_2_2]
theorem l12_3 {g : GramD} (hg : GramOk g) : runL (fun s => L9_3 g s) 0 = some (bif allF (okForbI g) 0 g.forbid then E_L9_3.k1 else E_L9_3.k0) := by
 have hn := hg.forbid
 refine loop_list (okForbI g) (fun i x hx => ?_) ?_
 ·have hl : i < g.forbid.length := (gei.1 hx).1
  simp only [L9_3, getI_nat, hx, bsm, decide_eq_true (show (i : Int) < (g.forbid.length : Int) by omega), cond_true, q43 hg (hg.forb x (mog hx)), l12_2 g hx hn, w_S (show i < 4611686018427387904 by omega), okForbI]
  cases okForb g x
  ·rfl
  ·simp only [cond_true, Bool.true_and]
   cases pv g.forbid (fun t => !eqFo t x) i <;> rfl
 ·simp [L9_3]
theorem l12_0 (g : GramD) {i : Nat} {x : FollD} (hi : g.follow[i]? = some x) (hn : g.follow.length ≤ 200) :
  runL (fun s => L9_0_2 (i : Int) g s) 0 = some (bif pv g.follow (fun t => !(t.sort == x.sort)) i then E_L9_0_2.k1 else E_L9_0_2.k0) := by
 have hl : i < g.follow.length := (gei.1 hi).1
 refine loop_range (pk g.follow (fun t => !(t.sort == x.sort))) (fun k hk => ?_) ?_
 ·have hy : g.follow[k]? = some g.follow[k] := geg (by omega)
  simp only [L9_0_2, getI_nat, hi, hy, bsm, decide_eq_true (show (k : Int) < (i : Int) by omega), cond_true, w_S (show k < 4611686018427387904 by omega), pk]
  cases (g.follow[k].sort == x.sort) <;> rfl
 ·simp [L9_0_2]
theorem l12_1 {g : GramD} (hg : GramOk g) : runL (fun s => L9_1 g s) 0 = some (bif allF (okFollI g) 0 g.follow then E_L9_1.k1 else E_L9_1.k0) := by
 have hn := hg.follow
 refine loop_list (okFollI g) (fun i x hx => ?_) ?_
 ·have hl : i < g.follow.length := (gei.1 hx).1
  simp only [L9_1, getI_nat, hx, bsm, decide_eq_true (show (i : Int) < (g.follow.length : Int) by omega), cond_true, q41_4, q44_2 (hg.foll x (mog hx)), l12_0 g hx hn, w_S (show i < 4611686018427387904 by omega), okFollI]
  cases sortOk g x.sort
  ·rfl
  ·cases emptyW x.a x.b x.c x.d
   ·simp only [cond_true, cond_false, Bool.true_and, Bool.not_false]
    cases pv g.follow (fun t => !(t.sort == x.sort)) i <;> rfl
   ·rfl
 ·simp [L9_1]
def okSorts (g : GramD) : Bool := !decide ((g.sorts.length : Int) < 1) && sortOk g g.start && allF (okName g) 0 g.sorts
def okProds (g : GramD) : Bool := allF (fun _ p => okProd g p) 0 g.prods
def okForbs (g : GramD) : Bool := allF (okForbI g) 0 g.forbid
def okFolls (g : GramD) : Bool := allF (okFollI g) 0 g.follow
def chkB (g : GramD) : Bool := okSorts g && okProds g && okForbs g && okFolls g
def chkN (g : GramD) : Int := bif chkB g then 0 else 160
theorem q12 {g : GramD} (hg : GramOk g) : F9 g = some (chkN g) := by
 have h1 := hg.sorts
 have h2 := hg.prods
 unfold F9 chkN chkB okSorts okProds okForbs okFolls
 rw [q41, l12_6 g h1, l12_4 hg, l12_3 hg, l12_1 hg, decide_eq_false (show ¬ (g.sorts.length : Int) > 1000 by omega), decide_eq_false (show ¬ (g.prods.length : Int) > 1000 by omega)]
 simp only [bsm, cond_false]
 cases decide ((g.sorts.length : Int) < 1) <;> cases sortOk g g.start <;> cases allF (okName g) 0 g.sorts <;> cases allF (fun _ p => okProd g p) 0 g.prods <;> cases allF (okForbI g) 0 g.forbid <;> cases allF (okFollI g) 0 g.follow <;> rfl
theorem seen_inv {α K : Type} [DecidableEq K] {l : List α} {key : α → K} {m : List (K × Int)} {i : Nat} {x : α} (hx : l[i]? = some x) (hm : ∀ s, mget 0 m s = if (l.take i).any (fun t => decide (key t = s)) then 1 else 0) :
  mget 0 (mput (key x) (IntKind.wrap .i64 (mget 0 m (key x) + 1)) m) (key x) = (if (l.take i).any (fun t => decide (key t = key x)) then 2 else 1) ∧ ((l.take i).any (fun t => decide (key t = key x)) = false → ∀ s, mget 0 (mput (key x) (IntKind.wrap .i64 (mget 0 m (key x) + 1)) m) s = if (l.take (i + 1)).any (fun t => decide (key t = s)) then 1 else 0) := by
 constructor
 ·rw [mget_mput, if_pos rfl, hm (key x)]
  split <;> rfl
 ·intro hn s
  rw [mget_mput, hm (key x), hn, List.take_add_one, hx, List.any_append]
  by_cases e : s = key x
  ·subst e; simp; rfl
  ·rw [if_neg e, hm s]
   have : ¬ key x = s := fun h => e h.symm
   simp [this]
theorem dup_take {α : Type} {l : List α} {i : Nat} (f : α → Bool) (hi : i ≤ l.length) : pv l (fun t => !f t) i = !((l.take i).any f) := by
 rw [range_take l (fun t => !f t) i hi]
 induction l.take i with
 | nil => rfl
 | cons x xs ih => simp only [List.all_cons, List.any_cons, ih]; cases f x <;> simp
theorem q57 {g : GramD} (hg : GramOk g) : F63 g = some (okSorts g) := by
 have hn := hg.sorts
 have key := loop_chk (step := fun s => L63_0 g (g.sorts.length : Int) s.1 s.2) (l := g.sorts) (emb := fun i m => ((i : Int), m)) (okName g) (fun i m x => mput x (IntKind.wrap .i64 (mget 0 m x + 1)) m) E_L63_0.k0 E_L63_0.k1
  (fun i m => ∀ s, mget 0 m s = if (g.sorts.take i).any (fun t => decide (t = s)) then 1 else 0) (fun i x m hx hm => ?_) (fun m _ => ?_) g.sorts.length 0 [] (by omega) (by intro s; simp [mget, mfind])
 ·rw [List.drop_zero] at key
  unfold F63 okSorts
  have e : ((0 : Nat) : Int) = 0 := rfl
  simp only [e] at key
  cases hall : allF (okName g) 0 g.sorts with
  | true =>
   obtain ⟨b, hb, _⟩ := key.1 hall
   rw [hb]
   simp only [bsm, decide_eq_true (show (g.sorts.length : Int) ≤ 1000 by omega), cond_true, sortOk, inR]
   by_cases h1 : (g.sorts.length : Int) < 1
   ·simp [h1, show ¬ (g.sorts.length : Int) ≥ 1 by omega]
   ·rw [decide_eq_true (show (g.sorts.length : Int) ≥ 1 by omega), decide_eq_false h1]
    simp only [cond_true, Bool.not_false, Bool.true_and, Bool.and_true]
    exact bsome _ _
  | false =>
   rw [key.2 hall]
   simp
 ·have hl : i < g.sorts.length := (gei.1 hx).1
  obtain ⟨h1, h2⟩ := seen_inv (key := fun t => t) hx hm
  have hd := dup_take (l := g.sorts) (i := i) (fun t => decide (t = x)) (by omega)
  simp only [L63_0, getI_nat, hx, bsm, decide_eq_true (show (i : Int) < (g.sorts.length : Int) by omega), cond_true, eqE, h1, w_S (show i < 4611686018427387904 by omega), okName, hd]
  cases decide (x = ByteArray.empty) <;> cases decide ((x.size : Int) > 1000) <;> cases hxm : (g.sorts.take i).any (fun t => decide (t = x)) <;> simp
  exact h2 hxm
 ·simp [L63_0]
theorem l58_0 {g : GramD} {p : ProdD} (hp : ProdOk p) : runL (fun s => L64_0_2 g p (p.right.length : Int) s) 0 = some (bif allF (fun _ s => okSym g p s) 0 p.right then E_L64_0_2.k1 else E_L64_0_2.k0) := by
 have hlen := hp.len
 refine loop_list (fun _ s => okSym g p s) (fun i x hx => ?_) ?_
 ·have hl : i < p.right.length := (gei.1 hx).1
  have he : ((x.a == 0) && ((x.b == 0) && ((x.c == 0) && ((x.d == 0) && true)))) = emptyW x.a x.b x.c x.d := rfl
  simp only [L64_0_2, getI_nat, hx, bsm, decide_eq_true (show (i : Int) < (p.right.length : Int) by omega), cond_true, q73_2, w_S (show i < 4611686018427387904 by omega), okSym, he]
  by_cases k0 : x.kind = 0
  ·rw [k0]
   cases emptyW x.a x.b x.c x.d <;> by_cases hz : x.sort = 0 <;> first | (simp [hz]; done) | simp [beqF hz, bneT hz]
  ·by_cases k1 : x.kind = 1
   ·rw [k1]
    cases emptyW x.a x.b x.c x.d <;> cases sortOk g x.sort <;> by_cases hr : p.role = 11 <;> first | (simp [hr]; done) | simp [beqF hr]
   ·simp [beqF k0, beqF k1, bneT k0, bneT k1]
 ·simp [L64_0_2]
theorem q58 {g : GramD} (hg : GramOk g) : F64 g = some (okProds g) := by
 have hlen := hg.prods
 have key : runL (fun s => L64_1 g (g.prods.length : Int) s) 0 = some (bif allF (fun _ p => okProd g p) 0 g.prods then E_L64_1.k1 else E_L64_1.k0) := by
  refine loop_list (fun _ p => okProd g p) (fun i p hx => ?_) ?_
  ·have hl : i < g.prods.length := (gei.1 hx).1
   have hp := hg.prod p (mog hx)
   simp only [L64_1, getI_nat, hx, bsm, decide_eq_true (show (i : Int) < (g.prods.length : Int) by omega), cond_true, q73, l58_0 hp, eqE, w_S (show i < 4611686018427387904 by omega), okProd]
   cases sortOk g p.left <;> simp only [cond_true, cond_false, Bool.false_and, Bool.true_and]
   cases decide ((p.right.length : Int) > 30) <;> simp only [cond_true, cond_false, Bool.false_and, Bool.true_and, Bool.not_true, Bool.not_false]
   cases decide (p.role < 0) <;> simp only [cond_true, cond_false, Bool.false_and, Bool.true_and, Bool.not_true, Bool.not_false]
   cases decide (p.role > 11) <;> simp only [cond_true, cond_false, Bool.false_and, Bool.true_and, Bool.not_true, Bool.not_false]
   cases decide (p.frm < -1) <;> simp only [cond_true, cond_false, Bool.false_and, Bool.true_and, Bool.not_true, Bool.not_false]
   cases decide ((p.cons.size : Int) > 64) <;> simp only [cond_true, cond_false, Bool.false_and, Bool.true_and, Bool.not_true, Bool.not_false]
   cases decide (p.cons = ByteArray.empty) <;> by_cases hr : p.role = 0 <;> cases p.prefer <;> cases p.avoid <;> cases allF (fun _ s => okSym g p s) 0 p.right <;> first | (simp [hr]; done) | simp [beqF hr, bneT hr]
  ·simp [L64_1]
 unfold F64 okProds
 rw [key]
 cases allF (fun _ p => okProd g p) 0 g.prods
 ·rfl
 ·simp only [cond_true, bsm, decide_eq_true (show (g.prods.length : Int) ≤ 1000 by omega)]
theorem eqFo_key (t f : ForbD) : eqFo t f = decide ((t.parent, t.at_, t.child) = (f.parent, f.at_, f.child)) := by
 unfold eqFo
 by_cases h1 : t.parent = f.parent
 ·by_cases h2 : t.at_ = f.at_
  ·by_cases h3 : t.child = f.child
   ·simp [h1, h2, h3]
   ·simp [h1, h2, h3, beqF h3]
  ·simp [h1, h2, beqF h2]
 ·simp [h1, beqF h1]
theorem q59 {g : GramD} (hg : GramOk g) : F65 g = some (okForbs g) := by
 have hn := hg.forbid
 have key := loop_chk (step := fun s => L65_0 g (g.forbid.length : Int) s.1 s.2) (l := g.forbid) (emb := fun i m => ((i : Int), m)) (okForbI g)
  (fun i m x => mput (x.parent, x.at_, x.child) (IntKind.wrap .i64 (mget 0 m (x.parent, x.at_, x.child) + 1)) m) E_L65_0.k0 E_L65_0.k1
  (fun i m => ∀ s, mget 0 m s = if (g.forbid.take i).any (fun t => decide ((t.parent, t.at_, t.child) = s)) then 1 else 0) (fun i f m hx hm => ?_) (fun m _ => ?_) g.forbid.length 0 [] (by omega) (by intro s; simp [mget, mfind])
 ·rw [List.drop_zero] at key
  have e : ((0 : Nat) : Int) = 0 := rfl
  simp only [e] at key
  unfold F65 okForbs
  cases hall : allF (okForbI g) 0 g.forbid with
  | true => obtain ⟨b, hb, _⟩ := key.1 hall; rw [hb]; rfl
  | false => rw [key.2 hall]; rfl
 ·have hl : i < g.forbid.length := (gei.1 hx).1
  have hat := hg.forb f (mog hx)
  unfold i64ok at hat
  obtain ⟨h1, h2⟩ := seen_inv (key := fun t : ForbD => (t.parent, t.at_, t.child)) hx hm
  have hd := dup_take (l := g.forbid) (i := i) (fun t => eqFo t f) (by omega)
  simp only [eqFo_key] at hd
  skip
  have hok : okForbI g i f = (okForb g f && !(g.forbid.take i).any (fun t => decide ((t.parent, t.at_, t.child) = (f.parent, f.at_, f.child)))) := by
   unfold okForbI
   simp only [eqFo_key]
   rw [hd]
  rw [hok]
  simp only [L65_0, getI_nat, hx, bsm, decide_eq_true (show (i : Int) < (g.forbid.length : Int) by omega), cond_true, h1, w_S (show i < 4611686018427387904 by omega)]
  cases hxm : (g.forbid.take i).any (fun t => decide ((t.parent, t.at_, t.child) = (f.parent, f.at_, f.child))) with
  | true => simp
  | false =>
   have h2 := h2 hxm
   simp only [Bool.not_false, Bool.and_true, Bool.false_eq_true, if_false, show decide ((1 : Int) > 1) = false from rfl, cond_false]
   have e73 : F74 f g = match getI g.prods f.parent with | some p => some (p.role != 11) | none => some false := by
    unfold F74
    by_cases a1 : f.parent < 0
    ·simp [getI_none (l := g.prods) (.inl a1), show ¬ f.parent ≥ 0 by omega]
    ·by_cases a2 : (g.prods.length : Int) ≤ f.parent
     ·simp [getI_none (l := g.prods) (.inr a2), show ¬ f.parent < (g.prods.length : Int) by omega]
     ·obtain ⟨p, hp⟩ := getI_in a1 a2
      simp [hp, show f.parent ≥ 0 by omega, show f.parent < (g.prods.length : Int) by omega]
   have e74 : F74_2 f g = match getI g.prods f.child with | some p => some (p.role != 11) | none => some false := by
    unfold F74_2
    by_cases a1 : f.child < 0
    ·simp [getI_none (l := g.prods) (.inl a1), show ¬ f.child ≥ 0 by omega]
    ·by_cases a2 : (g.prods.length : Int) ≤ f.child
     ·simp [getI_none (l := g.prods) (.inr a2), show ¬ f.child < (g.prods.length : Int) by omega]
     ·obtain ⟨p, hp⟩ := getI_in a1 a2
      simp [hp, show f.child ≥ 0 by omega, show f.child < (g.prods.length : Int) by omega]
   rw [e73, e74]
   unfold okForb
   cases hp : getI g.prods f.parent with
   | none => simp
   | some p =>
    cases hc : getI g.prods f.child with
    | none => by_cases r1 : p.role = 11 <;> first | (simp [r1]; done) | simp [bneT r1, beqF r1]
    | some c =>
     simp only [bsm]
     by_cases r1 : p.role = 11
     ·simp [r1]
     by_cases r2 : c.role = 11
     ·simp [bneT r1, beqF r1, r2]
     by_cases r3 : f.at_ < 1
     ·simp [bneT r1, beqF r1, bneT r2, beqF r2, r3]
     by_cases r4 : f.at_ > (p.right.length : Int)
     ·simp [bneT r1, beqF r1, bneT r2, beqF r2, r3, r4]
     rw [w_id (by omega)]
     obtain ⟨s, hs⟩ := getI_in (l := p.right) (i := f.at_ - 1) (by omega) (by omega)
     simp only [hs, bsm, bneT r1, beqF r1, bneT r2, beqF r2, decide_eq_false r3, decide_eq_false r4, cond_true, cond_false, Bool.not_false, Bool.true_and]
     by_cases r5 : s.kind = 1
     ·by_cases r6 : s.sort = c.left
      ·simpa [r5, r6] using h2
      ·simp [r5, bneT r6, beqF r6]
     ·simp [bneT r5, beqF r5]
 ·simp [L65_0]
theorem q60 {g : GramD} (hg : GramOk g) : F66 g = some (okFolls g) := by
 have hn := hg.follow
 have key := loop_chk (step := fun s => L66_0 g (g.follow.length : Int) s.1 s.2) (l := g.follow) (emb := fun i m => ((i : Int), m)) (okFollI g)
  (fun i m x => mput x.sort (IntKind.wrap .i64 (mget 0 m x.sort + 1)) m) E_L66_0.k0 E_L66_0.k1
  (fun i m => ∀ s, mget 0 m s = if (g.follow.take i).any (fun t => decide (t.sort = s)) then 1 else 0) (fun i f m hx hm => ?_) (fun m _ => ?_) g.follow.length 0 [] (by omega) (by intro s; simp [mget, mfind])
 ·rw [List.drop_zero] at key
  have e : ((0 : Nat) : Int) = 0 := rfl
  simp only [e] at key
  unfold F66 okFolls
  cases hall : allF (okFollI g) 0 g.follow with
  | true => obtain ⟨b, hb, _⟩ := key.1 hall; rw [hb]; rfl
  | false => rw [key.2 hall]; rfl
 ·have hl : i < g.follow.length := (gei.1 hx).1
  obtain ⟨h1, h2⟩ := seen_inv (key := fun t : FollD => t.sort) hx hm
  have hd := dup_take (l := g.follow) (i := i) (fun t => t.sort == f.sort) (by omega)
  have hbeq : (g.follow.take i).any (fun t => t.sort == f.sort) = (g.follow.take i).any (fun t => decide (t.sort = f.sort)) := by
   congr 1
  rw [hbeq] at hd
  skip
  have he : ((f.a == 0) && ((f.b == 0) && ((f.c == 0) && ((f.d == 0) && true)))) = emptyW f.a f.b f.c f.d := rfl
  simp only [L66_0, getI_nat, hx, bsm, decide_eq_true (show (i : Int) < (g.follow.length : Int) by omega), cond_true, h1, w_S (show i < 4611686018427387904 by omega), okFollI, hd, he, sortOk, inR]
  cases hxm : (g.follow.take i).any (fun t => decide (t.sort = f.sort)) with
  | true => simp
  | false =>
   have h2 := h2 hxm
   by_cases a1 : f.sort < 0
   ·simp [a1, show ¬ 0 ≤ f.sort by omega]
   by_cases a2 : (g.sorts.length : Int) ≤ f.sort
   ·simp [a1, a2, show ¬ f.sort < (g.sorts.length : Int) by omega]
   cases emptyW f.a f.b f.c f.d
   ·simpa [a1, a2, show 0 ≤ f.sort by omega, show f.sort < (g.sorts.length : Int) by omega] using h2
   ·simp [a1, a2]
 ·simp [L66_0]
theorem q29 {g : GramD} (hg : GramOk g) : F49 g = some (chkN g) := by
 have key : runL (fun s => L49_0 g s) 0 = some (bif (List.range 4).all (fun i => match i with | 0 => okSorts g | 1 => okProds g | 2 => okForbs g | _ => okFolls g) then E_L49_0.k1 else E_L49_0.k0) := by
  refine loop_range (n := 4) _ (fun i hi => ?_) ?_
  ·match i, hi with
   | 0, _ => simp only [L49_0, q57 hg, bsm]; cases okSorts g <;> rfl
   | 1, _ => simp only [L49_0, q58 hg, bsm]; cases okProds g <;> rfl
   | 2, _ => simp only [L49_0, q59 hg, bsm]; cases okForbs g <;> rfl
   | 3, _ => simp only [L49_0, q60 hg, bsm]; cases okFolls g <;> rfl
   | n + 4, h => omega
  ·rfl
 unfold F49 chkN chkB
 rw [key]
 show (some (bif (okSorts g && (okProds g && (okForbs g && (okFolls g && true)))) then E_L49_0.k1 else E_L49_0.k0)).bind _ = _
 cases okSorts g <;> cases okProds g <;> cases okForbs g <;> cases okFolls g <;> rfl
theorem byte_facts : ∀ m : Nat, m < 256 → Int.fdiv (m : Int) (2 ^ (min (Int.toNat 6) (IntKind.bits .u8))) = ((m / 64 : Nat) : Int) ∧
  (IntKind.wrap .u8 ((BitVec.ofInt (IntKind.bits .u8) (m : Int) &&& BitVec.ofInt (IntKind.bits .u8) 63).toNat : Int)) = ((m % 64 : Nat) : Int) ∧ IntKind.wrap .u8 (Int.tdiv (m : Int) 64) = ((m / 64 : Nat) : Int) ∧ Int.tmod (m : Int) 64 = ((m % 64 : Nat) : Int) := by decide +kernel
theorem bit1 {x : Int} (h : 0 ≤ x ∧ x ≤ 18446744073709551615) : (IntKind.wrap .u64 ((BitVec.ofInt (IntKind.bits .u64) x &&& BitVec.ofInt (IntKind.bits .u64) 1).toNat : Int)) = Int.tmod x 2 := by
 obtain ⟨n, rfl⟩ : ∃ n : Nat, x = (n : Int) := ⟨x.toNat, by omega⟩
 rw [show IntKind.bits .u64 = 64 from rfl, IntKind.wrap_u64, Int.tmod_eq_emod_of_nonneg (by omega)]
 have e1 : (BitVec.ofInt 64 (n : Int)).toNat = n := by rw [BitVec.toNat_ofInt]; omega
 have e2 : (BitVec.ofInt 64 (1 : Int)).toNat = 1 := by decide
 rw [BitVec.toNat_and, e1, e2, Nat.and_one_is_mod]
 omega
theorem shr_b {w : Int} (k : Nat) (h : 0 ≤ w ∧ w ≤ 18446744073709551615) : 0 ≤ Int.fdiv w (2 ^ k) ∧ Int.fdiv w (2 ^ k) ≤ 18446744073709551615 := by
 have hp : (0 : Int) < 2 ^ k := Int.pow_pos (by omega)
 rw [Int.fdiv_eq_ediv_of_nonneg _ (by omega)]
 refine ⟨Int.ediv_nonneg h.1 (by omega), ?_⟩
 have := Int.ediv_le_self (2 ^ k) h.1
 omega
def symI (a b c d : Int) : SymD := ⟨0, a, b, c, d, 0⟩
noncomputable def hasI (a b c d : Int) (m : Nat) : Bool := (F37 (symI a b c d) (m : Int)).getD false
theorem has_both {a b c d : Int} (ha : u64ok a) (hb : u64ok b) (hc : u64ok c) (hd : u64ok d) {m : Nat} (hm : m < 256) : F35_2 a b c d (m : Int) = some (hasI a b c d m) ∧ F37 (symI a b c d) (m : Int) = some (hasI a b c d m) := by
 obtain ⟨f1, f2, f3, f4⟩ := byte_facts m hm
 have hneg : decide (((m % 64 : Nat) : Int) < 0) = false := decide_eq_false (by omega)
 unfold hasI F35_2 F37 symI
 rw [f1, f2, f3, f4]
 simp only [hneg, cond_false]
 rw [bit1 (shr_b _ ha), bit1 (shr_b _ hb), bit1 (shr_b _ hc), bit1 (shr_b _ hd)]
 have hq : m / 64 = 0 ∨ m / 64 = 1 ∨ m / 64 = 2 ∨ m / 64 = 3 := by omega
 rcases hq with e | e | e | e <;> rw [e] <;> exact ⟨rfl, rfl⟩
theorem q35 {s : SymD} (h : SymOk s) {m : Nat} (hm : m < 256) : F35 s (m : Int) = some (hasI s.a s.b s.c s.d m) := (has_both h.a h.b h.c h.d hm).1
theorem q37 {s : SymD} (h : SymOk s) {m : Nat} (hm : m < 256) : F37 s (m : Int) = some (hasI s.a s.b s.c s.d m) := (has_both h.a h.b h.c h.d hm).2
theorem q37_2 {f : FollD} (h : u64ok f.a ∧ u64ok f.b ∧ u64ok f.c ∧ u64ok f.d) {m : Nat} (hm : m < 256) : F37_2 f (m : Int) = some (hasI f.a f.b f.c f.d m) := (has_both h.1 h.2.1 h.2.2.1 h.2.2.2 hm).2
theorem has_zero {m : Nat} (hm : m < 256) : hasI 0 0 0 0 m = false := by
 have : ∀ m : Nat, m < 256 → (F37 (symI 0 0 0 0) (m : Int)).getD false = false := by
  intro m hm
  obtain ⟨f1, f2, f3, f4⟩ := byte_facts m hm
  have hneg : decide (((m % 64 : Nat) : Int) < 0) = false := decide_eq_false (by omega)
  unfold F37 symI
  rw [f3, f4]
  simp only [hneg, cond_false, Int.zero_fdiv]
  have hq : m / 64 = 0 ∨ m / 64 = 1 ∨ m / 64 = 2 ∨ m / 64 = 3 := by omega
  rcases hq with e | e | e | e <;> rw [e] <;> rfl
 exact this m hm
theorem loop_listE {α E : Type} {step : Int → Option (E ⊕ Int)} {l : List α} (p : Nat → α → Bool) (bad : α → E) {fin : E}
  (h : ∀ (i : Nat) (x : α), l[i]? = some x → step (i : Int) = some (bif p i x then .inr ((i + 1 : Nat) : Int) else .inl (bad x))) (hend : step (l.length : Int) = some (.inl fin)) :
  ∀ (k i : Nat), i + k = l.length → (allF p i (l.drop i) = true ∧ runL step (i : Int) = some fin) ∨ (allF p i (l.drop i) = false ∧ ∃ x, runL step (i : Int) = some (bad x))
 | 0, i, hi => by
  obtain rfl : i = l.length := by omega
  rw [List.drop_length]
  exact .inl ⟨rfl, runL_done hend⟩
 | k + 1, i, hi => by
  have hx : l[i]? = some (l[i]'(by omega)) := geg _
  have hd : l.drop i = l[i]'(by omega) :: l.drop (i + 1) := List.drop_eq_getElem_cons (by omega)
  have hs := h i _ hx
  rw [hd]
  simp only [allF]
  cases hp : p i (l[i]'(by omega)) with
  | true =>
   rw [hp] at hs
   simp only [cond_true] at hs
   rw [runL_next hs, Bool.true_and]
   exact loop_listE p bad h hend k (i + 1) (by omega)
  | false =>
   rw [hp] at hs
   simp only [cond_false] at hs
   exact .inr ⟨rfl, _, runL_done hs⟩
def byteAt (w : ByteArray) (i : Nat) : Nat := ((w.data.toList[i]?).getD 0).toNat
theorem byteAt_lt (w : ByteArray) (i : Nat) : byteAt w i < 256 := UInt8.toNat_lt _
theorem get_byte {w : ByteArray} {i : Nat} (h : i < w.size) : ∃ u, getI w.data.toList (i : Int) = some u ∧ (u.toNat : Int) = ((byteAt w i : Nat) : Int) := by
 have hl : i < w.data.toList.length := by simpa using h
 refine ⟨w.data.toList[i], ?_, ?_⟩
 ·rw [getI_nat, geg hl]
 ·unfold byteAt
  rw [geg hl]
  rfl
noncomputable def rejP (n : Int) (w : ByteArray) (p : ProdD) : Bool := (p.role == 11) && ((p.left == n) && (((p.right.length : Int) == (w.size : Int)) && allF (fun i s => hasI s.a s.b s.c s.d (byteAt w i)) 0 p.right))
noncomputable def rejB (g : GramD) (n : Int) (w : ByteArray) : Bool := !allF (fun _ p => !rejP n w p) 0 g.prods
theorem l34 {w : ByteArray} {p : ProdD} (hp : ProdOk p) (hl : p.right.length = w.size) :
  (allF (fun i s => hasI s.a s.b s.c s.d (byteAt w i)) 0 p.right = true ∧ runL (fun s => L34_0_2 w p (p.right.length : Int) s) 0 = some .k1) ∨
  (allF (fun i s => hasI s.a s.b s.c s.d (byteAt w i)) 0 p.right = false ∧ ∃ x : SymD, runL (fun s => L34_0_2 w p (p.right.length : Int) s) 0 = some (.k0 x.kind x.a x.b x.c x.d x.sort)) := by
 have hlen := hp.len
 have := loop_listE (l := p.right) (step := fun s => L34_0_2 w p (p.right.length : Int) s) (fun i s => hasI s.a s.b s.c s.d (byteAt w i)) (fun x => E_L34_0_2.k0 x.kind x.a x.b x.c x.d x.sort) (fin := .k1) (fun i x hx => by
  have hi : i < p.right.length := (gei.1 hx).1
  obtain ⟨u, hu, hb⟩ := get_byte (w := w) (i := i) (by omega)
  simp only [L34_0_2, getI_nat p.right, hx, hu, hb, bsm, decide_eq_true (show (i : Int) < (p.right.length : Int) by omega), cond_true, q35 (hp.right x (mog hx)) (byteAt_lt w i), w_S (show i < 4611686018427387904 by omega)]
  cases hasI x.a x.b x.c x.d (byteAt w i) <;> rfl) (by simp [L34_0_2]) p.right.length 0 (by omega)
 rw [List.drop_zero] at this
 exact this
theorem q34 {g : GramD} (hg : GramOk g) (n : Int) (w : ByteArray) : F34 g n w = some (rejB g n w) := by
 have hlen := hg.prods
 have key : runL (fun s => L34_1 n w g (g.prods.length : Int) s) 0 = some (bif allF (fun _ p => !rejP n w p) 0 g.prods then E_L34_1.k1 else E_L34_1.k0) := by
  refine loop_list (fun _ p => !rejP n w p) (fun i p hx => ?_) ?_
  ·have hl : i < g.prods.length := (gei.1 hx).1
   have hp := hg.prod p (mog hx)
   simp only [L34_1, getI_nat, hx, bsm, decide_eq_true (show (i : Int) < (g.prods.length : Int) by omega), cond_true, w_S (show i < 4611686018427387904 by omega), rejP]
   by_cases h1 : p.role = 11
   ·by_cases h2 : p.left = n
    ·by_cases h3 : (p.right.length : Int) = (w.size : Int)
     ·have e1 : (p.role != 11) = false := by simp [h1]
      have e2 : (p.left != n) = false := by simp [h2]
      have e3 : ((p.right.length : Int) != (w.size : Int)) = false := by simp [h3]
      have f1 : (p.role == 11) = true := by simp [h1]
      have f2 : (p.left == n) = true := by simp [h2]
      have f3 : ((p.right.length : Int) == (w.size : Int)) = true := by simp [h3]
      simp only [e1, e2, e3, f1, f2, f3, cond_false, Bool.true_and]
      rcases l34 hp (w := w) (by omega) with ⟨k1, k2⟩ | ⟨k1, x, k2⟩
      ·rw [k1, k2]; rfl
      ·rw [k1, k2]; rfl
     ·simp [h1, h2, beqF h3, bneT h3]
    ·simp [h1, beqF h2, bneT h2]
   ·simp [beqF h1, bneT h1]
  ·simp [L34_1]
 unfold F34 rejB
 rw [key]
 cases allF (fun _ p => !rejP n w p) 0 g.prods <;> rfl
theorem l19 {w : ByteArray} {p : ProdD} (hp : ProdOk p) (hl : p.right.length = w.size) :
  runL (fun s => L19_0_2 w p s.1 s.2) (true, 0) = some (.k0 (allF (fun i s => hasI s.a s.b s.c s.d (byteAt w i)) 0 p.right)) := by
 have hlen := hp.len
 have := loop_and (l := p.right) (step := fun s => L19_0_2 w p s.1 s.2) (fun i s => hasI s.a s.b s.c s.d (byteAt w i)) (fun b => E_L19_0_2.k0 b) (fun i x b hx => by
  have hi : i < p.right.length := (gei.1 hx).1
  obtain ⟨u, hu, hb⟩ := get_byte (w := w) (i := i) (by omega)
  simp only [L19_0_2, getI_nat p.right, hx, hu, hb, bsm, decide_eq_true (show (i : Int) < (w.size : Int) by omega), cond_true, q37 (hp.right x (mog hx)) (byteAt_lt w i), w_S (show i < 4611686018427387904 by omega)]
  cases b <;> cases hasI x.a x.b x.c x.d (byteAt w i) <;> rfl) (fun b => by simp [L19_0_2, hl]) p.right.length 0 true (by omega)
 rw [List.drop_zero, Bool.true_and] at this
 exact this
theorem q19 {g : GramD} (hg : GramOk g) (n : Int) (w : ByteArray) : F19 g n w = some (rejB g n w) := by
 have hlen := hg.prods
 have key : runL (fun s => L19_1 n w g s) 0 = some (bif allF (fun _ p => !rejP n w p) 0 g.prods then E_L19_1.k1 else E_L19_1.k0) := by
  refine loop_list (fun _ p => !rejP n w p) (fun i p hx => ?_) ?_
  ·have hl : i < g.prods.length := (gei.1 hx).1
   have hp := hg.prod p (mog hx)
   simp only [L19_1, getI_nat, hx, bsm, decide_eq_true (show (i : Int) < (g.prods.length : Int) by omega), cond_true, w_S (show i < 4611686018427387904 by omega), rejP]
   by_cases h1 : p.role = 11
   ·by_cases h2 : p.left = n
    ·by_cases h3 : (p.right.length : Int) = (w.size : Int)
     ·have e1 : (p.role != 11) = false := by simp [h1]
      have e2 : (p.left != n) = false := by simp [h2]
      have e3 : ((p.right.length : Int) != (w.size : Int)) = false := by simp [h3]
      have f1 : (p.role == 11) = true := by simp [h1]
      have f2 : (p.left == n) = true := by simp [h2]
      have f3 : ((p.right.length : Int) == (w.size : Int)) = true := by simp [h3]
      simp only [e1, e2, e3, f1, f2, f3, cond_false, Bool.true_and, l19 hp (w := w) (by omega), bsm]
      cases allF (fun i s => hasI s.a s.b s.c s.d (byteAt w i)) 0 p.right <;> rfl
     ·simp [h1, h2, beqF h3, bneT h3]
    ·simp [h1, beqF h2, bneT h2]
   ·simp [beqF h1, bneT h1]
  ·simp [L19_1]
 unfold F19 rejB
 rw [key]
 cases allF (fun _ p => !rejP n w p) 0 g.prods <;> rfl
def z0 : SetD := ⟨0, 0, 0, 0⟩
def setOf (f : FollD) : SetD := ⟨f.a, f.b, f.c, f.d⟩
theorem q36 {g : GramD} (hg : GramOk g) : ∃ m, F36 g = some m ∧ ∀ s, (∃ f ∈ g.follow, f.sort = s ∧ mget z0 m s = setOf f) ∨ ((∀ f ∈ g.follow, f.sort ≠ s) ∧ mget z0 m s = z0) := by
 have hn := hg.follow
 obtain ⟨m, h1, h2⟩ := loop_inv0 (l := g.follow) (step := fun s => L36_0 g (g.follow.length : Int) s.1 s.2) (fun i m => ((i : Int), m)) E_L36_0.k0
  (fun i m => ∀ s, (∃ f ∈ g.follow.take i, f.sort = s ∧ mget z0 m s = setOf f) ∨ ((∀ f ∈ g.follow.take i, f.sort ≠ s) ∧ mget z0 m s = z0)) (fun i f m hx hm => by
   have hl : i < g.follow.length := (gei.1 hx).1
   refine ⟨mput f.sort (setOf f) m, ?_, ?_⟩
   ·simp only [L36_0, getI_nat, hx, bsm, decide_eq_true (show (i : Int) < (g.follow.length : Int) by omega), cond_true, w_S (show i < 4611686018427387904 by omega)]
    rfl
   ·intro s
    have ht : g.follow.take (i + 1) = g.follow.take i ++ [f] := by rw [List.take_add_one, hx]; rfl
    rw [mget_mput, ht]
    by_cases e : s = f.sort
    ·rw [if_pos e]
     exact .inl ⟨f, by simp, e.symm, rfl⟩
    ·rw [if_neg e]
     rcases hm s with ⟨f', h1, h2, h3⟩ | ⟨h1, h2⟩
     ·exact .inl ⟨f', by simp [h1], h2, h3⟩
     ·refine .inr ⟨fun f' hf => ?_, h2⟩
      rcases List.mem_append.1 hf with hf | hf
      ·exact h1 f' hf
      ·simp only [List.mem_singleton] at hf
       rw [hf]
       exact fun h => e h.symm) (fun m _ => by simp [L36_0]) (a := []) (fun s => .inr ⟨by simp, by simp [mget, mfind]⟩)
 refine ⟨m, ?_, ?_⟩
 ·unfold F36
  have e0 : ((0 : Nat) : Int) = 0 := rfl
  rw [e0] at h1
  rw [h1]
  rfl
 ·intro s
  have := h2 s
  rw [List.take_length] at this
  exact this
noncomputable def folP (n : Int) (w : ByteArray) (m : Int) (f : FollD) : Bool := (f.sort == n) && (decide (m < (w.size : Int)) && hasI f.a f.b f.c f.d (byteAt w m.toNat))
noncomputable def folB (g : GramD) (n : Int) (w : ByteArray) (m : Int) : Bool := !allF (fun _ f => !folP n w m f) 0 g.follow
theorem q20 {g : GramD} (hg : GramOk g) (n : Int) (w : ByteArray) {m : Int} (h0 : 0 ≤ m) : F20 g n w m = some (folB g n w m) := by
 have hlen := hg.follow
 have key : runL (fun s => L20_0 n w m g s) 0 = some (bif allF (fun _ f => !folP n w m f) 0 g.follow then E_L20_0.k1 else E_L20_0.k0) := by
  refine loop_list (fun _ f => !folP n w m f) (fun i f hx => ?_) ?_
  ·have hl : i < g.follow.length := (gei.1 hx).1
   have hf := hg.foll f (mog hx)
   simp only [L20_0, getI_nat g.follow, hx, bsm, decide_eq_true (show (i : Int) < (g.follow.length : Int) by omega), cond_true, w_S (show i < 4611686018427387904 by omega), folP]
   by_cases h1 : f.sort = n
   ·have f1 : (f.sort == n) = true := by simp [h1]
    simp only [f1, cond_true, Bool.true_and]
    by_cases h2 : m < (w.size : Int)
    ·obtain ⟨u, hu, hb⟩ := get_byte (w := w) (i := m.toNat) (by omega)
     rw [show ((m.toNat : Nat) : Int) = m by omega] at hu
     simp only [decide_eq_true h2, cond_true, hu, hb, bsm, q37_2 hf (byteAt_lt w m.toNat), Bool.true_and]
     cases hasI f.a f.b f.c f.d (byteAt w m.toNat) <;> rfl
    ·simp [h2]
   ·simp [beqF h1]
  ·simp [L20_0]
 unfold F20 folB
 rw [key]
 cases allF (fun _ f => !folP n w m f) 0 g.follow <;> rfl
theorem foll_uniq {g : GramD} (hg : GramOk g) (h : okFolls g = true) {j k : Nat} {f f' : FollD} (hj : g.follow[j]? = some f) (hk : g.follow[k]? = some f') (hs : f.sort = f'.sort) : j = k := by
 unfold okFolls at h
 have key : ∀ {j k : Nat} {f f' : FollD}, g.follow[j]? = some f → g.follow[k]? = some f' → f.sort = f'.sort → ¬ j < k := by
  intro j k f f' hj hk hs hlt
  have := (allF_iff _ _).1 h k f' hk
  rw [Nat.zero_add] at this
  unfold okFollI at this
  simp only [Bool.and_eq_true] at this
  have h2 := this.2
  unfold pv at h2
  rw [List.all_eq_true] at h2
  have := h2 j (List.mem_range.2 hlt)
  simp only [pk, hj] at this
  simp [hs] at this
 rcases Nat.lt_trichotomy j k with h1 | h1 | h1
 ·exact absurd h1 (key hj hk hs)
 ·exact h1
 ·exact absurd h1 (key hk hj hs.symm)
theorem fol_has {g : GramD} (hg : GramOk g) (h : okFolls g = true) {n : Int} {w : ByteArray} {m : Int} (h1 : m < (w.size : Int)) {mp : List (Int × SetD)}
  (hm : (∃ f ∈ g.follow, f.sort = n ∧ mget z0 mp n = setOf f) ∨ ((∀ f ∈ g.follow, f.sort ≠ n) ∧ mget z0 mp n = z0)) :
  F35_2 (mget z0 mp n).a (mget z0 mp n).b (mget z0 mp n).c (mget z0 mp n).d ((byteAt w m.toNat : Nat) : Int) = some (folB g n w m) := by
 rcases hm with ⟨f, hf, hs, e⟩ | ⟨hno, e⟩
 ·rw [e]
  have hfo := hg.foll f hf
  simp only [setOf]
  rw [(has_both hfo.1 hfo.2.1 hfo.2.2.1 hfo.2.2.2 (byteAt_lt w m.toNat)).1]
  congr 1
  obtain ⟨j, hj⟩ := List.getElem?_of_mem hf
  unfold folB
  cases hh : hasI f.a f.b f.c f.d (byteAt w m.toNat) with
  | true =>
   have : allF (fun _ f => !folP n w m f) 0 g.follow = false := by
    cases ha : allF (fun _ f => !folP n w m f) 0 g.follow with
    | false => rfl
    | true =>
     have := (allF_iff _ _).1 ha j f hj
     simp [folP, hs, h1, hh] at this
   rw [this]; rfl
  | false =>
   have : allF (fun _ f => !folP n w m f) 0 g.follow = true := by
    refine (allF_iff _ _).2 (fun k f' hk => ?_)
    by_cases e1 : f'.sort = n
    ·have := foll_uniq hg h hj hk (hs.trans e1.symm)
     subst this
     rw [hj] at hk
     simp only [Option.some.injEq] at hk
     subst hk
     simp [folP, hh]
    ·simp [folP, beqF e1]
   rw [this]; rfl
 ·rw [e]
  have hz : u64ok 0 := ⟨by omega, by omega⟩
  show F35_2 0 0 0 0 _ = _
  rw [(has_both hz hz hz hz (byteAt_lt w m.toNat)).1, has_zero (byteAt_lt w m.toNat)]
  congr 1
  unfold folB
  have : allF (fun _ f => !folP n w m f) 0 g.follow = true := by
   refine (allF_iff _ _).2 (fun k f' hk => ?_)
   have := hno f' (mog hk)
   simp [folP, beqF this]
  rw [this]; rfl
theorem q33 {g : GramD} (hg : GramOk g) (n : Int) : F33 g n = some (bif chkB g then (bif decide (n < 0) || decide (n ≥ (g.sorts.length : Int)) then 4 else 0) else 160) := by
 unfold F33
 rw [q29 hg]
 unfold chkN
 cases chkB g <;> cases decide (n < 0) <;> cases decide (n ≥ (g.sorts.length : Int)) <;> rfl
structure ArgOk (g : GramD) : Prop where
 left : ∀ p ∈ g.prods, i64ok p.left
 role : ∀ p ∈ g.prods, i64ok p.role
 sym : ∀ p ∈ g.prods, ∀ s ∈ p.right, SymOk s
 foll : ∀ f ∈ g.follow, u64ok f.a ∧ u64ok f.b ∧ u64ok f.c ∧ u64ok f.d
 forb : ∀ f ∈ g.forbid, i64ok f.at_
theorem law4 {g : GramD} (h : ArgOk g) (n : Int) (w : ByteArray) (m : Int) : F4 g n w m = some true := by
 unfold F4
 by_cases h1 : (g.sorts.length : Int) > 12
 ·rw [decide_eq_true h1]; rfl
 by_cases h2 : (g.prods.length : Int) > 25
 ·rw [decide_eq_false h1, decide_eq_true h2]; rfl
 by_cases h3 : (w.size : Int) > 200
 ·rw [decide_eq_false h1, decide_eq_false h2, decide_eq_true h3]; rfl
 by_cases h4 : (g.forbid.length : Int) > 30
 ·rw [decide_eq_false h1, decide_eq_false h2, decide_eq_false h3, decide_eq_true h4]; rfl
 by_cases h5 : (g.follow.length : Int) > 12
 ·rw [decide_eq_false h1, decide_eq_false h2, decide_eq_false h3, decide_eq_false h4, decide_eq_true h5]; rfl
 rw [decide_eq_false h1, decide_eq_false h2, decide_eq_false h3, decide_eq_false h4, decide_eq_false h5]
 simp only [cond_false]
 have key : runL (fun s => L4_0 g s) 0 = some (bif allF (fun _ (p : ProdD) => !decide ((p.right.length : Int) > 200)) 0 g.prods then E_L4_0.k1 else E_L4_0.k0 true) := by
  refine loop_list (fun _ (p : ProdD) => !decide ((p.right.length : Int) > 200)) (fun i p hx => ?_) ?_
  ·have hl : i < g.prods.length := (gei.1 hx).1
   simp only [L4_0, getI_nat, hx, bsm, decide_eq_true (show (i : Int) < (g.prods.length : Int) by omega), cond_true, w_S (show i < 4611686018427387904 by omega)]
   cases decide ((p.right.length : Int) > 200) <;> rfl
  ·simp [L4_0]
 rw [key]
 cases hall : allF (fun _ (p : ProdD) => !decide ((p.right.length : Int) > 200)) 0 g.prods with
 | false => rfl
 | true =>
  have hrl : ∀ p ∈ g.prods, p.right.length ≤ 200 := by
   intro p hp
   obtain ⟨k, hk⟩ := List.getElem?_of_mem hp
   have := (allF_iff _ _).1 hall k p hk
   simp only [Bool.not_eq_true', decide_eq_false_iff_not] at this
   omega
  have hg : GramOk g := ⟨by omega, by omega, by omega, by omega, fun p hp => ⟨h.left p hp, h.sym p hp, hrl p hp, h.role p hp⟩, h.foll, h.forb⟩
  simp only [cond_true, bsm]
  have e17 : F17 g n w = some (bif chkB g then (bif decide (n < 0) || decide (n ≥ (g.sorts.length : Int)) then .k0 false 4 else .k0 (rejB g n w) 0) else .k0 false 160) := by
   unfold F17
   rw [q33 hg, q34 hg]
   cases chkB g <;> cases decide (n < 0) <;> cases decide (n ≥ (g.sorts.length : Int)) <;> rfl
  have e18 : F18 g n w m = some (bif chkB g then (bif decide (n < 0) || decide (n ≥ (g.sorts.length : Int)) then .k0 false 4 else bif decide (m < 0) || decide (m > (w.size : Int)) then .k0 false 4 else .k0 (folB g n w m) 0) else .k0 false 160) := by
   unfold F18
   rw [q33 hg]
   cases hc : chkB g with
   | false => rfl
   | true =>
    have hfo : okFolls g = true := by unfold chkB at hc; simp only [Bool.and_eq_true] at hc; exact hc.2
    cases decide (n < 0) with
    | true => rfl
    | false =>
     cases decide (n ≥ (g.sorts.length : Int)) with
     | true => rfl
     | false =>
      simp only [Bool.or_false, cond_true, cond_false, bsm, show ((0 : Int) != 0) = false from rfl]
      by_cases m1 : m < 0
      ·simp [m1]
      by_cases m2 : m > (w.size : Int)
      ·simp [m1, m2]
      rw [decide_eq_false m1, decide_eq_false m2]
      simp only [cond_false, Bool.or_false]
      by_cases m3 : m < (w.size : Int)
      ·obtain ⟨mp, k1, k2⟩ := q36 hg
       obtain ⟨u, hu, hb⟩ := get_byte (w := w) (i := m.toNat) (by omega)
       rw [show ((m.toNat : Nat) : Int) = m by omega] at hu
       have := fol_has (w := w) (m := m) hg hfo m3 (k2 n)
       simp only [decide_eq_true m3, cond_true, k1, bsm, hu, hb]
       have ez : (⟨0, 0, 0, 0⟩ : SetD) = z0 := rfl
       rw [ez, this]
       rfl
      ·rw [decide_eq_false m3]
       have : folB g n w m = false := by
        unfold folB
        have : allF (fun _ f => !folP n w m f) 0 g.follow = true := (allF_iff _ _).2 (fun k f' hk => by simp [folP, m3])
        rw [this]; rfl
       rw [this]
       rfl
  rw [e17, e18, q12 hg, q19 hg]
  unfold chkN
  cases hc : chkB g with
  | false => simp [F10]
  | true =>
   cases decide (n < 0) with
   | true => simp [F10]
   | false =>
    cases decide (n ≥ (g.sorts.length : Int)) with
    | true => simp [F10]
    | false =>
     by_cases m1 : m < 0
     ·cases rejB g n w <;> simp [m1, F10]
     by_cases m2 : m > (w.size : Int)
     ·cases rejB g n w <;> simp [m1, m2, F10]
     rw [q20 hg n w (by omega)]
     cases rejB g n w <;> cases folB g n w m <;> simp [m1, m2, F10]
end Go.Proofs.Try
