/- Whether a grammar may be: the program and the document's answer say the same. -/
import Derived.Test.YtpoclajcldnjeaaH61
import Derived.Test.YtpoclajcldnjeaaVE
import Derived.Test.YtpoclajcldnjeaaW6
import Derived.Test.YtpoclajcldnjeaaRows
import Derived.ProofKit
open Option renaming bind_some → bsm
open List renaming getElem?_eq_some_iff → gei, getElem?_eq_getElem → geg
namespace Go.Proofs.Try
set_option linter.unusedSimpArgs false
set_option linter.unusedVariables false
open Go Go.Vs
def u64ok (a : Int) : Prop := 0 ≤ a ∧ a ≤ 18446744073709551615
def i64ok (a : Int) : Prop := -9223372036854775808 ≤ a ∧ a ≤ 9223372036854775807
structure SymOk (s : SymD) : Prop where
 kind : i64ok s.kind
 a : u64ok s.a
 b : u64ok s.b
 c : u64ok s.c
 d : u64ok s.d
 sort : i64ok s.sort
structure ProdOk (p : ProdD) : Prop where
 left : i64ok p.left
 right : ∀ s ∈ p.right, SymOk s
 len : p.right.length ≤ 40
 role : i64ok p.role
structure GramOk (g : GramD) : Prop where
 sorts : g.sorts.length ≤ 40
 prods : g.prods.length ≤ 80
 forbid : g.forbid.length ≤ 200
 follow : g.follow.length ≤ 200
 prod : ∀ p ∈ g.prods, ProdOk p
 foll : ∀ f ∈ g.follow, u64ok f.a ∧ u64ok f.b ∧ u64ok f.c ∧ u64ok f.d
 forb : ∀ f ∈ g.forbid, i64ok f.at_
def inR (n : Nat) (x : Int) : Bool := decide (0 ≤ x) && decide (x < (n : Int))
def sortOk (g : GramD) (x : Int) : Bool := inR g.sorts.length x
def emptyW (a b c d : Int) : Bool := (a == 0) && ((b == 0) && ((c == 0) && ((d == 0) && true)))
def pk {α : Type} (l : List α) (f : α → Bool) (k : Nat) : Bool := match l[k]? with | some t => f t | none => true
def pv {α : Type} (l : List α) (f : α → Bool) (i : Nat) : Bool := (List.range i).all (pk l f)
def okName (g : GramD) (i : Nat) (s : ByteArray) : Bool := !decide (s = .empty) && !decide ((s.size : Int) > 1000) && pv g.sorts (fun t => !decide (t = s)) i
def okSym (g : GramD) (p : ProdD) (s : SymD) : Bool :=
 bif s.kind == 0 then !emptyW s.a s.b s.c s.d && (s.sort == 0) else bif s.kind == 1 then emptyW s.a s.b s.c s.d && sortOk g s.sort && !(p.role == 11) else false
def okProd (g : GramD) (p : ProdD) : Bool :=
 sortOk g p.left && !decide ((p.right.length : Int) > 30) && !decide (p.role < 0) && !decide (p.role > 11) && !decide (p.frm < -1) && !decide ((p.cons.size : Int) > 64) && (decide (p.cons = .empty) || (p.role == 0)) && !(p.prefer && p.avoid) && allF (fun _ s => okSym g p s) 0 p.right
theorem eqE (s : ByteArray) : (s.toList == (⟨([] : List UInt8).toArray⟩ : ByteArray).toList) = decide (s = .empty) := bytes_list
theorem bsome (c d : Bool) : (bif c then some d else some false) = some (c && d) := by cases c <;> rfl
theorem q73 (p : ProdD) (g : GramD) : F67 p g = some (sortOk g p.left) := bsome _ _
theorem q73_2 (s : SymD) (g : GramD) : F67_2 s g = some (sortOk g s.sort) := bsome _ _
theorem range_take {α : Type} (l : List α) (f : α → Bool) : ∀ (i : Nat), i ≤ l.length → pv l f i = (l.take i).all f
 | 0, _ => rfl
 | i + 1, h => by
  have hx : l[i]? = some l[i] := geg (by omega)
  have ih := range_take l f i (by omega)
  unfold pv at ih ⊢
  rw [List.range_succ, List.all_append, ih, List.take_add_one, hx, List.all_append]
  simp [pk, hx]
theorem beqF {a b : Int} (h : ¬ a = b) : (a == b) = false := by simp [h]
theorem bneT {a b : Int} (h : ¬ a = b) : (a != b) = true := by simp [h]
def okForb (g : GramD) (f : ForbD) : Bool :=
 match getI g.prods f.parent, getI g.prods f.child with
 | some p, some c => !(p.role == 11) && !(c.role == 11) && !decide (f.at_ < 1) && !decide (f.at_ > (p.right.length : Int)) && (match getI p.right (f.at_ - 1) with | some s => (s.kind == 1) && (s.sort == c.left) | none => false)
 | _, _ => false
theorem getI_none {α : Type} {l : List α} {i : Int} (h : i < 0 ∨ (l.length : Int) ≤ i) : getI l i = none := by
 unfold getI
 split
 ·rw [List.getElem?_eq_none (by omega)]
 ·rfl
theorem getI_in {α : Type} {l : List α} {i : Int} (h0 : ¬ i < 0) (h1 : ¬ (l.length : Int) ≤ i) : ∃ x, getI l i = some x := by
 unfold getI
 rw [if_pos (by omega)]
 exact ⟨_, geg (by omega)⟩
def eqFo (x y : ForbD) : Bool := (x.parent == y.parent) && ((x.at_ == y.at_) && ((x.child == y.child) && true))
def okForbI (g : GramD) (i : Nat) (f : ForbD) : Bool := okForb g f && pv g.forbid (fun t => !eqFo t f) i
def okFollI (g : GramD) (i : Nat) (f : FollD) : Bool := sortOk g f.sort && !emptyW f.a f.b f.c f.d && pv g.follow (fun t => !(t.sort == f.sort)) i
def okSorts (g : GramD) : Bool := !decide ((g.sorts.length : Int) < 1) && sortOk g g.start && allF (okName g) 0 g.sorts
def okProds (g : GramD) : Bool := allF (fun _ p => okProd g p) 0 g.prods
def okForbs (g : GramD) : Bool := allF (okForbI g) 0 g.forbid
def okFolls (g : GramD) : Bool := allF (okFollI g) 0 g.follow
def chkB (g : GramD) : Bool := okSorts g && okProds g && okForbs g && okFolls g
def chkN (g : GramD) : Int := bif chkB g then 0 else 160
theorem seen_inv {α K : Type} [DecidableEq K] {l : List α} {key : α → K} {m : List (K × Int)} {i : Nat} {x : α} (hx : l[i]? = some x) (hm : ∀ s, mget 0 m s = if (l.take i).any (fun t => decide (key t = s)) then 1 else 0) :
  mget 0 (mput (key x) (IntKind.wrap .i64 (mget 0 m (key x) + 1)) m) (key x) = (if (l.take i).any (fun t => decide (key t = key x)) then 2 else 1) ∧ ((l.take i).any (fun t => decide (key t = key x)) = false → ∀ s, mget 0 (mput (key x) (IntKind.wrap .i64 (mget 0 m (key x) + 1)) m) s = if (l.take (i + 1)).any (fun t => decide (key t = s)) then 1 else 0) := by
 constructor
 ·rw [mget_mput, if_pos rfl, hm (key x)]
  split <;> rfl
 ·intro hn s
  rw [mget_mput, hm (key x), hn, List.take_add_one, hx, List.any_append]
  by_cases e : s = key x
  ·subst e; simp; rfl
  ·rw [if_neg e, hm s]
   have : ¬ key x = s := fun h => e h.symm
   simp [this]
theorem dup_take {α : Type} {l : List α} {i : Nat} (f : α → Bool) (hi : i ≤ l.length) : pv l (fun t => !f t) i = !((l.take i).any f) := by
 rw [range_take l (fun t => !f t) i hi]
 induction l.take i with
 | nil => rfl
 | cons x xs ih => simp only [List.all_cons, List.any_cons, ih]; cases f x <;> simp
theorem q57 {g : GramD} (hg : GramOk g) : F41 g = some (okSorts g) := by
 have hn := hg.sorts
 have key := loop_chk (step := fun s => L41_0 g (g.sorts.length : Int) s.1 s.2) (l := g.sorts) (emb := fun i m => ((i : Int), m)) (okName g) (fun i m x => mput x (IntKind.wrap .i64 (mget 0 m x + 1)) m) E_L41_0.k0 E_L41_0.k1
  (fun i m => ∀ s, mget 0 m s = if (g.sorts.take i).any (fun t => decide (t = s)) then 1 else 0) (fun i x m hx hm => ?_) (fun m _ => ?_) g.sorts.length 0 [] (by omega) (by intro s; simp [mget, mfind])
 ·rw [List.drop_zero] at key
  unfold F41 okSorts
  have e : ((0 : Nat) : Int) = 0 := rfl
  simp only [e] at key
  cases hall : allF (okName g) 0 g.sorts with
  | true =>
   obtain ⟨b, hb, _⟩ := key.1 hall
   rw [hb]
   simp only [bsm, decide_eq_true (show (g.sorts.length : Int) ≤ 1000 by omega), cond_true, sortOk, inR]
   by_cases h1 : (g.sorts.length : Int) < 1
   ·simp [h1, show ¬ (g.sorts.length : Int) ≥ 1 by omega]
   ·rw [decide_eq_true (show (g.sorts.length : Int) ≥ 1 by omega), decide_eq_false h1]
    simp only [cond_true, Bool.not_false, Bool.true_and, Bool.and_true]
    exact bsome _ _
  | false =>
   rw [key.2 hall]
   simp
 ·have hl : i < g.sorts.length := (gei.1 hx).1
  obtain ⟨h1, h2⟩ := seen_inv (key := fun t => t) hx hm
  have hd := dup_take (l := g.sorts) (i := i) (fun t => decide (t = x)) (by omega)
  simp only [L41_0, getI_nat, hx, bsm, decide_eq_true (show (i : Int) < (g.sorts.length : Int) by omega), cond_true, eqE, h1, w_S (show i < 4611686018427387904 by omega), okName, hd]
  cases decide (x = ByteArray.empty) <;> cases decide ((x.size : Int) > 1000) <;> cases hxm : (g.sorts.take i).any (fun t => decide (t = x)) <;> simp
  exact h2 hxm
 ·simp [L41_0]
theorem l58_0 {g : GramD} {p : ProdD} (hp : ProdOk p) : runL (fun s => L42_0_2 g p (p.right.length : Int) s) 0 = some (bif allF (fun _ s => okSym g p s) 0 p.right then E_L42_0_2.k1 else E_L42_0_2.k0) := by
 have hlen := hp.len
 refine loop_list (fun _ s => okSym g p s) (fun i x hx => ?_) ?_
 ·have hl : i < p.right.length := (gei.1 hx).1
  have he : ((x.a == 0) && ((x.b == 0) && ((x.c == 0) && ((x.d == 0) && true)))) = emptyW x.a x.b x.c x.d := rfl
  simp only [L42_0_2, getI_nat, hx, bsm, decide_eq_true (show (i : Int) < (p.right.length : Int) by omega), cond_true, q73_2, w_S (show i < 4611686018427387904 by omega), okSym, he]
  by_cases k0 : x.kind = 0
  ·rw [k0]
   cases emptyW x.a x.b x.c x.d <;> by_cases hz : x.sort = 0 <;> first | (simp [hz]; done) | simp [beqF hz, bneT hz]
  ·by_cases k1 : x.kind = 1
   ·rw [k1]
    cases emptyW x.a x.b x.c x.d <;> cases sortOk g x.sort <;> by_cases hr : p.role = 11 <;> first | (simp [hr]; done) | simp [beqF hr]
   ·simp [beqF k0, beqF k1, bneT k0, bneT k1]
 ·simp [L42_0_2]
theorem q58 {g : GramD} (hg : GramOk g) : F42 g = some (okProds g) := by
 have hlen := hg.prods
 have key : runL (fun s => L42_1 g (g.prods.length : Int) s) 0 = some (bif allF (fun _ p => okProd g p) 0 g.prods then E_L42_1.k1 else E_L42_1.k0) := by
  refine loop_list (fun _ p => okProd g p) (fun i p hx => ?_) ?_
  ·have hl : i < g.prods.length := (gei.1 hx).1
   have hp := hg.prod p (List.mem_of_getElem? hx)
   simp only [L42_1, getI_nat, hx, bsm, decide_eq_true (show (i : Int) < (g.prods.length : Int) by omega), cond_true, q73, l58_0 hp, eqE, w_S (show i < 4611686018427387904 by omega), okProd]
   cases sortOk g p.left <;> simp only [cond_true, cond_false, Bool.false_and, Bool.true_and]
   cases decide ((p.right.length : Int) > 30) <;> simp only [cond_true, cond_false, Bool.false_and, Bool.true_and, Bool.not_true, Bool.not_false]
   cases decide (p.role < 0) <;> simp only [cond_true, cond_false, Bool.false_and, Bool.true_and, Bool.not_true, Bool.not_false]
   cases decide (p.role > 11) <;> simp only [cond_true, cond_false, Bool.false_and, Bool.true_and, Bool.not_true, Bool.not_false]
   cases decide (p.frm < -1) <;> simp only [cond_true, cond_false, Bool.false_and, Bool.true_and, Bool.not_true, Bool.not_false]
   cases decide ((p.cons.size : Int) > 64) <;> simp only [cond_true, cond_false, Bool.false_and, Bool.true_and, Bool.not_true, Bool.not_false]
   cases decide (p.cons = ByteArray.empty) <;> by_cases hr : p.role = 0 <;> cases p.prefer <;> cases p.avoid <;> cases allF (fun _ s => okSym g p s) 0 p.right <;> first | (simp [hr]; done) | simp [beqF hr, bneT hr]
  ·simp [L42_1]
 unfold F42 okProds
 rw [key]
 cases allF (fun _ p => okProd g p) 0 g.prods
 ·rfl
 ·simp only [cond_true, bsm, decide_eq_true (show (g.prods.length : Int) ≤ 1000 by omega)]
theorem eqFo_key (t f : ForbD) : eqFo t f = decide ((t.parent, t.at_, t.child) = (f.parent, f.at_, f.child)) := by
 unfold eqFo
 by_cases h1 : t.parent = f.parent
 ·by_cases h2 : t.at_ = f.at_
  ·by_cases h3 : t.child = f.child
   ·simp [h1, h2, h3]
   ·simp [h1, h2, h3, beqF h3]
  ·simp [h1, h2, beqF h2]
 ·simp [h1, beqF h1]
theorem q59 {g : GramD} (hg : GramOk g) : F43 g = some (okForbs g) := by
 have hn := hg.forbid
 have key := loop_chk (step := fun s => L43_0 g (g.forbid.length : Int) s.1 s.2) (l := g.forbid) (emb := fun i m => ((i : Int), m)) (okForbI g)
  (fun i m x => mput (x.parent, x.at_, x.child) (IntKind.wrap .i64 (mget 0 m (x.parent, x.at_, x.child) + 1)) m) E_L43_0.k0 E_L43_0.k1
  (fun i m => ∀ s, mget 0 m s = if (g.forbid.take i).any (fun t => decide ((t.parent, t.at_, t.child) = s)) then 1 else 0) (fun i f m hx hm => ?_) (fun m _ => ?_) g.forbid.length 0 [] (by omega) (by intro s; simp [mget, mfind])
 ·rw [List.drop_zero] at key
  have e : ((0 : Nat) : Int) = 0 := rfl
  simp only [e] at key
  unfold F43 okForbs
  cases hall : allF (okForbI g) 0 g.forbid with
  | true => obtain ⟨b, hb, _⟩ := key.1 hall; rw [hb]; rfl
  | false => rw [key.2 hall]; rfl
 ·have hl : i < g.forbid.length := (gei.1 hx).1
  have hat := hg.forb f (List.mem_of_getElem? hx)
  unfold i64ok at hat
  obtain ⟨h1, h2⟩ := seen_inv (key := fun t : ForbD => (t.parent, t.at_, t.child)) hx hm
  have hd := dup_take (l := g.forbid) (i := i) (fun t => eqFo t f) (by omega)
  simp only [eqFo_key] at hd
  skip
  have hok : okForbI g i f = (okForb g f && !(g.forbid.take i).any (fun t => decide ((t.parent, t.at_, t.child) = (f.parent, f.at_, f.child)))) := by
   unfold okForbI
   simp only [eqFo_key]
   rw [hd]
  rw [hok]
  simp only [L43_0, getI_nat, hx, bsm, decide_eq_true (show (i : Int) < (g.forbid.length : Int) by omega), cond_true, h1, w_S (show i < 4611686018427387904 by omega)]
  cases hxm : (g.forbid.take i).any (fun t => decide ((t.parent, t.at_, t.child) = (f.parent, f.at_, f.child))) with
  | true => simp
  | false =>
   have h2 := h2 hxm
   simp only [Bool.not_false, Bool.and_true, Bool.false_eq_true, if_false, show decide ((1 : Int) > 1) = false from rfl, cond_false]
   have e73 : F68 f g = match getI g.prods f.parent with | some p => some (p.role != 11) | none => some false := by
    unfold F68
    by_cases a1 : f.parent < 0
    ·simp [getI_none (l := g.prods) (.inl a1), show ¬ f.parent ≥ 0 by omega]
    ·by_cases a2 : (g.prods.length : Int) ≤ f.parent
     ·simp [getI_none (l := g.prods) (.inr a2), show ¬ f.parent < (g.prods.length : Int) by omega]
     ·obtain ⟨p, hp⟩ := getI_in a1 a2
      simp [hp, show f.parent ≥ 0 by omega, show f.parent < (g.prods.length : Int) by omega]
   have e74 : F68_2 f g = match getI g.prods f.child with | some p => some (p.role != 11) | none => some false := by
    unfold F68_2
    by_cases a1 : f.child < 0
    ·simp [getI_none (l := g.prods) (.inl a1), show ¬ f.child ≥ 0 by omega]
    ·by_cases a2 : (g.prods.length : Int) ≤ f.child
     ·simp [getI_none (l := g.prods) (.inr a2), show ¬ f.child < (g.prods.length : Int) by omega]
     ·obtain ⟨p, hp⟩ := getI_in a1 a2
      simp [hp, show f.child ≥ 0 by omega, show f.child < (g.prods.length : Int) by omega]
   rw [e73, e74]
   unfold okForb
   cases hp : getI g.prods f.parent with
   | none => simp
   | some p =>
    cases hc : getI g.prods f.child with
    | none => by_cases r1 : p.role = 11 <;> first | (simp [r1]; done) | simp [bneT r1, beqF r1]
    | some c =>
     simp only [bsm]
     by_cases r1 : p.role = 11
     ·simp [r1]
     by_cases r2 : c.role = 11
     ·simp [bneT r1, beqF r1, r2]
     by_cases r3 : f.at_ < 1
     ·simp [bneT r1, beqF r1, bneT r2, beqF r2, r3]
     by_cases r4 : f.at_ > (p.right.length : Int)
     ·simp [bneT r1, beqF r1, bneT r2, beqF r2, r3, r4]
     rw [w_id (by omega)]
     obtain ⟨s, hs⟩ := getI_in (l := p.right) (i := f.at_ - 1) (by omega) (by omega)
     simp only [hs, bsm, bneT r1, beqF r1, bneT r2, beqF r2, decide_eq_false r3, decide_eq_false r4, cond_true, cond_false, Bool.not_false, Bool.true_and]
     by_cases r5 : s.kind = 1
     ·by_cases r6 : s.sort = c.left
      ·simpa [r5, r6] using h2
      ·simp [r5, bneT r6, beqF r6]
     ·simp [bneT r5, beqF r5]
 ·simp [L43_0]
theorem q60 {g : GramD} (hg : GramOk g) : F44 g = some (okFolls g) := by
 have hn := hg.follow
 have key := loop_chk (step := fun s => L44_0 g (g.follow.length : Int) s.1 s.2) (l := g.follow) (emb := fun i m => ((i : Int), m)) (okFollI g)
  (fun i m x => mput x.sort (IntKind.wrap .i64 (mget 0 m x.sort + 1)) m) E_L44_0.k0 E_L44_0.k1
  (fun i m => ∀ s, mget 0 m s = if (g.follow.take i).any (fun t => decide (t.sort = s)) then 1 else 0) (fun i f m hx hm => ?_) (fun m _ => ?_) g.follow.length 0 [] (by omega) (by intro s; simp [mget, mfind])
 ·rw [List.drop_zero] at key
  have e : ((0 : Nat) : Int) = 0 := rfl
  simp only [e] at key
  unfold F44 okFolls
  cases hall : allF (okFollI g) 0 g.follow with
  | true => obtain ⟨b, hb, _⟩ := key.1 hall; rw [hb]; rfl
  | false => rw [key.2 hall]; rfl
 ·have hl : i < g.follow.length := (gei.1 hx).1
  obtain ⟨h1, h2⟩ := seen_inv (key := fun t : FollD => t.sort) hx hm
  have hd := dup_take (l := g.follow) (i := i) (fun t => t.sort == f.sort) (by omega)
  have hbeq : (g.follow.take i).any (fun t => t.sort == f.sort) = (g.follow.take i).any (fun t => decide (t.sort = f.sort)) := by
   congr 1
  rw [hbeq] at hd
  skip
  have he : ((f.a == 0) && ((f.b == 0) && ((f.c == 0) && ((f.d == 0) && true)))) = emptyW f.a f.b f.c f.d := rfl
  simp only [L44_0, getI_nat, hx, bsm, decide_eq_true (show (i : Int) < (g.follow.length : Int) by omega), cond_true, h1, w_S (show i < 4611686018427387904 by omega), okFollI, hd, he, sortOk, inR]
  cases hxm : (g.follow.take i).any (fun t => decide (t.sort = f.sort)) with
  | true => simp
  | false =>
   have h2 := h2 hxm
   by_cases a1 : f.sort < 0
   ·simp [a1, show ¬ 0 ≤ f.sort by omega]
   by_cases a2 : (g.sorts.length : Int) ≤ f.sort
   ·simp [a1, a2, show ¬ f.sort < (g.sorts.length : Int) by omega]
   cases emptyW f.a f.b f.c f.d
   ·simpa [a1, a2, show 0 ≤ f.sort by omega, show f.sort < (g.sorts.length : Int) by omega] using h2
   ·simp [a1, a2]
 ·simp [L44_0]
theorem q29 {g : GramD} (hg : GramOk g) : F15 g = some (chkN g) := by
 have key : runL (fun s => L15_0 g s) 0 = some (bif (List.range 4).all (fun i => match i with | 0 => okSorts g | 1 => okProds g | 2 => okForbs g | _ => okFolls g) then E_L15_0.k1 else E_L15_0.k0) := by
  refine loop_range (n := 4) _ (fun i hi => ?_) ?_
  ·match i, hi with
   | 0, _ => simp only [L15_0, q57 hg, bsm]; cases okSorts g <;> rfl
   | 1, _ => simp only [L15_0, q58 hg, bsm]; cases okProds g <;> rfl
   | 2, _ => simp only [L15_0, q59 hg, bsm]; cases okForbs g <;> rfl
   | 3, _ => simp only [L15_0, q60 hg, bsm]; cases okFolls g <;> rfl
   | n + 4, h => omega
  ·rfl
 unfold F15 chkN chkB
 rw [key]
 show (some (bif (okSorts g && (okProds g && (okForbs g && (okFolls g && true)))) then E_L15_0.k1 else E_L15_0.k0)).bind _ = _
 cases okSorts g <;> cases okProds g <;> cases okForbs g <;> cases okFolls g <;> rfl
section
variable {g : GramD} {n : Nat}
end
section
variable {c : ProdD → Bool} {g : GramD} {n : Nat}
end
section
variable {a b : GramD}
end
section
variable {g : GramD}
theorem ap_ok {len n bytes : Nat} (h1 : len ≤ n) (h2 : len ≤ 100000) (h3 : bytes ≤ 1000) : apOk len 1 n bytes = true := by
 unfold apOk limit47
 refine decide_eq_true ⟨h1, ?_, by omega⟩
 have : (len + 1) * bytes ≤ 100001 * 1000 := Nat.mul_le_mul (by omega) h3
 omega
end
mutual
def sz : TreeD → Nat
 | .mk _ _ ks => 1 + szs ks
def szs : List TreeD → Nat
 | [] => 0
 | t :: ts => sz t + szs ts
end
theorem sz_eq : ∀ t : TreeD, sz t = 1 + szs t.kids
 | .mk _ _ _ => by simp only [sz, TreeD.kids]
theorem szs_mem {t : TreeD} : ∀ {ts : List TreeD}, t ∈ ts → sz t ≤ szs ts
 | [], h => by simp at h
 | u :: ts, h => by
  simp only [szs]
  rcases List.mem_cons.1 h with rfl | h
  ·omega
  ·have := szs_mem h; omega
theorem szs_len : ∀ (a : List TreeD), a.length ≤ szs a
 | [] => by simp
 | t :: a => by have := szs_len a; have := sz_eq t; simp only [List.length_cons, szs]; omega
theorem kid_lt {t x : TreeD} {i : Nat} (h : t.kids[i]? = some x) : sz x < sz t := by
 have := szs_mem (List.mem_of_getElem? h)
 have := sz_eq t
 omega
def szA (a : AtD) : Nat := 1 + szs a.kids
def tot : List AtD → Nat
 | [] => 0
 | a :: l => szA a + tot l
theorem tot_app : ∀ (a b : List AtD), tot (a ++ b) = tot a + tot b
 | [], b => by simp [tot]
 | t :: a, b => by simp only [List.cons_append, tot, tot_app a b]; omega
theorem tot_len : ∀ (a : List AtD), a.length ≤ tot a
 | [] => by simp
 | t :: a => by have := tot_len a; simp only [List.length_cons, tot, szA]; omega
def mkAt (n : Int) (x : TreeD) : AtD := ⟨x.prod, x.byte, x.kids, n⟩
theorem tot_map (n : Int) : ∀ (l : List TreeD), tot (l.map (mkAt n)) = szs l
 | [] => rfl
 | x :: l => by simp only [List.map_cons, tot, tot_map n l, szs, szA, mkAt, sz_eq x]
theorem splice_take {α : Type} {l : List α} {n : Nat} {y : α} (h : n + 1 ≤ l.length) : (splice l n [y]).take (n + 1) = l.take n ++ [y] ∧ (splice l n [y]).length = l.length := by
 unfold splice
 refine ⟨?_, by simp; omega⟩
 have : (l.take n ++ [y]).length = n + 1 := by simp; omega
 rw [← this, List.take_left]
theorem l46_0 {a : AtD} (hn : 1 ≤ a.n ∧ a.n ≤ 20000) : ∀ (k i gen len : Nat) (l : List AtD), i + k = a.kids.length → a.kids.length < 40000 → len ≤ l.length → len + k ≤ 40000 →
  ∃ g' len' l', runL (fun s => L46_0_3 a (a.kids.length : Int) s.1 s.2.1 s.2.2.1 s.2.2.2) (gen, len, (i : Int), l) = some (.k0 g' len' l') ∧ len' ≤ l'.length ∧ l'.take len' = l.take len ++ (a.kids.drop i).map (mkAt (a.n + 1))
 | 0, i, gen, len, l, hi, _, hl, _ => by
  obtain rfl : i = a.kids.length := by omega
  exact ⟨gen, len, l, runL_done (by simp [L46_0_3]), hl, by simp⟩
 | k + 1, i, gen, len, l, hi, h6, hl, hb => by
  have hx : a.kids[i]? = some a.kids[i] := geg (by omega)
  have hd : a.kids.drop i = a.kids[i] :: a.kids.drop (i + 1) := (List.drop_eq_getElem_cons (by omega))
  generalize a.kids[i] = x at hx hd
  have e1 : IntKind.wrap .i64 (a.n + 1) = a.n + 1 := w_id (by omega)
  have hap : apOk len 1 l.length 48 = true := ap_ok hl (by omega) (by omega)
  rw [hd]
  by_cases hc : len + 1 ≤ l.length
  ·obtain ⟨s1, s2⟩ := splice_take (y := mkAt (a.n + 1) x) hc
   rw [runL_next (s' := (gen, len + 1, ((i + 1 : Nat) : Int), splice l len [mkAt (a.n + 1) x])) (by
    simp only [L46_0_3, getI_nat, hx, bsm, decide_eq_true (show (i : Int) < (a.kids.length : Int) by omega), cond_true, hap, decide_eq_true hc, e1, w_S (show i < 4611686018427387904 by omega), mkAt])]
   obtain ⟨g', len', l', r1, r2, r3⟩ := l46_0 hn k (i + 1) gen (len + 1) (splice l len [mkAt (a.n + 1) x]) (by omega) (by omega) (by omega) (by omega)
   exact ⟨g', len', l', r1, r2, by rw [r3, s1]; simp⟩
  ·have hll : len = l.length := by omega
   rw [runL_next (s' := (gen + 1, len + 1, ((i + 1 : Nat) : Int), l.take len ++ [mkAt (a.n + 1) x])) (by
    simp only [L46_0_3, getI_nat, hx, bsm, decide_eq_true (show (i : Int) < (a.kids.length : Int) by omega), cond_true, hap, decide_eq_false hc, cond_false, e1, w_S (show i < 4611686018427387904 by omega), mkAt])]
   obtain ⟨g', len', l', r1, r2, r3⟩ := l46_0 hn k (i + 1) (gen + 1) (len + 1) (l.take len ++ [mkAt (a.n + 1) x]) (by omega) (by omega) (by simp; omega) (by omega)
   refine ⟨g', len', l', r1, r2, ?_⟩
   have : (l.take len ++ [mkAt (a.n + 1) x]).take (len + 1) = l.take len ++ [mkAt (a.n + 1) x] := List.take_of_length_le (by simp; omega)
   rw [r3, this]
   simp
theorem l46_1 : ∀ (m : Nat) (v : Int) (gen len : Nat) (l : List AtD), tot (l.take len) ≤ m → m ≤ 16384 → len ≤ l.length → v ≤ 16384 → (∀ a ∈ l.take len, 1 ≤ a.n ∧ a.n + szA a ≤ 16385) →
  ∃ v' g' l', runL (fun s => L46_1 s.1 s.2.1 s.2.2.1 s.2.2.2) (v, gen, len, l) = some (.k0 v' g' l') ∧ v' ≤ 16384 := by
 intro m
 induction m with
 | zero =>
  intro v gen len l ht _ hl hv _
  have h0 := tot_len (l.take len)
  rw [List.length_take] at h0
  obtain rfl : len = 0 := by omega
  exact ⟨v, gen, l, runL_done rfl, hv⟩
 | succ m ih =>
  intro v gen len l ht h5 hl hv ha
  cases len with
  | zero => exact ⟨v, gen, l, runL_done rfl, hv⟩
  | succ len =>
   have hx : l[len]? = some l[len] := geg (by omega)
   have htk : l.take (len + 1) = l.take len ++ [l[len]] := by rw [List.take_add_one, hx]; rfl
   generalize l[len] = x at hx htk
   rw [htk] at ht ha
   have hxa := ha x (by simp)
   rw [tot_app] at ht
   simp only [tot, Nat.add_zero] at ht
   have e1 : IntKind.wrap .i64 ((((len + 1 : Nat)) : Int) - 1) = (len : Int) := by rw [w_id (by have := tot_len (l.take len); rw [List.length_take] at this; omega)]; omega
   have hlt := tot_len (l.take len)
   rw [List.length_take] at hlt
   have hsz : szA x = 1 + szs x.kids := rfl
   have hkl := szs_len x.kids
   obtain ⟨g', len', l', r1, r2, r3⟩ := l46_0 (a := x) (by omega) x.kids.length 0 gen len l (by omega) (by omega) (by omega) (by omega)
   have e0 : ((0 : Nat) : Int) = 0 := rfl
   rw [e0] at r1
   rw [List.drop_zero] at r3
   have hix : ixN (len + 1) (len : Int) = some len := by rw [ixN_nat, if_pos (by omega)]
   have hsl : slOk (len : Int) (len + 1) l.length = true := decide_eq_true ⟨by omega, by omega, by omega⟩
   rw [runL_next (s' := ((if v < x.n then x.n else v), g', len', l')) (by
    simp only [L46_1, decide_eq_true (show (((len + 1 : Nat) : Int) > 0) by omega), decide_eq_true (show v ≤ 16384 by omega), cond_true, e1, hix, bsm, hx, hsl, Int.toNat_natCast, r1])]
   refine ih _ g' len' l' ?_ (by omega) r2 (by split <;> omega) (fun a haa => ?_)
   ·rw [r3, tot_app, tot_map]; omega
   ·rw [r3] at haa
    rcases List.mem_append.1 haa with h | h
    ·exact ha a (by simp [h])
    ·obtain ⟨y, hy, rfl⟩ := List.mem_map.1 h
     have h1 := szs_mem hy
     have h2 := sz_eq y
     have : szA (mkAt (x.n + 1) y) = sz y := by simp only [szA, mkAt, h2]
     rw [this]
     simp only [mkAt]
     omega
theorem q46 {t : TreeD} (h : sz t ≤ 16384) : ∃ d, F46 t = some d ∧ d ≤ 16384 := by
 have hs := sz_eq t
 obtain ⟨v, g', l', r1, r2⟩ := l46_1 (sz t) 0 0 1 [⟨t.prod, t.byte, t.kids, 1⟩] (by simp only [List.take, tot, szA]; omega) h (by simp) (by omega) (by
  intro a ha
  simp only [List.take, List.mem_cons, List.not_mem_nil, or_false] at ha
  subst ha
  simp only [szA]
  omega)
 exact ⟨v, by unfold F46; rw [r1]; rfl, r2⟩
mutual
def yb : TreeD → List Int
 | .mk p b ks => if p < 0 then [b] else ybs ks
def ybs : List TreeD → List Int
 | [] => []
 | t :: ts => yb t ++ ybs ts
end
theorem yb_eq : ∀ t : TreeD, yb t = if t.prod < 0 then [t.byte] else ybs t.kids
 | .mk _ _ _ => by simp only [yb]; rfl
mutual
theorem yb_len : ∀ (t : TreeD), (yb t).length ≤ sz t
 | .mk p b ks => by
  have := ybs_len ks
  simp only [yb, sz]
  split
  ·simp
  ·omega
theorem ybs_len : ∀ (ts : List TreeD), (ybs ts).length ≤ szs ts
 | [] => by simp [ybs]
 | t :: ts => by
  have := yb_len t
  have := ybs_len ts
  simp only [ybs, szs, List.length_append]
  omega
end
theorem q48 {t : TreeD} {gen len : Nat} {l : List Int} {b : Bool} (hl : len ≤ l.length) (hb : len ≤ 40000) : ∃ g' l', F48_4 t gen l b len = some (.k0 g' l' true) ∧ len + 1 ≤ l'.length ∧ l'.take (len + 1) = l.take len ++ [t.byte] := by
 have hap : apOk len 1 l.length 1 = true := ap_ok hl (by omega) (by omega)
 have h69 : F69_4 b = some true := by cases b <;> rfl
 unfold F48_4
 rw [h69]
 simp only [bsm, hap, cond_true]
 by_cases hc : len + 1 ≤ l.length
 ·obtain ⟨s1, s2⟩ := splice_take (y := t.byte) hc
  rw [decide_eq_true hc]
  exact ⟨_, _, rfl, by omega, s1⟩
 ·rw [decide_eq_false hc]
  refine ⟨_, _, rfl, by simp; omega, ?_⟩
  exact List.take_of_length_le (by simp; omega)
theorem q47 : ∀ (N : Nat) (t t0 : TreeD) (gen : Nat) (l : List Int) (b : Bool) (len : Nat), sz t < N → len ≤ l.length → len + sz t ≤ 40000 →
  ∃ g' l' b' len', F47_4 N t t0 gen l b len = some (.k0 g' l' b' len') ∧ len' = len + (yb t).length ∧ len' ≤ l'.length ∧ l'.take len' = l.take len ++ yb t
 | 0, _, _, _, _, _, _, h, _, _ => by omega
 | N + 1, t, t0, gen, l, b, len, h, hl, hb => by
  show ∃ g' l' b' len', F47_4_b (F47_4 N) t t0 gen l b len = some (.k0 g' l' b' len') ∧ _
  have hs := sz_eq t
  unfold F47_4_b
  rw [yb_eq t]
  by_cases hp : t.prod < 0
  ·obtain ⟨g', l', r1, r2, r3⟩ := q48 (t := t) (gen := gen) (b := b) hl (show len ≤ 40000 by omega)
   rw [decide_eq_true hp, if_pos hp]
   simp only [cond_true, r1, bsm]
   exact ⟨_, _, _, _, rfl, rfl, r2, r3⟩
  ·rw [decide_eq_false hp, if_neg hp]
   simp only [cond_false]
   have hkl := szs_len t.kids
   have key : ∀ (k i gen : Nat) (l : List Int) (b : Bool) (len : Nat), i + k = t.kids.length → len ≤ l.length → len + szs (t.kids.drop i) ≤ 40000 →
     ∃ g' l' b' len', runL (fun s => L47_0_4 (F47_4 N) t (t.kids.length : Int) t0 s.1 s.2.1 s.2.2.1 s.2.2.2.1 s.2.2.2.2) ((i : Int), gen, l, b, len) = some (.k0 g' l' b' len') ∧ len' = len + (ybs (t.kids.drop i)).length ∧ len' ≤ l'.length ∧ l'.take len' = l.take len ++ ybs (t.kids.drop i) := by
    intro k
    induction k with
    | zero =>
     intro i gen l b len hi hl _
     obtain rfl : i = t.kids.length := by omega
     rw [List.drop_length]
     exact ⟨gen, l, b, len, runL_done (by simp [L47_0_4]), by simp [ybs], hl, by simp [ybs]⟩
    | succ k ih =>
     intro i gen l b len hi hl hb
     have hx : t.kids[i]? = some t.kids[i] := geg (by omega)
     have hd : t.kids.drop i = t.kids[i] :: t.kids.drop (i + 1) := (List.drop_eq_getElem_cons (by omega))
     generalize t.kids[i] = x at hx hd
     rw [hd] at hb ⊢
     simp only [szs] at hb
     have hk := kid_lt hx
     obtain ⟨g1, l1, b1, len1, r1, r2, r3, r4⟩ := q47 N x t0 gen l b len (by omega) hl (by omega)
     have hyl := yb_len x
     obtain ⟨g2, l2, b2, len2, u1, u2, u3, u4⟩ := ih (i + 1) g1 l1 b1 len1 (by omega) r3 (by omega)
     refine ⟨g2, l2, b2, len2, ?_, ?_, u3, ?_⟩
     ·rw [runL_next (s' := (((i + 1 : Nat) : Int), g1, l1, b1, len1)) (by
       simp only [L47_0_4, getI_nat, hx, bsm, decide_eq_true (show (i : Int) < (t.kids.length : Int) by omega), cond_true, r1, w_S (show i < 4611686018427387904 by omega)])]
      exact u1
     ·simp only [ybs, List.length_append]; omega
     ·rw [u4, r4]; simp only [ybs, List.append_assoc]
   obtain ⟨g', l', b', len', r1, r2, r3, r4⟩ := key t.kids.length 0 gen l b len (by omega) hl (by rw [List.drop_zero]; omega)
   rw [List.drop_zero] at r2 r4
   have e0 : ((0 : Nat) : Int) = 0 := rfl
   rw [e0] at r1
   rw [r1]
   exact ⟨g', l', b', len', rfl, r2, r3, r4⟩
theorem q20 {N : Nat} {t : TreeD} (hN : sz t < N) (h : sz t ≤ 16384) : F20 N t = some (.k0 (bstr (yb t)) 0) := by
 obtain ⟨d, d1, d2⟩ := q46 h
 obtain ⟨g', l', b', len', r1, r2, r3, r4⟩ := q47 N t t 0 [] false 0 hN (by simp) (by omega)
 have hyl := yb_len t
 unfold F20
 rw [d1]
 simp only [bsm, decide_eq_false (show ¬ d > 16384 by omega), cond_false, r1]
 simp only [List.take_nil, List.nil_append] at r4
 unfold F49_2
 by_cases h0 : 0 < len'
 ·have hu : usOk len' l'.length = true := decide_eq_true ⟨r3, by omega⟩
  rw [decide_eq_true h0, hu, r4]
  rfl
 ·obtain rfl : len' = 0 := by omega
  rw [decide_eq_false h0]
  have : yb t = [] := List.eq_nil_of_length_eq_zero (by omega)
  rw [this]
  rfl
section
variable {g : GramD}
end
def chain : Nat → TreeD
 | 0 => .mk (-1) 97 []
 | k + 1 => .mk (if k = 0 then 1 else 0) 0 [chain k]
theorem chain_kids (k : Nat) : (chain (k + 1)).kids = [chain k] := rfl
theorem chain_sz : ∀ k, sz (chain k) = k + 1
 | 0 => rfl
 | k + 1 => by rw [sz_eq, chain_kids]; simp only [szs, chain_sz k]; omega
theorem chain_yb : ∀ k, yb (chain k) = [97]
 | 0 => rfl
 | k + 1 => by
  rw [yb_eq, chain_kids]
  have : ¬ (chain (k + 1)).prod < 0 := by simp only [chain, TreeD.prod]; split <;> omega
  rw [if_neg this]
  simp only [ybs, chain_yb k, List.append_nil]
theorem loop6 {a : Int} (ha : a ≤ 40000) : ∀ (m k : Nat), ((k + m + 2 : Nat) : Int) = a → runL (fun s => L6_0 a s.1 s.2.1 s.2.2) (((k + 2 : Nat) : Int), (chain (k + 1)).prod, (chain (k + 1)).kids) = some (.k0 (chain (k + m + 1)).prod (chain (k + m + 1)).kids)
 | 0, k, h => runL_done (by simp only [L6_0, decide_eq_false (show ¬ (((k + 2 : Nat) : Int) < a) by omega), cond_false])
 | m + 1, k, h => by
  rw [runL_next (s' := (((k + 1 + 2 : Nat) : Int), (chain (k + 1 + 1)).prod, (chain (k + 1 + 1)).kids)) (by
   simp only [L6_0, decide_eq_true (show (((k + 2 : Nat) : Int) < a) by omega), cond_true]
   rw [w_S (show k + 2 < 4611686018427387904 by omega)]
   rfl)]
  have := loop6 ha m (k + 1) (by omega)
  rw [this, show k + 1 + m + 1 = k + (m + 1) + 1 by omega]
theorem take_one {α : Type} {l : List α} {n : Nat} {x : α} (hl : n ≤ l.length) (h : l.take n = [x]) : n = 1 ∧ l[0]? = some x := by
 have h1 := congrArg List.length h
 rw [List.length_take] at h1
 simp only [List.length_singleton] at h1
 have hn : n = 1 := by omega
 subst hn
 cases l with
 | nil => simp at h
 | cons y l => simp at h; exact ⟨rfl, by simp [h]⟩
theorem deepC : ∀ (m n k gen : Nat) (l : List AtD), n + m = 16385 → 1 ≤ n → m ≤ k → l[0]? = some (mkAt (n : Int) (chain k)) →
  ∃ g' l', runL (fun s => L46_1 s.1 s.2.1 s.2.2.1 s.2.2.2) ((n : Int) - 1, gen, 1, l) = some (.k0 16385 g' l')
 | m, n, k, gen, l, hm, hn, hk, hx => by
  have hl : 0 < l.length := (gei.1 hx).1
  have hkl : (mkAt (n : Int) (chain k)).kids.length ≤ 1 := by cases k <;> simp [mkAt, chain, TreeD.kids]
  obtain ⟨g', len', l', r1, r2, r3⟩ := l46_0 (a := mkAt (n : Int) (chain k)) (by simp only [mkAt]; omega) (mkAt (n : Int) (chain k)).kids.length 0 gen 0 l (by omega) (by omega) (by omega) (by omega)
  have e0 : ((0 : Nat) : Int) = 0 := rfl
  rw [e0] at r1
  rw [List.drop_zero] at r3
  simp only [List.take_zero, List.nil_append] at r3
  have hst : L46_1 ((n : Int) - 1) gen 1 l = some (.inr ((n : Int), g', len', l')) := by
   have e1 : IntKind.wrap .i64 (((1 : Nat) : Int) - 1) = 0 := by decide
   have e2 : ixN 1 0 = some 0 := by decide
   have e3 : slOk 0 1 l.length = true := decide_eq_true ⟨by omega, by omega, by omega⟩
   have e4 : (if (n : Int) - 1 < (mkAt (n : Int) (chain k)).n then (mkAt (n : Int) (chain k)).n else (n : Int) - 1) = (n : Int) := by rw [if_pos (by simp only [mkAt]; omega)]; rfl
   simp only [L46_1, decide_eq_true (show (((1 : Nat) : Int) > 0) by omega), decide_eq_true (show (n : Int) - 1 ≤ 16384 by omega), cond_true, e1, e2, bsm, hx, e3, show Int.toNat 0 = 0 from rfl, r1, e4]
  rw [runL_next hst]
  match m, hm, hk with
  | 0, hm, _ =>
   obtain rfl : n = 16385 := by omega
   refine ⟨g', l', runL_done ?_⟩
   show L46_1 16385 g' len' l' = _
   simp only [L46_1, decide_eq_false (show ¬ (16385 : Int) ≤ 16384 by omega), cond_false]
   cases decide (((len' : Nat) : Int) > 0) <;> rfl
  | m + 1, hm, hk =>
   obtain ⟨k', rfl⟩ : ∃ k', k = k' + 1 := ⟨k - 1, by omega⟩
   have hr : l'.take len' = [mkAt ((n + 1 : Nat) : Int) (chain k')] := by rw [r3]; simp [mkAt, chain, TreeD.kids]
   obtain ⟨rfl, hx'⟩ := take_one r2 hr
   obtain ⟨g2, l2, h2⟩ := deepC m (n + 1) k' g' l' (by omega) (by omega) (by omega) hx'
   rw [show (((n + 1 : Nat) : Int) - 1) = (n : Int) by omega] at h2
   exact ⟨g2, l2, h2⟩
theorem q46c {k : Nat} (h : 16384 ≤ k) : F46 (chain k) = some 16385 := by
 obtain ⟨g', l', h1⟩ := deepC 16384 1 k 0 [mkAt 1 (chain k)] (by omega) (by omega) h rfl
 unfold F46
 have : (⟨(chain k).prod, (chain k).byte, (chain k).kids, 1⟩ : AtD) = mkAt 1 (chain k) := rfl
 rw [this]
 have e : (((1 : Nat) : Int) - 1) = 0 := rfl
 rw [e] at h1
 rw [h1]
 rfl
theorem q26 : F26 = some (.k0 0 8589934592 0 0) := by kernel_rfl
def symA : SymD := ⟨0, 0, 8589934592, 0, 0, 0⟩
def symS : SymD := ⟨1, 0, 0, 0, 0, 0⟩
def gC : GramD := ⟨[(⟨([83] : List UInt8).toArray⟩ : ByteArray)], [⟨0, [symS], b0, 0, false, false, (-1)⟩, ⟨0, [symA], b0, 0, false, false, (-1)⟩], 0, [], []⟩
theorem gC_ok : GramOk gC := by
 refine ⟨by decide, by decide, by decide, by decide, ?_, by simp [gC], by simp [gC]⟩
 intro p hp
 simp only [gC, List.mem_cons, List.not_mem_nil, or_false] at hp
 rcases hp with rfl | rfl <;> refine ⟨by unfold i64ok; decide, ?_, by decide, by unfold i64ok; decide⟩ <;> intro s hs <;> simp only [List.mem_singleton] at hs <;> subst hs <;> exact ⟨by unfold i64ok; decide, by unfold u64ok; decide, by unfold u64ok; decide, by unfold u64ok; decide, by unfold u64ok; decide, by unfold i64ok; decide⟩
theorem gC_chk : chkN gC = 0 := by kernel_rfl
theorem has_a : F70 symA (chain 0) = some true := by kernel_rfl
def symC : Nat → SymD
 | 0 => symA
 | _ + 1 => symS
theorem fitsC : ∀ (k N : Nat), k < N → F50 N gC (symC k) (chain k) = some true
 | k, 0, h => by omega
 | 0, N + 1, _ => by
  show F50_b (F50 N) gC symA (chain 0) = some true
  unfold F50_b
  rw [has_a]
  rfl
 | k + 1, N + 1, h => by
  show F50_b (F50 N) gC symS (chain (k + 1)) = some true
  have ih := fitsC k N (by omega)
  have hpr : ∃ p, getI gC.prods (chain (k + 1)).prod = some p ∧ p.left = 0 ∧ p.role = 0 ∧ p.right = [symC k] ∧ (decide ((chain (k + 1)).prod < 0)) = false ∧ (decide ((chain (k + 1)).prod ≥ (gC.prods.length : Int))) = false := by
   cases k with
   | zero => exact ⟨_, rfl, rfl, rfl, rfl, rfl, rfl⟩
   | succ k => exact ⟨_, rfl, rfl, rfl, rfl, rfl, rfl⟩
  obtain ⟨p, p1, p2, p3, p4, p5, p6⟩ := hpr
  have hl : runL (fun s => L50_0 (F50 N) (chain (k + 1)) ((chain (k + 1)).kids.length : Int) gC p s) 0 = some .k1 := by
   have s1 : L50_0 (F50 N) (chain (k + 1)) ((chain (k + 1)).kids.length : Int) gC p 0 = some (.inr 1) := by
    rw [chain_kids]
    unfold L50_0
    rw [chain_kids, p4]
    have g1 : getI [chain k] 0 = some (chain k) := rfl
    have g2 : getI [symC k] 0 = some (symC k) := rfl
    rw [g1, g2]
    simp only [bsm, ih, cond_true]
    rfl
   have s2 : L50_0 (F50 N) (chain (k + 1)) ((chain (k + 1)).kids.length : Int) gC p 1 = some (.inl .k1) := by
    rw [chain_kids]
    rfl
   rw [runL_next s1]
   exact runL_done s2
  rw [chain_kids] at hl
  unfold F50_b
  rw [p5, p6, p1]
  simp only [bsm, p2, p3, p4, chain_kids, hl]
  rfl
theorem q21c {k N : Nat} (hN : k + 1 < N) : F21 N gC (chain k) = some (if 16384 < k + 1 then 3 else if k = 0 then 163 else 0) := by
 unfold F21
 rw [q29 gC_ok, gC_chk]
 simp only [bsm]
 have e : ((0 : Int) != 0) = false := rfl
 rw [e]
 simp only [cond_false]
 by_cases h : 16384 < k + 1
 ·rw [q46c (by omega), if_pos h]; rfl
 ·rw [if_neg h]
  obtain ⟨d, d1, d2⟩ := q46 (t := chain k) (by rw [chain_sz]; omega)
  rw [d1]
  simp only [bsm, decide_eq_false (show ¬ d > 16384 by omega), cond_false]
  cases k with
  | zero => rfl
  | succ k =>
   have hpr : ∃ p, getI gC.prods (chain (k + 1)).prod = some p ∧ p.left = 0 ∧ (decide ((chain (k + 1)).prod < 0)) = false ∧ (decide ((chain (k + 1)).prod ≥ (gC.prods.length : Int))) = false := by
    cases k with
    | zero => exact ⟨_, rfl, rfl, rfl, rfl⟩
    | succ k => exact ⟨_, rfl, rfl, rfl, rfl⟩
   obtain ⟨p, p1, p2, p5, p6⟩ := hpr
   have := fitsC (k + 1) N (by omega)
   rw [p5, p6, p1]
   simp only [cond_false, bsm, p2]
   have e : (⟨1, 0, 0, 0, 0, 0⟩ : SymD) = symC (k + 1) := rfl
   rw [e, this]
   rfl
theorem q20c {k N : Nat} (hN : k + 1 < N) : F20 N (chain k) = some (if 16384 < k + 1 then .k0 b0 3 else .k0 (⟨([97] : List UInt8).toArray⟩ : ByteArray) 0) := by
 by_cases h : 16384 < k + 1
 ·rw [if_pos h]
  unfold F20
  rw [q46c (by omega)]
  rfl
 ·rw [if_neg h, q20 (by rw [chain_sz]; omega) (by rw [chain_sz]; omega), chain_yb]
  rfl
theorem law6 (a : Int) {N : Nat} (hN : 40001 < N) : F6 N a = some true := by
 unfold F6
 by_cases h1 : a < 1
 ·rw [decide_eq_true h1]; rfl
 rw [decide_eq_false h1]
 simp only [cond_false]
 by_cases h2 : a > 40000
 ·rw [decide_eq_true h2]; rfl
 rw [decide_eq_false h2]
 simp only [cond_false]
 rw [q26]
 simp only [bsm]
 by_cases h3 : a > 1
 ·rw [decide_eq_true h3]
  simp only [cond_true]
  obtain ⟨m, hm⟩ : ∃ m : Nat, ((0 + m + 2 : Nat) : Int) = a := ⟨(a - 2).toNat, by omega⟩
  have hl := loop6 (by omega) m 0 hm
  have e0 : (((0 + 2 : Nat) : Int), (chain (0 + 1)).prod, (chain (0 + 1)).kids) = ((2 : Int), (1 : Int), [TreeD.mk (-1) 97 []]) := rfl
  rw [e0] at hl
  rw [hl]
  simp only [bsm]
  have et : TreeD.mk (chain (0 + m + 1)).prod 0 (chain (0 + m + 1)).kids = chain (m + 1) := by rw [Nat.zero_add]; rfl
  have q1 := q20c (k := m + 1) (N := N) (by omega)
  have q2 := q21c (k := m + 1) (N := N) (by omega)
  rw [et, q1]
  have eg : ∀ t, F21 N (⟨[(⟨([83] : List UInt8).toArray⟩ : ByteArray)], [(⟨0, [(⟨1, 0, 0, 0, 0, 0⟩ : SymD)], (⟨([] : List UInt8).toArray⟩ : ByteArray), 0, false, false, (-1)⟩ : ProdD), (⟨0, [(⟨0, 0, 8589934592, 0, 0, 0⟩ : SymD)], (⟨([] : List UInt8).toArray⟩ : ByteArray), 0, false, false, (-1)⟩ : ProdD)], 0, [], []⟩ : GramD) t = F21 N gC t := fun _ => rfl
  rw [eg, q2]
  by_cases h4 : a > 16384
  ·rw [decide_eq_true h4, if_pos (show 16384 < m + 1 + 1 by omega), if_pos (show 16384 < m + 1 + 1 by omega)]
   simp only [bsm, cond_true, bytes_list, decide_eq_true (show b0 = (⟨([] : List UInt8).toArray⟩ : ByteArray) from rfl)]
   rfl
  ·rw [decide_eq_false h4, if_neg (show ¬ 16384 < m + 1 + 1 by omega), if_neg (show ¬ 16384 < m + 1 + 1 by omega), if_neg (show ¬ m + 1 = 0 by omega)]
   simp only [bsm, cond_false, bytes_list, decide_eq_true (show (⟨([97] : List UInt8).toArray⟩ : ByteArray) = (⟨([97] : List UInt8).toArray⟩ : ByteArray) from rfl)]
   rfl
 ·rw [decide_eq_false h3]
  simp only [cond_false]
  obtain rfl : a = 1 := by omega
  have hl : runL (fun s => L6_0_2 1 s.1 s.2.1 s.2.2.1 s.2.2.2) (2, (-1), 97, []) = some (.k0 (-1) 97 []) := runL_done rfl
  rw [hl]
  simp only [bsm]
  have et : TreeD.mk (-1) 97 [] = chain 0 := rfl
  have q1 := q20c (k := 0) (N := N) (by omega)
  have q2 := q21c (k := 0) (N := N) (by omega)
  rw [et, q1]
  have eg : ∀ t, F21 N (⟨[(⟨([83] : List UInt8).toArray⟩ : ByteArray)], [(⟨0, [(⟨1, 0, 0, 0, 0, 0⟩ : SymD)], (⟨([] : List UInt8).toArray⟩ : ByteArray), 0, false, false, (-1)⟩ : ProdD), (⟨0, [(⟨0, 0, 8589934592, 0, 0, 0⟩ : SymD)], (⟨([] : List UInt8).toArray⟩ : ByteArray), 0, false, false, (-1)⟩ : ProdD)], 0, [], []⟩ : GramD) t = F21 N gC t := fun _ => rfl
  rw [eg, q2]
  have e3 : ¬ 16384 < 0 + 1 := by omega
  rw [if_neg e3, if_neg e3, if_pos rfl]
  simp only [bsm, bytes_list, decide_eq_true (show (⟨([97] : List UInt8).toArray⟩ : ByteArray) = (⟨([97] : List UInt8).toArray⟩ : ByteArray) from rfl)]
  rfl
open Go Go.Vs Go.RowKit Go.ChangeShapes Go.ChangeAt
theorem table {W : World} (h : laidMetH prog [] W) : ∀ n xs, prg.gl n = some xs → n < W.heap.size ∧ PRs (fun c => c < W.heap.size) W n 0 xs := by
 intro n xs hx
 cases hx
theorem kids : Kids prog (· < prog.types.size) := kids_rows (by kernel_rfl) (by kernel_rfl)
theorem full : ∀ t e, t < prog.types.size → prog.underlying t = some (.slice e) → 0 < prog.cellsOf e := slices_full_of prog (by kernel_rfl)
theorem own : ownKnob prog.godebug = none := by kernel_rfl
noncomputable def laidWorld (os : Os) : World := World.holding prog os ⟨#[], #[], []⟩
theorem i64_ok {n : Int} (h : IntKind.i64.min ≤ n ∧ n ≤ IntKind.i64.max) : i64ok n := h
theorem sh3 : shOfT prog 40 3 = some [.int .i64] := by kernel_rfl
theorem ag3 : aggT prog 3 = some false := by kernel_rfl
set_option maxRecDepth 100000 in
theorem arg3 {a : AV} (h : ∃ ks xs, shOfT prog 40 3 = some ks ∧ FitL ks xs ∧ a = argA prog 3 xs) : ∃ n : Int, a = vi .i64 n ∧ i64ok n := by
 obtain ⟨ks, xs, hk, hf, e⟩ := h
 have h2 := Option.some.inj (sh3.symm.trans hk)
 rw [← h2] at hf
 match xs, hf with
 | [x], hf =>
  simp only [FitL, Fit] at hf
  obtain ⟨⟨n, rfl, hn⟩, _⟩ := hf
  refine ⟨n, ?_, i64_ok hn⟩
  rw [e]
  simp only [argA, ag3]
 | [], hf => simp [FitL] at hf
 | _ :: _ :: _, hf => simp [FitL] at hf
theorem deeps (n : Int) : CP prg 6 [vi .i64 n] [] = some (vb true) :=
 (F6_ok 40002 n (law6 n (by omega))).cp rfl []
end Go.Proofs.Try
