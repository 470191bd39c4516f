/- Whether a grammar may be: the program and the document's answer say the same. -/
import Derived.Test.YtefidjmkfefilaaDoorH72
import Derived.Test.YtefidjmkfefilaaDoorVE
open Option renaming some.injEq → oiq, bind_some → bsm
open Bool renaming and_eq_true → aet
open List renaming getElem?_eq_some_iff → gei, getElem?_eq_getElem → geg, mem_of_getElem? → mog, take_of_length_le → tol, getElem?_map → gmp, mem_cons_of_mem → mcm, mem_cons_self → mcf
namespace Go.Proofs.Tryd
set_option linter.unusedSimpArgs false
set_option linter.unusedVariables false
open Go Go.Vs
def u64ok (a : Int) : Prop := 0 ≤ a ∧ a ≤ 18446744073709551615
def i64ok (a : Int) : Prop := -9223372036854775808 ≤ a ∧ a ≤ 9223372036854775807
structure SymOk (s : SymD) : Prop where
 kind : i64ok s.kind
 a : u64ok s.a
 b : u64ok s.b
 c : u64ok s.c
 d : u64ok s.d
 sort : i64ok s.sort
structure ProdOk (p : ProdD) : Prop where
 left : i64ok p.left
 right : ∀ s ∈ p.right, SymOk s
 len : p.right.length ≤ 31
 role : i64ok p.role
structure GramOk (g : GramD) : Prop where
 sorts : g.sorts.length ≤ 40
 prods : g.prods.length ≤ 80
 forbid : g.forbid.length ≤ 200
 follow : g.follow.length ≤ 200
 prod : ∀ p ∈ g.prods, ProdOk p
 foll : ∀ f ∈ g.follow, u64ok f.a ∧ u64ok f.b ∧ u64ok f.c ∧ u64ok f.d
 forb : ∀ f ∈ g.forbid, i64ok f.at_
def inR (n : Nat) (x : Int) : Bool := decide (0 ≤ x) && decide (x < (n : Int))
def sortOk (g : GramD) (x : Int) : Bool := inR g.sorts.length x
def emptyW (a b c d : Int) : Bool := (a == 0) && ((b == 0) && ((c == 0) && ((d == 0) && true)))
def pk {α : Type} (l : List α) (f : α → Bool) (k : Nat) : Bool := match l[k]? with | some t => f t | none => true
def pv {α : Type} (l : List α) (f : α → Bool) (i : Nat) : Bool := (List.range i).all (pk l f)
def okName (g : GramD) (i : Nat) (s : ByteArray) : Bool := !decide (s = .empty) && !decide ((s.size : Int) > 1000) && pv g.sorts (fun t => !decide (t = s)) i
def okSym (g : GramD) (p : ProdD) (s : SymD) : Bool :=
 bif s.kind == 0 then !emptyW s.a s.b s.c s.d && (s.sort == 0) else bif s.kind == 1 then emptyW s.a s.b s.c s.d && sortOk g s.sort && !(p.role == 11) else false
def okProd (g : GramD) (p : ProdD) : Bool :=
 sortOk g p.left && !decide ((p.right.length : Int) > 30) && !decide (p.role < 0) && !decide (p.role > 11) && !decide (p.frm < -1) && !decide ((p.cons.size : Int) > 64) && (decide (p.cons = .empty) || (p.role == 0)) && !(p.prefer && p.avoid) && allF (fun _ s => okSym g p s) 0 p.right
theorem eqE (s : ByteArray) : (s.toList == (⟨([] : List UInt8).toArray⟩ : ByteArray).toList) = decide (s = .empty) := bytes_list
theorem bsome (c d : Bool) : (bif c then some d else some false) = some (c && d) := by cases c <;> rfl
theorem q73 (p : ProdD) (g : GramD) : F73 p g = some (sortOk g p.left) := bsome _ _
theorem q73_2 (s : SymD) (g : GramD) : F73_2 s g = some (sortOk g s.sort) := bsome _ _
theorem range_take {α : Type} (l : List α) (f : α → Bool) : ∀ (i : Nat), i ≤ l.length → pv l f i = (l.take i).all f
 | 0, _ => rfl
 | i + 1, h => by
  have hx : l[i]? = some l[i] := geg (by omega)
  have ih := range_take l f i (by omega)
  unfold pv at ih ⊢
  rw [List.range_succ, List.all_append, ih, List.take_add_one, hx, List.all_append]
  simp [pk, hx]
theorem beqF {a b : Int} (h : ¬ a = b) : (a == b) = false := by simp [h]
theorem bneT {a b : Int} (h : ¬ a = b) : (a != b) = true := by simp [h]
def okForb (g : GramD) (f : ForbD) : Bool :=
 match getI g.prods f.parent, getI g.prods f.child with
 | some p, some c => !(p.role == 11) && !(c.role == 11) && !decide (f.at_ < 1) && !decide (f.at_ > (p.right.length : Int)) && (match getI p.right (f.at_ - 1) with | some s => (s.kind == 1) && (s.sort == c.left) | none => false)
 | _, _ => false
theorem getI_none {α : Type} {l : List α} {i : Int} (h : i < 0 ∨ (l.length : Int) ≤ i) : getI l i = none := by
 unfold getI
 split
 ·rw [List.getElem?_eq_none (by omega)]
 ·rfl
theorem getI_in {α : Type} {l : List α} {i : Int} (h0 : ¬ i < 0) (h1 : ¬ (l.length : Int) ≤ i) : ∃ x, getI l i = some x := by
 unfold getI
 rw [if_pos (by omega)]
 exact ⟨_, geg (by omega)⟩
def eqFo (x y : ForbD) : Bool := (x.parent == y.parent) && ((x.at_ == y.at_) && ((x.child == y.child) && true))
def okForbI (g : GramD) (i : Nat) (f : ForbD) : Bool := okForb g f && pv g.forbid (fun t => !eqFo t f) i
def okFollI (g : GramD) (i : Nat) (f : FollD) : Bool := sortOk g f.sort && !emptyW f.a f.b f.c f.d && pv g.follow (fun t => !(t.sort == f.sort)) i
def okSorts (g : GramD) : Bool := !decide ((g.sorts.length : Int) < 1) && sortOk g g.start && allF (okName g) 0 g.sorts
def okProds (g : GramD) : Bool := allF (fun _ p => okProd g p) 0 g.prods
def okForbs (g : GramD) : Bool := allF (okForbI g) 0 g.forbid
def okFolls (g : GramD) : Bool := allF (okFollI g) 0 g.follow
def chkB (g : GramD) : Bool := okSorts g && okProds g && okForbs g && okFolls g
def chkN (g : GramD) : Int := bif chkB g then 0 else 160
theorem seen_inv {α K : Type} [DecidableEq K] {l : List α} {key : α → K} {m : List (K × Int)} {i : Nat} {x : α} (hx : l[i]? = some x) (hm : ∀ s, mget 0 m s = if (l.take i).any (fun t => decide (key t = s)) then 1 else 0) :
  mget 0 (mput (key x) (IntKind.wrap .i64 (mget 0 m (key x) + 1)) m) (key x) = (if (l.take i).any (fun t => decide (key t = key x)) then 2 else 1) ∧ ((l.take i).any (fun t => decide (key t = key x)) = false → ∀ s, mget 0 (mput (key x) (IntKind.wrap .i64 (mget 0 m (key x) + 1)) m) s = if (l.take (i + 1)).any (fun t => decide (key t = s)) then 1 else 0) := by
 constructor
 ·rw [mget_mput, if_pos rfl, hm (key x)]
  split <;> rfl
 ·intro hn s
  rw [mget_mput, hm (key x), hn, List.take_add_one, hx, List.any_append]
  by_cases e : s = key x
  ·subst e; simp; rfl
  ·rw [if_neg e, hm s]
   have : ¬ key x = s := fun h => e h.symm
   simp [this]
theorem dup_take {α : Type} {l : List α} {i : Nat} (f : α → Bool) (hi : i ≤ l.length) : pv l (fun t => !f t) i = !((l.take i).any f) := by
 rw [range_take l (fun t => !f t) i hi]
 induction l.take i with
 | nil => rfl
 | cons x xs ih => simp only [List.all_cons, List.any_cons, ih]; cases f x <;> simp
theorem q57 {g : GramD} (hg : GramOk g) : F57 g = some (okSorts g) := by
 have hn := hg.sorts
 have key := loop_chk (step := fun s => L57_0 g (g.sorts.length : Int) s.1 s.2) (l := g.sorts) (emb := fun i m => ((i : Int), m)) (okName g) (fun i m x => mput x (IntKind.wrap .i64 (mget 0 m x + 1)) m) E_L57_0.k0 E_L57_0.k1
  (fun i m => ∀ s, mget 0 m s = if (g.sorts.take i).any (fun t => decide (t = s)) then 1 else 0) (fun i x m hx hm => ?_) (fun m _ => ?_) g.sorts.length 0 [] (by omega) (by intro s; simp [mget, mfind])
 ·rw [List.drop_zero] at key
  unfold F57 okSorts
  have e : ((0 : Nat) : Int) = 0 := rfl
  simp only [e] at key
  cases hall : allF (okName g) 0 g.sorts with
  | true =>
   obtain ⟨b, hb, _⟩ := key.1 hall
   rw [hb]
   simp only [bsm, decide_eq_true (show (g.sorts.length : Int) ≤ 1000 by omega), cond_true, sortOk, inR]
   by_cases h1 : (g.sorts.length : Int) < 1
   ·simp [h1, show ¬ (g.sorts.length : Int) ≥ 1 by omega]
   ·rw [decide_eq_true (show (g.sorts.length : Int) ≥ 1 by omega), decide_eq_false h1]
    simp only [cond_true, Bool.not_false, Bool.true_and, Bool.and_true]
    exact bsome _ _
  | false =>
   rw [key.2 hall]
   simp
 ·have hl : i < g.sorts.length := (gei.1 hx).1
  obtain ⟨h1, h2⟩ := seen_inv (key := fun t => t) hx hm
  have hd := dup_take (l := g.sorts) (i := i) (fun t => decide (t = x)) (by omega)
  simp only [L57_0, getI_nat, hx, bsm, decide_eq_true (show (i : Int) < (g.sorts.length : Int) by omega), cond_true, eqE, h1, w_S (show i < 4611686018427387904 by omega), okName, hd]
  cases decide (x = ByteArray.empty) <;> cases decide ((x.size : Int) > 1000) <;> cases hxm : (g.sorts.take i).any (fun t => decide (t = x)) <;> simp
  exact h2 hxm
 ·simp [L57_0]
theorem l58_0 {g : GramD} {p : ProdD} (hp : ProdOk p) : runL (fun s => L58_0 g p (p.right.length : Int) s) 0 = some (bif allF (fun _ s => okSym g p s) 0 p.right then E_L58_0.k1 else E_L58_0.k0) := by
 have hlen := hp.len
 refine loop_list (fun _ s => okSym g p s) (fun i x hx => ?_) ?_
 ·have hl : i < p.right.length := (gei.1 hx).1
  have he : ((x.a == 0) && ((x.b == 0) && ((x.c == 0) && ((x.d == 0) && true)))) = emptyW x.a x.b x.c x.d := rfl
  simp only [L58_0, getI_nat, hx, bsm, decide_eq_true (show (i : Int) < (p.right.length : Int) by omega), cond_true, q73_2, w_S (show i < 4611686018427387904 by omega), okSym, he]
  by_cases k0 : x.kind = 0
  ·rw [k0]
   cases emptyW x.a x.b x.c x.d <;> by_cases hz : x.sort = 0 <;> first | (simp [hz]; done) | simp [beqF hz, bneT hz]
  ·by_cases k1 : x.kind = 1
   ·rw [k1]
    cases emptyW x.a x.b x.c x.d <;> cases sortOk g x.sort <;> by_cases hr : p.role = 11 <;> first | (simp [hr]; done) | simp [beqF hr]
   ·simp [beqF k0, beqF k1, bneT k0, bneT k1]
 ·simp [L58_0]
theorem q58 {g : GramD} (hg : GramOk g) : F58 g = some (okProds g) := by
 have hlen := hg.prods
 have key : runL (fun s => L58_1 g (g.prods.length : Int) s) 0 = some (bif allF (fun _ p => okProd g p) 0 g.prods then E_L58_1.k1 else E_L58_1.k0) := by
  refine loop_list (fun _ p => okProd g p) (fun i p hx => ?_) ?_
  ·have hl : i < g.prods.length := (gei.1 hx).1
   have hp := hg.prod p (mog hx)
   simp only [L58_1, getI_nat, hx, bsm, decide_eq_true (show (i : Int) < (g.prods.length : Int) by omega), cond_true, q73, l58_0 hp, eqE, w_S (show i < 4611686018427387904 by omega), okProd]
   cases sortOk g p.left <;> simp only [cond_true, cond_false, Bool.false_and, Bool.true_and]
   cases decide ((p.right.length : Int) > 30) <;> simp only [cond_true, cond_false, Bool.false_and, Bool.true_and, Bool.not_true, Bool.not_false]
   cases decide (p.role < 0) <;> simp only [cond_true, cond_false, Bool.false_and, Bool.true_and, Bool.not_true, Bool.not_false]
   cases decide (p.role > 11) <;> simp only [cond_true, cond_false, Bool.false_and, Bool.true_and, Bool.not_true, Bool.not_false]
   cases decide (p.frm < -1) <;> simp only [cond_true, cond_false, Bool.false_and, Bool.true_and, Bool.not_true, Bool.not_false]
   cases decide ((p.cons.size : Int) > 64) <;> simp only [cond_true, cond_false, Bool.false_and, Bool.true_and, Bool.not_true, Bool.not_false]
   cases decide (p.cons = ByteArray.empty) <;> by_cases hr : p.role = 0 <;> cases p.prefer <;> cases p.avoid <;> cases allF (fun _ s => okSym g p s) 0 p.right <;> first | (simp [hr]; done) | simp [beqF hr, bneT hr]
  ·simp [L58_1]
 unfold F58 okProds
 rw [key]
 cases allF (fun _ p => okProd g p) 0 g.prods
 ·rfl
 ·simp only [cond_true, bsm, decide_eq_true (show (g.prods.length : Int) ≤ 1000 by omega)]
theorem eqFo_key (t f : ForbD) : eqFo t f = decide ((t.parent, t.at_, t.child) = (f.parent, f.at_, f.child)) := by
 unfold eqFo
 by_cases h1 : t.parent = f.parent
 ·by_cases h2 : t.at_ = f.at_
  ·by_cases h3 : t.child = f.child
   ·simp [h1, h2, h3]
   ·simp [h1, h2, h3, beqF h3]
  ·simp [h1, h2, beqF h2]
 ·simp [h1, beqF h1]
theorem q59 {g : GramD} (hg : GramOk g) : F59 g = some (okForbs g) := by
 have hn := hg.forbid
 have key := loop_chk (step := fun s => L59_0 g (g.forbid.length : Int) s.1 s.2) (l := g.forbid) (emb := fun i m => ((i : Int), m)) (okForbI g)
  (fun i m x => mput (x.parent, x.at_, x.child) (IntKind.wrap .i64 (mget 0 m (x.parent, x.at_, x.child) + 1)) m) E_L59_0.k0 E_L59_0.k1
  (fun i m => ∀ s, mget 0 m s = if (g.forbid.take i).any (fun t => decide ((t.parent, t.at_, t.child) = s)) then 1 else 0) (fun i f m hx hm => ?_) (fun m _ => ?_) g.forbid.length 0 [] (by omega) (by intro s; simp [mget, mfind])
 ·rw [List.drop_zero] at key
  have e : ((0 : Nat) : Int) = 0 := rfl
  simp only [e] at key
  unfold F59 okForbs
  cases hall : allF (okForbI g) 0 g.forbid with
  | true => obtain ⟨b, hb, _⟩ := key.1 hall; rw [hb]; rfl
  | false => rw [key.2 hall]; rfl
 ·have hl : i < g.forbid.length := (gei.1 hx).1
  have hat := hg.forb f (mog hx)
  unfold i64ok at hat
  obtain ⟨h1, h2⟩ := seen_inv (key := fun t : ForbD => (t.parent, t.at_, t.child)) hx hm
  have hd := dup_take (l := g.forbid) (i := i) (fun t => eqFo t f) (by omega)
  simp only [eqFo_key] at hd
  skip
  have hok : okForbI g i f = (okForb g f && !(g.forbid.take i).any (fun t => decide ((t.parent, t.at_, t.child) = (f.parent, f.at_, f.child)))) := by
   unfold okForbI
   simp only [eqFo_key]
   rw [hd]
  rw [hok]
  simp only [L59_0, getI_nat, hx, bsm, decide_eq_true (show (i : Int) < (g.forbid.length : Int) by omega), cond_true, h1, w_S (show i < 4611686018427387904 by omega)]
  cases hxm : (g.forbid.take i).any (fun t => decide ((t.parent, t.at_, t.child) = (f.parent, f.at_, f.child))) with
  | true => simp
  | false =>
   have h2 := h2 hxm
   simp only [Bool.not_false, Bool.and_true, Bool.false_eq_true, if_false, show decide ((1 : Int) > 1) = false from rfl, cond_false]
   have e73 : F74 f g = match getI g.prods f.parent with | some p => some (p.role != 11) | none => some false := by
    unfold F74
    by_cases a1 : f.parent < 0
    ·simp [getI_none (l := g.prods) (.inl a1), show ¬ f.parent ≥ 0 by omega]
    ·by_cases a2 : (g.prods.length : Int) ≤ f.parent
     ·simp [getI_none (l := g.prods) (.inr a2), show ¬ f.parent < (g.prods.length : Int) by omega]
     ·obtain ⟨p, hp⟩ := getI_in a1 a2
      simp [hp, show f.parent ≥ 0 by omega, show f.parent < (g.prods.length : Int) by omega]
   have e74 : F74_2 f g = match getI g.prods f.child with | some p => some (p.role != 11) | none => some false := by
    unfold F74_2
    by_cases a1 : f.child < 0
    ·simp [getI_none (l := g.prods) (.inl a1), show ¬ f.child ≥ 0 by omega]
    ·by_cases a2 : (g.prods.length : Int) ≤ f.child
     ·simp [getI_none (l := g.prods) (.inr a2), show ¬ f.child < (g.prods.length : Int) by omega]
     ·obtain ⟨p, hp⟩ := getI_in a1 a2
      simp [hp, show f.child ≥ 0 by omega, show f.child < (g.prods.length : Int) by omega]
   rw [e73, e74]
   unfold okForb
   cases hp : getI g.prods f.parent with
   | none => simp
   | some p =>
    cases hc : getI g.prods f.child with
    | none => by_cases r1 : p.role = 11 <;> first | (simp [r1]; done) | simp [bneT r1, beqF r1]
    | some c =>
     simp only [bsm]
     by_cases r1 : p.role = 11
     ·simp [r1]
     by_cases r2 : c.role = 11
     ·simp [bneT r1, beqF r1, r2]
     by_cases r3 : f.at_ < 1
     ·simp [bneT r1, beqF r1, bneT r2, beqF r2, r3]
     by_cases r4 : f.at_ > (p.right.length : Int)
     ·simp [bneT r1, beqF r1, bneT r2, beqF r2, r3, r4]
     rw [w_id (by omega)]
     obtain ⟨s, hs⟩ := getI_in (l := p.right) (i := f.at_ - 1) (by omega) (by omega)
     simp only [hs, bsm, bneT r1, beqF r1, bneT r2, beqF r2, decide_eq_false r3, decide_eq_false r4, cond_true, cond_false, Bool.not_false, Bool.true_and]
     by_cases r5 : s.kind = 1
     ·by_cases r6 : s.sort = c.left
      ·simpa [r5, r6] using h2
      ·simp [r5, bneT r6, beqF r6]
     ·simp [bneT r5, beqF r5]
 ·simp [L59_0]
theorem q60 {g : GramD} (hg : GramOk g) : F60 g = some (okFolls g) := by
 have hn := hg.follow
 have key := loop_chk (step := fun s => L60_0 g (g.follow.length : Int) s.1 s.2) (l := g.follow) (emb := fun i m => ((i : Int), m)) (okFollI g)
  (fun i m x => mput x.sort (IntKind.wrap .i64 (mget 0 m x.sort + 1)) m) E_L60_0.k0 E_L60_0.k1
  (fun i m => ∀ s, mget 0 m s = if (g.follow.take i).any (fun t => decide (t.sort = s)) then 1 else 0) (fun i f m hx hm => ?_) (fun m _ => ?_) g.follow.length 0 [] (by omega) (by intro s; simp [mget, mfind])
 ·rw [List.drop_zero] at key
  have e : ((0 : Nat) : Int) = 0 := rfl
  simp only [e] at key
  unfold F60 okFolls
  cases hall : allF (okFollI g) 0 g.follow with
  | true => obtain ⟨b, hb, _⟩ := key.1 hall; rw [hb]; rfl
  | false => rw [key.2 hall]; rfl
 ·have hl : i < g.follow.length := (gei.1 hx).1
  obtain ⟨h1, h2⟩ := seen_inv (key := fun t : FollD => t.sort) hx hm
  have hd := dup_take (l := g.follow) (i := i) (fun t => t.sort == f.sort) (by omega)
  have hbeq : (g.follow.take i).any (fun t => t.sort == f.sort) = (g.follow.take i).any (fun t => decide (t.sort = f.sort)) := by
   congr 1
  rw [hbeq] at hd
  skip
  have he : ((f.a == 0) && ((f.b == 0) && ((f.c == 0) && ((f.d == 0) && true)))) = emptyW f.a f.b f.c f.d := rfl
  simp only [L60_0, getI_nat, hx, bsm, decide_eq_true (show (i : Int) < (g.follow.length : Int) by omega), cond_true, h1, w_S (show i < 4611686018427387904 by omega), okFollI, hd, he, sortOk, inR]
  cases hxm : (g.follow.take i).any (fun t => decide (t.sort = f.sort)) with
  | true => simp
  | false =>
   have h2 := h2 hxm
   by_cases a1 : f.sort < 0
   ·simp [a1, show ¬ 0 ≤ f.sort by omega]
   by_cases a2 : (g.sorts.length : Int) ≤ f.sort
   ·simp [a1, a2, show ¬ f.sort < (g.sorts.length : Int) by omega]
   cases emptyW f.a f.b f.c f.d
   ·simpa [a1, a2, show 0 ≤ f.sort by omega, show f.sort < (g.sorts.length : Int) by omega] using h2
   ·simp [a1, a2]
 ·simp [L60_0]
theorem q29 {g : GramD} (hg : GramOk g) : F29 g = some (chkN g) := by
 have key : runL (fun s => L29_0 g s) 0 = some (bif (List.range 4).all (fun i => match i with | 0 => okSorts g | 1 => okProds g | 2 => okForbs g | _ => okFolls g) then E_L29_0.k1 else E_L29_0.k0) := by
  refine loop_range (n := 4) _ (fun i hi => ?_) ?_
  ·match i, hi with
   | 0, _ => simp only [L29_0, q57 hg, bsm]; cases okSorts g <;> rfl
   | 1, _ => simp only [L29_0, q58 hg, bsm]; cases okProds g <;> rfl
   | 2, _ => simp only [L29_0, q59 hg, bsm]; cases okForbs g <;> rfl
   | 3, _ => simp only [L29_0, q60 hg, bsm]; cases okFolls g <;> rfl
   | n + 4, h => omega
  ·rfl
 unfold F29 chkN chkB
 rw [key]
 show (some (bif (okSorts g && (okProds g && (okForbs g && (okFolls g && true)))) then E_L29_0.k1 else E_L29_0.k0)).bind _ = _
 cases okSorts g <;> cases okProds g <;> cases okForbs g <;> cases okFolls g <;> rfl
structure SymV (n : Nat) (s : SymD) : Prop where
 k : s.kind = 0 ∨ s.kind = 1
 set : s.kind = 0 → emptyW s.a s.b s.c s.d = false
 sort : s.kind = 1 → 0 ≤ s.sort ∧ s.sort < n
structure ProdV (n : Nat) (p : ProdD) : Prop where
 left : 0 ≤ p.left ∧ p.left < n
 right : ∀ s ∈ p.right, SymV n s
 len : p.right.length ≤ 30
structure GramV (g : GramD) : Prop where
 n : 1 ≤ g.sorts.length
 prod : ∀ p ∈ g.prods, ProdV g.sorts.length p
 start : 0 ≤ g.start ∧ g.start < g.sorts.length
theorem val_of {g : GramD} (h : chkB g = true) : GramV g := by
 unfold chkB okSorts okProds at h
 simp only [aet, Bool.not_eq_true', decide_eq_false_iff_not] at h
 obtain ⟨⟨⟨⟨⟨h1, h3⟩, _⟩, h2⟩, _⟩, _⟩ := h
 unfold sortOk inR at h3
 simp only [aet, decide_eq_true_eq] at h3
 refine ⟨by omega, fun p hp => ?_, h3⟩
 obtain ⟨k, hk⟩ := List.getElem?_of_mem hp
 have hp2 := (allF_iff _ _).1 h2 k p hk
 unfold okProd at hp2
 simp only [aet, Bool.not_eq_true', decide_eq_false_iff_not] at hp2
 obtain ⟨⟨⟨⟨⟨⟨⟨⟨q1, q2⟩, _⟩, _⟩, _⟩, _⟩, _⟩, _⟩, q3⟩ := hp2
 refine ⟨?_, fun s hs => ?_, by omega⟩
 ·unfold sortOk inR at q1
  simp only [aet, decide_eq_true_eq] at q1
  exact q1
 ·obtain ⟨j, hj⟩ := List.getElem?_of_mem hs
  have hs2 := (allF_iff _ _).1 q3 j s hj
  unfold okSym at hs2
  by_cases k0 : s.kind = 0
  ·rw [k0] at hs2
   simp only [beq_self_eq_true, cond_true, aet, Bool.not_eq_true'] at hs2
   exact ⟨.inl k0, fun _ => hs2.1, fun e => by rw [k0] at e; cases e⟩
  ·by_cases k1 : s.kind = 1
   ·rw [k1] at hs2
    have : ((1 : Int) == 0) = false := rfl
    simp only [this, cond_false, beq_self_eq_true, cond_true, aet, sortOk, inR, decide_eq_true_eq] at hs2
    exact ⟨.inr k1, fun e => absurd e k0, fun _ => hs2.1.2⟩
   ·rw [beqF k0, beqF k1] at hs2
    cases hs2
def symS (sh : List Int) (s : SymD) : Int := bif s.kind == 1 then (sh[s.sort.toNat]?).getD 0 else 1
def sumS (sh : List Int) : Int → List SymD → Int
 | n, [] => n
 | n, s :: r => bif decide (symS sh s < 0) then -1 else sumS sh (if 1048577 < n + symS sh s then 1048577 else n + symS sh s) r
structure ShOk (n : Nat) (sh : List Int) : Prop where
 len : sh.length = n
 v : ∀ v ∈ sh, -1 ≤ v ∧ v ≤ 1048577
theorem symS_b {n : Nat} {sh : List Int} (hs : ShOk n sh) (s : SymD) : -1 ≤ symS sh s ∧ symS sh s ≤ 1048577 := by
 unfold symS
 cases s.kind == 1
 ·simp
 ·simp only [cond_true]
  cases h : sh[s.sort.toNat]? with
  | none => simp
  | some v => exact hs.v v (mog h)
theorem sumS_b {n : Nat} {sh : List Int} (hs : ShOk n sh) : ∀ (r : List SymD) (a : Int), 0 ≤ a ∧ a ≤ 1048577 → -1 ≤ sumS sh a r ∧ sumS sh a r ≤ 1048577
 | [], a, h => by simp only [sumS]; omega
 | s :: r, a, h => by
  have hb := symS_b hs s
  simp only [sumS]
  by_cases hk : symS sh s < 0
  ·rw [decide_eq_true hk]; simp
  ·rw [decide_eq_false hk]
   simp only [cond_false]
   refine sumS_b hs r _ ?_
   split <;> omega
theorem l50_go {n : Nat} {sh : List Int} (hs : ShOk n sh) {p : ProdD} (hr : ∀ s ∈ p.right, SymV n s) (hl : p.right.length ≤ 31) : ∀ (k i : Nat) (a : Int), i + k = p.right.length → 0 ≤ a ∧ a ≤ 1048577 →
  ∃ e, runL (fun s => L48_0 sh p (p.right.length : Int) s.1 s.2) (a, (i : Int)) = some e ∧ (match e with | .k0 => (-1 : Int) | .k1 x => x) = sumS sh a (p.right.drop i)
 | 0, i, a, hi, ha => by
  obtain rfl : i = p.right.length := by omega
  refine ⟨.k1 a, runL_done (by simp [L48_0]), ?_⟩
  rw [List.drop_length]; rfl
 | k + 1, i, a, hi, ha => by
  have hx : p.right[i]? = some p.right[i] := geg (by omega)
  have hd : p.right.drop i = p.right[i] :: p.right.drop (i + 1) := (List.drop_eq_getElem_cons (by omega))
  have hv := hr p.right[i] (List.getElem_mem _)
  have hb := symS_b hs p.right[i]
  rw [hd]
  simp only [sumS]
  have hstep : L48_0 sh p (p.right.length : Int) a (i : Int) = some (bif decide (symS sh p.right[i] < 0) then .inl .k0 else .inr ((if 1048577 < a + symS sh p.right[i] then 1048577 else a + symS sh p.right[i]), ((i + 1 : Nat) : Int))) := by
   simp only [L48_0, getI_nat, hx, bsm, decide_eq_true (show (i : Int) < (p.right.length : Int) by omega), cond_true, w_S (show i < 4611686018427387904 by omega)]
   rcases hv.k with k0 | k1
   ·have : symS sh p.right[i] = 1 := by unfold symS; rw [k0]; rfl
    rw [this, k0, w_id (by omega)]
    rfl
   ·obtain ⟨h1, h2⟩ := hv.sort k1
    obtain ⟨v, hg⟩ : ∃ v, sh[p.right[i].sort.toNat]? = some v := ⟨sh[p.right[i].sort.toNat]'(by have := hs.len; omega), geg _⟩
    have hgi : getI sh p.right[i].sort = some v := getI_some.2 ⟨h1, hg⟩
    have : symS sh p.right[i] = v := by unfold symS; rw [k1, hg]; rfl
    rw [← this] at hgi
    have hw : IntKind.wrap .i64 (a + symS sh p.right[i]) = a + symS sh p.right[i] := w_id (by omega)
    rw [k1, hgi]
    simp only [beq_self_eq_true, cond_true, bsm, hw]
    cases decide (symS sh p.right[i] < 0) <;> rfl
  by_cases hk : symS sh p.right[i] < 0
  ·rw [decide_eq_true hk] at hstep ⊢
   exact ⟨.k0, runL_done hstep, rfl⟩
  ·rw [decide_eq_false hk] at hstep ⊢
   rw [runL_next hstep]
   exact l50_go hs hr hl k (i + 1) _ (by omega) (by split <;> omega)
theorem q48 {n : Nat} {sh : List Int} (hs : ShOk n sh) {p : ProdD} (hr : ∀ s ∈ p.right, SymV n s) (hl : p.right.length ≤ 31) : F48 sh p = some (sumS sh 0 p.right) := by
 obtain ⟨e, h1, h2⟩ := l50_go hs hr hl p.right.length 0 0 (by omega) (by omega)
 rw [List.drop_zero] at h2
 unfold F48
 rw [← h2]
 have e0 : ((0 : Nat) : Int) = 0 := rfl
 rw [e0] at h1
 rw [h1]
 cases e <;> rfl
def old (sh : List Int) (p : ProdD) : Int := (sh[p.left.toNat]?).getD 0
def upd (sh : List Int) (p : ProdD) : Bool × List Int :=
 bif (p.role != 11) && (decide (0 ≤ sumS sh 0 p.right) && (decide (old sh p < 0) || decide (sumS sh 0 p.right < old sh p))) then (true, sh.set p.left.toNat (sumS sh 0 p.right)) else (false, sh)
def swp : List ProdD → Bool → List Int → Bool × List Int
 | [], b, sh => (b, sh)
 | p :: ps, b, sh => swp ps (b || (upd sh p).1) (upd sh p).2
def nulOf (sh : List Int) : List Bool := sh.map fun v => v == 0
def mu1 (v : Int) : Nat := bif decide (v < 0) then 1048578 else v.toNat
def mu (sh : List Int) : Nat := (sh.map mu1).sum
theorem sum_set {l : List Nat} : ∀ (k : Nat) (x y : Nat), l[k]? = some y → (l.set k x).sum + y = l.sum + x := by
 induction l with
 | nil => intro k x y h; simp at h
 | cons a l ih =>
  intro k x y h
  cases k with
  | zero => simp at h; subst h; simp [Nat.add_comm, Nat.add_left_comm]; 
  | succ k =>
   simp only [List.set_cons_succ, List.sum_cons]
   have := ih k x y (by simpa using h)
   omega
section
variable {n : Nat} {sh : List Int} {p : ProdD}
theorem old_get (hs : ShOk n sh) (hp : ProdV n p) : sh[p.left.toNat]? = some (old sh p) := by
 have h := hs.len
 have h2 := hp.left
 have : sh[p.left.toNat]? = some (sh[p.left.toNat]'(by omega)) := geg _
 unfold old
 rw [this]
 rfl
theorem upd_ok (hs : ShOk n sh) (hp : ProdV n p) : ShOk n (upd sh p).2 := by
 unfold upd
 cases (p.role != 11) && (decide (0 ≤ sumS sh 0 p.right) && (decide (old sh p < 0) || decide (sumS sh 0 p.right < old sh p)))
 ·exact hs
 ·refine ⟨by simpa using hs.len, fun v hv => ?_⟩
  rcases List.mem_or_eq_of_mem_set hv with h | h
  ·exact hs.v v h
  ·rw [h]; exact sumS_b hs p.right 0 (by omega)
theorem upd_mu (hs : ShOk n sh) (hp : ProdV n p) : ((upd sh p).1 = true → mu (upd sh p).2 < mu sh) ∧ ((upd sh p).1 = false → (upd sh p).2 = sh) := by
 unfold upd
 cases hc : (p.role != 11) && (decide (0 ≤ sumS sh 0 p.right) && (decide (old sh p < 0) || decide (sumS sh 0 p.right < old sh p)))
 ·exact ⟨fun h => by simp at h, fun _ => rfl⟩
 ·refine ⟨fun _ => ?_, fun h => by simp at h⟩
  simp only [cond_true]
  simp only [aet, Bool.or_eq_true, decide_eq_true_eq] at hc
  obtain ⟨_, h0, h1⟩ := hc
  have hg := old_get hs hp
  have hb := sumS_b hs p.right 0 (by omega)
  have hv := hs.v _ (mog hg)
  have := sum_set (l := sh.map mu1) p.left.toNat (mu1 (sumS sh 0 p.right)) (mu1 (old sh p)) (by rw [gmp, hg]; rfl)
  unfold mu
  rw [List.map_set]
  have hlt : mu1 (sumS sh 0 p.right) < mu1 (old sh p) := by
   unfold mu1
   rw [decide_eq_false (by omega : ¬ sumS sh 0 p.right < 0)]
   by_cases hh : old sh p < 0
   ·rw [decide_eq_true hh]; simp only [cond_false, cond_true]; omega
   ·rw [decide_eq_false hh]; simp only [cond_false]; omega
  omega
end
theorem swp_ok {n : Nat} : ∀ (ps : List ProdD) (b : Bool) (sh : List Int), (∀ p ∈ ps, ProdV n p) → ShOk n sh → ShOk n (swp ps b sh).2
 | [], b, sh, _, hs => hs
 | p :: ps, b, sh, hp, hs => swp_ok ps _ _ (fun q hq => hp q (mcm _ hq)) (upd_ok hs (hp p (mcf ..)))
theorem swp_mu {n : Nat} : ∀ (ps : List ProdD) (b : Bool) (sh : List Int), (∀ p ∈ ps, ProdV n p) → ShOk n sh → mu (swp ps b sh).2 ≤ mu sh ∧ ((swp ps b sh).1 = true → b = true ∨ mu (swp ps b sh).2 < mu sh) ∧ ((swp ps b sh).1 = false → b = false ∧ (swp ps b sh).2 = sh)
 | [], b, sh, _, hs => ⟨Nat.le_refl _, fun h => .inl h, fun h => ⟨h, rfl⟩⟩
 | p :: ps, b, sh, hp, hs => by
  have hpp := hp p (mcf ..)
  obtain ⟨u1, u2⟩ := upd_mu hs hpp
  obtain ⟨h1, h2, h3⟩ := swp_mu ps (b || (upd sh p).1) (upd sh p).2 (fun q hq => hp q (mcm _ hq)) (upd_ok hs hpp)
  simp only [swp]
  cases hu : (upd sh p).1 with
  | true =>
   have := u1 hu
   rw [hu] at h1 h2 h3
   refine ⟨by omega, fun _ => .inr (by omega), fun h => ?_⟩
   have := (h3 h).1
   simp at this
  | false =>
   have := u2 hu
   rw [hu, this, Bool.or_false] at h1 h2 h3
   rw [this, Bool.or_false]
   exact ⟨h1, h2, h3⟩
theorem swp_Q {n : Nat} {Q : List Int → Prop} {all : List ProdD} (hQ : ∀ s p, p ∈ all → ShOk n s → Q s → Q (upd s p).2) (hall : ∀ p ∈ all, ProdV n p) : ∀ (ps : List ProdD) (b : Bool) (sh : List Int), (∀ p ∈ ps, p ∈ all) → ShOk n sh → Q sh → Q (swp ps b sh).2
 | [], b, sh, _, _, h => h
 | p :: ps, b, sh, hp, hs, h => swp_Q hQ hall ps _ _ (fun q hq => hp q (mcm _ hq)) (upd_ok hs (hall p (hp p (mcf ..)))) (hQ sh p (hp p (mcf ..)) hs h)
section
variable {g : GramD} {n : Nat}
theorem q69 {p : ProdD} {sh : List Int} (hs : ShOk n sh) (hpv : ProdV n p) (hr : (p.role != 11) = true) : F69 p sh (nulOf sh) n = some (.k0 (upd sh p).1 (upd sh p).2 (nulOf (upd sh p).2)) := by
 have hlen := hpv.len
 have ht : sh.take n = sh := tol (by rw [hs.len]; exact Nat.le_refl _)
 have hle : decide (n ≤ sh.length) = true := decide_eq_true (by rw [hs.len]; exact Nat.le_refl _)
 have hle2 : decide (n ≤ (nulOf sh).length) = true := decide_eq_true (by unfold nulOf; rw [List.length_map, hs.len]; exact Nat.le_refl _)
 have hix : ixN n p.left = some p.left.toNat := ixN_some.2 ⟨by have := hpv.left; omega, by have := hpv.left; omega⟩
 have hnul : (nulOf sh)[p.left.toNat]? = some (old sh p == 0) := by unfold nulOf; rw [gmp, old_get hs hpv]; rfl
 have hset : (nulOf sh).set p.left.toNat (sumS sh 0 p.right == 0) = nulOf (sh.set p.left.toNat (sumS sh 0 p.right)) := by unfold nulOf; rw [List.map_set]
 simp only [F69, hle, hle2, ht, cond_true, q48 hs hpv.right (show p.right.length ≤ 31 by omega), bsm, hix, old_get hs hpv, hnul, hset, upd, hr, Bool.true_and]
 by_cases h0 : sumS sh 0 p.right < 0
 ·rw [decide_eq_true h0, decide_eq_false (show ¬ 0 ≤ sumS sh 0 p.right by omega)]
  simp
 ·rw [decide_eq_false h0, decide_eq_true (show 0 ≤ sumS sh 0 p.right by omega)]
  by_cases h1 : old sh p < 0
  ·rw [decide_eq_true h1, decide_eq_false (show ¬ old sh p ≥ 0 by omega)]
   simp
  ·rw [decide_eq_false h1, decide_eq_true (show old sh p ≥ 0 by omega)]
   by_cases h2 : sumS sh 0 p.right < old sh p
   ·rw [decide_eq_true h2, decide_eq_false (show ¬ old sh p ≤ sumS sh 0 p.right by omega)]
    simp
   ·rw [decide_eq_false h2, decide_eq_true (show old sh p ≤ sumS sh 0 p.right by omega)]
    simp
theorem l46_0 (hg : GramOk g) (hv : GramV g) (hn : n = g.sorts.length) : ∀ (k i : Nat) (b : Bool) (sh : List Int), i + k = g.prods.length → ShOk n sh →
  runL (fun s => L46_0 g (g.prods.length : Int) n s.1 s.2.1 s.2.2.1 s.2.2.2) (b, (i : Int), sh, nulOf sh) = some (.k0 (swp (g.prods.drop i) b sh).1 (swp (g.prods.drop i) b sh).2 (nulOf (swp (g.prods.drop i) b sh).2))
 | 0, i, b, sh, hi, hs => by
  obtain rfl : i = g.prods.length := by omega
  rw [List.drop_length]
  exact runL_done (by simp [L46_0, swp])
 | k + 1, i, b, sh, hi, hs => by
  have hgp := hg.prods
  have hx : g.prods[i]? = some g.prods[i] := geg (by omega)
  have hd : g.prods.drop i = g.prods[i] :: g.prods.drop (i + 1) := (List.drop_eq_getElem_cons (by omega))
  generalize hp : g.prods[i] = p at hx hd
  have hmem : p ∈ g.prods := mog hx
  have hpv : ProdV n p := by rw [hn]; exact hv.prod p hmem
  rw [hd]
  simp only [swp]
  have hstep : L46_0 g (g.prods.length : Int) n b (i : Int) sh (nulOf sh) = some (.inr (b || (upd sh p).1, ((i + 1 : Nat) : Int), (upd sh p).2, nulOf (upd sh p).2)) := by
   simp only [L46_0, getI_nat, hx, bsm, decide_eq_true (show (i : Int) < (g.prods.length : Int) by omega), cond_true, F54, w_S (show i < 4611686018427387904 by omega)]
   cases hr : p.role != 11 with
   | false => simp [upd, hr]
   | true =>
    simp only [cond_true, q69 hs hpv hr, bsm]
    cases (upd sh p).1 <;> simp
  rw [runL_next hstep]
  exact l46_0 hg hv hn k (i + 1) _ _ (by omega) (upd_ok hs hpv)
theorem fix (hg : GramOk g) (hv : GramV g) (hn : n = g.sorts.length) : ∀ (m : Nat) (sh : List Int), mu sh ≤ m → ShOk n sh →
  ∃ sh', ShOk n sh' ∧ runL (fun s => L46_1 g n s.1 s.2) (sh, nulOf sh) = some (.k0 sh' (nulOf sh')) ∧ swp g.prods false sh' = (false, sh') ∧
   ∀ Q : List Int → Prop, (∀ s p, p ∈ g.prods → ShOk n s → Q s → Q (upd s p).2) → Q sh → Q sh' := by
 intro m
 induction m with
 | zero =>
  intro sh hm hs
  have hps : ∀ p ∈ g.prods, ProdV n p := fun p hp => by rw [hn]; exact hv.prod p hp
  obtain ⟨h1, h2, h3⟩ := swp_mu g.prods false sh hps hs
  have hf : (swp g.prods false sh).1 = false := by
   cases h : (swp g.prods false sh).1 with
   | false => rfl
   | true => rcases h2 h with h | h; cases h; omega
  obtain ⟨_, he⟩ := h3 hf
  have e0 : ((0 : Nat) : Int) = 0 := rfl
  have q2 := l46_0 hg hv hn g.prods.length 0 false sh (by omega) hs
  rw [List.drop_zero, hf, he, e0] at q2
  refine ⟨sh, hs, ?_, Prod.ext hf he, fun Q _ h => h⟩
  ·exact runL_done (by simp only [L46_1, q2, bsm, cond_false])
 | succ m ih =>
  intro sh hm hs
  have hps : ∀ p ∈ g.prods, ProdV n p := fun p hp => by rw [hn]; exact hv.prod p hp
  obtain ⟨h1, h2, h3⟩ := swp_mu g.prods false sh hps hs
  have e0 : ((0 : Nat) : Int) = 0 := rfl
  have q2 := l46_0 hg hv hn g.prods.length 0 false sh (by omega) hs
  cases hf : (swp g.prods false sh).1 with
  | false =>
   obtain ⟨_, he⟩ := h3 hf
   rw [List.drop_zero, hf, he, e0] at q2
   refine ⟨sh, hs, ?_, Prod.ext hf he, fun Q _ h => h⟩
   ·exact runL_done (by simp only [L46_1, q2, bsm, cond_false])
  | true =>
   have hlt : mu (swp g.prods false sh).2 < mu sh := by rcases h2 hf with h | h; cases h; exact h
   obtain ⟨sh', k1, k3, k4, k5⟩ := ih (swp g.prods false sh).2 (by omega) (swp_ok g.prods false sh hps hs)
   rw [List.drop_zero, hf, e0] at q2
   refine ⟨sh', k1, ?_, k4, fun Q hQ h => k5 Q hQ (swp_Q hQ hps g.prods false sh (fun p hp => hp) hs h)⟩
   ·rw [runL_next (s' := ((swp g.prods false sh).2, nulOf (swp g.prods false sh).2)) (by simp only [L46_1, q2, bsm, cond_true])]
    exact k3
theorem l45_0 (hn : n ≤ 40) : ∀ (k i : Nat), i + k = n → runL (fun s => L45_0 (n : Int) n s.1 s.2) ((i : Int), List.replicate i (-1) ++ List.replicate k 0) = some (.k0 (List.replicate n (-1)))
 | 0, i, hi => by
  obtain rfl : i = n := by omega
  simp only [List.replicate_zero, List.append_nil]
  exact runL_done (by simp [L45_0])
 | k + 1, i, hi => by
  have hstep : L45_0 (n : Int) n (i : Int) (List.replicate i (-1) ++ List.replicate (k + 1) 0) = some (.inr (((i + 1 : Nat) : Int), List.replicate (i + 1) (-1) ++ List.replicate k 0)) := by
   have h1 : (List.replicate i (-1 : Int) ++ List.replicate (k + 1) 0)[i]? = some 0 := by
    rw [List.getElem?_append_right (by simp)]; simp
   have h2 : (List.replicate i (-1 : Int) ++ List.replicate (k + 1) 0).set i (-1) = List.replicate (i + 1) (-1) ++ List.replicate k 0 := by
    rw [List.set_append_right _ _ (by simp), List.length_replicate, Nat.sub_self, List.replicate_succ, List.set_cons_zero, List.replicate_succ', List.append_assoc]
    rfl
   simp only [L45_0, decide_eq_true (show (i : Int) < (n : Int) by omega), cond_true, ixN_nat, if_pos (show i < n by omega), bsm, h1, h2, w_S (show i < 4611686018427387904 by omega)]
  rw [runL_next hstep]
  exact l45_0 hn k (i + 1) (by omega)
theorem mk8 {k : Nat} (h : k ≤ 40) : mkOk (k : Int) 8 = true := by
 unfold mkOk limit47
 exact decide_eq_true (by omega)
theorem mk1 {k : Nat} (h : k ≤ 40) : mkOk (k : Int) 1 = true := by
 unfold mkOk limit47
 exact decide_eq_true (by omega)
theorem sh0 : ShOk n (List.replicate n (-1)) := ⟨by simp, fun v hv => by rw [List.eq_of_mem_replicate hv]; omega⟩
theorem nul0 : nulOf (List.replicate n (-1)) = List.replicate n false := by unfold nulOf; simp
theorem shortest (hg : GramOk g) (hc : chkB g = true) : ∃ sh, ShOk g.sorts.length sh ∧ True ∧ F45 g = some (.k1 g.sorts g.prods g.start g.forbid g.follow sh (nulOf sh)) ∧ swp g.prods false sh = (false, sh) ∧
  ∀ Q : List Int → Prop, (∀ s p, p ∈ g.prods → ShOk g.sorts.length s → Q s → Q (upd s p).2) → Q (List.replicate g.sorts.length (-1)) → Q sh := by
 have hv := val_of hc
 have h40 := hg.sorts
 obtain ⟨sh, k1, k3, k4, k5⟩ := fix hg hv rfl (mu (List.replicate g.sorts.length (-1))) (List.replicate g.sorts.length (-1)) (Nat.le_refl _) sh0
 have a2 := l45_0 h40 g.sorts.length 0 (by omega)
 have e0 : ((0 : Nat) : Int) = 0 := rfl
 simp only [List.replicate_zero, List.nil_append, e0] at a2
 rw [nul0] at k3
 have hle : decide (g.sorts.length ≤ sh.length) = true := decide_eq_true (by rw [k1.len]; exact Nat.le_refl _)
 have ht : sh.take g.sorts.length = sh := tol (by rw [k1.len]; exact Nat.le_refl _)
 have hnl : (nulOf sh).length = g.sorts.length := by unfold nulOf; rw [List.length_map, k1.len]
 have hle2 : decide (g.sorts.length ≤ (nulOf sh).length) = true := decide_eq_true (by rw [hnl]; exact Nat.le_refl _)
 have ht2 : (nulOf sh).take g.sorts.length = nulOf sh := tol (by rw [hnl]; exact Nat.le_refl _)
 have k6 : runL (fun s => L46_2 g (List.replicate g.sorts.length (-1)) (List.replicate g.sorts.length false) g.sorts.length) () = some (E_L46_2.k0 sh (nulOf sh)) := runL_done (by simp only [L46_2, k3, bsm])
 have h45 : F45 g = some (.k1 g.sorts g.prods g.start g.forbid g.follow sh (nulOf sh)) := by
  unfold F45
  rw [q29 hg]
  simp only [bsm, chkN, hc, cond_true, show ((0 : Int) != 0) = false from rfl, cond_false, mk8 h40, mk1 h40, Int.toNat_natCast, a2, F46, k6, hle, ht, hle2, ht2]
 exact ⟨sh, k1, trivial, h45, k4, k5⟩
end
theorem wOk_of {s : SymD} (h : SymOk s) : wOk s = true := by
 have h1 := h.a; have h2 := h.b; have h3 := h.c; have h4 := h.d
 unfold u64ok at h1 h2 h3 h4
 unfold wOk
 exact decide_eq_true (by omega)
theorem some_byte {s : SymD} (h : wOk s = true) (he : emptyW s.a s.b s.c s.d = false) : ∃ c l, bytesS (v4 s) = c :: l := by
 have hv := v4_of h
 cases hb : bytesS (v4 s) with
 | cons c l => exact ⟨c, l, rfl⟩
 | nil =>
  exfalso
  unfold bytesS bitsW at hb
  simp only [List.append_eq_nil_iff, List.map_eq_nil_iff] at hb
  have z : ∀ w : BitVec 64, bits w = [] → w.toNat = 0 := by
   intro w hw
   by_cases e : w = 0#64
   ·rw [e]; rfl
   ·rw [bits_cons w e] at hw; cases hw
  have ea : ((v4 s).a.toNat : Int) = s.a := congrArg I4.a hv
  have eb : ((v4 s).b.toNat : Int) = s.b := congrArg I4.b hv
  have ec : ((v4 s).c.toNat : Int) = s.c := congrArg I4.c hv
  have ed : ((v4 s).d.toNat : Int) = s.d := congrArg I4.d hv
  rw [z _ hb.1] at ea
  rw [z _ hb.2.1] at eb
  rw [z _ hb.2.2.1] at ec
  rw [z _ hb.2.2.2] at ed
  unfold emptyW at he
  rw [← ea, ← eb, ← ec, ← ed] at he
  exact absurd he (by decide)
theorem q49 {s : SymD} {c : Nat} {l : List Nat} (h : wOk s = true) (hb : bytesS (v4 s) = c :: l) : F49 s = some (.k0 c true) := by
 unfold F49
 rw [h, hb]
 rfl
def valL : List UInt8 → Nat
 | [] => 0
 | x :: xs => x.toNat * 256 ^ xs.length + valL xs
theorem valL_lt : ∀ (xs : List UInt8), valL xs < 256 ^ xs.length
 | [] => by simp [valL]
 | x :: xs => by
  have h1 := valL_lt xs
  have h2 := x.toNat_lt
  simp only [valL, List.length_cons, Nat.pow_succ]
  have : x.toNat * 256 ^ xs.length ≤ 255 * 256 ^ xs.length := Nat.mul_le_mul_right _ (by omega)
  omega
theorem less_val : ∀ (xs ys : List UInt8), xs.length = ys.length → Op.bytesLess xs ys = true → valL xs < valL ys
 | _, [], _, h => by simp [Op.bytesLess] at h
 | [], y :: ys, hl, h => by simp at hl
 | x :: xs, y :: ys, hl, h => by
  simp only [List.length_cons, Nat.add_right_cancel_iff] at hl
  simp only [Op.bytesLess, Bool.or_eq_true, decide_eq_true_eq, aet, beq_iff_eq] at h
  simp only [valL, hl]
  rcases h with h | ⟨rfl, h⟩
  ·have h1 := valL_lt xs
   rw [hl] at h1
   have hlt : x.toNat < y.toNat := h
   have : (x.toNat + 1) * 256 ^ ys.length ≤ y.toNat * 256 ^ ys.length := Nat.mul_le_mul_right _ (by omega)
   have e : (x.toNat + 1) * 256 ^ ys.length = x.toNat * 256 ^ ys.length + 256 ^ ys.length := by rw [Nat.add_mul, Nat.one_mul]
   omega
  ·have := less_val xs ys hl h
   omega
theorem less_tri : ∀ (xs ys : List UInt8), (Op.bytesLess xs ys || xs == ys) = !Op.bytesLess ys xs
 | [], [] => rfl
 | x :: xs, [] => by simp [Op.bytesLess]
 | [], y :: ys => by simp [Op.bytesLess]
 | x :: xs, y :: ys => by
  have ih := less_tri xs ys
  simp only [Op.bytesLess]
  by_cases h : x = y
  ·subst h
   have : ¬ x < x := by intro h; exact absurd h (by simp)
   simp only [decide_eq_false this, Bool.false_or, beq_self_eq_true, Bool.true_and]
   rw [← ih]
   simp
  ·have hb : (x == y) = false := by simp [h]
   have hb2 : (y == x) = false := by simp [show ¬ y = x from fun e => h e.symm]
   have hc : ((x :: xs) == (y :: ys)) = false := by simp [h]
   rw [hb, hb2, hc]
   simp only [Bool.false_and, Bool.or_false]
   by_cases hlt : x < y
   ·have : ¬ y < x := by
     intro h2
     have h3 : x.toNat < y.toNat := hlt
     have h4 : y.toNat < x.toNat := h2
     omega
    rw [decide_eq_true hlt, decide_eq_false this]; rfl
   ·have : y < x := by
     have h3 : ¬ x.toNat < y.toNat := hlt
     have h4 : x.toNat ≠ y.toNat := fun e => h (UInt8.toNat_inj.1 e)
     show y.toNat < x.toNat
     omega
    rw [decide_eq_false hlt, decide_eq_true this]; rfl
abbrev Mp := List (Int × ByteArray)
def eB : ByteArray := (⟨([] : List UInt8).toArray⟩ : ByteArray)
def lst (s : SymD) : ByteArray := (⟨([UInt8.ofNat ((bytesS (v4 s)).headD 0)] : List UInt8).toArray⟩ : ByteArray)
theorem lst_size (s : SymD) : (lst s).size = 1 := rfl
def txt (m : Mp) : ByteArray → List SymD → Option ByteArray
 | t, [] => some t
 | t, s :: r => bif s.kind == 1 then (match mfind s.sort m with | some u => txt m (t ++ u) r | none => none) else txt m (t ++ lst s) r
def shAt (sh : List Int) (i : Int) : Int := (sh[i.toNat]?).getD 0
structure InvM (n : Nat) (sh : List Int) (m : Mp) : Prop where
 size : ∀ (i : Int) t, 0 ≤ i → i < n → mfind i m = some t → (t.size : Int) = shAt sh i
section
variable {n : Nat} {sh : List Int} {m : Mp}
theorem shAt_b (hs : ShOk n sh) (i : Int) : -1 ≤ shAt sh i ∧ shAt sh i ≤ 1048577 := by
 unfold shAt
 cases h : sh[i.toNat]? with
 | none => simp
 | some v => exact hs.v v (mog h)
theorem sumS_mono (hs : ShOk n sh) : ∀ (r : List SymD) (a : Int), 0 ≤ a ∧ a ≤ 1048577 → sumS sh a r = -1 ∨ a ≤ sumS sh a r
 | [], a, h => .inr (by simp [sumS])
 | s :: r, a, h => by
  have hb := symS_b hs s
  simp only [sumS]
  by_cases hk : symS sh s < 0
  ·rw [decide_eq_true hk]; exact .inl rfl
  ·rw [decide_eq_false hk]
   simp only [cond_false]
   rcases sumS_mono hs r (if 1048577 < a + symS sh s then 1048577 else a + symS sh s) (by split <;> omega) with h1 | h1
   ·exact .inl h1
   ·right
    revert h1
    split <;> omega
theorem txt_size (hs : ShOk n sh) (hm : InvM n sh m) : ∀ (r : List SymD) (t t' : ByteArray) (a : Int), (∀ s ∈ r, SymV n s) → txt m t r = some t' → 0 ≤ a ∧ a ≤ 1048577 → 0 ≤ sumS sh a r → sumS sh a r ≤ 1048576 → (t'.size : Int) - t.size = sumS sh a r - a
 | [], t, t', a, _, ht, ha, h0, h1 => by
  simp only [txt, oiq] at ht
  subst ht
  simp [sumS]
 | s :: r, t, t', a, hv, ht, ha, h0, h1 => by
  have hb := symS_b hs s
  have hsv := hv s (mcf ..)
  have hrv : ∀ s ∈ r, SymV n s := fun q hq => hv q (mcm _ hq)
  simp only [sumS] at h0 h1 ⊢
  by_cases hk : symS sh s < 0
  ·rw [decide_eq_true hk] at h0; simp at h0
  ·rw [decide_eq_false hk] at h0 h1 ⊢
   simp only [cond_false] at h0 h1 ⊢
   have hm1 := sumS_mono hs r (if 1048577 < a + symS sh s then 1048577 else a + symS sh s) (by split <;> omega)
   have hle : ¬ 1048577 < a + symS sh s := by
    intro hc
    rw [if_pos hc] at hm1 h0 h1
    rcases hm1 with h | h <;> omega
   rw [if_neg hle] at h0 h1 ⊢
   rcases hsv.k with k0 | k1
   ·have hone : symS sh s = 1 := by unfold symS; rw [k0]; rfl
    simp only [txt, k0, show ((0 : Int) == 1) = false from rfl, cond_false] at ht
    have := txt_size hs hm r _ t' _ hrv ht (by omega) h0 h1
    rw [ByteArray.size_append, lst_size] at this
    rw [hone] at this ⊢
    omega
   ·simp only [txt, k1, beq_self_eq_true, cond_true] at ht
    cases hf : mfind s.sort m with
    | none => rw [hf] at ht; cases ht
    | some u =>
     rw [hf] at ht
     simp only at ht
     obtain ⟨q0, q1⟩ := hsv.sort k1
     have hu := hm.size s.sort u q0 q1 hf
     have hsy : symS sh s = shAt sh s.sort := by unfold symS shAt; rw [k1]; rfl
     have := txt_size hs hm r _ t' _ hrv ht (by omega) h0 h1
     rw [ByteArray.size_append] at this
     rw [hsy] at this ⊢
     omega
end
def wants (sh : List Int) (a : Int) (p : ProdD) : Bool :=
 (p.role != 11) && (decide (0 ≤ sumS sh 0 p.right) && (decide (sumS sh 0 p.right ≤ shAt sh a) && (sumS sh 0 p.right == shAt sh p.left)))
def updM (sh : List Int) (a : Int) (m : Mp) (p : ProdD) : Bool × Mp :=
 bif wants sh a p then
  match txt m eB p.right with
  | none => (false, m)
  | some t => match mfind p.left m with
   | some o => bif Op.bytesLess t.toList o.toList then (true, mput p.left t m) else (false, m)
   | none => (true, mput p.left t m)
 else (false, m)
def swpM (sh : List Int) (a : Int) : List ProdD → Bool → Mp → Bool × Mp
 | [], b, m => (b, m)
 | p :: ps, b, m => swpM sh a ps (b || (updM sh a m p).1) (updM sh a m p).2
def rk (L : Nat) : Option ByteArray → Nat
 | none => 256 ^ L
 | some t => valL t.toList
def muM (n : Nat) (sh : List Int) (m : Mp) : Nat := ((List.range n).map fun (i : Nat) => rk (shAt sh (i : Int)).toNat (mfind (i : Int) m)).sum
theorem sum_le {f g : Nat → Nat} : ∀ (n : Nat), (∀ i, i < n → f i ≤ g i) → ((List.range n).map f).sum ≤ ((List.range n).map g).sum
 | 0, _ => by simp
 | n + 1, h => by
  rw [List.range_succ, List.map_append, List.map_append, List.sum_append, List.sum_append]
  have := sum_le n (fun i hi => h i (by omega))
  have h2 := h n (by omega)
  simp only [List.map_cons, List.map_nil, List.sum_cons, List.sum_nil]
  omega
theorem sum_lt {f g : Nat → Nat} : ∀ (n k : Nat), k < n → (∀ i, i < n → f i ≤ g i) → f k < g k → ((List.range n).map f).sum < ((List.range n).map g).sum
 | 0, k, hk, _, _ => by omega
 | n + 1, k, hk, h, hlt => by
  rw [List.range_succ, List.map_append, List.map_append, List.sum_append, List.sum_append]
  have h2 := h n (by omega)
  simp only [List.map_cons, List.map_nil, List.sum_cons, List.sum_nil]
  by_cases e : k = n
  ·subst e
   have := sum_le k (fun i hi => h i (by omega))
   omega
  ·have := sum_lt n k (by omega) (fun i hi => h i (by omega)) hlt
   omega
theorem toList_len (t : ByteArray) : t.toList.length = t.size := by
 rw [ByteArray.toList_eq, Array.length_toList]; rfl
section
variable {n : Nat} {sh : List Int} {m : Mp} {a : Int} {p : ProdD}
theorem wants_of (h : wants sh a p = true) : (p.role != 11) = true ∧ 0 ≤ sumS sh 0 p.right ∧ sumS sh 0 p.right ≤ shAt sh a ∧ sumS sh 0 p.right = shAt sh p.left := by
 unfold wants at h
 simp only [aet, decide_eq_true_eq, beq_iff_eq] at h
 exact h
theorem txt_len (hs : ShOk n sh) (hm : InvM n sh m) (hp : ProdV n p) (ha : shAt sh a ≤ 1048576) (hw : wants sh a p = true) {t : ByteArray} (ht : txt m eB p.right = some t) : (t.size : Int) = shAt sh p.left := by
 obtain ⟨_, h0, h1, h2⟩ := wants_of hw
 have := txt_size hs hm p.right eB t 0 hp.right ht (by omega) h0 (by omega)
 have e : (eB.size : Int) = 0 := rfl
 omega
theorem updM_inv (hs : ShOk n sh) (hm : InvM n sh m) (hp : ProdV n p) (ha : shAt sh a ≤ 1048576) : InvM n sh (updM sh a m p).2 := by
 have key : ∀ t, wants sh a p = true → txt m eB p.right = some t → InvM n sh (mput p.left t m) := by
  intro t hw ht
  refine ⟨fun i u h0 h1 hf => ?_⟩
  rw [mfind_mput] at hf
  split at hf
  ·rename_i e
   simp only [oiq] at hf
   subst hf; subst e
   exact txt_len hs hm hp ha hw ht
  ·exact hm.size i u h0 h1 hf
 unfold updM
 cases hw : wants sh a p with
 | false => exact hm
 | true =>
  simp only [cond_true]
  cases ht : txt m eB p.right with
  | none => exact hm
  | some t =>
   simp only
   cases ho : mfind p.left m with
   | none => exact key t hw ht
   | some o =>
    simp only
    cases Op.bytesLess t.toList o.toList
    ·exact hm
    ·exact key t hw ht
theorem updM_mu (hs : ShOk n sh) (hm : InvM n sh m) (hp : ProdV n p) (ha : shAt sh a ≤ 1048576) : ((updM sh a m p).1 = true → muM n sh (updM sh a m p).2 < muM n sh m) ∧ ((updM sh a m p).1 = false → (updM sh a m p).2 = m) := by
 have hl := hp.left
 have ek : ((p.left.toNat : Nat) : Int) = p.left := by omega
 have key : ∀ t, rk (shAt sh p.left).toNat (some t) < rk (shAt sh p.left).toNat (mfind p.left m) → muM n sh (mput p.left t m) < muM n sh m := by
  intro t hlt
  unfold muM
  refine sum_lt n p.left.toNat (by omega) (fun i hi => ?_) ?_
  ·rw [mfind_mput]
   by_cases e : (i : Int) = p.left
   ·rw [if_pos e, e]; exact Nat.le_of_lt hlt
   ·rw [if_neg e]; exact Nat.le_refl _
  ·rw [mfind_mput, ek, if_pos rfl]; exact hlt
 unfold updM
 cases hw : wants sh a p with
 | false => exact ⟨fun h => by simp at h, fun _ => rfl⟩
 | true =>
  simp only [cond_true]
  cases ht : txt m eB p.right with
  | none => exact ⟨fun h => by simp at h, fun _ => rfl⟩
  | some t =>
   have hsz := txt_len hs hm hp ha hw ht
   have hlen : t.toList.length = (shAt sh p.left).toNat := by rw [toList_len]; omega
   simp only
   cases ho : mfind p.left m with
   | none =>
    refine ⟨fun _ => key t ?_, fun h => by simp at h⟩
    rw [ho]
    simp only [rk]
    rw [← hlen]
    exact valL_lt _
   | some o =>
    simp only
    cases hc : Op.bytesLess t.toList o.toList with
    | false => exact ⟨fun h => by simp at h, fun _ => rfl⟩
    | true =>
     refine ⟨fun _ => key t ?_, fun h => by simp at h⟩
     rw [ho]
     simp only [rk]
     have hosz := hm.size p.left o hl.1 hl.2 ho
     exact less_val _ _ (by rw [toList_len, toList_len]; omega) hc
end
theorem swpM_inv {n : Nat} {sh : List Int} {a : Int} (hs : ShOk n sh) (ha : shAt sh a ≤ 1048576) : ∀ (ps : List ProdD) (b : Bool) (m : Mp), (∀ p ∈ ps, ProdV n p) → InvM n sh m → InvM n sh (swpM sh a ps b m).2
 | [], b, m, _, hm => hm
 | p :: ps, b, m, hp, hm => swpM_inv hs ha ps _ _ (fun q hq => hp q (mcm _ hq)) (updM_inv hs hm (hp p (mcf ..)) ha)
theorem swpM_mu {n : Nat} {sh : List Int} {a : Int} (hs : ShOk n sh) (ha : shAt sh a ≤ 1048576) : ∀ (ps : List ProdD) (b : Bool) (m : Mp), (∀ p ∈ ps, ProdV n p) → InvM n sh m →
  muM n sh (swpM sh a ps b m).2 ≤ muM n sh m ∧ ((swpM sh a ps b m).1 = true → b = true ∨ muM n sh (swpM sh a ps b m).2 < muM n sh m) ∧ ((swpM sh a ps b m).1 = false → b = false ∧ (swpM sh a ps b m).2 = m)
 | [], b, m, _, hm => ⟨Nat.le_refl _, fun h => .inl h, fun h => ⟨h, rfl⟩⟩
 | p :: ps, b, m, hp, hm => by
  have hpp := hp p (mcf ..)
  obtain ⟨u1, u2⟩ := updM_mu hs hm hpp ha
  obtain ⟨h1, h2, h3⟩ := swpM_mu hs ha ps (b || (updM sh a m p).1) (updM sh a m p).2 (fun q hq => hp q (mcm _ hq)) (updM_inv hs hm hpp ha)
  simp only [swpM]
  cases hu : (updM sh a m p).1 with
  | true =>
   have := u1 hu
   rw [hu] at h1 h2 h3
   refine ⟨by omega, fun _ => .inr (by omega), fun h => ?_⟩
   have := (h3 h).1
   simp at this
  | false =>
   have := u2 hu
   rw [hu, this, Bool.or_false] at h1 h2 h3
   rw [this, Bool.or_false]
   exact ⟨h1, h2, h3⟩
def endM : E_L47_0 → Option ByteArray
 | .k0 .. => none
 | .k1 t => some t
section
variable {n : Nat} {sh : List Int} {m : Mp} {a : Int} {p : ProdD}
theorem lst_prog {s : SymD} (ho : SymOk s) (hv : SymV n s) (k0 : s.kind = 0) : ∃ c l, bytesS (v4 s) = c :: l ∧ F49 s = some (.k0 c true) ∧ (⟨([UInt8.ofNat (Int.toNat (c : Int))] : List UInt8).toArray⟩ : ByteArray) = lst s := by
 have hw := wOk_of ho
 obtain ⟨c, l, hb⟩ := some_byte hw (hv.set k0)
 refine ⟨c, l, hb, q49 hw hb, ?_⟩
 unfold lst
 rw [hb]; rfl
theorem l47_0 (hs : ShOk n sh) (hm : InvM n sh m) (hp : ProdV n p) (hok : ProdOk p) : ∀ (k i : Nat) (t : ByteArray), i + k = p.right.length → t.size ≤ i * 1048577 →
  ∃ e, runL (fun s => L47_0 p (p.right.length : Int) m s.1 s.2) (t, (i : Int)) = some e ∧ endM e = txt m t (p.right.drop i)
 | 0, i, t, hi, ht => by
  obtain rfl : i = p.right.length := by omega
  refine ⟨.k1 t, runL_done (by simp [L47_0]), ?_⟩
  rw [List.drop_length]; rfl
 | k + 1, i, t, hi, ht => by
  have hlen := hp.len
  have hx : p.right[i]? = some p.right[i] := geg (by omega)
  have hd : p.right.drop i = p.right[i] :: p.right.drop (i + 1) := (List.drop_eq_getElem_cons (by omega))
  generalize hq : p.right[i] = s at hx hd
  have hmem := mog hx
  have hv := hp.right s hmem
  have ho := hok.right s hmem
  rw [hd]
  simp only [txt]
  rcases hv.k with k0 | k1
  ·obtain ⟨c, l, _, h49, hl⟩ := lst_prog ho hv k0
   have hsz : decide (t.size + (lst s).size ≤ 9223372036854775807) = true := decide_eq_true (by rw [lst_size]; omega)
   have hstep : L47_0 p (p.right.length : Int) m t (i : Int) = some (.inr (t ++ lst s, ((i + 1 : Nat) : Int))) := by
    simp only [L47_0, getI_nat, hx, bsm, decide_eq_true (show (i : Int) < (p.right.length : Int) by omega), cond_true, k0, beq_self_eq_true, h49, hl, hsz, w_S (show i < 4611686018427387904 by omega)]
   rw [runL_next (step := fun s => L47_0 p (p.right.length : Int) m s.1 s.2) (s := (t, (i : Int))) (s' := (t ++ lst s, ((i + 1 : Nat) : Int))) hstep]
   rw [k0, show ((0 : Int) == 1) = false from rfl, cond_false]
   exact l47_0 hs hm hp hok k (i + 1) _ (by omega) (by rw [ByteArray.size_append, lst_size]; omega)
  ·rw [k1, beq_self_eq_true, cond_true]
   have h10 : ((1 : Int) == 0) = false := rfl
   obtain ⟨q0, q1⟩ := hv.sort k1
   cases hf : mfind s.sort m with
   | none =>
    have hh : mhas m s.sort = false := by unfold mhas; rw [hf]; rfl
    refine ⟨.k0 s.kind s.a s.b s.c s.d s.sort, runL_done ?_, rfl⟩
    simp only [L47_0, getI_nat, hx, bsm, decide_eq_true (show (i : Int) < (p.right.length : Int) by omega), cond_true, k1, h10, cond_false, hh]
   | some u =>
    have hh : mhas m s.sort = true := by unfold mhas; rw [hf]; rfl
    have hgt : ∀ z, mget z m s.sort = u := fun z => by unfold mget; rw [hf]; rfl
    have hu := hm.size s.sort u q0 q1 hf
    have hub := shAt_b hs s.sort
    have hsz : decide (t.size + u.size ≤ 9223372036854775807) = true := decide_eq_true (by omega)
    have hstep : L47_0 p (p.right.length : Int) m t (i : Int) = some (.inr (t ++ u, ((i + 1 : Nat) : Int))) := by
     simp only [L47_0, getI_nat, hx, bsm, decide_eq_true (show (i : Int) < (p.right.length : Int) by omega), cond_true, k1, h10, cond_false, hh, hgt, hsz, w_S (show i < 4611686018427387904 by omega)]
    rw [runL_next (step := fun s => L47_0 p (p.right.length : Int) m s.1 s.2) (s := (t, (i : Int))) (s' := (t ++ u, ((i + 1 : Nat) : Int))) hstep]
    exact l47_0 hs hm hp hok k (i + 1) _ (by omega) (by rw [ByteArray.size_append]; omega)
def endF : R_F47 → Mp → Bool × Mp
 | .k0 b m', _ => (b, m')
 | .k1 .., m => (false, m)
theorem q47 (hs : ShOk n sh) (hm : InvM n sh m) (hp : ProdV n p) (hok : ProdOk p) (ha : 0 ≤ a ∧ a < n) (hr : (p.role != 11) = true) : ∃ r, F47 p a sh m = some r ∧ endF r m = updM sh a m p := by
 have hlen := hp.len
 have hpl := hp.left
 have g1 : ∀ i : Int, 0 ≤ i → i < n → getI sh i = some (shAt sh i) := by
  intro i h0 h1
  have hl := hs.len
  have : sh[i.toNat]? = some (sh[i.toNat]'(by omega)) := geg _
  rw [getI_some]
  refine ⟨h0, ?_⟩
  unfold shAt
  rw [this]; rfl
 have a1 := g1 a ha.1 ha.2
 have b1 := g1 p.left hpl.1 hpl.2
 obtain ⟨e, he1, he2⟩ := l47_0 hs hm hp hok p.right.length 0 eB (by omega) (by rw [show eB.size = 0 from rfl]; omega)
 rw [List.drop_zero] at he2
 have e0 : ((0 : Nat) : Int) = 0 := rfl
 rw [e0] at he1
 have hw : wants sh a p = (decide (0 ≤ sumS sh 0 p.right) && (decide (sumS sh 0 p.right ≤ shAt sh a) && (sumS sh 0 p.right == shAt sh p.left))) := by
  unfold wants; rw [hr, Bool.true_and]
 unfold F47 updM
 simp only [cond_true, q48 hs hp.right (show p.right.length ≤ 31 by omega), bsm, a1, b1, hw]
 by_cases c0 : sumS sh 0 p.right < 0
 ·rw [decide_eq_true c0, decide_eq_false (show ¬ 0 ≤ sumS sh 0 p.right by omega)]
  exact ⟨_, rfl, rfl⟩
 rw [decide_eq_false c0, decide_eq_true (show 0 ≤ sumS sh 0 p.right by omega)]
 by_cases c1 : sumS sh 0 p.right > shAt sh a
 ·rw [decide_eq_true c1, decide_eq_false (show ¬ sumS sh 0 p.right ≤ shAt sh a by omega)]
  exact ⟨_, rfl, rfl⟩
 rw [decide_eq_false c1, decide_eq_true (show sumS sh 0 p.right ≤ shAt sh a by omega)]
 by_cases c2 : sumS sh 0 p.right = shAt sh p.left
 ·have hb1 : (sumS sh 0 p.right != shAt sh p.left) = false := by simp [c2]
  have hb2 : (sumS sh 0 p.right == shAt sh p.left) = true := by simp [c2]
  rw [hb1, hb2]
  simp only [cond_false, cond_true, Bool.and_self]
  have he1' : runL (fun s => L47_0 p (p.right.length : Int) m s.1 s.2) ((⟨([] : List UInt8).toArray⟩ : ByteArray), 0) = some e := he1
  rw [he1']
  cases e with
  | k0 x0 x1 x2 x3 x4 x5 =>
   rw [← he2]
   exact ⟨_, rfl, rfl⟩
  | k1 t =>
   rw [← he2]
   simp only [bsm, endM]
   cases ho : mfind p.left m with
   | none =>
    have hmh : mhas m p.left = false := by unfold mhas; rw [ho]; rfl
    rw [hmh]
    exact ⟨_, rfl, rfl⟩
   | some o =>
    have hmh : mhas m p.left = true := by unfold mhas; rw [ho]; rfl
    have hgt : ∀ z, mget z m p.left = o := fun z => by unfold mget; rw [ho]; rfl
    rw [hmh]
    simp only [hgt, cond_true, less_tri]
    cases Op.bytesLess t.toList o.toList
    ·exact ⟨_, rfl, rfl⟩
    ·exact ⟨_, rfl, rfl⟩
 ·rw [bneT c2, beqF c2]
  exact ⟨_, rfl, rfl⟩
end
section
variable {g : GramD} {n : Nat} {sh : List Int} {a : Int}
theorem sum_all {sh : List Int} (hs : ShOk n sh) : ∀ (r : List SymD) (a : Int), 0 ≤ a ∧ a ≤ 1048577 → ((0 ≤ sumS sh a r) ↔ ∀ s ∈ r, 0 ≤ symS sh s)
 | [], a, h => by simp [sumS]; omega
 | s :: r, a, h => by
  have hb := symS_b hs s
  simp only [sumS]
  by_cases hk : symS sh s < 0
  ·rw [decide_eq_true hk]
   simp only [cond_true]
   constructor
   ·intro h; omega
   ·intro h; have := h s (mcf ..); omega
  ·rw [decide_eq_false hk]
   simp only [cond_false]
   rw [sum_all hs r _ (by split <;> omega)]
   constructor
   ·intro h2 q hq
    rcases List.mem_cons.1 hq with rfl | hq
    ·omega
    ·exact h2 q hq
   ·intro h2 q hq; exact h2 q (mcm _ hq)
theorem fix_upd : ∀ (ps : List ProdD) (sh : List Int), (∀ p ∈ ps, ProdV n p) → ShOk n sh → swp ps false sh = (false, sh) → ∀ p ∈ ps, (upd sh p).1 = false
 | [], _, _, _, _, p, hp => by simp at hp
 | q :: ps, sh, hv, hs, h, p, hp => by
  have hq := hv q (mcf ..)
  simp only [swp, Bool.false_or] at h
  obtain ⟨u1, u2⟩ := upd_mu hs hq
  obtain ⟨_, _, h3⟩ := swp_mu ps (upd sh q).1 (upd sh q).2 (fun x hx => hv x (mcm _ hx)) (upd_ok hs hq)
  have hf := (h3 (by rw [h])).1
  rw [hf, u2 hf] at h
  rcases List.mem_cons.1 hp with rfl | hp
  ·exact hf
  ·exact fix_upd ps sh (fun x hx => hv x (mcm _ hx)) hs h p hp
structure ShK (g : GramD) (sh : List Int) : Prop where
 ok : ShOk g.sorts.length sh
 fix : swp g.prods false sh = (false, sh)
 ind : ∀ Q : List Int → Prop, (∀ s p, p ∈ g.prods → ShOk g.sorts.length s → Q s → Q (upd s p).2) → Q (List.replicate g.sorts.length (-1)) → Q sh
theorem l46_0_4 (hg : GramOk g) (hv : GramV g) (hn : n = g.sorts.length) (hs : ShOk n sh) (ha : 0 ≤ a ∧ a < n) (hb : shAt sh a ≤ 1048576) : ∀ (k i : Nat) (b : Bool) (m : Mp), i + k = g.prods.length → InvM n sh m →
  runL (fun s => L46_0_4 g sh (g.prods.length : Int) a s.1 s.2.1 s.2.2) (b, (i : Int), m) = some (.k0 (swpM sh a (g.prods.drop i) b m).1 (swpM sh a (g.prods.drop i) b m).2)
 | 0, i, b, m, hi, hm => by
  obtain rfl : i = g.prods.length := by omega
  rw [List.drop_length]
  exact runL_done (by simp [L46_0_4, swpM])
 | k + 1, i, b, m, hi, hm => by
  have hgp := hg.prods
  have hx : g.prods[i]? = some g.prods[i] := geg (by omega)
  have hd : g.prods.drop i = g.prods[i] :: g.prods.drop (i + 1) := (List.drop_eq_getElem_cons (by omega))
  generalize hp : g.prods[i] = p at hx hd
  have hmem : p ∈ g.prods := mog hx
  have hpv : ProdV n p := by rw [hn]; exact hv.prod p hmem
  rw [hd]
  simp only [swpM]
  have hstep : L46_0_4 g sh (g.prods.length : Int) a b (i : Int) m = some (.inr (b || (updM sh a m p).1, ((i + 1 : Nat) : Int), (updM sh a m p).2)) := by
   simp only [L46_0_4, getI_nat, hx, bsm, decide_eq_true (show (i : Int) < (g.prods.length : Int) by omega), cond_true, F54, w_S (show i < 4611686018427387904 by omega)]
   cases hr : p.role != 11 with
   | false => simp [updM, wants, hr]
   | true =>
    obtain ⟨r, h1, h2⟩ := q47 hs hm hpv (hg.prod p hmem) ha hr
    simp only [cond_true, h1, bsm]
    rw [← h2]
    cases r with
    | k0 x0 x1 => cases x0 <;> simp [endF]
    | k1 => simp [endF]
  rw [runL_next (step := fun s => L46_0_4 g sh (g.prods.length : Int) a s.1 s.2.1 s.2.2) (s := (b, (i : Int), m)) (s' := (b || (updM sh a m p).1, ((i + 1 : Nat) : Int), (updM sh a m p).2)) hstep]
  exact l46_0_4 hg hv hn hs ha hb k (i + 1) _ _ (by omega) (updM_inv hs hm hpv hb)
theorem swpM_Q {Q : Mp → Prop} {all : List ProdD} (hQ : ∀ m p, p ∈ all → InvM n sh m → Q m → Q (updM sh a m p).2) (hs : ShOk n sh) (hb : shAt sh a ≤ 1048576) (hall : ∀ p ∈ all, ProdV n p) : ∀ (ps : List ProdD) (b : Bool) (m : Mp), (∀ p ∈ ps, p ∈ all) → InvM n sh m → Q m → Q (swpM sh a ps b m).2
 | [], b, m, _, _, h => h
 | p :: ps, b, m, hp, hm, h => swpM_Q hQ hs hb hall ps _ _ (fun q hq => hp q (mcm _ hq)) (updM_inv hs hm (hall p (hp p (mcf ..))) hb) (hQ m p (hp p (mcf ..)) hm h)
theorem fix_updM (hs : ShOk n sh) (hb : shAt sh a ≤ 1048576) : ∀ (ps : List ProdD) (m : Mp), (∀ p ∈ ps, ProdV n p) → InvM n sh m → (swpM sh a ps false m).1 = false → ∀ p ∈ ps, (updM sh a m p).1 = false
 | [], _, _, _, _, p, hp => by simp at hp
 | q :: ps, m, hv, hm, h, p, hp => by
  have hq := hv q (mcf ..)
  simp only [swpM, Bool.false_or] at h
  obtain ⟨u1, u2⟩ := updM_mu hs hm hq hb
  obtain ⟨_, _, h3⟩ := swpM_mu hs hb ps (updM sh a m q).1 (updM sh a m q).2 (fun x hx => hv x (mcm _ hx)) (updM_inv hs hm hq hb)
  have hf := (h3 h).1
  rw [hf, u2 hf] at h
  rcases List.mem_cons.1 hp with rfl | hp
  ·exact hf
  ·exact fix_updM hs hb ps m (fun x hx => hv x (mcm _ hx)) hm h p hp
theorem fixM (hg : GramOk g) (hv : GramV g) (hn : n = g.sorts.length) (hs : ShOk n sh) (ha : 0 ≤ a ∧ a < n) (hb : shAt sh a ≤ 1048576) : ∀ (c : Nat) (m : Mp), muM n sh m < c → InvM n sh m →
  ∃ m', InvM n sh m' ∧ runL (fun s => L46_1_2 g sh a s) m = some (.k0 m') ∧ (∀ p ∈ g.prods, (updM sh a m' p).1 = false) ∧
   ∀ Q : Mp → Prop, (∀ m p, p ∈ g.prods → InvM n sh m → Q m → Q (updM sh a m p).2) → Q m → Q m'
 | 0, m, hc, _ => by omega
 | c + 1, m, hc, hm => by
  have hps : ∀ p ∈ g.prods, ProdV n p := fun p hp => by rw [hn]; exact hv.prod p hp
  obtain ⟨h1, h2, h3⟩ := swpM_mu hs hb g.prods false m hps hm
  have e0 : ((0 : Nat) : Int) = 0 := rfl
  have q1 := l46_0_4 hg hv hn hs ha hb g.prods.length 0 false m (by omega) hm
  rw [List.drop_zero, e0] at q1
  cases hf : (swpM sh a g.prods false m).1 with
  | false =>
   obtain ⟨_, he⟩ := h3 hf
   rw [hf, he] at q1
   exact ⟨m, hm, runL_done (by simp only [L46_1_2, q1, bsm, cond_false]), fix_updM hs hb g.prods m hps hm hf, fun Q _ h => h⟩
  | true =>
   have hlt : muM n sh (swpM sh a g.prods false m).2 < muM n sh m := by rcases h2 hf with h | h; cases h; exact h
   obtain ⟨m', k1, k2, k3, k4⟩ := fixM hg hv hn hs ha hb c (swpM sh a g.prods false m).2 (by omega) (swpM_inv hs hb g.prods false m hps hm)
   rw [hf] at q1
   refine ⟨m', k1, ?_, k3, fun Q hQ h => k4 Q hQ (swpM_Q hQ hs hb hps g.prods false m (fun p hp => hp) hm h)⟩
   rw [runL_next (step := fun s => L46_1_2 g sh a s) (s := m) (s' := (swpM sh a g.prods false m).2) (by simp only [L46_1_2, q1, bsm, cond_true])]
   exact k2
theorem inv0 : InvM n sh [] := ⟨fun i t _ _ h => by simp [mfind] at h⟩
def tot (sh : List Int) : List SymD → Int
 | [] => 0
 | s :: r => symS sh s + tot sh r
theorem tot_0 : ∀ (r : List SymD), (∀ q ∈ r, 0 ≤ symS sh q) → 0 ≤ tot sh r
 | [], _ => by simp [tot]
 | s :: r, h => by
  have h1 := h s (mcf ..)
  have h2 := tot_0 r (fun q hq => h q (mcm _ hq))
  simp only [tot]
  omega
theorem sumS_tot : ∀ (r : List SymD) (a : Int), 0 ≤ a ∧ a ≤ 1048577 → (∀ q ∈ r, 0 ≤ symS sh q) → sumS sh a r = if 1048577 < a + tot sh r then 1048577 else a + tot sh r
 | [], a, ha, _ => by
  rw [show tot sh [] = 0 from rfl, Int.add_zero, if_neg (by omega)]; rfl
 | s :: r, a, ha, h => by
  have h1 := h s (mcf ..)
  have hr : ∀ q ∈ r, 0 ≤ symS sh q := fun q hq => h q (mcm _ hq)
  have h2 := tot_0 r hr
  rw [show tot sh (s :: r) = symS sh s + tot sh r from rfl]
  simp only [sumS]
  rw [decide_eq_false (show ¬ symS sh s < 0 by omega), cond_false, sumS_tot r _ (by split <;> omega) hr]
  by_cases c1 : 1048577 < a + symS sh s
  ·rw [if_pos c1]
   by_cases c2 : 1048577 < 1048577 + tot sh r
   ·rw [if_pos c2, if_pos (by omega)]
   ·rw [if_neg c2, if_pos (by omega)]; omega
  ·rw [if_neg c1]
   by_cases c2 : 1048577 < a + symS sh s + tot sh r
   ·rw [if_pos c2, if_pos (by omega)]
   ·rw [if_neg c2, if_neg (by omega)]; omega
theorem tot_le {s : List Int} : ∀ (r : List SymD), (∀ q ∈ r, symS sh q ≤ symS s q) → tot sh r ≤ tot s r
 | [], _ => by simp [tot]
 | x :: r, h => by
  have h1 := h x (mcf ..)
  have h2 := tot_le r (fun q hq => h q (mcm _ hq))
  simp only [tot]
  omega
theorem tot_eq {s : List Int} : ∀ (r : List SymD), (∀ q ∈ r, 0 ≤ symS sh q ∧ symS sh q ≤ symS s q) → tot sh r = tot s r → ∀ q ∈ r, symS s q = symS sh q ∧ symS sh q ≤ tot sh r
 | [], _, _, q, hq => by simp at hq
 | x :: r, h, he, q, hq => by
  have h1 := h x (mcf ..)
  have hr : ∀ q ∈ r, 0 ≤ symS sh q ∧ symS sh q ≤ symS s q := fun q hq => h q (mcm _ hq)
  have h2 := tot_le r (fun q hq => (hr q hq).2)
  have h3 := tot_0 r (fun q hq => (hr q hq).1)
  simp only [tot] at he ⊢
  rcases List.mem_cons.1 hq with rfl | hq
  ·exact ⟨by omega, by omega⟩
  ·have := tot_eq r hr (by omega) q hq
   exact ⟨this.1, by omega⟩
theorem txt_some {m : Mp} : ∀ (r : List SymD) (t : ByteArray), (∀ q ∈ r, q.kind = 1 → ∃ u, mfind q.sort m = some u) → ∃ t', txt m t r = some t'
 | [], t, _ => ⟨t, rfl⟩
 | s :: r, t, h => by
  have hr : ∀ q ∈ r, q.kind = 1 → ∃ u, mfind q.sort m = some u := fun q hq => h q (mcm _ hq)
  simp only [txt]
  by_cases k1 : s.kind = 1
  ·obtain ⟨u, hu⟩ := h s (mcf ..) k1
   rw [k1, hu]
   exact txt_some r _ hr
  ·rw [beqF k1]
   exact txt_some r _ hr
theorem best_all (hv : GramV g) (hk : ShK g sh) (hb : shAt sh a ≤ 1048576) {m' : Mp} (hf : ∀ p ∈ g.prods, (updM sh a m' p).1 = false) : ∀ i : Nat, i < g.sorts.length → 0 ≤ shAt sh (i : Int) → shAt sh (i : Int) ≤ shAt sh a → ∃ t, mfind (i : Int) m' = some t := by
 have hup := fix_upd g.prods sh hv.prod hk.ok hk.fix
 have key := hk.ind (fun s => ∀ (i : Nat) (v : Int), s[i]? = some v → 0 ≤ v → (0 ≤ shAt sh (i : Int) ∧ shAt sh (i : Int) ≤ v) ∧ (v = shAt sh (i : Int) → v ≤ shAt sh a → ∃ t, mfind (i : Int) m' = some t)) (fun s p hp hs h => by
  have hpv := hv.prod p hp
  have hpl := hpv.left
  have ek : ((p.left.toNat : Nat) : Int) = p.left := by omega
  unfold upd
  cases hc : (p.role != 11) && (decide (0 ≤ sumS s 0 p.right) && (decide (old s p < 0) || decide (sumS s 0 p.right < old s p))) with
  | false => exact h
  | true =>
   simp only [aet, decide_eq_true_eq] at hc
   obtain ⟨hr, h0, _⟩ := hc
   intro i v hi hv0
   simp only [cond_true, List.getElem?_set] at hi
   by_cases e : p.left.toNat = i
   ·subst e
    rw [if_pos rfl] at hi
    split at hi
    ·simp only [oiq] at hi
     subst hi
     have hall := (sum_all hs p.right 0 (by omega)).1 h0
     have hcmp : ∀ q ∈ p.right, 0 ≤ symS sh q ∧ symS sh q ≤ symS s q := by
      intro q hq
      have hqa := hall q hq
      have hqv := hpv.right q hq
      rcases hqv.k with k0 | k1
      ·unfold symS; rw [k0]; exact ⟨Int.zero_le_ofNat 1, by simp⟩
      ·obtain ⟨q0, q1⟩ := hqv.sort k1
       have hl := hs.len
       have hg : s[q.sort.toNat]? = some (s[q.sort.toNat]'(by omega)) := geg _
       have e1 : symS s q = s[q.sort.toNat]'(by omega) := by unfold symS; rw [k1, hg]; rfl
       have e2 : symS sh q = shAt sh ((q.sort.toNat : Nat) : Int) := by unfold symS shAt; rw [k1]; rfl
       have := (h q.sort.toNat _ hg (by omega)).1
       rw [e1, e2]
       exact this
     have t1 := sumS_tot p.right 0 (by omega) hall
     have t2 := sumS_tot (sh := sh) p.right 0 (by omega) (fun q hq => (hcmp q hq).1)
     have t3 := tot_0 (sh := sh) p.right (fun q hq => (hcmp q hq).1)
     have t4 := tot_le (sh := sh) (s := s) p.right (fun q hq => (hcmp q hq).2)
     have s0 : 0 ≤ sumS sh 0 p.right := by rw [t2]; split <;> omega
     have s1 : sumS sh 0 p.right ≤ sumS s 0 p.right := by rw [t1, t2]; split <;> split <;> omega
     have hu := hup p hp
     have hold : 0 ≤ old sh p ∧ old sh p ≤ sumS sh 0 p.right := by
      unfold upd at hu
      by_cases o1 : old sh p < 0
      ·rw [hr, decide_eq_true s0, decide_eq_true o1] at hu; simp at hu
      ·by_cases o2 : sumS sh 0 p.right < old sh p
       ·rw [hr, decide_eq_true s0, decide_eq_true o2] at hu; simp at hu
       ·omega
     have ho : old sh p = shAt sh ((p.left.toNat : Nat) : Int) := by unfold old shAt; rw [Int.toNat_natCast]
     rw [ho] at hold
     refine ⟨⟨hold.1, by omega⟩, fun hev hle => ?_⟩
     have es : sumS sh 0 p.right = sumS s 0 p.right := by omega
     have et : tot sh p.right = tot s p.right := by
      have h5 : sumS s 0 p.right ≤ 1048576 := by omega
      have h6 : sumS sh 0 p.right ≤ 1048576 := by omega
      rw [t1] at h5
      rw [t2] at h6
      rw [t1, t2] at es
      revert h5 h6 es
      split <;> split <;> omega
     have hq := tot_eq p.right hcmp et
     have hts : tot sh p.right ≤ shAt sh a := by
      have h6 : sumS sh 0 p.right ≤ 1048576 := by omega
      rw [t2] at h6
      rw [← es, t2] at hle
      revert h6 hle
      split <;> omega
     have hfind : ∀ q ∈ p.right, q.kind = 1 → ∃ u, mfind q.sort m' = some u := by
      intro q hqm k1
      have hqv := hpv.right q hqm
      obtain ⟨q0, q1⟩ := hqv.sort k1
      have hl := hs.len
      have hg : s[q.sort.toNat]? = some (s[q.sort.toNat]'(by omega)) := geg _
      have e1 : symS s q = s[q.sort.toNat]'(by omega) := by unfold symS; rw [k1, hg]; rfl
      have e2 : symS sh q = shAt sh ((q.sort.toNat : Nat) : Int) := by unfold symS shAt; rw [k1]; rfl
      obtain ⟨hq1, hq2⟩ := hq q hqm
      have hqa := hall q hqm
      have := (h q.sort.toNat _ hg (by omega)).2 (by omega) (by omega)
      rwa [show ((q.sort.toNat : Nat) : Int) = q.sort by omega] at this
     obtain ⟨t, ht⟩ := txt_some p.right eB hfind
     have hw : wants sh a p = true := by
      unfold wants
      rw [hr, decide_eq_true s0, decide_eq_true (show sumS sh 0 p.right ≤ shAt sh a by omega)]
      have : sumS sh 0 p.right = shAt sh p.left := by rw [← ek]; omega
      rw [this]
      simp
     have hm := hf p hp
     unfold updM at hm
     rw [hw, cond_true, ht] at hm
     simp only at hm
     rw [ek]
     cases hx : mfind p.left m' with
     | none => rw [hx] at hm; simp at hm
     | some o => exact ⟨o, rfl⟩
    ·cases hi
   ·rw [if_neg e] at hi; exact h i v hi hv0) (fun i v hi hv0 => by
  rw [List.getElem?_replicate] at hi
  split at hi
  ·simp only [oiq] at hi; omega
  ·cases hi)
 intro i hi h0 h1
 have hl := hk.ok.len
 have hg : sh[i]? = some (sh[i]'(by omega)) := geg _
 have e : shAt sh (i : Int) = sh[i]'(by omega) := by unfold shAt; rw [Int.toNat_natCast, hg]; rfl
 exact (key i _ hg (by omega)).2 e.symm (by omega)
end
def sd (s : V4) : SetD := ⟨(s.a.toNat : Int), (s.b.toNat : Int), (s.c.toNat : Int), (s.d.toNat : Int)⟩
def uV (x y : V4) : V4 := ⟨x.a ||| y.a, x.b ||| y.b, x.c ||| y.c, x.d ||| y.d⟩
def zV : V4 := ⟨0#64, 0#64, 0#64, 0#64⟩
instance decV : DecidableEq V4 := fun _ _ => inferInstance
theorem l76_0 (x : SetD) (a b c d : Int) : runL (fun s => L76_0 x s.1 s.2.1 s.2.2.1 s.2.2.2.1 s.2.2.2.2) (0, a, b, c, d) = some (.k0 (orI a x.a) (orI b x.b) (orI c x.c) (orI d x.d)) := by
 rw [runL_next (step := fun s : Int × Int × Int × Int × Int => L76_0 x s.1 s.2.1 s.2.2.1 s.2.2.2.1 s.2.2.2.2) (s := (0, a, b, c, d)) (s' := (1, orI a x.a, b, c, d)) (by kernel_rfl)]
 rw [runL_next (step := fun s : Int × Int × Int × Int × Int => L76_0 x s.1 s.2.1 s.2.2.1 s.2.2.2.1 s.2.2.2.2) (s := (1, orI a x.a, b, c, d)) (s' := (2, orI a x.a, orI b x.b, c, d)) (by kernel_rfl)]
 rw [runL_next (step := fun s : Int × Int × Int × Int × Int => L76_0 x s.1 s.2.1 s.2.2.1 s.2.2.2.1 s.2.2.2.2) (s := (2, orI a x.a, orI b x.b, c, d)) (s' := (3, orI a x.a, orI b x.b, orI c x.c, d)) (by kernel_rfl)]
 rw [runL_next (step := fun s : Int × Int × Int × Int × Int => L76_0 x s.1 s.2.1 s.2.2.1 s.2.2.2.1 s.2.2.2.2) (s := (3, orI a x.a, orI b x.b, orI c x.c, d)) (s' := (4, orI a x.a, orI b x.b, orI c x.c, orI d x.d)) (by kernel_rfl)]
 exact runL_done (by kernel_rfl)
theorem l76_1 (x y : SetD) : runL (fun s => L76_1 [x, y] 2 s.1 s.2.1 s.2.2.1 s.2.2.2.1 s.2.2.2.2) (0, 0, 0, 0, 0) = some (.k0 (orI (orI 0 x.a) y.a) (orI (orI 0 x.b) y.b) (orI (orI 0 x.c) y.c) (orI (orI 0 x.d) y.d)) := by
 have g0 : getI [x, y] 0 = some x := rfl
 have g1 : getI [x, y] 1 = some y := rfl
 have e1 : IntKind.wrap .i64 (0 + 1) = 1 := by decide
 have e2 : IntKind.wrap .i64 (1 + 1) = 2 := by decide
 have h1 : L76_1 [x, y] 2 0 0 0 0 0 = some (.inr (1, orI 0 x.a, orI 0 x.b, orI 0 x.c, orI 0 x.d)) := by
  simp only [L76_1, g0, l76_0, bsm, e1, show decide ((0 : Int) < 2) = true from rfl, cond_true]
 have h2 : L76_1 [x, y] 2 1 (orI 0 x.a) (orI 0 x.b) (orI 0 x.c) (orI 0 x.d) = some (.inr (2, orI (orI 0 x.a) y.a, orI (orI 0 x.b) y.b, orI (orI 0 x.c) y.c, orI (orI 0 x.d) y.d)) := by
  simp only [L76_1, g1, l76_0, bsm, e2, show decide ((1 : Int) < 2) = true from rfl, cond_true]
 rw [runL_next (step := fun s : Int × Int × Int × Int × Int => L76_1 [x, y] 2 s.1 s.2.1 s.2.2.1 s.2.2.2.1 s.2.2.2.2) (s := (0, 0, 0, 0, 0)) h1]
 rw [runL_next (step := fun s : Int × Int × Int × Int × Int => L76_1 [x, y] 2 s.1 s.2.1 s.2.2.1 s.2.2.2.1 s.2.2.2.2) (s := (1, orI 0 x.a, orI 0 x.b, orI 0 x.c, orI 0 x.d)) h2]
 exact runL_done rfl
theorem q76 (x y : V4) : F76 [sd x, sd y] = some (.k0 (sd (uV x y)).a (sd (uV x y)).b (sd (uV x y)).c (sd (uV x y)).d) := by
 have h := l76_1 (sd x) (sd y)
 have e : (([sd x, sd y].length : Nat) : Int) = 2 := rfl
 unfold F76
 rw [e, h]
 simp only [bsm, sd, uV, orI_0, orI_n]
theorem has_u (x y : V4) (b : Nat) : has (uV x y) b = (has x b || has y b) := by
 unfold has
 have : ∀ k, (uV x y).get k = x.get k ||| y.get k := fun k => by
  match k with
  | 0 => rfl
  | 1 => rfl
  | 2 => rfl
  | _ + 3 => rfl
 rw [this, BitVec.getLsbD_or]
theorem V_ext {x y : V4} (h : ∀ b, b < 256 → has x b = has y b) : x = y := by
 have key : ∀ k, k < 4 → x.get k = y.get k := by
  intro k hk
  apply BitVec.eq_of_getLsbD_eq
  intro j hj
  have := h (64 * k + j) (by omega)
  unfold has at this
  rwa [show (64 * k + j) / 64 = k by omega, show (64 * k + j) % 64 = j by omega] at this
 have h0 := key 0 (by omega)
 have h1 := key 1 (by omega)
 have h2 := key 2 (by omega)
 have h3 := key 3 (by omega)
 obtain ⟨a, b, c, d⟩ := x
 obtain ⟨e, f, g, k⟩ := y
 simp only [V4.get] at h0 h1 h2 h3
 subst h0 h1 h2 h3
 rfl
def blV (x : V4) : List Bool := (List.range 256).map (has x)
def cntV (x : V4) : Nat := cnt (blV x)
theorem bl_at (x : V4) {b : Nat} (h : b < 256) : (blV x)[b]? = some (has x b) := by
 unfold blV
 rw [gmp, List.getElem?_range h]; rfl
theorem u_grow (x y : V4) : uV x y = x ∨ cntV x < cntV (uV x y) := by
 by_cases e : uV x y = x
 ·exact .inl e
 ·right
  have hle : leB (blV x) (blV (uV x y)) := by
   refine ⟨by simp [blV], fun i hi => ?_⟩
   have hl : i < 256 := by have := (gei.1 hi).1; simpa [blV] using this
   rw [bl_at _ hl] at hi ⊢
   rw [has_u]
   simp only [oiq] at hi
   rw [hi]; rfl
  refine (leB_cnt hle).2 (fun e2 => e (V_ext (fun b hb => ?_)))
  have h1 := bl_at x hb
  rw [← e2, bl_at _ hb] at h1
  simpa using h1
theorem cnt_V (x : V4) : cntV x ≤ 256 := by
 have := cnt_le (blV x)
 simpa [blV, cntV] using this
def atV (o : List V4) (i : Nat) : V4 := (o[i]?).getD zV
def mmV (o : List V4) : Nat := (o.map cntV).sum
theorem at_some {o : List V4} {i : Nat} (h : i < o.length) : o[i]? = some (atV o i) := by
 unfold atV
 rw [geg h]; rfl
theorem at_set {o : List V4} {i : Nat} (h : i < o.length) (z : V4) (j : Nat) : atV (o.set i z) j = if i = j then z else atV o j := by
 unfold atV
 rw [List.getElem?_set]
 by_cases e : i = j
 ·subst e; rw [if_pos rfl, if_pos h, if_pos rfl]; rfl
 ·rw [if_neg e, if_neg e]
theorem set_at {o : List V4} {i : Nat} (h : i < o.length) : o.set i (atV o i) = o := by
 apply List.ext_getElem?
 intro j
 rw [List.getElem?_set]
 by_cases e : i = j
 ·subst e; rw [if_pos rfl, if_pos h, at_some h]
 ·rw [if_neg e]
theorem mm_set (o : List V4) (i : Nat) (y : V4) : o.set i (uV (atV o i) y) = o ∨ mmV o < mmV (o.set i (uV (atV o i) y)) := by
 by_cases h : i < o.length
 ·rcases u_grow (atV o i) y with e | hlt
  ·left; rw [e, set_at h]
  ·right
   have := sum_set (l := o.map cntV) i (cntV (uV (atV o i) y)) (cntV (atV o i)) (by rw [gmp, at_some h]; rfl)
   unfold mmV
   rw [List.map_set]
   omega
 ·left; rw [List.set_eq_of_length_le (by omega)]
theorem mm_le : ∀ (o : List V4), mmV o ≤ 256 * o.length
 | [] => by simp [mmV]
 | x :: o => by
  have h1 := cnt_V x
  have h2 := mm_le o
  simp only [mmV, List.map_cons, List.sum_cons, List.length_cons] at h2 ⊢
  omega
def stF (sh : List Int) (l : Nat) : List V4 → List SymD → List V4
 | o, [] => o
 | o, s :: r => bif s.kind == 0 then o.set l (uV (atV o l) (v4 s)) else
   bif symS sh s == 0 then stF sh l (o.set l (uV (atV o l) (atV o s.sort.toNat))) r else o.set l (uV (atV o l) (atV o s.sort.toNat))
def updF (sh : List Int) (o : List V4) (p : ProdD) : List V4 := bif (p.role != 11) && decide (0 ≤ sumS sh 0 p.right) then stF sh p.left.toNat o p.right else o
theorem stF_grow (sh : List Int) (l : Nat) : ∀ (r : List SymD) (o : List V4), stF sh l o r = o ∨ mmV o < mmV (stF sh l o r)
 | [], o => .inl rfl
 | s :: r, o => by
  simp only [stF]
  cases s.kind == 0
  ·simp only [cond_false]
   have h1 := mm_set o l (atV o s.sort.toNat)
   cases symS sh s == 0
   ·exact h1
   ·simp only [cond_true]
    have h2 := stF_grow sh l r (o.set l (uV (atV o l) (atV o s.sort.toNat)))
    rcases h1 with h1 | h1
    ·rw [h1] at h2 ⊢; exact h2
    ·right
     rcases h2 with h2 | h2
     ·rw [h2]; exact h1
     ·omega
  ·exact mm_set o l (v4 s)
theorem updF_grow (sh : List Int) (o : List V4) (p : ProdD) : updF sh o p = o ∨ mmV o < mmV (updF sh o p) := by
 unfold updF
 cases (p.role != 11) && decide (0 ≤ sumS sh 0 p.right)
 ·exact .inl rfl
 ·exact stF_grow sh _ _ _
theorem stF_len (sh : List Int) (l : Nat) : ∀ (r : List SymD) (o : List V4), (stF sh l o r).length = o.length
 | [], o => rfl
 | s :: r, o => by
  simp only [stF]
  cases s.kind == 0
  ·cases symS sh s == 0
   ·simp
   ·simp only [cond_false, cond_true]; rw [stF_len sh l r]; simp
  ·simp
theorem updF_len (sh : List Int) (o : List V4) (p : ProdD) : (updF sh o p).length = o.length := by
 unfold updF
 cases (p.role != 11) && decide (0 ≤ sumS sh 0 p.right)
 ·rfl
 ·exact stF_len sh _ _ _
theorem stF_set (sh : List Int) (l : Nat) : ∀ (r : List SymD) (o : List V4), l < o.length → stF sh l o r = o.set l (atV (stF sh l o r) l)
 | [], o, h => (set_at h).symm
 | s :: r, o, h => by
  simp only [stF]
  cases s.kind == 0
  ·cases symS sh s == 0
   ·simp only [cond_false]; rw [at_set h, if_pos rfl]
   ·simp only [cond_false, cond_true]
    have := stF_set sh l r (o.set l (uV (atV o l) (atV o s.sort.toNat))) (by simpa using h)
    rw [List.set_set] at this
    exact this
  ·simp only [cond_true]; rw [at_set h, if_pos rfl]
theorem stF_mono (sh : List Int) (l : Nat) {b : Nat} : ∀ (r : List SymD) (o : List V4), l < o.length → has (atV o l) b = true → has (atV (stF sh l o r) l) b = true
 | [], o, _, h => h
 | s :: r, o, hl, h => by
  simp only [stF]
  have key : ∀ y, has (atV (o.set l (uV (atV o l) y)) l) b = true := fun y => by rw [at_set hl, if_pos rfl, has_u, h]; rfl
  cases s.kind == 0
  ·cases symS sh s == 0
   ·exact key _
   ·exact stF_mono sh l r _ (by simpa using hl) (key _)
  ·exact key _
def eqS (x y : SetD) : Bool := (x.a == y.a) && ((x.b == y.b) && ((x.c == y.c) && ((x.d == y.d) && true)))
theorem eqS_sd (x y : V4) : eqS (sd x) (sd y) = decide (x = y) := by
 have key : ∀ p q : BitVec 64, (((p.toNat : Nat) : Int) == (q.toNat : Int)) = decide (p = q) := by
  intro p q
  by_cases e : p = q
  ·subst e; simp
  ·have : ¬ ((p.toNat : Nat) : Int) = (q.toNat : Int) := fun h => e (BitVec.eq_of_toNat_eq (by omega))
   rw [beqF this, decide_eq_false e]
 obtain ⟨a, b, c, d⟩ := x
 obtain ⟨e, f, g, h⟩ := y
 simp only [eqS, sd, key, Bool.and_true]
 by_cases h1 : a = e <;> by_cases h2 : b = f <;> by_cases h3 : c = g <;> by_cases h4 : d = h <;> simp [h1, h2, h3, h4]
section
variable {g : GramD} {n : Nat} {sh : List Int} {p : ProdD}
theorem sd_sym {s : SymD} (h : SymOk s) : (⟨s.a, s.b, s.c, s.d⟩ : SetD) = sd (v4 s) := by
 have := v4_of (wOk_of h)
 simp only [ofV, I4.mk.injEq] at this
 obtain ⟨h1, h2, h3, h4⟩ := this
 simp only [sd]
 rw [h1, h2, h3, h4]
theorem q55 (hs : ShOk n sh) {s : SymD} (hv : SymV n s) (k1 : s.kind = 1) : F55 (nulOf sh) s = some (symS sh s == 0) := by
 obtain ⟨h0, h1⟩ := hv.sort k1
 have hl := hs.len
 have hg : sh[s.sort.toNat]? = some (sh[s.sort.toNat]'(by omega)) := geg _
 have hn : getI (nulOf sh) s.sort = some (symS sh s == 0) := by
  refine getI_some.2 ⟨h0, ?_⟩
  unfold nulOf symS
  rw [gmp, k1, hg]; rfl
 unfold F55
 rw [hn, k1]; rfl
def endE : E_L75_0 → List SetD
 | .k0 x .. => x
 | .k1 x => x
theorem l75_0 (hs : ShOk n sh) (hp : ProdV n p) (hok : ProdOk p) : ∀ (k i : Nat) (o : List V4), i + k = p.right.length → o.length = n →
  ∃ e, runL (fun s => L75_0 p (p.right.length : Int) (nulOf sh) n s.1 s.2) ((i : Int), o.map sd) = some e ∧ endE e = (stF sh p.left.toNat o (p.right.drop i)).map sd
 | 0, i, o, hi, ho => by
  obtain rfl : i = p.right.length := by omega
  refine ⟨.k1 (o.map sd), runL_done (by simp [L75_0]), ?_⟩
  rw [List.drop_length]; rfl
 | k + 1, i, o, hi, ho => by
  have hlen := hp.len
  have hpl := hp.left
  have hx : p.right[i]? = some p.right[i] := geg (by omega)
  have hd : p.right.drop i = p.right[i] :: p.right.drop (i + 1) := (List.drop_eq_getElem_cons (by omega))
  generalize hq : p.right[i] = s at hx hd
  have hmem := mog hx
  have hv := hp.right s hmem
  have hso := hok.right s hmem
  have hix : ixN n p.left = some p.left.toNat := ixN_some.2 ⟨by omega, by omega⟩
  have hm : ∀ j, j < n → (o.map sd)[j]? = some (sd (atV o j)) := fun j hj => by rw [gmp, at_some (by omega)]; rfl
  have hgl := hm p.left.toNat (by omega)
  have hset : ∀ z : V4, (o.map sd).set p.left.toNat (sd z) = (o.set p.left.toNat z).map sd := fun z => by rw [List.map_set]
  rw [hd]
  simp only [stF]
  rcases hv.k with k0 | k1
  ·have h76 : F76 [(⟨(sd (atV o p.left.toNat)).a, (sd (atV o p.left.toNat)).b, (sd (atV o p.left.toNat)).c, (sd (atV o p.left.toNat)).d⟩ : SetD), (⟨s.a, s.b, s.c, s.d⟩ : SetD)] = some (.k0 (sd (uV (atV o p.left.toNat) (v4 s))).a (sd (uV (atV o p.left.toNat) (v4 s))).b (sd (uV (atV o p.left.toNat) (v4 s))).c (sd (uV (atV o p.left.toNat) (v4 s))).d) := by
    rw [sd_sym hso]; exact q76 (atV o p.left.toNat) (v4 s)
   have hs2 := hset (uV (atV o p.left.toNat) (v4 s))
   rw [k0, beq_self_eq_true, cond_true]
   have hstep : ∃ e, L75_0 p (p.right.length : Int) (nulOf sh) n (i : Int) (o.map sd) = some (.inl e) ∧ endE e = (o.set p.left.toNat (uV (atV o p.left.toNat) (v4 s))).map sd := by
    simp only [L75_0, getI_nat, hx, bsm, decide_eq_true (show (i : Int) < (p.right.length : Int) by omega), cond_true, k0, beq_self_eq_true, hix, hgl, h76]
    exact ⟨_, rfl, hs2⟩
   obtain ⟨e, e1, e2⟩ := hstep
   exact ⟨e, runL_done e1, e2⟩
  ·have h10 : ((1 : Int) == 0) = false := rfl
   obtain ⟨q0, q1⟩ := hv.sort k1
   have hix2 : ixN n s.sort = some s.sort.toNat := ixN_some.2 ⟨by omega, by omega⟩
   have hgs := hm s.sort.toNat (by omega)
   have h76 : F76 [(⟨(sd (atV o p.left.toNat)).a, (sd (atV o p.left.toNat)).b, (sd (atV o p.left.toNat)).c, (sd (atV o p.left.toNat)).d⟩ : SetD), (⟨(sd (atV o s.sort.toNat)).a, (sd (atV o s.sort.toNat)).b, (sd (atV o s.sort.toNat)).c, (sd (atV o s.sort.toNat)).d⟩ : SetD)] = some (.k0 (sd (uV (atV o p.left.toNat) (atV o s.sort.toNat))).a (sd (uV (atV o p.left.toNat) (atV o s.sort.toNat))).b (sd (uV (atV o p.left.toNat) (atV o s.sort.toNat))).c (sd (uV (atV o p.left.toNat) (atV o s.sort.toNat))).d) :=
    q76 (atV o p.left.toNat) (atV o s.sort.toNat)
   have hs2 := hset (uV (atV o p.left.toNat) (atV o s.sort.toNat))
   rw [k1, h10, cond_false]
   cases hz : symS sh s == 0 with
   | true =>
    have hstep : L75_0 p (p.right.length : Int) (nulOf sh) n (i : Int) (o.map sd) = some (.inr (((i + 1 : Nat) : Int), (o.set p.left.toNat (uV (atV o p.left.toNat) (atV o s.sort.toNat))).map sd)) := by
     rw [← hs2]
     simp only [L75_0, getI_nat, hx, bsm, decide_eq_true (show (i : Int) < (p.right.length : Int) by omega), cond_true, k1, h10, cond_false, hix, hgl, hix2, hgs, h76, q55 hs hv k1, hz, w_S (show i < 4611686018427387904 by omega)]
    rw [runL_next (step := fun s => L75_0 p (p.right.length : Int) (nulOf sh) n s.1 s.2) (s := ((i : Int), o.map sd)) hstep]
    rw [cond_true]
    exact l75_0 hs hp hok k (i + 1) _ (by omega) (by simpa using ho)
   | false =>
    rw [cond_false]
    have hstep : ∃ e, L75_0 p (p.right.length : Int) (nulOf sh) n (i : Int) (o.map sd) = some (.inl e) ∧ endE e = (o.set p.left.toNat (uV (atV o p.left.toNat) (atV o s.sort.toNat))).map sd := by
     simp only [L75_0, getI_nat, hx, bsm, decide_eq_true (show (i : Int) < (p.right.length : Int) by omega), cond_true, k1, h10, cond_false, hix, hgl, hix2, hgs, h76, q55 hs hv k1, hz]
     exact ⟨_, rfl, hs2⟩
    obtain ⟨e, e1, e2⟩ := hstep
    exact ⟨e, runL_done e1, e2⟩
def endF75 : R_F75 → List SetD → Bool × List SetD
 | .k0, o => (false, o)
 | .k1 b o .., _ => (b, o)
 | .k2 b o .., _ => (b, o)
theorem q75 (hs : ShOk n sh) (hp : ProdV n p) (hok : ProdOk p) {o : List V4} (ho : o.length = n) (hr : (p.role != 11) = true) :
  ∃ r, F75 p sh (nulOf sh) (o.map sd) n = some r ∧ endF75 r (o.map sd) = (decide (updF sh o p ≠ o), (updF sh o p).map sd) := by
 have hlen := hp.len
 have hpl := hp.left
 have hll : p.left.toNat < o.length := by omega
 have hix : ixN n p.left = some p.left.toNat := ixN_some.2 ⟨by omega, by omega⟩
 have hm : ∀ (o : List V4) j, j < o.length → (o.map sd)[j]? = some (sd (atV o j)) := fun o j hj => by rw [gmp, at_some hj]; rfl
 unfold F75 updF
 simp only [q48 hs hp.right (show p.right.length ≤ 31 by omega), bsm, hr, Bool.true_and]
 by_cases c0 : sumS sh 0 p.right < 0
 ·rw [decide_eq_true c0, decide_eq_false (show ¬ 0 ≤ sumS sh 0 p.right by omega)]
  exact ⟨_, rfl, by simp [endF75]⟩
 rw [decide_eq_false c0, decide_eq_true (show 0 ≤ sumS sh 0 p.right by omega)]
 obtain ⟨e, he1, he2⟩ := l75_0 hs hp hok p.right.length 0 o (by omega) ho
 rw [List.drop_zero] at he2
 have e0 : ((0 : Nat) : Int) = 0 := rfl
 rw [e0] at he1
 have hflag : ∀ o', stF sh p.left.toNat o p.right = o' → (!eqS (sd (atV o' p.left.toNat)) (sd (atV o p.left.toNat))) = decide (o' ≠ o) := by
  intro o' ho'
  rw [eqS_sd]
  have h1 := stF_set sh p.left.toNat p.right o hll
  rw [ho'] at h1
  by_cases e : atV o' p.left.toNat = atV o p.left.toNat
  ·rw [e, set_at hll] at h1
   simp [e, h1]
  ·have : o' ≠ o := fun e2 => e (by rw [e2])
   simp [e, this]
 have hfin := hm (stF sh p.left.toNat o p.right) p.left.toNat (by rw [stF_len]; exact hll)
 rw [← he2] at hfin
 simp only [cond_false, cond_true, hix, bsm, hm o p.left.toNat hll, he1]
 have hfl := hflag _ rfl
 cases e with
 | k0 x0 =>
  simp only [endE] at hfin he2
  simp only [hfin, bsm]
  exact ⟨_, rfl, Prod.ext hfl he2⟩
 | k1 x0 =>
  simp only [endE] at hfin he2
  simp only [hfin, bsm]
  exact ⟨_, rfl, Prod.ext hfl he2⟩
theorem l46_0_3 (hg : GramOk g) (hv : GramV g) (hn : n = g.sorts.length) (hs : ShOk n sh) : ∀ (k i : Nat) (b : Bool) (o : List V4), i + k = g.prods.length → o.length = n →
  runL (fun s => L46_0_3 g sh (nulOf sh) (g.prods.length : Int) n s.1 s.2.1 s.2.2) (b, (i : Int), o.map sd) =
   some (.k0 ((g.prods.drop i).foldl (fun (a : Bool × List V4) x => (a.1 || decide (updF sh a.2 x ≠ a.2), updF sh a.2 x)) (b, o)).1 (((g.prods.drop i).foldl (fun (a : Bool × List V4) x => (a.1 || decide (updF sh a.2 x ≠ a.2), updF sh a.2 x)) (b, o)).2.map sd))
 | 0, i, b, o, hi, ho => by
  obtain rfl : i = g.prods.length := by omega
  rw [List.drop_length]
  exact runL_done (by simp [L46_0_3])
 | k + 1, i, b, o, hi, ho => by
  have hgp := hg.prods
  have hx : g.prods[i]? = some g.prods[i] := geg (by omega)
  have hd : g.prods.drop i = g.prods[i] :: g.prods.drop (i + 1) := (List.drop_eq_getElem_cons (by omega))
  generalize hp : g.prods[i] = p at hx hd
  have hmem : p ∈ g.prods := mog hx
  have hpv : ProdV n p := by rw [hn]; exact hv.prod p hmem
  rw [hd]
  simp only [List.foldl_cons]
  have hstep : L46_0_3 g sh (nulOf sh) (g.prods.length : Int) n b (i : Int) (o.map sd) = some (.inr (b || decide (updF sh o p ≠ o), ((i + 1 : Nat) : Int), (updF sh o p).map sd)) := by
   simp only [L46_0_3, getI_nat, hx, bsm, decide_eq_true (show (i : Int) < (g.prods.length : Int) by omega), cond_true, F54, w_S (show i < 4611686018427387904 by omega)]
   cases hr : p.role != 11 with
   | false => simp [updF, hr]
   | true =>
    obtain ⟨r, h1, h2⟩ := q75 hs hpv (hg.prod p hmem) ho hr
    simp only [cond_true, h1, bsm]
    cases r with
    | k0 =>
     simp only [endF75, Prod.mk.injEq] at h2
     rw [← h2.1, ← h2.2]; simp
    | k1 x0 x1 =>
     simp only [endF75, Prod.mk.injEq] at h2
     rw [← h2.1, ← h2.2]; cases x0 <;> simp
    | k2 x0 x1 =>
     simp only [endF75, Prod.mk.injEq] at h2
     rw [← h2.1, ← h2.2]; cases x0 <;> simp
  rw [runL_next (step := fun s => L46_0_3 g sh (nulOf sh) (g.prods.length : Int) n s.1 s.2.1 s.2.2) (s := (b, (i : Int), o.map sd)) hstep]
  exact l46_0_3 hg hv hn hs k (i + 1) _ _ (by omega) ((updF_len sh o p).trans ho)
def swF (sh : List Int) (g : GramD) (o : List V4) : List V4 := g.prods.foldl (updF sh) o
theorem swF_len (sh : List Int) : ∀ (ps : List ProdD) (o : List V4), (ps.foldl (updF sh) o).length = o.length
 | [], o => rfl
 | p :: ps, o => by simp only [List.foldl_cons]; rw [swF_len sh ps, updF_len]
def firstOf (sh : List Int) (g : GramD) : List V4 := itN (swF sh g) (256 * g.sorts.length) (List.replicate g.sorts.length zV)
theorem first_len (sh : List Int) (g : GramD) : (firstOf sh g).length = g.sorts.length :=
 itN_inv (Inv := fun a => a.length = g.sorts.length) (fun a ha => (swF_len sh g.prods a).trans ha) _ _ (by simp)
theorem swF_mm (sh : List Int) (g : GramD) (o : List V4) (h : swF sh g o ≠ o) : mmV o < mmV (swF sh g o) := (fold_grow mmV (updF_grow sh) g.prods o).resolve_left h
theorem first_fix (sh : List Int) (g : GramD) : swF sh g (firstOf sh g) = firstOf sh g :=
 itN_fix mmV (256 * g.sorts.length) (fun a => a.length = g.sorts.length) (fun a ha => (swF_len sh g.prods a).trans ha) (fun a _ h => swF_mm sh g a h) (fun a ha => by have := mm_le a; rw [ha] at this; exact this) _ _ (by simp) (by omega)
theorem first_upd (sh : List Int) (g : GramD) : ∀ p ∈ g.prods, updF sh (firstOf sh g) p = firstOf sh g := fold_fix mmV (updF_grow sh) g.prods (firstOf sh g) (first_fix sh g)
theorem mk32 {k : Nat} (h : k ≤ 40) : mkOk (k : Int) 32 = true := by
 unfold mkOk limit47
 exact decide_eq_true (by omega)
theorem q61 (hg : GramOk g) (hv : GramV g) (hs : ShOk g.sorts.length sh) : F61_2 g sh (nulOf sh) = some ((firstOf sh g).map sd) := by
 have h40 := hg.sorts
 have e0 : ((0 : Nat) : Int) = 0 := rfl
 have hloop : ∀ (k : Nat) (o : List V4), o.length = g.sorts.length → 256 * g.sorts.length ≤ mmV o + k → runL (fun s => L46_1_4 g sh (nulOf sh) g.sorts.length s) (o.map sd) = some (.k0 ((itN (swF sh g) k o).map sd)) := by
  intro k
  induction k with
  | zero =>
   intro o ho hk
   have h1 := l46_0_3 hg hv rfl hs g.prods.length 0 false o (by omega) ho
   rw [List.drop_zero, foldG mmV (updF_grow sh), e0] at h1
   have hfix : swF sh g o = o := by
    by_cases e : swF sh g o = o
    ·exact e
    ·have h2 := swF_mm sh g o e
     have h3 := mm_le (swF sh g o)
     rw [show (swF sh g o).length = g.sorts.length from (swF_len sh g.prods o).trans ho] at h3
     omega
   unfold swF at hfix
   rw [hfix] at h1
   exact runL_done (by simp only [L46_1_4, h1, bsm]; simp [itN])
  | succ k ih =>
   intro o ho hk
   have h1 := l46_0_3 hg hv rfl hs g.prods.length 0 false o (by omega) ho
   rw [List.drop_zero, foldG mmV (updF_grow sh), e0] at h1
   by_cases e : swF sh g o = o
   ·rw [itN_fixed e]
    unfold swF at e
    rw [e] at h1
    exact runL_done (by simp only [L46_1_4, h1, bsm]; simp)
   ·have h2 := swF_mm sh g o e
    have hlen : (swF sh g o).length = g.sorts.length := (swF_len sh g.prods o).trans ho
    have e' : g.prods.foldl (updF sh) o ≠ o := e
    rw [decide_eq_true e', Bool.or_true] at h1
    have hstep : L46_1_4 g sh (nulOf sh) g.sorts.length (o.map sd) = some (.inr ((swF sh g o).map sd)) := by
     simp only [L46_1_4, h1, bsm, Bool.false_or, cond_true]; rfl
    rw [runL_next (step := fun s => L46_1_4 g sh (nulOf sh) g.sorts.length s) (s := o.map sd) hstep]
    exact ih _ hlen (by omega)
 have hl := hloop (256 * g.sorts.length) (List.replicate g.sorts.length zV) (by simp) (by omega)
 have hrep : (List.replicate g.sorts.length zV).map sd = List.replicate g.sorts.length (⟨0, 0, 0, 0⟩ : SetD) := by
  rw [List.map_replicate]; rfl
 rw [hrep] at hl
 have hlen : ((itN (swF sh g) (256 * g.sorts.length) (List.replicate g.sorts.length zV)).map sd).length = g.sorts.length := by rw [List.length_map]; exact first_len sh g
 have hl2 : runL (fun (_ : Unit) => L46_2_2 g sh (nulOf sh) (List.replicate g.sorts.length (⟨0, 0, 0, 0⟩ : SetD)) g.sorts.length) () = some (.k0 ((itN (swF sh g) (256 * g.sorts.length) (List.replicate g.sorts.length zV)).map sd)) := runL_done (by simp only [L46_2_2, hl, bsm])
 unfold F61_2 F46_4
 simp only [mk32 h40, cond_true, Int.toNat_natCast, hl2, bsm, hlen, decide_eq_true (Nat.le_refl _)]
 rw [tol (by rw [hlen]; exact Nat.le_refl _)]
 rfl
end
theorem app_list (a b : ByteArray) : (a ++ b).data.toList = a.data.toList ++ b.data.toList := by simp
section
variable {g : GramD} {n : Nat} {sh : List Int} {m : Mp} {a : Int} {p : ProdD}
end
structure ArgOk (g : GramD) : Prop where
 left : ∀ p ∈ g.prods, i64ok p.left
 role : ∀ p ∈ g.prods, i64ok p.role
 sym : ∀ p ∈ g.prods, ∀ s ∈ p.right, SymOk s
 foll : ∀ f ∈ g.follow, u64ok f.a ∧ u64ok f.b ∧ u64ok f.c ∧ u64ok f.d
 forb : ∀ f ∈ g.forbid, i64ok f.at_
theorem q10 {g : GramD} (h : ArgOk g) : ∃ v, F10 g = some v ∧ (v = false → GramOk g) := by
 unfold F10
 by_cases c1 : (g.sorts.length : Int) > 40
 ·rw [decide_eq_true c1]; exact ⟨true, rfl, fun e => by cases e⟩
 rw [decide_eq_false c1, cond_false]
 by_cases c2 : (g.prods.length : Int) > 80
 ·rw [decide_eq_true c2]; exact ⟨true, rfl, fun e => by cases e⟩
 rw [decide_eq_false c2, cond_false]
 by_cases c3 : (g.forbid.length : Int) > 200
 ·rw [decide_eq_true c3]; exact ⟨true, rfl, fun e => by cases e⟩
 rw [decide_eq_false c3, cond_false]
 by_cases c4 : (g.follow.length : Int) > 200
 ·rw [decide_eq_true c4]; exact ⟨true, rfl, fun e => by cases e⟩
 rw [decide_eq_false c4, cond_false]
 have key : runL (fun s => L10_0 g s) 0 = some (bif allF (fun _ (p : ProdD) => !decide ((p.right.length : Int) > 31) && !decide ((p.cons.size : Int) > 200)) 0 g.prods then E_L10_0.k1 else E_L10_0.k0) := by
  refine loop_list (fun _ (p : ProdD) => !decide ((p.right.length : Int) > 31) && !decide ((p.cons.size : Int) > 200)) (fun i p hx => ?_) ?_
  ·have hl : i < g.prods.length := (gei.1 hx).1
   simp only [L10_0, getI_nat, hx, bsm, decide_eq_true (show (i : Int) < (g.prods.length : Int) by omega), cond_true, w_S (show i < 4611686018427387904 by omega)]
   cases decide ((p.right.length : Int) > 31) <;> cases decide ((p.cons.size : Int) > 200) <;> rfl
  ·simp [L10_0]
 rw [key]
 cases hall : allF (fun _ (p : ProdD) => !decide ((p.right.length : Int) > 31) && !decide ((p.cons.size : Int) > 200)) 0 g.prods with
 | false => exact ⟨true, rfl, fun e => by cases e⟩
 | true =>
  refine ⟨false, rfl, fun _ => ⟨by omega, by omega, by omega, by omega, fun p hp => ?_, h.foll, h.forb⟩⟩
  obtain ⟨k, hk⟩ := List.getElem?_of_mem hp
  have := (allF_iff _ _).1 hall k p hk
  simp only [aet, Bool.not_eq_true', decide_eq_false_iff_not] at this
  exact ⟨h.left p hp, h.sym p hp, by omega, h.role p hp⟩
end Go.Proofs.Tryd
