/- Whether a grammar may be: the program and the document's answer say the same. -/
import Derived.Test.YtefidjmkfefilaaDoorH83
import Derived.Test.YtefidjmkfefilaaDoorVE
open Option renaming bind_some → bsm
open Bool renaming and_eq_true → aet
open List renaming getElem?_eq_some_iff → gei, getElem?_eq_getElem → geg, mem_of_getElem? → mog, take_of_length_le → tol, getElem?_map → gmp
namespace Go.Proofs.Tryd
set_option linter.unusedSimpArgs false
set_option linter.unusedVariables false
open Go Go.Vs
def Yz (a : Int) : Prop := 0 ≤ a ∧ a ≤ 18446744073709551615
def WN (a : Int) : Prop := -9223372036854775808 ≤ a ∧ a ≤ 9223372036854775807
structure SymOk (s : SymD) : Prop where
 kind : WN s.kind
 a : Yz s.a
 b : Yz s.b
 c : Yz s.c
 d : Yz s.d
 sort : WN s.sort
structure ProdOk (p : ProdD) : Prop where
 left : WN p.left
 right : ∀ s ∈ p.right, SymOk s
 len : p.right.length ≤ 31
 role : WN p.role
structure GramOk (g : GramD) : Prop where
 sorts : g.sorts.length ≤ 40
 prods : g.prods.length ≤ 80
 forbid : g.forbid.length ≤ 200
 follow : g.follow.length ≤ 200
 prod : ∀ p ∈ g.prods, ProdOk p
 foll : ∀ f ∈ g.follow, Yz f.a ∧ Yz f.b ∧ Yz f.c ∧ Yz f.d
 forb : ∀ f ∈ g.forbid, WN f.at_
def inR (n : Nat) (x : Int) : Bool := decide (0 ≤ x) && decide (x < (n : Int))
def Yp (g : GramD) (x : Int) : Bool := inR g.sorts.length x
def Xb (a b c d : Int) : Bool := (a == 0) && ((b == 0) && ((c == 0) && ((d == 0) && true)))
def pk {α : Type} (l : List α) (f : α → Bool) (k : Nat) : Bool := match l[k]? with | some t => f t | none => true
def pv {α : Type} (l : List α) (f : α → Bool) (i : Nat) : Bool := (List.range i).all (pk l f)
def TH (g : GramD) (i : Nat) (s : ByteArray) : Bool := !decide (s = .empty) && !decide ((s.size : Int) > 1000) && pv g.sorts (fun t => !decide (t = s)) i
def R5 (g : GramD) (p : ProdD) (s : SymD) : Bool :=
 bif s.kind == 0 then !Xb s.a s.b s.c s.d && (s.sort == 0) else bif s.kind == 1 then Xb s.a s.b s.c s.d && Yp g s.sort && !(p.role == 11) else false
def WK (g : GramD) (p : ProdD) : Bool :=
 Yp g p.left && !decide ((p.right.length : Int) > 30) && !decide (p.role < 0) && !decide (p.role > 11) && !decide (p.frm < -1) && !decide ((p.cons.size : Int) > 64) && (decide (p.cons = .empty) || (p.role == 0)) && !(p.prefer && p.avoid) && allF (fun _ s => R5 g p s) 0 p.right
theorem eqE (s : ByteArray) : (s.toList == (⟨([] : List UInt8).toArray⟩ : ByteArray).toList) = decide (s = .empty) := QC
theorem NI (c d : Bool) : (bif c then some d else some false) = some (c && d) := by cases c <;> rfl
theorem q41 (g : GramD) : F41 g = some (Yp g g.start) := NI _ _
theorem ZcM (g : GramD) (p : ProdD) : Dl g p = some (Yp g p.left) := NI _ _
theorem ZcN (g : GramD) (p : SymD) : GB g p = some (Yp g p.sort) := NI _ _
theorem ZcO (g : GramD) (p : FollD) : Dq g p = some (Yp g p.sort) := NI _ _
theorem q73 (p : ProdD) (g : GramD) : F73 p g = some (Yp g p.left) := NI _ _
theorem ZcP (s : SymD) (g : GramD) : Du s g = some (Yp g s.sort) := NI _ _
theorem or4 {a b c d : Int} (ha : Yz a) (hb : Yz b) (hc : Yz c) (hd : Yz d) :
  ((IntKind.wrap .u64 ((BitVec.ofInt (IntKind.bits .u64) (IntKind.wrap .u64 ((BitVec.ofInt (IntKind.bits .u64) (IntKind.wrap .u64 ((BitVec.ofInt (IntKind.bits .u64) a ||| BitVec.ofInt (IntKind.bits .u64) b).toNat : Int)) ||| BitVec.ofInt (IntKind.bits .u64) c).toNat : Int)) ||| BitVec.ofInt (IntKind.bits .u64) d).toNat : Int)) == 0) = Xb a b c d := by
 have e2 : ∀ x y : BitVec 64, decide ((x ||| y) = 0#64) = (decide (x = 0#64) && decide (y = 0#64)) := by
  intro x y
  by_cases hx : x = 0#64
  ·subst hx; simp
  ·have : ¬ (x ||| y) = 0#64 := by
    intro h
    apply hx
    apply BitVec.eq_of_getLsbD_eq
    intro i hi
    have := congrArg (fun z => z.getLsbD i) h
    simp only [BitVec.getLsbD_or, BitVec.getLsbD_zero, Bool.or_eq_false_iff] at this
    rw [this.1]; simp
   simp [hx, this]
 rw [BW, Cv, Cv, e2, e2, Vr ha, Vr hb, Vr hc, Vr hd]
 simp only [Xb, Bool.and_assoc, Bool.and_true]
theorem q44 {s : SymD} (h : SymOk s) : F44 s = some (Xb s.a s.b s.c s.d) := by
 unfold F44
 rw [or4 h.a h.b h.c h.d]
theorem ZcQ {f : FollD} (h : Yz f.a ∧ Yz f.b ∧ Yz f.c ∧ Yz f.d) : GG f = some (Xb f.a f.b f.c f.d) := by
 unfold GG
 rw [or4 h.1 h.2.1 h.2.2.1 h.2.2.2]
theorem QT {α : Type} (l : List α) (f : α → Bool) : ∀ (i : Nat), i ≤ l.length → pv l f i = (l.take i).all f
 | 0, _ => rfl
 | i + 1, h => by
  have hx : l[i]? = some l[i] := geg (by omega)
  have ih := QT l f i (by omega)
  unfold pv at ih ⊢
  rw [List.range_succ, List.all_append, ih, List.take_add_one, hx, List.all_append]
  simp [pk, hx]
theorem ZcR (g : GramD) {i : Nat} {x : ByteArray} (hi : g.sorts[i]? = some x) (hn : g.sorts.length ≤ 40) :
  runL (fun s => OS (i : Int) g s) 0 = some (bif pv g.sorts (fun t => !decide (t = x)) i then E_L12_5.k1 else E_L12_5.k0) := by
 have hl : i < g.sorts.length := (gei.1 hi).1
 refine Vq (pk g.sorts (fun t => !decide (t = x))) (fun k hk => ?_) ?_
 ·have hy : g.sorts[k]? = some g.sorts[k] := geg (by omega)
  simp only [OS, Zj, hi, hy, bsm, decide_eq_true (show (k : Int) < (i : Int) by omega), cond_true, QC, w_S (show k < 4611686018427387904 by omega), pk]
  by_cases e : g.sorts[k] = x <;> simp [e]
 ·simp [OS]
theorem beqF {a b : Int} (h : ¬ a = b) : (a == b) = false := by simp [h]
theorem bneT {a b : Int} (h : ¬ a = b) : (a != b) = true := by simp [h]
theorem ZcS {g : GramD} {p : ProdD} (hp : ProdOk p) : runL (fun s => Ra g p s) 0 = some (bif allF (fun _ s => R5 g p s) 0 p.right then E_L42_0.k1 else E_L42_0.k0) := by
 have hlen := hp.len
 refine Yb (fun _ s => R5 g p s) (fun i x hx => ?_) ?_
 ·have hl : i < p.right.length := (gei.1 hx).1
  have hs := hp.right x (mog hx)
  simp only [Ra, Zj, hx, bsm, decide_eq_true (show (i : Int) < (p.right.length : Int) by omega), cond_true, q44 hs, ZcN, w_S (show i < 4611686018427387904 by omega), R5]
  by_cases k0 : x.kind = 0
  ·rw [k0]
   cases Xb x.a x.b x.c x.d <;> by_cases hz : x.sort = 0 <;> first | (simp [hz]; done) | simp [beqF hz, bneT hz]
  ·by_cases k1 : x.kind = 1
   ·rw [k1]
    cases Xb x.a x.b x.c x.d <;> cases Yp g x.sort <;> by_cases hr : p.role = 11 <;> first | (simp [hr]; done) | simp [beqF hr]
   ·simp [beqF k0, beqF k1, bneT k0, bneT k1]
 ·simp [Ra]
theorem q42 {g : GramD} {p : ProdD} (hp : ProdOk p) : F42 g p = some (WK g p) := by
 unfold F42 WK
 rw [ZcM, ZcS hp, eqE]
 simp only [bsm]
 cases Yp g p.left <;> simp only [cond_true, cond_false, Bool.false_and, Bool.true_and]
 cases decide ((p.right.length : Int) > 30) <;> simp only [cond_true, cond_false, Bool.false_and, Bool.true_and, Bool.not_true, Bool.not_false]
 cases decide (p.role < 0) <;> simp only [cond_true, cond_false, Bool.false_and, Bool.true_and, Bool.not_true, Bool.not_false]
 cases decide (p.role > 11) <;> simp only [cond_true, cond_false, Bool.false_and, Bool.true_and, Bool.not_true, Bool.not_false]
 cases decide (p.frm < -1) <;> simp only [cond_true, cond_false, Bool.false_and, Bool.true_and, Bool.not_true, Bool.not_false]
 cases decide ((p.cons.size : Int) > 64) <;> simp only [cond_true, cond_false, Bool.false_and, Bool.true_and, Bool.not_true, Bool.not_false]
 cases decide (p.cons = ByteArray.empty) <;> by_cases hr : p.role = 0 <;> cases p.prefer <;> cases p.avoid <;> cases allF (fun _ s => R5 g p s) 0 p.right <;> first | (simp [hr]; done) | simp [beqF hr, bneT hr]
theorem ZcT {g : GramD} (hg : GramOk g) : runL (fun s => OW g s) 0 = some (bif allF (fun _ p => WK g p) 0 g.prods then E_L12_4.k1 else E_L12_4.k0) := by
 have hlen := hg.prods
 refine Yb (fun _ p => WK g p) (fun i x hx => ?_) ?_
 ·have hl : i < g.prods.length := (gei.1 hx).1
  simp only [OW, Zj, hx, bsm, decide_eq_true (show (i : Int) < (g.prods.length : Int) by omega), cond_true, q42 (hg.prod x (mog hx)), w_S (show i < 4611686018427387904 by omega)]
  cases WK g x <;> rfl
 ·simp [OW]
def QU (g : GramD) (f : ForbD) : Bool :=
 match getI g.prods f.parent, getI g.prods f.child with
 | some p, some c => !(p.role == 11) && !(c.role == 11) && !decide (f.at_ < 1) && !decide (f.at_ > (p.right.length : Int)) && (match getI p.right (f.at_ - 1) with | some s => (s.kind == 1) && (s.sort == c.left) | none => false)
 | _, _ => false
theorem Y5 {α : Type} {l : List α} {i : Int} (h : i < 0 ∨ (l.length : Int) ≤ i) : getI l i = none := by
 unfold getI
 split
 ·rw [List.getElem?_eq_none (by omega)]
 ·rfl
theorem Tx {α : Type} {l : List α} {i : Int} (h0 : ¬ i < 0) (h1 : ¬ (l.length : Int) ≤ i) : ∃ x, getI l i = some x := by
 unfold getI
 rw [if_pos (by omega)]
 exact ⟨_, geg (by omega)⟩
theorem q43 {g : GramD} (hg : GramOk g) {f : ForbD} (hf : WN f.at_) : F43 g f = some (QU g f) := by
 unfold F43 QU
 by_cases h1 : f.parent < 0
 ·simp [h1, Y5 (l := g.prods) (.inl h1)]
 by_cases h2 : (g.prods.length : Int) ≤ f.parent
 ·simp [h2, h1, Y5 (l := g.prods) (.inr h2)]
 obtain ⟨p, hp⟩ := Tx h1 h2
 by_cases h3 : f.child < 0
 ·simp [h1, h2, h3, hp, Y5 (l := g.prods) (.inl h3)]
 by_cases h4 : (g.prods.length : Int) ≤ f.child
 ·simp [h1, h2, h3, h4, hp, Y5 (l := g.prods) (.inr h4)]
 obtain ⟨c, hc⟩ := Tx h3 h4
 simp only [hp, hc, decide_eq_false h1, decide_eq_false h3, decide_eq_false (show ¬ f.parent ≥ (g.prods.length : Int) from h2), decide_eq_false (show ¬ f.child ≥ (g.prods.length : Int) from h4), cond_false, bsm]
 by_cases h5 : p.role = 11
 ·simp [h5]
 by_cases h6 : c.role = 11
 ·simp [beqF h5, h6]
 by_cases h7 : f.at_ < 1
 ·simp [beqF h5, beqF h6, h7]
 by_cases h8 : f.at_ > (p.right.length : Int)
 ·simp [beqF h5, beqF h6, h7, h8]
 have hb1 : (p.role == 11) = false := by simp [h5]
 have hb2 : (c.role == 11) = false := by simp [h6]
 simp only [hb1, hb2, decide_eq_false h7, decide_eq_false h8, cond_false, Bool.not_false, Bool.true_and]
 unfold WN at hf
 rw [w_id (by omega)]
 obtain ⟨s, hs⟩ := Tx (l := p.right) (i := f.at_ - 1) (by omega) (by omega)
 rw [hs]
 simp only [bsm]
 exact NI _ _
theorem ZcU (g : GramD) (hn : g.sorts.length ≤ 40) : runL (fun s => OU g s) 0 = some (bif allF (TH g) 0 g.sorts then E_L12_6.k1 else E_L12_6.k0) := by
 refine Yb (TH g) (fun i x hx => ?_) ?_
 ·have hl : i < g.sorts.length := (gei.1 hx).1
  simp only [OU, Zj, hx, bsm, decide_eq_true (show (i : Int) < (g.sorts.length : Int) by omega), cond_true, eqE, ZcR g hx hn, w_S (show i < 4611686018427387904 by omega), TH]
  cases decide (x = ByteArray.empty) <;> cases decide ((x.size : Int) > 1000) <;> simp
  cases pv g.sorts (fun t => !decide (t = x)) i <;> simp
 ·simp [OU]
def eqFo (x y : ForbD) : Bool := (x.parent == y.parent) && ((x.at_ == y.at_) && ((x.child == y.child) && true))
def WG (g : GramD) (i : Nat) (f : ForbD) : Bool := QU g f && pv g.forbid (fun t => !eqFo t f) i
def Va (g : GramD) (i : Nat) (f : FollD) : Bool := Yp g f.sort && !Xb f.a f.b f.c f.d && pv g.follow (fun t => !(t.sort == f.sort)) i
theorem ZcV (g : GramD) {i : Nat} {x : ForbD} (hi : g.forbid[i]? = some x) (hn : g.forbid.length ≤ 200) :
  runL (fun s => OY (i : Int) g s) 0 = some (bif pv g.forbid (fun t => !eqFo t x) i then E_L12_2.k1 else E_L12_2.k0) := by
 have hl : i < g.forbid.length := (gei.1 hi).1
 refine Vq (pk g.forbid (fun t => !eqFo t x)) (fun k hk => ?_) ?_
 ·have hy : g.forbid[k]? = some g.forbid[k] := geg (by omega)
  simp only [OY, Zj, hi, hy, bsm, decide_eq_true (show (k : Int) < (i : Int) by omega), cond_true, w_S (show k < 4611686018427387904 by omega), eqFo, pk]
  cases (g.forbid[k].parent == x.parent && (g.forbid[k].at_ == x.at_ && (g.forbid[k].child == x.child && true))) <;> rfl
 ·simp [OY]
theorem ZcW {g : GramD} (hg : GramOk g) : runL (fun s => O0 g s) 0 = some (bif allF (WG g) 0 g.forbid then E_L12_3.k1 else E_L12_3.k0) := by
 have hn := hg.forbid
 refine Yb (WG g) (fun i x hx => ?_) ?_
 ·have hl : i < g.forbid.length := (gei.1 hx).1
  simp only [O0, Zj, hx, bsm, decide_eq_true (show (i : Int) < (g.forbid.length : Int) by omega), cond_true, q43 hg (hg.forb x (mog hx)), ZcV g hx hn, w_S (show i < 4611686018427387904 by omega), WG]
  cases QU g x
  ·rfl
  ·simp only [cond_true, Bool.true_and]
   cases pv g.forbid (fun t => !eqFo t x) i <;> rfl
 ·simp [O0]
theorem ZcX (g : GramD) {i : Nat} {x : FollD} (hi : g.follow[i]? = some x) (hn : g.follow.length ≤ 200) :
  runL (fun s => O2 (i : Int) g s) 0 = some (bif pv g.follow (fun t => !(t.sort == x.sort)) i then E_L12_0.k1 else E_L12_0.k0) := by
 have hl : i < g.follow.length := (gei.1 hi).1
 refine Vq (pk g.follow (fun t => !(t.sort == x.sort))) (fun k hk => ?_) ?_
 ·have hy : g.follow[k]? = some g.follow[k] := geg (by omega)
  simp only [O2, Zj, hi, hy, bsm, decide_eq_true (show (k : Int) < (i : Int) by omega), cond_true, w_S (show k < 4611686018427387904 by omega), pk]
  cases (g.follow[k].sort == x.sort) <;> rfl
 ·simp [O2]
theorem ZcY {g : GramD} (hg : GramOk g) : runL (fun s => O4 g s) 0 = some (bif allF (Va g) 0 g.follow then E_L12_1.k1 else E_L12_1.k0) := by
 have hn := hg.follow
 refine Yb (Va g) (fun i x hx => ?_) ?_
 ·have hl : i < g.follow.length := (gei.1 hx).1
  simp only [O4, Zj, hx, bsm, decide_eq_true (show (i : Int) < (g.follow.length : Int) by omega), cond_true, ZcO, ZcQ (hg.foll x (mog hx)), ZcX g hx hn, w_S (show i < 4611686018427387904 by omega), Va]
  cases Yp g x.sort
  ·rfl
  ·cases Xb x.a x.b x.c x.d
   ·simp only [cond_true, cond_false, Bool.true_and, Bool.not_false]
    cases pv g.follow (fun t => !(t.sort == x.sort)) i <;> rfl
   ·rfl
 ·simp [O4]
def WH (g : GramD) : Bool := !decide ((g.sorts.length : Int) < 1) && Yp g g.start && allF (TH g) 0 g.sorts
def WI (g : GramD) : Bool := allF (fun _ p => WK g p) 0 g.prods
def Vb (g : GramD) : Bool := allF (WG g) 0 g.forbid
def Vc (g : GramD) : Bool := allF (Va g) 0 g.follow
def chkB (g : GramD) : Bool := WH g && WI g && Vb g && Vc g
def chkN (g : GramD) : Int := bif chkB g then 0 else 160
theorem q12 {g : GramD} (hg : GramOk g) : F12 g = some (chkN g) := by
 have h1 := hg.sorts
 have h2 := hg.prods
 unfold F12 chkN chkB WH WI Vb Vc
 rw [q41, ZcU g h1, ZcT hg, ZcW hg, ZcY hg, decide_eq_false (show ¬ (g.sorts.length : Int) > 1000 by omega), decide_eq_false (show ¬ (g.prods.length : Int) > 1000 by omega)]
 simp only [bsm, cond_false]
 cases decide ((g.sorts.length : Int) < 1) <;> cases Yp g g.start <;> cases allF (TH g) 0 g.sorts <;> cases allF (fun _ p => WK g p) 0 g.prods <;> cases allF (WG g) 0 g.forbid <;> cases allF (Va g) 0 g.follow <;> rfl
theorem PW {α K : Type} [DecidableEq K] {l : List α} {key : α → K} {m : List (K × Int)} {i : Nat} {x : α} (hx : l[i]? = some x) (hm : ∀ s, mget 0 m s = if (l.take i).any (fun t => decide (key t = s)) then 1 else 0) :
  mget 0 (mput (key x) (IntKind.wrap .i64 (mget 0 m (key x) + 1)) m) (key x) = (if (l.take i).any (fun t => decide (key t = key x)) then 2 else 1) ∧ ((l.take i).any (fun t => decide (key t = key x)) = false → ∀ s, mget 0 (mput (key x) (IntKind.wrap .i64 (mget 0 m (key x) + 1)) m) s = if (l.take (i + 1)).any (fun t => decide (key t = s)) then 1 else 0) := by
 constructor
 ·rw [OM, if_pos rfl, hm (key x)]
  split <;> rfl
 ·intro hn s
  rw [OM, hm (key x), hn, List.take_add_one, hx, List.any_append]
  by_cases e : s = key x
  ·subst e; simp; rfl
  ·rw [if_neg e, hm s]
   have : ¬ key x = s := fun h => e h.symm
   simp [this]
theorem PX {α : Type} {l : List α} {i : Nat} (f : α → Bool) (hi : i ≤ l.length) : pv l (fun t => !f t) i = !((l.take i).any f) := by
 rw [QT l (fun t => !f t) i hi]
 induction l.take i with
 | nil => rfl
 | cons x xs ih => simp only [List.all_cons, List.any_cons, ih]; cases f x <;> simp
theorem q57 {g : GramD} (hg : GramOk g) : F57 g = some (WH g) := by
 have hn := hg.sorts
 have key := T7 (step := fun s => O6 g (g.sorts.length : Int) s.1 s.2) (l := g.sorts) (emb := fun i m => ((i : Int), m)) (TH g) (fun i m x => mput x (IntKind.wrap .i64 (mget 0 m x + 1)) m) E_L57_0.k0 E_L57_0.k1
  (fun i m => ∀ s, mget 0 m s = if (g.sorts.take i).any (fun t => decide (t = s)) then 1 else 0) (fun i x m hx hm => ?_) (fun m _ => ?_) g.sorts.length 0 [] (by omega) (by intro s; simp [mget, Yl])
 ·rw [List.drop_zero] at key
  unfold F57 WH
  have e : ((0 : Nat) : Int) = 0 := rfl
  simp only [e] at key
  cases hall : allF (TH g) 0 g.sorts with
  | true =>
   obtain ⟨b, hb, _⟩ := key.1 hall
   rw [hb]
   simp only [bsm, decide_eq_true (show (g.sorts.length : Int) ≤ 1000 by omega), cond_true, Yp, inR]
   by_cases h1 : (g.sorts.length : Int) < 1
   ·simp [h1, show ¬ (g.sorts.length : Int) ≥ 1 by omega]
   ·rw [decide_eq_true (show (g.sorts.length : Int) ≥ 1 by omega), decide_eq_false h1]
    simp only [cond_true, Bool.not_false, Bool.true_and, Bool.and_true]
    exact NI _ _
  | false =>
   rw [key.2 hall]
   simp
 ·have hl : i < g.sorts.length := (gei.1 hx).1
  obtain ⟨h1, h2⟩ := PW (key := fun t => t) hx hm
  have hd := PX (l := g.sorts) (i := i) (fun t => decide (t = x)) (by omega)
  simp only [O6, Zj, hx, bsm, decide_eq_true (show (i : Int) < (g.sorts.length : Int) by omega), cond_true, eqE, h1, w_S (show i < 4611686018427387904 by omega), TH, hd]
  cases decide (x = ByteArray.empty) <;> cases decide ((x.size : Int) > 1000) <;> cases hxm : (g.sorts.take i).any (fun t => decide (t = x)) <;> simp
  exact h2 hxm
 ·simp [O6]
theorem ZcZ {g : GramD} {p : ProdD} (hp : ProdOk p) : runL (fun s => Rb g p (p.right.length : Int) s) 0 = some (bif allF (fun _ s => R5 g p s) 0 p.right then E_L58_0.k1 else E_L58_0.k0) := by
 have hlen := hp.len
 refine Yb (fun _ s => R5 g p s) (fun i x hx => ?_) ?_
 ·have hl : i < p.right.length := (gei.1 hx).1
  have he : ((x.a == 0) && ((x.b == 0) && ((x.c == 0) && ((x.d == 0) && true)))) = Xb x.a x.b x.c x.d := rfl
  simp only [Rb, Zj, hx, bsm, decide_eq_true (show (i : Int) < (p.right.length : Int) by omega), cond_true, ZcP, w_S (show i < 4611686018427387904 by omega), R5, he]
  by_cases k0 : x.kind = 0
  ·rw [k0]
   cases Xb x.a x.b x.c x.d <;> by_cases hz : x.sort = 0 <;> first | (simp [hz]; done) | simp [beqF hz, bneT hz]
  ·by_cases k1 : x.kind = 1
   ·rw [k1]
    cases Xb x.a x.b x.c x.d <;> cases Yp g x.sort <;> by_cases hr : p.role = 11 <;> first | (simp [hr]; done) | simp [beqF hr]
   ·simp [beqF k0, beqF k1, bneT k0, bneT k1]
 ·simp [Rb]
theorem q58 {g : GramD} (hg : GramOk g) : F58 g = some (WI g) := by
 have hlen := hg.prods
 have key : runL (fun s => O8 g (g.prods.length : Int) s) 0 = some (bif allF (fun _ p => WK g p) 0 g.prods then E_L58_1.k1 else E_L58_1.k0) := by
  refine Yb (fun _ p => WK g p) (fun i p hx => ?_) ?_
  ·have hl : i < g.prods.length := (gei.1 hx).1
   have hp := hg.prod p (mog hx)
   simp only [O8, Zj, hx, bsm, decide_eq_true (show (i : Int) < (g.prods.length : Int) by omega), cond_true, q73, ZcZ hp, eqE, w_S (show i < 4611686018427387904 by omega), WK]
   cases Yp g p.left <;> simp only [cond_true, cond_false, Bool.false_and, Bool.true_and]
   cases decide ((p.right.length : Int) > 30) <;> simp only [cond_true, cond_false, Bool.false_and, Bool.true_and, Bool.not_true, Bool.not_false]
   cases decide (p.role < 0) <;> simp only [cond_true, cond_false, Bool.false_and, Bool.true_and, Bool.not_true, Bool.not_false]
   cases decide (p.role > 11) <;> simp only [cond_true, cond_false, Bool.false_and, Bool.true_and, Bool.not_true, Bool.not_false]
   cases decide (p.frm < -1) <;> simp only [cond_true, cond_false, Bool.false_and, Bool.true_and, Bool.not_true, Bool.not_false]
   cases decide ((p.cons.size : Int) > 64) <;> simp only [cond_true, cond_false, Bool.false_and, Bool.true_and, Bool.not_true, Bool.not_false]
   cases decide (p.cons = ByteArray.empty) <;> by_cases hr : p.role = 0 <;> cases p.prefer <;> cases p.avoid <;> cases allF (fun _ s => R5 g p s) 0 p.right <;> first | (simp [hr]; done) | simp [beqF hr, bneT hr]
  ·simp [O8]
 unfold F58 WI
 rw [key]
 cases allF (fun _ p => WK g p) 0 g.prods
 ·rfl
 ·simp only [cond_true, bsm, decide_eq_true (show (g.prods.length : Int) ≤ 1000 by omega)]
theorem Jz (t f : ForbD) : eqFo t f = decide ((t.parent, t.at_, t.child) = (f.parent, f.at_, f.child)) := by
 unfold eqFo
 by_cases h1 : t.parent = f.parent
 ·by_cases h2 : t.at_ = f.at_
  ·by_cases h3 : t.child = f.child
   ·simp [h1, h2, h3]
   ·simp [h1, h2, h3, beqF h3]
  ·simp [h1, h2, beqF h2]
 ·simp [h1, beqF h1]
theorem q59 {g : GramD} (hg : GramOk g) : F59 g = some (Vb g) := by
 have hn := hg.forbid
 have key := T7 (step := fun s => Na g (g.forbid.length : Int) s.1 s.2) (l := g.forbid) (emb := fun i m => ((i : Int), m)) (WG g)
  (fun i m x => mput (x.parent, x.at_, x.child) (IntKind.wrap .i64 (mget 0 m (x.parent, x.at_, x.child) + 1)) m) E_L59_0.k0 E_L59_0.k1
  (fun i m => ∀ s, mget 0 m s = if (g.forbid.take i).any (fun t => decide ((t.parent, t.at_, t.child) = s)) then 1 else 0) (fun i f m hx hm => ?_) (fun m _ => ?_) g.forbid.length 0 [] (by omega) (by intro s; simp [mget, Yl])
 ·rw [List.drop_zero] at key
  have e : ((0 : Nat) : Int) = 0 := rfl
  simp only [e] at key
  unfold F59 Vb
  cases hall : allF (WG g) 0 g.forbid with
  | true => obtain ⟨b, hb, _⟩ := key.1 hall; rw [hb]; rfl
  | false => rw [key.2 hall]; rfl
 ·have hl : i < g.forbid.length := (gei.1 hx).1
  have hat := hg.forb f (mog hx)
  unfold WN at hat
  obtain ⟨h1, h2⟩ := PW (key := fun t : ForbD => (t.parent, t.at_, t.child)) hx hm
  have hd := PX (l := g.forbid) (i := i) (fun t => eqFo t f) (by omega)
  simp only [Jz] at hd
  skip
  have hok : WG g i f = (QU g f && !(g.forbid.take i).any (fun t => decide ((t.parent, t.at_, t.child) = (f.parent, f.at_, f.child)))) := by
   unfold WG
   simp only [Jz]
   rw [hd]
  rw [hok]
  simp only [Na, Zj, hx, bsm, decide_eq_true (show (i : Int) < (g.forbid.length : Int) by omega), cond_true, h1, w_S (show i < 4611686018427387904 by omega)]
  cases hxm : (g.forbid.take i).any (fun t => decide ((t.parent, t.at_, t.child) = (f.parent, f.at_, f.child))) with
  | true => simp
  | false =>
   have h2 := h2 hxm
   simp only [Bool.not_false, Bool.and_true, Bool.false_eq_true, if_false, show decide ((1 : Int) > 1) = false from rfl, cond_false]
   have e73 : F74 f g = match getI g.prods f.parent with | some p => some (p.role != 11) | none => some false := by
    unfold F74
    by_cases a1 : f.parent < 0
    ·simp [Y5 (l := g.prods) (.inl a1), show ¬ f.parent ≥ 0 by omega]
    ·by_cases a2 : (g.prods.length : Int) ≤ f.parent
     ·simp [Y5 (l := g.prods) (.inr a2), show ¬ f.parent < (g.prods.length : Int) by omega]
     ·obtain ⟨p, hp⟩ := Tx a1 a2
      simp [hp, show f.parent ≥ 0 by omega, show f.parent < (g.prods.length : Int) by omega]
   have e74 : GM f g = match getI g.prods f.child with | some p => some (p.role != 11) | none => some false := by
    unfold GM
    by_cases a1 : f.child < 0
    ·simp [Y5 (l := g.prods) (.inl a1), show ¬ f.child ≥ 0 by omega]
    ·by_cases a2 : (g.prods.length : Int) ≤ f.child
     ·simp [Y5 (l := g.prods) (.inr a2), show ¬ f.child < (g.prods.length : Int) by omega]
     ·obtain ⟨p, hp⟩ := Tx a1 a2
      simp [hp, show f.child ≥ 0 by omega, show f.child < (g.prods.length : Int) by omega]
   rw [e73, e74]
   unfold QU
   cases hp : getI g.prods f.parent with
   | none => simp
   | some p =>
    cases hc : getI g.prods f.child with
    | none => by_cases r1 : p.role = 11 <;> first | (simp [r1]; done) | simp [bneT r1, beqF r1]
    | some c =>
     simp only [bsm]
     by_cases r1 : p.role = 11
     ·simp [r1]
     by_cases r2 : c.role = 11
     ·simp [bneT r1, beqF r1, r2]
     by_cases r3 : f.at_ < 1
     ·simp [bneT r1, beqF r1, bneT r2, beqF r2, r3]
     by_cases r4 : f.at_ > (p.right.length : Int)
     ·simp [bneT r1, beqF r1, bneT r2, beqF r2, r3, r4]
     rw [w_id (by omega)]
     obtain ⟨s, hs⟩ := Tx (l := p.right) (i := f.at_ - 1) (by omega) (by omega)
     simp only [hs, bsm, bneT r1, beqF r1, bneT r2, beqF r2, decide_eq_false r3, decide_eq_false r4, cond_true, cond_false, Bool.not_false, Bool.true_and]
     by_cases r5 : s.kind = 1
     ·by_cases r6 : s.sort = c.left
      ·simpa [r5, r6] using h2
      ·simp [r5, bneT r6, beqF r6]
     ·simp [bneT r5, beqF r5]
 ·simp [Na]
theorem q60 {g : GramD} (hg : GramOk g) : F60 g = some (Vc g) := by
 have hn := hg.follow
 have key := T7 (step := fun s => Nc g (g.follow.length : Int) s.1 s.2) (l := g.follow) (emb := fun i m => ((i : Int), m)) (Va g)
  (fun i m x => mput x.sort (IntKind.wrap .i64 (mget 0 m x.sort + 1)) m) E_L60_0.k0 E_L60_0.k1
  (fun i m => ∀ s, mget 0 m s = if (g.follow.take i).any (fun t => decide (t.sort = s)) then 1 else 0) (fun i f m hx hm => ?_) (fun m _ => ?_) g.follow.length 0 [] (by omega) (by intro s; simp [mget, Yl])
 ·rw [List.drop_zero] at key
  have e : ((0 : Nat) : Int) = 0 := rfl
  simp only [e] at key
  unfold F60 Vc
  cases hall : allF (Va g) 0 g.follow with
  | true => obtain ⟨b, hb, _⟩ := key.1 hall; rw [hb]; rfl
  | false => rw [key.2 hall]; rfl
 ·have hl : i < g.follow.length := (gei.1 hx).1
  obtain ⟨h1, h2⟩ := PW (key := fun t : FollD => t.sort) hx hm
  have hd := PX (l := g.follow) (i := i) (fun t => t.sort == f.sort) (by omega)
  have hbeq : (g.follow.take i).any (fun t => t.sort == f.sort) = (g.follow.take i).any (fun t => decide (t.sort = f.sort)) := by
   congr 1
  rw [hbeq] at hd
  skip
  have he : ((f.a == 0) && ((f.b == 0) && ((f.c == 0) && ((f.d == 0) && true)))) = Xb f.a f.b f.c f.d := rfl
  simp only [Nc, Zj, hx, bsm, decide_eq_true (show (i : Int) < (g.follow.length : Int) by omega), cond_true, h1, w_S (show i < 4611686018427387904 by omega), Va, hd, he, Yp, inR]
  cases hxm : (g.follow.take i).any (fun t => decide (t.sort = f.sort)) with
  | true => simp
  | false =>
   have h2 := h2 hxm
   by_cases a1 : f.sort < 0
   ·simp [a1, show ¬ 0 ≤ f.sort by omega]
   by_cases a2 : (g.sorts.length : Int) ≤ f.sort
   ·simp [a1, a2, show ¬ f.sort < (g.sorts.length : Int) by omega]
   cases Xb f.a f.b f.c f.d
   ·simpa [a1, a2, show 0 ≤ f.sort by omega, show f.sort < (g.sorts.length : Int) by omega] using h2
   ·simp [a1, a2]
 ·simp [Nc]
theorem q29 {g : GramD} (hg : GramOk g) : F29 g = some (chkN g) := by
 have key : runL (fun s => RZ g s) 0 = some (bif (List.range 4).all (fun i => match i with | 0 => WH g | 1 => WI g | 2 => Vb g | _ => Vc g) then E_L29_0.k1 else E_L29_0.k0) := by
  refine Vq (n := 4) _ (fun i hi => ?_) ?_
  ·match i, hi with
   | 0, _ => simp only [RZ, q57 hg, bsm]; cases WH g <;> rfl
   | 1, _ => simp only [RZ, q58 hg, bsm]; cases WI g <;> rfl
   | 2, _ => simp only [RZ, q59 hg, bsm]; cases Vb g <;> rfl
   | 3, _ => simp only [RZ, q60 hg, bsm]; cases Vc g <;> rfl
   | n + 4, h => omega
  ·rfl
 unfold F29 chkN chkB
 rw [key]
 show (some (bif (WH g && (WI g && (Vb g && (Vc g && true)))) then E_L29_0.k1 else E_L29_0.k0)).bind _ = _
 cases WH g <;> cases WI g <;> cases Vb g <;> cases Vc g <;> rfl
structure SymV (n : Nat) (s : SymD) : Prop where
 k : s.kind = 0 ∨ s.kind = 1
 set : s.kind = 0 → Xb s.a s.b s.c s.d = false
 sort : s.kind = 1 → 0 ≤ s.sort ∧ s.sort < n
structure ProdV (n : Nat) (p : ProdD) : Prop where
 left : 0 ≤ p.left ∧ p.left < n
 right : ∀ s ∈ p.right, SymV n s
 len : p.right.length ≤ 30
structure GramV (g : GramD) : Prop where
 n : 1 ≤ g.sorts.length
 prod : ∀ p ∈ g.prods, ProdV g.sorts.length p
 start : 0 ≤ g.start ∧ g.start < g.sorts.length
theorem Z5 {g : GramD} (h : chkB g = true) : GramV g := by
 unfold chkB WH WI at h
 simp only [aet, Bool.not_eq_true', decide_eq_false_iff_not] at h
 obtain ⟨⟨⟨⟨⟨h1, h3⟩, _⟩, h2⟩, _⟩, _⟩ := h
 unfold Yp inR at h3
 simp only [aet, decide_eq_true_eq] at h3
 refine ⟨by omega, fun p hp => ?_, h3⟩
 obtain ⟨k, hk⟩ := List.getElem?_of_mem hp
 have hp2 := (Vp _ _).1 h2 k p hk
 unfold WK at hp2
 simp only [aet, Bool.not_eq_true', decide_eq_false_iff_not] at hp2
 obtain ⟨⟨⟨⟨⟨⟨⟨⟨q1, q2⟩, _⟩, _⟩, _⟩, _⟩, _⟩, _⟩, q3⟩ := hp2
 refine ⟨?_, fun s hs => ?_, by omega⟩
 ·unfold Yp inR at q1
  simp only [aet, decide_eq_true_eq] at q1
  exact q1
 ·obtain ⟨j, hj⟩ := List.getElem?_of_mem hs
  have hs2 := (Vp _ _).1 q3 j s hj
  unfold R5 at hs2
  by_cases k0 : s.kind = 0
  ·rw [k0] at hs2
   simp only [beq_self_eq_true, cond_true, aet, Bool.not_eq_true'] at hs2
   exact ⟨.inl k0, fun _ => hs2.1, fun e => by rw [k0] at e; cases e⟩
  ·by_cases k1 : s.kind = 1
   ·rw [k1] at hs2
    have : ((1 : Int) == 0) = false := rfl
    simp only [this, cond_false, beq_self_eq_true, cond_true, aet, Yp, inR, decide_eq_true_eq] at hs2
    exact ⟨.inr k1, fun e => absurd e k0, fun _ => hs2.1.2⟩
   ·rw [beqF k0, beqF k1] at hs2
    cases hs2
def symS (sh : List Int) (s : SymD) : Int := bif s.kind == 1 then (sh[s.sort.toNat]?).getD 0 else 1
def sumS (sh : List Int) : Int → List SymD → Int
 | n, [] => n
 | n, s :: r => bif decide (symS sh s < 0) then -1 else sumS sh (if 1048577 < n + symS sh s then 1048577 else n + symS sh s) r
structure ShOk (n : Nat) (sh : List Int) : Prop where
 len : sh.length = n
 v : ∀ v ∈ sh, -1 ≤ v ∧ v ≤ 1048577
theorem Bf {n : Nat} {sh : List Int} (hs : ShOk n sh) (s : SymD) : -1 ≤ symS sh s ∧ symS sh s ≤ 1048577 := by
 unfold symS
 cases s.kind == 1
 ·simp
 ·simp only [cond_true]
  cases h : sh[s.sort.toNat]? with
  | none => simp
  | some v => exact hs.v v (mog h)
theorem FR {n : Nat} {sh : List Int} (hs : ShOk n sh) : ∀ (r : List SymD) (a : Int), 0 ≤ a ∧ a ≤ 1048577 → -1 ≤ sumS sh a r ∧ sumS sh a r ≤ 1048577
 | [], a, h => by simp only [sumS]; omega
 | s :: r, a, h => by
  have hb := Bf hs s
  simp only [sumS]
  by_cases hk : symS sh s < 0
  ·rw [decide_eq_true hk]; simp
  ·rw [decide_eq_false hk]
   simp only [cond_false]
   refine FR hs r _ ?_
   split <;> omega
theorem FS {n : Nat} {sh : List Int} (hs : ShOk n sh) {p : ProdD} (hr : ∀ s ∈ p.right, SymV n s) (hl : p.right.length ≤ 31) : ∀ (k i : Nat) (a : Int), i + k = p.right.length → 0 ≤ a ∧ a ≤ 1048577 →
  ∃ e, runL (fun s => TQ sh p s.1 s.2) (a, (i : Int)) = some e ∧ (match e with | .k0 => (-1 : Int) | .k1 x => x) = sumS sh a (p.right.drop i)
 | 0, i, a, hi, ha => by
  obtain rfl : i = p.right.length := by omega
  refine ⟨.k1 a, Zc (by simp [TQ]), ?_⟩
  rw [List.drop_length]; rfl
 | k + 1, i, a, hi, ha => by
  have hx : p.right[i]? = some p.right[i] := geg (by omega)
  have hd : p.right.drop i = p.right[i] :: p.right.drop (i + 1) := (List.drop_eq_getElem_cons (by omega))
  have hv := hr p.right[i] (List.getElem_mem _)
  have hb := Bf hs p.right[i]
  rw [hd]
  simp only [sumS]
  have hstep : TQ sh p a (i : Int) = some (bif decide (symS sh p.right[i] < 0) then .inl .k0 else .inr ((if 1048577 < a + symS sh p.right[i] then 1048577 else a + symS sh p.right[i]), ((i + 1 : Nat) : Int))) := by
   simp only [TQ, Zj, hx, bsm, decide_eq_true (show (i : Int) < (p.right.length : Int) by omega), cond_true, w_S (show i < 4611686018427387904 by omega)]
   rcases hv.k with k0 | k1
   ·have : symS sh p.right[i] = 1 := by unfold symS; rw [k0]; rfl
    rw [this, k0, w_id (by omega)]
    rfl
   ·obtain ⟨h1, h2⟩ := hv.sort k1
    obtain ⟨v, hg⟩ : ∃ v, sh[p.right[i].sort.toNat]? = some v := ⟨sh[p.right[i].sort.toNat]'(by have := hs.len; omega), geg _⟩
    have hgi : getI sh p.right[i].sort = some v := Xz.2 ⟨h1, hg⟩
    have : symS sh p.right[i] = v := by unfold symS; rw [k1, hg]; rfl
    rw [← this] at hgi
    have hw : IntKind.wrap .i64 (a + symS sh p.right[i]) = a + symS sh p.right[i] := w_id (by omega)
    rw [k1, hgi]
    simp only [beq_self_eq_true, cond_true, bsm, hw]
    cases decide (symS sh p.right[i] < 0) <;> rfl
  by_cases hk : symS sh p.right[i] < 0
  ·rw [decide_eq_true hk] at hstep ⊢
   exact ⟨.k0, Zc hstep, rfl⟩
  ·rw [decide_eq_false hk] at hstep ⊢
   rw [Zd hstep]
   exact FS hs hr hl k (i + 1) _ (by omega) (by split <;> omega)
theorem q50 {n : Nat} {sh : List Int} (hs : ShOk n sh) {p : ProdD} (hr : ∀ s ∈ p.right, SymV n s) (hl : p.right.length ≤ 31) : F50 p sh = some (sumS sh 0 p.right) := by
 obtain ⟨e, h1, h2⟩ := FS hs hr hl p.right.length 0 0 (by omega) (by omega)
 rw [List.drop_zero] at h2
 unfold F50
 rw [← h2]
 have e0 : ((0 : Nat) : Int) = 0 := rfl
 rw [e0] at h1
 rw [h1]
 cases e <;> rfl
theorem q48 {n : Nat} {sh : List Int} (hs : ShOk n sh) {p : ProdD} (hr : ∀ s ∈ p.right, SymV n s) (hl : p.right.length ≤ 31) : F48 sh p = some (sumS sh 0 p.right) := by
 have : ∀ s : Int × Int, Ng sh p (p.right.length : Int) s.1 s.2 = (TQ sh p s.1 s.2).map fun x => match x with | .inl .k0 => .inl .k0 | .inl (.k1 v) => .inl (.k1 v) | .inr s => .inr s := by
  intro s
  unfold Ng TQ
  cases decide (s.2 < (p.right.length : Int))
  ·rfl
  ·simp only [cond_true]
   cases getI p.right s.2 with
   | none => rfl
   | some x =>
    simp only [bsm]
    cases x.kind == 1
    ·rfl
    ·simp only [cond_true]
     cases getI sh x.sort with
     | none => rfl
     | some v => simp only [bsm]; cases decide (v < 0) <;> rfl
 have key : ∀ s e, Iter (fun s => TQ sh p s.1 s.2) s e → Iter (fun s => Ng sh p (p.right.length : Int) s.1 s.2) s (match e with | .k0 => E_L48_0.k0 | .k1 v => .k1 v) := by
  intro s e h
  induction h with
  | done h => refine .done ?_; simp only [this, h, Option.map_some]; rename_i e; cases e <;> rfl
  | next h _ ih => exact .next (by simp only [this, h, Option.map_some]) ih
 obtain ⟨e, h1, h2⟩ := FS hs hr hl p.right.length 0 0 (by omega) (by omega)
 rw [List.drop_zero] at h2
 have e0 : ((0 : Nat) : Int) = 0 := rfl
 rw [e0] at h1
 have h3 := XQ.2 (key _ _ (XQ.1 h1))
 unfold F48
 rw [← h2, h3]
 cases e <;> rfl
def old (sh : List Int) (p : ProdD) : Int := (sh[p.left.toNat]?).getD 0
def upd (sh : List Int) (p : ProdD) : Bool × List Int :=
 bif (p.role != 11) && (decide (0 ≤ sumS sh 0 p.right) && (decide (old sh p < 0) || decide (sumS sh 0 p.right < old sh p))) then (true, sh.set p.left.toNat (sumS sh 0 p.right)) else (false, sh)
def swp : List ProdD → Bool → List Int → Bool × List Int
 | [], b, sh => (b, sh)
 | p :: ps, b, sh => swp ps (b || (upd sh p).1) (upd sh p).2
def Zi (sh : List Int) : List Bool := sh.map fun v => v == 0
def mu1 (v : Int) : Nat := bif decide (v < 0) then 1048578 else v.toNat
def mu (sh : List Int) : Nat := (sh.map mu1).sum
theorem FT {l : List Nat} : ∀ (k : Nat) (x y : Nat), l[k]? = some y → (l.set k x).sum + y = l.sum + x := by
 induction l with
 | nil => intro k x y h; simp at h
 | cons a l ih =>
  intro k x y h
  cases k with
  | zero => simp at h; subst h; simp [Nat.add_comm, Nat.add_left_comm]; 
  | succ k =>
   simp only [List.set_cons_succ, List.sum_cons]
   have := ih k x y (by simpa using h)
   omega
section
variable {n : Nat} {sh : List Int} {p : ProdD}
theorem PY (hs : ShOk n sh) (hp : ProdV n p) : sh[p.left.toNat]? = some (old sh p) := by
 have h := hs.len
 have h2 := hp.left
 have : sh[p.left.toNat]? = some (sh[p.left.toNat]'(by omega)) := geg _
 unfold old
 rw [this]
 rfl
theorem NJ (hs : ShOk n sh) (hp : ProdV n p) : ShOk n (upd sh p).2 := by
 unfold upd
 cases (p.role != 11) && (decide (0 ≤ sumS sh 0 p.right) && (decide (old sh p < 0) || decide (sumS sh 0 p.right < old sh p)))
 ·exact hs
 ·refine ⟨by simpa using hs.len, fun v hv => ?_⟩
  rcases List.mem_or_eq_of_mem_set hv with h | h
  ·exact hs.v v h
  ·rw [h]; exact FR hs p.right 0 (by omega)
theorem Zbn (hs : ShOk n sh) (hp : ProdV n p) : ((upd sh p).1 = true → mu (upd sh p).2 < mu sh) ∧ ((upd sh p).1 = false → (upd sh p).2 = sh) := by
 unfold upd
 cases hc : (p.role != 11) && (decide (0 ≤ sumS sh 0 p.right) && (decide (old sh p < 0) || decide (sumS sh 0 p.right < old sh p)))
 ·exact ⟨fun h => by simp at h, fun _ => rfl⟩
 ·refine ⟨fun _ => ?_, fun h => by simp at h⟩
  simp only [cond_true]
  simp only [aet, Bool.or_eq_true, decide_eq_true_eq] at hc
  obtain ⟨_, h0, h1⟩ := hc
  have hg := PY hs hp
  have hb := FR hs p.right 0 (by omega)
  have hv := hs.v _ (mog hg)
  have := FT (l := sh.map mu1) p.left.toNat (mu1 (sumS sh 0 p.right)) (mu1 (old sh p)) (by rw [gmp, hg]; rfl)
  unfold mu
  rw [List.map_set]
  have hlt : mu1 (sumS sh 0 p.right) < mu1 (old sh p) := by
   unfold mu1
   rw [decide_eq_false (by omega : ¬ sumS sh 0 p.right < 0)]
   by_cases hh : old sh p < 0
   ·rw [decide_eq_true hh]; simp only [cond_false, cond_true]; omega
   ·rw [decide_eq_false hh]; simp only [cond_false]; omega
  omega
end
theorem Bg {n : Nat} : ∀ (ps : List ProdD) (b : Bool) (sh : List Int), (∀ p ∈ ps, ProdV n p) → ShOk n sh → ShOk n (swp ps b sh).2
 | [], b, sh, _, hs => hs
 | p :: ps, b, sh, hp, hs => Bg ps _ _ (fun q hq => hp q (List.mem_cons_of_mem _ hq)) (NJ hs (hp p (List.mem_cons_self ..)))
theorem FU {n : Nat} : ∀ (ps : List ProdD) (b : Bool) (sh : List Int), (∀ p ∈ ps, ProdV n p) → ShOk n sh → mu (swp ps b sh).2 ≤ mu sh ∧ ((swp ps b sh).1 = true → b = true ∨ mu (swp ps b sh).2 < mu sh) ∧ ((swp ps b sh).1 = false → b = false ∧ (swp ps b sh).2 = sh)
 | [], b, sh, _, hs => ⟨Nat.le_refl _, fun h => .inl h, fun h => ⟨h, rfl⟩⟩
 | p :: ps, b, sh, hp, hs => by
  have hpp := hp p (List.mem_cons_self ..)
  obtain ⟨u1, u2⟩ := Zbn hs hpp
  obtain ⟨h1, h2, h3⟩ := FU ps (b || (upd sh p).1) (upd sh p).2 (fun q hq => hp q (List.mem_cons_of_mem _ hq)) (NJ hs hpp)
  simp only [swp]
  cases hu : (upd sh p).1 with
  | true =>
   have := u1 hu
   rw [hu] at h1 h2 h3
   refine ⟨by omega, fun _ => .inr (by omega), fun h => ?_⟩
   have := (h3 h).1
   simp at this
  | false =>
   have := u2 hu
   rw [hu, this, Bool.or_false] at h1 h2 h3
   rw [this, Bool.or_false]
   exact ⟨h1, h2, h3⟩
theorem Zbo {n : Nat} {Q : List Int → Prop} {all : List ProdD} (hQ : ∀ s p, p ∈ all → ShOk n s → Q s → Q (upd s p).2) (hall : ∀ p ∈ all, ProdV n p) : ∀ (ps : List ProdD) (b : Bool) (sh : List Int), (∀ p ∈ ps, p ∈ all) → ShOk n sh → Q sh → Q (swp ps b sh).2
 | [], b, sh, _, _, h => h
 | p :: ps, b, sh, hp, hs, h => Zbo hQ hall ps _ _ (fun q hq => hp q (List.mem_cons_of_mem _ hq)) (NJ hs (hall p (hp p (List.mem_cons_self ..)))) (hQ sh p (hp p (List.mem_cons_self ..)) hs h)
section
variable {g : GramD} {n : Nat}
theorem Zax (hg : GramOk g) (hv : GramV g) (hn : n = g.sorts.length) : ∀ (k i : Nat) (b : Bool) (sh : List Int), i + k = g.prods.length → ShOk n sh →
  runL (fun s => PP n g s.1 s.2.1 s.2.2) (b, (i : Int), sh) = some (.k0 (swp (g.prods.drop i) b sh).1 (swp (g.prods.drop i) b sh).2)
 | 0, i, b, sh, hi, hs => by
  obtain rfl : i = g.prods.length := by omega
  rw [List.drop_length]
  exact Zc (by simp [PP, swp])
 | k + 1, i, b, sh, hi, hs => by
  have hgp := hg.prods
  have hx : g.prods[i]? = some g.prods[i] := geg (by omega)
  have hd : g.prods.drop i = g.prods[i] :: g.prods.drop (i + 1) := (List.drop_eq_getElem_cons (by omega))
  generalize hp : g.prods[i] = p at hx hd
  have hmem : p ∈ g.prods := mog hx
  have hpv : ProdV n p := by rw [hn]; exact hv.prod p hmem
  have hlen := hpv.len
  rw [hd]
  simp only [swp]
  have hstep : PP n g b (i : Int) sh = some (.inr (b || (upd sh p).1, ((i + 1 : Nat) : Int), (upd sh p).2)) := by
   have ht : sh.take n = sh := tol (by rw [hs.len]; exact Nat.le_refl _)
   have hle : decide (n ≤ sh.length) = true := decide_eq_true (by rw [hs.len]; exact Nat.le_refl _)
   have hix : ixN n p.left = some p.left.toNat := ZK.2 ⟨by have := hpv.left; omega, by have := hpv.left; omega⟩
   simp only [PP, Zj, hx, bsm, decide_eq_true (show (i : Int) < (g.prods.length : Int) by omega), cond_true, hle, ht, q50 hs hpv.right (by omega), F51, hix, PY hs hpv, w_S (show i < 4611686018427387904 by omega), upd]
   cases p.role != 11 with
   | false => simp
   | true =>
    simp only [cond_true, Bool.true_and]
    by_cases h0 : sumS sh 0 p.right ≥ 0
    ·rw [decide_eq_true h0]
     cases decide (old sh p < 0) <;> cases decide (sumS sh 0 p.right < old sh p) <;> simp
    ·rw [decide_eq_false h0]
     simp
  rw [Zd hstep]
  exact Zax hg hv hn k (i + 1) _ _ (by omega) (NJ hs hpv)
theorem q69 {p : ProdD} {sh : List Int} (hs : ShOk n sh) (hpv : ProdV n p) (hr : (p.role != 11) = true) : F69 p sh (Zi sh) n = some (.k0 (upd sh p).1 (upd sh p).2 (Zi (upd sh p).2)) := by
 have hlen := hpv.len
 have ht : sh.take n = sh := tol (by rw [hs.len]; exact Nat.le_refl _)
 have hle : decide (n ≤ sh.length) = true := decide_eq_true (by rw [hs.len]; exact Nat.le_refl _)
 have hle2 : decide (n ≤ (Zi sh).length) = true := decide_eq_true (by unfold Zi; rw [List.length_map, hs.len]; exact Nat.le_refl _)
 have hix : ixN n p.left = some p.left.toNat := ZK.2 ⟨by have := hpv.left; omega, by have := hpv.left; omega⟩
 have hnul : (Zi sh)[p.left.toNat]? = some (old sh p == 0) := by unfold Zi; rw [gmp, PY hs hpv]; rfl
 have hset : (Zi sh).set p.left.toNat (sumS sh 0 p.right == 0) = Zi (sh.set p.left.toNat (sumS sh 0 p.right)) := by unfold Zi; rw [List.map_set]
 simp only [F69, hle, hle2, ht, cond_true, q48 hs hpv.right (show p.right.length ≤ 31 by omega), bsm, hix, PY hs hpv, hnul, hset, upd, hr, Bool.true_and]
 by_cases h0 : sumS sh 0 p.right < 0
 ·rw [decide_eq_true h0, decide_eq_false (show ¬ 0 ≤ sumS sh 0 p.right by omega)]
  simp
 ·rw [decide_eq_false h0, decide_eq_true (show 0 ≤ sumS sh 0 p.right by omega)]
  by_cases h1 : old sh p < 0
  ·rw [decide_eq_true h1, decide_eq_false (show ¬ old sh p ≥ 0 by omega)]
   simp
  ·rw [decide_eq_false h1, decide_eq_true (show old sh p ≥ 0 by omega)]
   by_cases h2 : sumS sh 0 p.right < old sh p
   ·rw [decide_eq_true h2, decide_eq_false (show ¬ old sh p ≤ sumS sh 0 p.right by omega)]
    simp
   ·rw [decide_eq_false h2, decide_eq_true (show old sh p ≤ sumS sh 0 p.right by omega)]
    simp
theorem Zay (hg : GramOk g) (hv : GramV g) (hn : n = g.sorts.length) : ∀ (k i : Nat) (b : Bool) (sh : List Int), i + k = g.prods.length → ShOk n sh →
  runL (fun s => PD g (g.prods.length : Int) n s.1 s.2.1 s.2.2.1 s.2.2.2) (b, (i : Int), sh, Zi sh) = some (.k0 (swp (g.prods.drop i) b sh).1 (swp (g.prods.drop i) b sh).2 (Zi (swp (g.prods.drop i) b sh).2))
 | 0, i, b, sh, hi, hs => by
  obtain rfl : i = g.prods.length := by omega
  rw [List.drop_length]
  exact Zc (by simp [PD, swp])
 | k + 1, i, b, sh, hi, hs => by
  have hgp := hg.prods
  have hx : g.prods[i]? = some g.prods[i] := geg (by omega)
  have hd : g.prods.drop i = g.prods[i] :: g.prods.drop (i + 1) := (List.drop_eq_getElem_cons (by omega))
  generalize hp : g.prods[i] = p at hx hd
  have hmem : p ∈ g.prods := mog hx
  have hpv : ProdV n p := by rw [hn]; exact hv.prod p hmem
  rw [hd]
  simp only [swp]
  have hstep : PD g (g.prods.length : Int) n b (i : Int) sh (Zi sh) = some (.inr (b || (upd sh p).1, ((i + 1 : Nat) : Int), (upd sh p).2, Zi (upd sh p).2)) := by
   simp only [PD, Zj, hx, bsm, decide_eq_true (show (i : Int) < (g.prods.length : Int) by omega), cond_true, F54, w_S (show i < 4611686018427387904 by omega)]
   cases hr : p.role != 11 with
   | false => simp [upd, hr]
   | true =>
    simp only [cond_true, q69 hs hpv hr, bsm]
    cases (upd sh p).1 <;> simp
  rw [Zd hstep]
  exact Zay hg hv hn k (i + 1) _ _ (by omega) (NJ hs hpv)
theorem fix (hg : GramOk g) (hv : GramV g) (hn : n = g.sorts.length) : ∀ (m : Nat) (sh : List Int), mu sh ≤ m → ShOk n sh →
  ∃ sh', ShOk n sh' ∧ runL (fun s => Rv n g s.1 s.2) (true, sh) = some (.k0 sh') ∧ runL (fun s => PF g n s.1 s.2) (sh, Zi sh) = some (.k0 sh' (Zi sh')) ∧ swp g.prods false sh' = (false, sh') ∧
   ∀ Q : List Int → Prop, (∀ s p, p ∈ g.prods → ShOk n s → Q s → Q (upd s p).2) → Q sh → Q sh' := by
 intro m
 induction m with
 | zero =>
  intro sh hm hs
  have hps : ∀ p ∈ g.prods, ProdV n p := fun p hp => by rw [hn]; exact hv.prod p hp
  obtain ⟨h1, h2, h3⟩ := FU g.prods false sh hps hs
  have hf : (swp g.prods false sh).1 = false := by
   cases h : (swp g.prods false sh).1 with
   | false => rfl
   | true => rcases h2 h with h | h; cases h; omega
  obtain ⟨_, he⟩ := h3 hf
  have e0 : ((0 : Nat) : Int) = 0 := rfl
  have q1 := Zax hg hv hn g.prods.length 0 false sh (by omega) hs
  have q2 := Zay hg hv hn g.prods.length 0 false sh (by omega) hs
  rw [List.drop_zero, hf, he, e0] at q1 q2
  refine ⟨sh, hs, ?_, ?_, Prod.ext hf he, fun Q _ h => h⟩
  ·rw [Zd (s' := (false, sh)) (by simp only [Rv, cond_true, q1, bsm])]
   exact Zc (by simp [Rv])
  ·exact Zc (by simp only [PF, q2, bsm, cond_false])
 | succ m ih =>
  intro sh hm hs
  have hps : ∀ p ∈ g.prods, ProdV n p := fun p hp => by rw [hn]; exact hv.prod p hp
  obtain ⟨h1, h2, h3⟩ := FU g.prods false sh hps hs
  have e0 : ((0 : Nat) : Int) = 0 := rfl
  have q1 := Zax hg hv hn g.prods.length 0 false sh (by omega) hs
  have q2 := Zay hg hv hn g.prods.length 0 false sh (by omega) hs
  cases hf : (swp g.prods false sh).1 with
  | false =>
   obtain ⟨_, he⟩ := h3 hf
   rw [List.drop_zero, hf, he, e0] at q1 q2
   refine ⟨sh, hs, ?_, ?_, Prod.ext hf he, fun Q _ h => h⟩
   ·rw [Zd (s' := (false, sh)) (by simp only [Rv, cond_true, q1, bsm])]
    exact Zc (by simp [Rv])
   ·exact Zc (by simp only [PF, q2, bsm, cond_false])
  | true =>
   have hlt : mu (swp g.prods false sh).2 < mu sh := by rcases h2 hf with h | h; cases h; exact h
   obtain ⟨sh', k1, k2, k3, k4, k5⟩ := ih (swp g.prods false sh).2 (by omega) (Bg g.prods false sh hps hs)
   rw [List.drop_zero, hf, e0] at q1 q2
   refine ⟨sh', k1, ?_, ?_, k4, fun Q hQ h => k5 Q hQ (Zbo hQ hps g.prods false sh (fun p hp => hp) hs h)⟩
   ·rw [Zd (s' := (true, (swp g.prods false sh).2)) (by simp only [Rv, cond_true, q1, bsm])]
    exact k2
   ·rw [Zd (s' := ((swp g.prods false sh).2, Zi (swp g.prods false sh).2)) (by simp only [PF, q2, bsm, cond_true])]
    exact k3
theorem Zbp (hn : n ≤ 40) : ∀ (k i : Nat), i + k = n → runL (fun s => PM n s.1 s.2) ((i : Int), List.replicate i (-1) ++ List.replicate k 0) = some (.k0 (List.replicate n (-1)))
 | 0, i, hi => by
  obtain rfl : i = n := by omega
  simp only [List.replicate_zero, List.append_nil]
  exact Zc (by simp [PM])
 | k + 1, i, hi => by
  have hstep : PM n (i : Int) (List.replicate i (-1) ++ List.replicate (k + 1) 0) = some (.inr (((i + 1 : Nat) : Int), List.replicate (i + 1) (-1) ++ List.replicate k 0)) := by
   have h1 : (List.replicate i (-1 : Int) ++ List.replicate (k + 1) 0)[i]? = some 0 := by
    rw [List.getElem?_append_right (by simp)]; simp
   have h2 : (List.replicate i (-1 : Int) ++ List.replicate (k + 1) 0).set i (-1) = List.replicate (i + 1) (-1) ++ List.replicate k 0 := by
    rw [List.set_append_right _ _ (by simp), List.length_replicate, Nat.sub_self, List.replicate_succ, List.set_cons_zero, List.replicate_succ', List.append_assoc]
    rfl
   simp only [PM, decide_eq_true (show (i : Int) < (n : Int) by omega), cond_true, Mz, if_pos (show i < n by omega), bsm, h1, h2, w_S (show i < 4611686018427387904 by omega)]
  rw [Zd hstep]
  exact Zbp hn k (i + 1) (by omega)
theorem Zbq (hn : n ≤ 40) : ∀ (k i : Nat), i + k = n → runL (fun s => PB (n : Int) n s.1 s.2) ((i : Int), List.replicate i (-1) ++ List.replicate k 0) = some (.k0 (List.replicate n (-1)))
 | 0, i, hi => by
  obtain rfl : i = n := by omega
  simp only [List.replicate_zero, List.append_nil]
  exact Zc (by simp [PB])
 | k + 1, i, hi => by
  have hstep : PB (n : Int) n (i : Int) (List.replicate i (-1) ++ List.replicate (k + 1) 0) = some (.inr (((i + 1 : Nat) : Int), List.replicate (i + 1) (-1) ++ List.replicate k 0)) := by
   have h1 : (List.replicate i (-1 : Int) ++ List.replicate (k + 1) 0)[i]? = some 0 := by
    rw [List.getElem?_append_right (by simp)]; simp
   have h2 : (List.replicate i (-1 : Int) ++ List.replicate (k + 1) 0).set i (-1) = List.replicate (i + 1) (-1) ++ List.replicate k 0 := by
    rw [List.set_append_right _ _ (by simp), List.length_replicate, Nat.sub_self, List.replicate_succ, List.set_cons_zero, List.replicate_succ', List.append_assoc]
    rfl
   simp only [PB, decide_eq_true (show (i : Int) < (n : Int) by omega), cond_true, Mz, if_pos (show i < n by omega), bsm, h1, h2, w_S (show i < 4611686018427387904 by omega)]
  rw [Zd hstep]
  exact Zbq hn k (i + 1) (by omega)
theorem mk8 {k : Nat} (h : k ≤ 40) : mkOk (k : Int) 8 = true := by
 unfold mkOk Zw
 exact decide_eq_true (by omega)
theorem mk1 {k : Nat} (h : k ≤ 40) : mkOk (k : Int) 1 = true := by
 unfold mkOk Zw
 exact decide_eq_true (by omega)
theorem sh0 : ShOk n (List.replicate n (-1)) := ⟨by simp, fun v hv => by rw [List.eq_of_mem_replicate hv]; omega⟩
theorem nul0 : Zi (List.replicate n (-1)) = List.replicate n false := by unfold Zi; simp
theorem D1 (hg : GramOk g) (hc : chkB g = true) : ∃ sh, ShOk g.sorts.length sh ∧ F16 g = some sh ∧ F45 g = some (.k1 g.sorts g.prods g.start g.forbid g.follow sh (Zi sh)) ∧ swp g.prods false sh = (false, sh) ∧
  ∀ Q : List Int → Prop, (∀ s p, p ∈ g.prods → ShOk g.sorts.length s → Q s → Q (upd s p).2) → Q (List.replicate g.sorts.length (-1)) → Q sh := by
 have hv := Z5 hc
 have h40 := hg.sorts
 obtain ⟨sh, k1, k2, k3, k4, k5⟩ := fix hg hv rfl (mu (List.replicate g.sorts.length (-1))) (List.replicate g.sorts.length (-1)) (Nat.le_refl _) sh0
 have a1 := Zbp h40 g.sorts.length 0 (by omega)
 have a2 := Zbq h40 g.sorts.length 0 (by omega)
 have e0 : ((0 : Nat) : Int) = 0 := rfl
 simp only [List.replicate_zero, List.nil_append, e0] at a1 a2
 rw [nul0] at k3
 have hle : decide (g.sorts.length ≤ sh.length) = true := decide_eq_true (by rw [k1.len]; exact Nat.le_refl _)
 have ht : sh.take g.sorts.length = sh := tol (by rw [k1.len]; exact Nat.le_refl _)
 have hnl : (Zi sh).length = g.sorts.length := by unfold Zi; rw [List.length_map, k1.len]
 have hle2 : decide (g.sorts.length ≤ (Zi sh).length) = true := decide_eq_true (by rw [hnl]; exact Nat.le_refl _)
 have ht2 : (Zi sh).take g.sorts.length = Zi sh := tol (by rw [hnl]; exact Nat.le_refl _)
 have k6 : runL (fun s => Lb g (List.replicate g.sorts.length (-1)) (List.replicate g.sorts.length false) g.sorts.length) () = some (E_L46_2.k0 sh (Zi sh)) := Zc (by simp only [Lb, k3, bsm])
 have h45 : F45 g = some (.k1 g.sorts g.prods g.start g.forbid g.follow sh (Zi sh)) := by
  unfold F45
  rw [q29 hg]
  simp only [bsm, chkN, hc, cond_true, show ((0 : Int) != 0) = false from rfl, cond_false, mk8 h40, mk1 h40, Int.toNat_natCast, a2, F46, k6, hle, ht, hle2, ht2]
 refine ⟨sh, k1, ?_, h45, k4, k5⟩
 unfold F16
 simp only [mk8 h40, cond_true, Int.toNat_natCast, a1, bsm, k2, hle, ht]
theorem LN (hg : GramOk g) (hc : chkB g = false) : F45 g = some (.k0 160) := by
 unfold F45
 rw [q29 hg]
 simp [chkN, hc]
end
theorem Zbr {s : SymD} (h : SymOk s) : wOk s = true := by
 have h1 := h.a; have h2 := h.b; have h3 := h.c; have h4 := h.d
 unfold Yz at h1 h2 h3 h4
 unfold wOk
 exact decide_eq_true (by omega)
theorem fd {x j : Nat} (hj : j < 64) : Int.tmod (Int.fdiv (x : Int) (2 ^ (min (Int.toNat (j : Int)) (IntKind.bits .u64)))) 2 = ((x >>> j % 2 : Nat) : Int) := by
 have e : min (Int.toNat (j : Int)) (IntKind.bits .u64) = j := by
  rw [show IntKind.bits .u64 = 64 from rfl, Int.toNat_natCast]; omega
 rw [e, Gw, Int.fdiv_eq_ediv_of_nonneg _ (Int.natCast_nonneg _), Nat.shiftRight_eq_div_pow, show ((x : Int) / ((2 ^ j : Nat) : Int)) = ((x / 2 ^ j : Nat) : Int) from (Int.natCast_ediv _ _).symm, Int.tmod_eq_emod_of_nonneg (Int.natCast_nonneg _)]
 rfl
def shAt (sh : List Int) (i : Int) : Int := (sh[i.toNat]?).getD 0
def sd (s : V4) : SetD := ⟨(s.a.toNat : Int), (s.b.toNat : Int), (s.c.toNat : Int), (s.d.toNat : Int)⟩
def uV (x y : V4) : V4 := ⟨x.a ||| y.a, x.b ||| y.b, x.c ||| y.c, x.d ||| y.d⟩
def zV : V4 := ⟨0#64, 0#64, 0#64, 0#64⟩
instance (x y : V4) : Decidable (x = y) := by
 obtain ⟨a, b, c, d⟩ := x
 obtain ⟨e, f, g, h⟩ := y
 exact decidable_of_iff (a = e ∧ b = f ∧ c = g ∧ d = h) (by simp)
instance : DecidableEq V4 := fun _ _ => inferInstance
theorem Zbs (x : SetD) (a b c d : Int) : runL (fun s => R0 x s.1 s.2.1 s.2.2.1 s.2.2.2.1 s.2.2.2.2) (0, a, b, c, d) = some (.k0 (orI a x.a) (orI b x.b) (orI c x.c) (orI d x.d)) := by
 rw [Zd (step := fun s : Int × Int × Int × Int × Int => R0 x s.1 s.2.1 s.2.2.1 s.2.2.2.1 s.2.2.2.2) (s := (0, a, b, c, d)) (s' := (1, orI a x.a, b, c, d)) (by kernel_rfl)]
 rw [Zd (step := fun s : Int × Int × Int × Int × Int => R0 x s.1 s.2.1 s.2.2.1 s.2.2.2.1 s.2.2.2.2) (s := (1, orI a x.a, b, c, d)) (s' := (2, orI a x.a, orI b x.b, c, d)) (by kernel_rfl)]
 rw [Zd (step := fun s : Int × Int × Int × Int × Int => R0 x s.1 s.2.1 s.2.2.1 s.2.2.2.1 s.2.2.2.2) (s := (2, orI a x.a, orI b x.b, c, d)) (s' := (3, orI a x.a, orI b x.b, orI c x.c, d)) (by kernel_rfl)]
 rw [Zd (step := fun s : Int × Int × Int × Int × Int => R0 x s.1 s.2.1 s.2.2.1 s.2.2.2.1 s.2.2.2.2) (s := (3, orI a x.a, orI b x.b, orI c x.c, d)) (s' := (4, orI a x.a, orI b x.b, orI c x.c, orI d x.d)) (by kernel_rfl)]
 exact Zc (by kernel_rfl)
theorem Zc0 (x y : SetD) : runL (fun s => TO [x, y] 2 s.1 s.2.1 s.2.2.1 s.2.2.2.1 s.2.2.2.2) (0, 0, 0, 0, 0) = some (.k0 (orI (orI 0 x.a) y.a) (orI (orI 0 x.b) y.b) (orI (orI 0 x.c) y.c) (orI (orI 0 x.d) y.d)) := by
 have g0 : getI [x, y] 0 = some x := rfl
 have g1 : getI [x, y] 1 = some y := rfl
 have e1 : IntKind.wrap .i64 (0 + 1) = 1 := by decide
 have e2 : IntKind.wrap .i64 (1 + 1) = 2 := by decide
 have h1 : TO [x, y] 2 0 0 0 0 0 = some (.inr (1, orI 0 x.a, orI 0 x.b, orI 0 x.c, orI 0 x.d)) := by
  simp only [TO, g0, Zbs, bsm, e1, show decide ((0 : Int) < 2) = true from rfl, cond_true]
 have h2 : TO [x, y] 2 1 (orI 0 x.a) (orI 0 x.b) (orI 0 x.c) (orI 0 x.d) = some (.inr (2, orI (orI 0 x.a) y.a, orI (orI 0 x.b) y.b, orI (orI 0 x.c) y.c, orI (orI 0 x.d) y.d)) := by
  simp only [TO, g1, Zbs, bsm, e2, show decide ((1 : Int) < 2) = true from rfl, cond_true]
 rw [Zd (step := fun s : Int × Int × Int × Int × Int => TO [x, y] 2 s.1 s.2.1 s.2.2.1 s.2.2.2.1 s.2.2.2.2) (s := (0, 0, 0, 0, 0)) h1]
 rw [Zd (step := fun s : Int × Int × Int × Int × Int => TO [x, y] 2 s.1 s.2.1 s.2.2.1 s.2.2.2.1 s.2.2.2.2) (s := (1, orI 0 x.a, orI 0 x.b, orI 0 x.c, orI 0 x.d)) h2]
 exact Zc rfl
theorem q76 (x y : V4) : F76 [sd x, sd y] = some (.k0 (sd (uV x y)).a (sd (uV x y)).b (sd (uV x y)).c (sd (uV x y)).d) := by
 have h := Zc0 (sd x) (sd y)
 have e : (([sd x, sd y].length : Nat) : Int) = 2 := rfl
 unfold F76
 rw [e, h]
 simp only [bsm, sd, uV, Zb1, Zbe]
theorem XG (x y : V4) (b : Nat) : has (uV x y) b = (has x b || has y b) := by
 unfold has
 have : ∀ k, (uV x y).get k = x.get k ||| y.get k := fun k => by
  match k with
  | 0 => rfl
  | 1 => rfl
  | 2 => rfl
  | _ + 3 => rfl
 rw [this, BitVec.getLsbD_or]
theorem PZ {x y : V4} (h : ∀ b, b < 256 → has x b = has y b) : x = y := by
 have key : ∀ k, k < 4 → x.get k = y.get k := by
  intro k hk
  apply BitVec.eq_of_getLsbD_eq
  intro j hj
  have := h (64 * k + j) (by omega)
  unfold has at this
  rwa [show (64 * k + j) / 64 = k by omega, show (64 * k + j) % 64 = j by omega] at this
 have h0 := key 0 (by omega)
 have h1 := key 1 (by omega)
 have h2 := key 2 (by omega)
 have h3 := key 3 (by omega)
 obtain ⟨a, b, c, d⟩ := x
 obtain ⟨e, f, g, k⟩ := y
 simp only [V4.get] at h0 h1 h2 h3
 subst h0 h1 h2 h3
 rfl
def blV (x : V4) : List Bool := (List.range 256).map (has x)
def cntV (x : V4) : Nat := cnt (blV x)
theorem D2 (x : V4) {b : Nat} (h : b < 256) : (blV x)[b]? = some (has x b) := by
 unfold blV
 rw [gmp, List.getElem?_range h]; rfl
theorem Zbt (x y : V4) : uV x y = x ∨ cntV x < cntV (uV x y) := by
 by_cases e : uV x y = x
 ·exact .inl e
 ·right
  have hle : leB (blV x) (blV (uV x y)) := by
   refine ⟨by simp [blV], fun i hi => ?_⟩
   have hl : i < 256 := by have := (gei.1 hi).1; simpa [blV] using this
   rw [D2 _ hl] at hi ⊢
   rw [XG]
   simp only [Option.some.injEq] at hi
   rw [hi]; rfl
  refine (U9 hle).2 (fun e2 => e (PZ (fun b hb => ?_)))
  have h1 := D2 x hb
  rw [← e2, D2 _ hb] at h1
  simpa using h1
theorem Zc1 (x : V4) : cntV x ≤ 256 := by
 have := OL (blV x)
 simpa [blV, cntV] using this
def atV (o : List V4) (i : Nat) : V4 := (o[i]?).getD zV
def mmV (o : List V4) : Nat := (o.map cntV).sum
theorem Ui {o : List V4} {i : Nat} (h : i < o.length) : o[i]? = some (atV o i) := by
 unfold atV
 rw [geg h]; rfl
theorem WL {o : List V4} {i : Nat} (h : i < o.length) (z : V4) (j : Nat) : atV (o.set i z) j = if i = j then z else atV o j := by
 unfold atV
 rw [List.getElem?_set]
 by_cases e : i = j
 ·subst e; rw [if_pos rfl, if_pos h, if_pos rfl]; rfl
 ·rw [if_neg e, if_neg e]
theorem TI {o : List V4} {i : Nat} (h : i < o.length) : o.set i (atV o i) = o := by
 apply List.ext_getElem?
 intro j
 rw [List.getElem?_set]
 by_cases e : i = j
 ·subst e; rw [if_pos rfl, if_pos h, Ui h]
 ·rw [if_neg e]
theorem JA (o : List V4) (i : Nat) (y : V4) : o.set i (uV (atV o i) y) = o ∨ mmV o < mmV (o.set i (uV (atV o i) y)) := by
 by_cases h : i < o.length
 ·rcases Zbt (atV o i) y with e | hlt
  ·left; rw [e, TI h]
  ·right
   have := FT (l := o.map cntV) i (cntV (uV (atV o i) y)) (cntV (atV o i)) (by rw [gmp, Ui h]; rfl)
   unfold mmV
   rw [List.map_set]
   omega
 ·left; rw [List.set_eq_of_length_le (by omega)]
theorem IK : ∀ (o : List V4), mmV o ≤ 256 * o.length
 | [] => by simp [mmV]
 | x :: o => by
  have h1 := Zc1 x
  have h2 := IK o
  simp only [mmV, List.map_cons, List.sum_cons, List.length_cons] at h2 ⊢
  omega
def stF (sh : List Int) (l : Nat) : List V4 → List SymD → List V4
 | o, [] => o
 | o, s :: r => bif s.kind == 0 then o.set l (uV (atV o l) (v4 s)) else
   bif symS sh s == 0 then stF sh l (o.set l (uV (atV o l) (atV o s.sort.toNat))) r else o.set l (uV (atV o l) (atV o s.sort.toNat))
def updF (sh : List Int) (o : List V4) (p : ProdD) : List V4 := bif (p.role != 11) && decide (0 ≤ sumS sh 0 p.right) then stF sh p.left.toNat o p.right else o
theorem JB (sh : List Int) (l : Nat) : ∀ (r : List SymD) (o : List V4), stF sh l o r = o ∨ mmV o < mmV (stF sh l o r)
 | [], o => .inl rfl
 | s :: r, o => by
  simp only [stF]
  cases s.kind == 0
  ·simp only [cond_false]
   have h1 := JA o l (atV o s.sort.toNat)
   cases symS sh s == 0
   ·exact h1
   ·simp only [cond_true]
    have h2 := JB sh l r (o.set l (uV (atV o l) (atV o s.sort.toNat)))
    rcases h1 with h1 | h1
    ·rw [h1] at h2 ⊢; exact h2
    ·right
     rcases h2 with h2 | h2
     ·rw [h2]; exact h1
     ·omega
  ·exact JA o l (v4 s)
theorem UP (sh : List Int) (o : List V4) (p : ProdD) : updF sh o p = o ∨ mmV o < mmV (updF sh o p) := by
 unfold updF
 cases (p.role != 11) && decide (0 ≤ sumS sh 0 p.right)
 ·exact .inl rfl
 ·exact JB sh _ _ _
theorem LO (sh : List Int) (l : Nat) : ∀ (r : List SymD) (o : List V4), (stF sh l o r).length = o.length
 | [], o => rfl
 | s :: r, o => by
  simp only [stF]
  cases s.kind == 0
  ·cases symS sh s == 0
   ·simp
   ·simp only [cond_false, cond_true]; rw [LO sh l r]; simp
  ·simp
theorem JC (sh : List Int) (o : List V4) (p : ProdD) : (updF sh o p).length = o.length := by
 unfold updF
 cases (p.role != 11) && decide (0 ≤ sumS sh 0 p.right)
 ·rfl
 ·exact LO sh _ _ _
theorem FV (sh : List Int) (l : Nat) : ∀ (r : List SymD) (o : List V4), l < o.length → stF sh l o r = o.set l (atV (stF sh l o r) l)
 | [], o, h => (TI h).symm
 | s :: r, o, h => by
  simp only [stF]
  cases s.kind == 0
  ·cases symS sh s == 0
   ·simp only [cond_false]; rw [WL h, if_pos rfl]
   ·simp only [cond_false, cond_true]
    have := FV sh l r (o.set l (uV (atV o l) (atV o s.sort.toNat))) (by simpa using h)
    rw [List.set_set] at this
    exact this
  ·simp only [cond_true]; rw [WL h, if_pos rfl]
theorem JD (sh : List Int) (l : Nat) {b : Nat} : ∀ (r : List SymD) (o : List V4), l < o.length → has (atV o l) b = true → has (atV (stF sh l o r) l) b = true
 | [], o, _, h => h
 | s :: r, o, hl, h => by
  simp only [stF]
  have key : ∀ y, has (atV (o.set l (uV (atV o l) y)) l) b = true := fun y => by rw [WL hl, if_pos rfl, XG, h]; rfl
  cases s.kind == 0
  ·cases symS sh s == 0
   ·exact key _
   ·exact JD sh l r _ (by simpa using hl) (key _)
  ·exact key _
def eqS (x y : SetD) : Bool := (x.a == y.a) && ((x.b == y.b) && ((x.c == y.c) && ((x.d == y.d) && true)))
theorem QV (x y : V4) : eqS (sd x) (sd y) = decide (x = y) := by
 have key : ∀ p q : BitVec 64, (((p.toNat : Nat) : Int) == (q.toNat : Int)) = decide (p = q) := by
  intro p q
  by_cases e : p = q
  ·subst e; simp
  ·have : ¬ ((p.toNat : Nat) : Int) = (q.toNat : Int) := fun h => e (BitVec.eq_of_toNat_eq (by omega))
   rw [beqF this, decide_eq_false e]
 obtain ⟨a, b, c, d⟩ := x
 obtain ⟨e, f, g, h⟩ := y
 simp only [eqS, sd, key, Bool.and_true]
 by_cases h1 : a = e <;> by_cases h2 : b = f <;> by_cases h3 : c = g <;> by_cases h4 : d = h <;> simp [h1, h2, h3, h4]
section
variable {g : GramD} {n : Nat} {sh : List Int} {p : ProdD}
theorem JE {s : SymD} (h : SymOk s) : (⟨s.a, s.b, s.c, s.d⟩ : SetD) = sd (v4 s) := by
 have := Zb6 (Zbr h)
 simp only [ofV, I4.mk.injEq] at this
 obtain ⟨h1, h2, h3, h4⟩ := this
 simp only [sd]
 rw [h1, h2, h3, h4]
theorem q55 (hs : ShOk n sh) {s : SymD} (hv : SymV n s) (k1 : s.kind = 1) : F55 (Zi sh) s = some (symS sh s == 0) := by
 obtain ⟨h0, h1⟩ := hv.sort k1
 have hl := hs.len
 have hg : sh[s.sort.toNat]? = some (sh[s.sort.toNat]'(by omega)) := geg _
 have hn : getI (Zi sh) s.sort = some (symS sh s == 0) := by
  refine Xz.2 ⟨h0, ?_⟩
  unfold Zi symS
  rw [gmp, k1, hg]; rfl
 unfold F55
 rw [hn, k1]; rfl
def endE : E_L75_0 → List SetD
 | .k0 x .. => x
 | .k1 x => x
theorem Zbu (hs : ShOk n sh) (hp : ProdV n p) (hok : ProdOk p) : ∀ (k i : Nat) (o : List V4), i + k = p.right.length → o.length = n →
  ∃ e, runL (fun s => UH p (p.right.length : Int) (Zi sh) n s.1 s.2) ((i : Int), o.map sd) = some e ∧ endE e = (stF sh p.left.toNat o (p.right.drop i)).map sd
 | 0, i, o, hi, ho => by
  obtain rfl : i = p.right.length := by omega
  refine ⟨.k1 (o.map sd), Zc (by simp [UH]), ?_⟩
  rw [List.drop_length]; rfl
 | k + 1, i, o, hi, ho => by
  have hlen := hp.len
  have hpl := hp.left
  have hx : p.right[i]? = some p.right[i] := geg (by omega)
  have hd : p.right.drop i = p.right[i] :: p.right.drop (i + 1) := (List.drop_eq_getElem_cons (by omega))
  generalize hq : p.right[i] = s at hx hd
  have hmem := mog hx
  have hv := hp.right s hmem
  have hso := hok.right s hmem
  have hix : ixN n p.left = some p.left.toNat := ZK.2 ⟨by omega, by omega⟩
  have hm : ∀ j, j < n → (o.map sd)[j]? = some (sd (atV o j)) := fun j hj => by rw [gmp, Ui (by omega)]; rfl
  have hgl := hm p.left.toNat (by omega)
  have hset : ∀ z : V4, (o.map sd).set p.left.toNat (sd z) = (o.set p.left.toNat z).map sd := fun z => by rw [List.map_set]
  rw [hd]
  simp only [stF]
  rcases hv.k with k0 | k1
  ·have h76 : F76 [(⟨(sd (atV o p.left.toNat)).a, (sd (atV o p.left.toNat)).b, (sd (atV o p.left.toNat)).c, (sd (atV o p.left.toNat)).d⟩ : SetD), (⟨s.a, s.b, s.c, s.d⟩ : SetD)] = some (.k0 (sd (uV (atV o p.left.toNat) (v4 s))).a (sd (uV (atV o p.left.toNat) (v4 s))).b (sd (uV (atV o p.left.toNat) (v4 s))).c (sd (uV (atV o p.left.toNat) (v4 s))).d) := by
    rw [JE hso]; exact q76 (atV o p.left.toNat) (v4 s)
   have hs2 := hset (uV (atV o p.left.toNat) (v4 s))
   rw [k0, beq_self_eq_true, cond_true]
   have hstep : ∃ e, UH p (p.right.length : Int) (Zi sh) n (i : Int) (o.map sd) = some (.inl e) ∧ endE e = (o.set p.left.toNat (uV (atV o p.left.toNat) (v4 s))).map sd := by
    simp only [UH, Zj, hx, bsm, decide_eq_true (show (i : Int) < (p.right.length : Int) by omega), cond_true, k0, beq_self_eq_true, hix, hgl, h76]
    exact ⟨_, rfl, hs2⟩
   obtain ⟨e, e1, e2⟩ := hstep
   exact ⟨e, Zc e1, e2⟩
  ·have h10 : ((1 : Int) == 0) = false := rfl
   obtain ⟨q0, q1⟩ := hv.sort k1
   have hix2 : ixN n s.sort = some s.sort.toNat := ZK.2 ⟨by omega, by omega⟩
   have hgs := hm s.sort.toNat (by omega)
   have h76 : F76 [(⟨(sd (atV o p.left.toNat)).a, (sd (atV o p.left.toNat)).b, (sd (atV o p.left.toNat)).c, (sd (atV o p.left.toNat)).d⟩ : SetD), (⟨(sd (atV o s.sort.toNat)).a, (sd (atV o s.sort.toNat)).b, (sd (atV o s.sort.toNat)).c, (sd (atV o s.sort.toNat)).d⟩ : SetD)] = some (.k0 (sd (uV (atV o p.left.toNat) (atV o s.sort.toNat))).a (sd (uV (atV o p.left.toNat) (atV o s.sort.toNat))).b (sd (uV (atV o p.left.toNat) (atV o s.sort.toNat))).c (sd (uV (atV o p.left.toNat) (atV o s.sort.toNat))).d) :=
    q76 (atV o p.left.toNat) (atV o s.sort.toNat)
   have hs2 := hset (uV (atV o p.left.toNat) (atV o s.sort.toNat))
   rw [k1, h10, cond_false]
   cases hz : symS sh s == 0 with
   | true =>
    have hstep : UH p (p.right.length : Int) (Zi sh) n (i : Int) (o.map sd) = some (.inr (((i + 1 : Nat) : Int), (o.set p.left.toNat (uV (atV o p.left.toNat) (atV o s.sort.toNat))).map sd)) := by
     rw [← hs2]
     simp only [UH, Zj, hx, bsm, decide_eq_true (show (i : Int) < (p.right.length : Int) by omega), cond_true, k1, h10, cond_false, hix, hgl, hix2, hgs, h76, q55 hs hv k1, hz, w_S (show i < 4611686018427387904 by omega)]
    rw [Zd (step := fun s => UH p (p.right.length : Int) (Zi sh) n s.1 s.2) (s := ((i : Int), o.map sd)) hstep]
    rw [cond_true]
    exact Zbu hs hp hok k (i + 1) _ (by omega) (by simpa using ho)
   | false =>
    rw [cond_false]
    have hstep : ∃ e, UH p (p.right.length : Int) (Zi sh) n (i : Int) (o.map sd) = some (.inl e) ∧ endE e = (o.set p.left.toNat (uV (atV o p.left.toNat) (atV o s.sort.toNat))).map sd := by
     simp only [UH, Zj, hx, bsm, decide_eq_true (show (i : Int) < (p.right.length : Int) by omega), cond_true, k1, h10, cond_false, hix, hgl, hix2, hgs, h76, q55 hs hv k1, hz]
     exact ⟨_, rfl, hs2⟩
    obtain ⟨e, e1, e2⟩ := hstep
    exact ⟨e, Zc e1, e2⟩
def NK : R_F75 → List SetD → Bool × List SetD
 | .k0, o => (false, o)
 | .k1 b o .., _ => (b, o)
 | .k2 b o .., _ => (b, o)
theorem q75 (hs : ShOk n sh) (hp : ProdV n p) (hok : ProdOk p) {o : List V4} (ho : o.length = n) (hr : (p.role != 11) = true) :
  ∃ r, F75 p sh (Zi sh) (o.map sd) n = some r ∧ NK r (o.map sd) = (decide (updF sh o p ≠ o), (updF sh o p).map sd) := by
 have hlen := hp.len
 have hpl := hp.left
 have hll : p.left.toNat < o.length := by omega
 have hix : ixN n p.left = some p.left.toNat := ZK.2 ⟨by omega, by omega⟩
 have hm : ∀ (o : List V4) j, j < o.length → (o.map sd)[j]? = some (sd (atV o j)) := fun o j hj => by rw [gmp, Ui hj]; rfl
 unfold F75 updF
 simp only [q48 hs hp.right (show p.right.length ≤ 31 by omega), bsm, hr, Bool.true_and]
 by_cases c0 : sumS sh 0 p.right < 0
 ·rw [decide_eq_true c0, decide_eq_false (show ¬ 0 ≤ sumS sh 0 p.right by omega)]
  exact ⟨_, rfl, by simp [NK]⟩
 rw [decide_eq_false c0, decide_eq_true (show 0 ≤ sumS sh 0 p.right by omega)]
 obtain ⟨e, he1, he2⟩ := Zbu hs hp hok p.right.length 0 o (by omega) ho
 rw [List.drop_zero] at he2
 have e0 : ((0 : Nat) : Int) = 0 := rfl
 rw [e0] at he1
 have hflag : ∀ o', stF sh p.left.toNat o p.right = o' → (!eqS (sd (atV o' p.left.toNat)) (sd (atV o p.left.toNat))) = decide (o' ≠ o) := by
  intro o' ho'
  rw [QV]
  have h1 := FV sh p.left.toNat p.right o hll
  rw [ho'] at h1
  by_cases e : atV o' p.left.toNat = atV o p.left.toNat
  ·rw [e, TI hll] at h1
   simp [e, h1]
  ·have : o' ≠ o := fun e2 => e (by rw [e2])
   simp [e, this]
 have hfin := hm (stF sh p.left.toNat o p.right) p.left.toNat (by rw [LO]; exact hll)
 rw [← he2] at hfin
 simp only [cond_false, cond_true, hix, bsm, hm o p.left.toNat hll, he1]
 have hfl := hflag _ rfl
 cases e with
 | k0 x0 =>
  simp only [endE] at hfin he2
  simp only [hfin, bsm]
  exact ⟨_, rfl, Prod.ext hfl he2⟩
 | k1 x0 =>
  simp only [endE] at hfin he2
  simp only [hfin, bsm]
  exact ⟨_, rfl, Prod.ext hfl he2⟩
theorem LP (hg : GramOk g) (hv : GramV g) (hn : n = g.sorts.length) (hs : ShOk n sh) : ∀ (k i : Nat) (b : Bool) (o : List V4), i + k = g.prods.length → o.length = n →
  runL (fun s => XZ g sh (Zi sh) (g.prods.length : Int) n s.1 s.2.1 s.2.2) (b, (i : Int), o.map sd) =
   some (.k0 ((g.prods.drop i).foldl (fun (a : Bool × List V4) x => (a.1 || decide (updF sh a.2 x ≠ a.2), updF sh a.2 x)) (b, o)).1 (((g.prods.drop i).foldl (fun (a : Bool × List V4) x => (a.1 || decide (updF sh a.2 x ≠ a.2), updF sh a.2 x)) (b, o)).2.map sd))
 | 0, i, b, o, hi, ho => by
  obtain rfl : i = g.prods.length := by omega
  rw [List.drop_length]
  exact Zc (by simp [XZ])
 | k + 1, i, b, o, hi, ho => by
  have hgp := hg.prods
  have hx : g.prods[i]? = some g.prods[i] := geg (by omega)
  have hd : g.prods.drop i = g.prods[i] :: g.prods.drop (i + 1) := (List.drop_eq_getElem_cons (by omega))
  generalize hp : g.prods[i] = p at hx hd
  have hmem : p ∈ g.prods := mog hx
  have hpv : ProdV n p := by rw [hn]; exact hv.prod p hmem
  rw [hd]
  simp only [List.foldl_cons]
  have hstep : XZ g sh (Zi sh) (g.prods.length : Int) n b (i : Int) (o.map sd) = some (.inr (b || decide (updF sh o p ≠ o), ((i + 1 : Nat) : Int), (updF sh o p).map sd)) := by
   simp only [XZ, Zj, hx, bsm, decide_eq_true (show (i : Int) < (g.prods.length : Int) by omega), cond_true, F54, w_S (show i < 4611686018427387904 by omega)]
   cases hr : p.role != 11 with
   | false => simp [updF, hr]
   | true =>
    obtain ⟨r, h1, h2⟩ := q75 hs hpv (hg.prod p hmem) ho hr
    simp only [cond_true, h1, bsm]
    cases r with
    | k0 =>
     simp only [NK, Prod.mk.injEq] at h2
     rw [← h2.1, ← h2.2]; simp
    | k1 x0 x1 =>
     simp only [NK, Prod.mk.injEq] at h2
     rw [← h2.1, ← h2.2]; cases x0 <;> simp
    | k2 x0 x1 =>
     simp only [NK, Prod.mk.injEq] at h2
     rw [← h2.1, ← h2.2]; cases x0 <;> simp
  rw [Zd (step := fun s => XZ g sh (Zi sh) (g.prods.length : Int) n s.1 s.2.1 s.2.2) (s := (b, (i : Int), o.map sd)) hstep]
  exact LP hg hv hn hs k (i + 1) _ _ (by omega) ((JC sh o p).trans ho)
def swF (sh : List Int) (g : GramD) (o : List V4) : List V4 := g.prods.foldl (updF sh) o
theorem RK (sh : List Int) : ∀ (ps : List ProdD) (o : List V4), (ps.foldl (updF sh) o).length = o.length
 | [], o => rfl
 | p :: ps, o => by simp only [List.foldl_cons]; rw [RK sh ps, JC]
def Ze (sh : List Int) (g : GramD) : List V4 := itN (swF sh g) (256 * g.sorts.length) (List.replicate g.sorts.length zV)
theorem XD (sh : List Int) (g : GramD) : (Ze sh g).length = g.sorts.length :=
 YK (Inv := fun a => a.length = g.sorts.length) (fun a ha => (RK sh g.prods a).trans ha) _ _ (by simp)
theorem FX (sh : List Int) (g : GramD) (o : List V4) (h : swF sh g o ≠ o) : mmV o < mmV (swF sh g o) := (XA mmV (UP sh) g.prods o).resolve_left h
theorem FY (sh : List Int) (g : GramD) : swF sh g (Ze sh g) = Ze sh g :=
 U8 mmV (256 * g.sorts.length) (fun a => a.length = g.sorts.length) (fun a ha => (RK sh g.prods a).trans ha) (fun a _ h => FX sh g a h) (fun a ha => by have := IK a; rw [ha] at this; exact this) _ _ (by simp) (by omega)
theorem FZ (sh : List Int) (g : GramD) : ∀ p ∈ g.prods, updF sh (Ze sh g) p = Ze sh g := UG mmV (UP sh) g.prods (Ze sh g) (FY sh g)
theorem mk32 {k : Nat} (h : k ≤ 40) : mkOk (k : Int) 32 = true := by
 unfold mkOk Zw
 exact decide_eq_true (by omega)
theorem q61 (hg : GramOk g) (hv : GramV g) (hs : ShOk g.sorts.length sh) : Lk g sh (Zi sh) = some ((Ze sh g).map sd) := by
 have h40 := hg.sorts
 have e0 : ((0 : Nat) : Int) = 0 := rfl
 have hloop : ∀ (k : Nat) (o : List V4), o.length = g.sorts.length → 256 * g.sorts.length ≤ mmV o + k → runL (fun s => XB g sh (Zi sh) g.sorts.length s) (o.map sd) = some (.k0 ((itN (swF sh g) k o).map sd)) := by
  intro k
  induction k with
  | zero =>
   intro o ho hk
   have h1 := LP hg hv rfl hs g.prods.length 0 false o (by omega) ho
   rw [List.drop_zero, TN mmV (UP sh), e0] at h1
   have hfix : swF sh g o = o := by
    by_cases e : swF sh g o = o
    ·exact e
    ·have h2 := FX sh g o e
     have h3 := IK (swF sh g o)
     rw [show (swF sh g o).length = g.sorts.length from (RK sh g.prods o).trans ho] at h3
     omega
   unfold swF at hfix
   rw [hfix] at h1
   exact Zc (by simp only [XB, h1, bsm]; simp [itN])
  | succ k ih =>
   intro o ho hk
   have h1 := LP hg hv rfl hs g.prods.length 0 false o (by omega) ho
   rw [List.drop_zero, TN mmV (UP sh), e0] at h1
   by_cases e : swF sh g o = o
   ·rw [Y2 e]
    unfold swF at e
    rw [e] at h1
    exact Zc (by simp only [XB, h1, bsm]; simp)
   ·have h2 := FX sh g o e
    have hlen : (swF sh g o).length = g.sorts.length := (RK sh g.prods o).trans ho
    have e' : g.prods.foldl (updF sh) o ≠ o := e
    rw [decide_eq_true e', Bool.or_true] at h1
    have hstep : XB g sh (Zi sh) g.sorts.length (o.map sd) = some (.inr ((swF sh g o).map sd)) := by
     simp only [XB, h1, bsm, Bool.false_or, cond_true]; rfl
    rw [Zd (step := fun s => XB g sh (Zi sh) g.sorts.length s) (s := o.map sd) hstep]
    exact ih _ hlen (by omega)
 have hl := hloop (256 * g.sorts.length) (List.replicate g.sorts.length zV) (by simp) (by omega)
 have hrep : (List.replicate g.sorts.length zV).map sd = List.replicate g.sorts.length (⟨0, 0, 0, 0⟩ : SetD) := by
  rw [List.map_replicate]; rfl
 rw [hrep] at hl
 have hlen : ((itN (swF sh g) (256 * g.sorts.length) (List.replicate g.sorts.length zV)).map sd).length = g.sorts.length := by rw [List.length_map]; exact XD sh g
 have hl2 : runL (fun (_ : Unit) => Uc g sh (Zi sh) (List.replicate g.sorts.length (⟨0, 0, 0, 0⟩ : SetD)) g.sorts.length) () = some (.k0 ((itN (swF sh g) (256 * g.sorts.length) (List.replicate g.sorts.length zV)).map sd)) := Zc (by simp only [Uc, hl, bsm])
 unfold Lk DI
 simp only [mk32 h40, cond_true, Int.toNat_natCast, hl2, bsm, hlen, decide_eq_true (Nat.le_refl _)]
 rw [tol (by rw [hlen]; exact Nat.le_refl _)]
 rfl
end
structure ArgOk (g : GramD) : Prop where
 left : ∀ p ∈ g.prods, WN p.left
 role : ∀ p ∈ g.prods, WN p.role
 sym : ∀ p ∈ g.prods, ∀ s ∈ p.right, SymOk s
 foll : ∀ f ∈ g.follow, Yz f.a ∧ Yz f.b ∧ Yz f.c ∧ Yz f.d
 forb : ∀ f ∈ g.forbid, WN f.at_
theorem q10 {g : GramD} (h : ArgOk g) : ∃ v, F10 g = some v ∧ (v = false → GramOk g) := by
 unfold F10
 by_cases c1 : (g.sorts.length : Int) > 40
 ·rw [decide_eq_true c1]; exact ⟨true, rfl, fun e => by cases e⟩
 rw [decide_eq_false c1, cond_false]
 by_cases c2 : (g.prods.length : Int) > 80
 ·rw [decide_eq_true c2]; exact ⟨true, rfl, fun e => by cases e⟩
 rw [decide_eq_false c2, cond_false]
 by_cases c3 : (g.forbid.length : Int) > 200
 ·rw [decide_eq_true c3]; exact ⟨true, rfl, fun e => by cases e⟩
 rw [decide_eq_false c3, cond_false]
 by_cases c4 : (g.follow.length : Int) > 200
 ·rw [decide_eq_true c4]; exact ⟨true, rfl, fun e => by cases e⟩
 rw [decide_eq_false c4, cond_false]
 have key : runL (fun s => OQ g s) 0 = some (bif allF (fun _ (p : ProdD) => !decide ((p.right.length : Int) > 31) && !decide ((p.cons.size : Int) > 200)) 0 g.prods then E_L10_0.k1 else E_L10_0.k0) := by
  refine Yb (fun _ (p : ProdD) => !decide ((p.right.length : Int) > 31) && !decide ((p.cons.size : Int) > 200)) (fun i p hx => ?_) ?_
  ·have hl : i < g.prods.length := (gei.1 hx).1
   simp only [OQ, Zj, hx, bsm, decide_eq_true (show (i : Int) < (g.prods.length : Int) by omega), cond_true, w_S (show i < 4611686018427387904 by omega)]
   cases decide ((p.right.length : Int) > 31) <;> cases decide ((p.cons.size : Int) > 200) <;> rfl
  ·simp [OQ]
 rw [key]
 cases hall : allF (fun _ (p : ProdD) => !decide ((p.right.length : Int) > 31) && !decide ((p.cons.size : Int) > 200)) 0 g.prods with
 | false => exact ⟨true, rfl, fun e => by cases e⟩
 | true =>
  refine ⟨false, rfl, fun _ => ⟨by omega, by omega, by omega, by omega, fun p hp => ?_, h.foll, h.forb⟩⟩
  obtain ⟨k, hk⟩ := List.getElem?_of_mem hp
  have := (Vp _ _).1 hall k p hk
  simp only [aet, Bool.not_eq_true', decide_eq_false_iff_not] at this
  exact ⟨h.left p hp, h.sym p hp, by omega, h.role p hp⟩
end Go.Proofs.Tryd
