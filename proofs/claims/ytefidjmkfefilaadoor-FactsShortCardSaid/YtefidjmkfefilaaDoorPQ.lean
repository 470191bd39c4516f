/- Whether a grammar may be: the program and the document's answer say the same. -/
import Derived.Test.YtefidjmkfefilaaDoorD3
import Derived.Test.YtefidjmkfefilaaDoorVE
namespace Go.Proofs.Tryd
set_option linter.unusedSimpArgs false
set_option linter.unusedVariables false
open Go Go.Vs

def u64ok (a : Int) : Prop := 0 ≤ a ∧ a ≤ 18446744073709551615
def i64ok (a : Int) : Prop := -9223372036854775808 ≤ a ∧ a ≤ 9223372036854775807
structure SymOk (s : SymD) : Prop where
  kind : i64ok s.kind
  a : u64ok s.a
  b : u64ok s.b
  c : u64ok s.c
  d : u64ok s.d
  sort : i64ok s.sort
structure ProdOk (p : ProdD) : Prop where
  left : i64ok p.left
  right : ∀ s ∈ p.right, SymOk s
  len : p.right.length ≤ 31
  role : i64ok p.role
/-- What a grammar's argument is, of one that is not vast. -/
structure GramOk (g : GramD) : Prop where
  sorts : g.sorts.length ≤ 40
  prods : g.prods.length ≤ 80
  forbid : g.forbid.length ≤ 200
  follow : g.follow.length ≤ 200
  prod : ∀ p ∈ g.prods, ProdOk p
  foll : ∀ f ∈ g.follow, u64ok f.a ∧ u64ok f.b ∧ u64ok f.c ∧ u64ok f.d
  forb : ∀ f ∈ g.forbid, i64ok f.at_

def inR (n : Nat) (x : Int) : Bool := decide (0 ≤ x) && decide (x < (n : Int))
def sortOk (g : GramD) (x : Int) : Bool := inR g.sorts.length x
def emptyW (a b c d : Int) : Bool := (a == 0) && ((b == 0) && ((c == 0) && ((d == 0) && true)))
def pk {α : Type} (l : List α) (f : α → Bool) (k : Nat) : Bool := match l[k]? with | some t => f t | none => true
/-- All that stand ahead. -/
def pv {α : Type} (l : List α) (f : α → Bool) (i : Nat) : Bool := (List.range i).all (pk l f)
def okName (g : GramD) (i : Nat) (s : ByteArray) : Bool := !decide (s = .empty) && !decide ((s.size : Int) > 1000) && pv g.sorts (fun t => !decide (t = s)) i
def okSym (g : GramD) (p : ProdD) (s : SymD) : Bool :=
  bif s.kind == 0 then !emptyW s.a s.b s.c s.d && (s.sort == 0) else bif s.kind == 1 then emptyW s.a s.b s.c s.d && sortOk g s.sort && !(p.role == 11) else false
def okProd (g : GramD) (p : ProdD) : Bool :=
  sortOk g p.left && !decide ((p.right.length : Int) > 30) && !decide (p.role < 0) && !decide (p.role > 11) && !decide (p.frm < -1) && !decide ((p.cons.size : Int) > 64) && (decide (p.cons = .empty) || (p.role == 0)) && !(p.prefer && p.avoid) && allF (fun _ s => okSym g p s) 0 p.right

theorem eqE (s : ByteArray) : (s.toList == (⟨([] : List UInt8).toArray⟩ : ByteArray).toList) = decide (s = .empty) := bytes_list

theorem bsome (c d : Bool) : (bif c then some d else some false) = some (c && d) := by cases c <;> rfl
theorem q41 (g : GramD) : F41 g = some (sortOk g g.start) := bsome _ _
theorem q41_2 (g : GramD) (p : ProdD) : F41_2 g p = some (sortOk g p.left) := bsome _ _
theorem q41_3 (g : GramD) (p : SymD) : F41_3 g p = some (sortOk g p.sort) := bsome _ _
theorem q41_4 (g : GramD) (p : FollD) : F41_4 g p = some (sortOk g p.sort) := bsome _ _
theorem q73 (p : ProdD) (g : GramD) : F73 p g = some (sortOk g p.left) := bsome _ _
theorem q73_2 (s : SymD) (g : GramD) : F73_2 s g = some (sortOk g s.sort) := bsome _ _

theorem or4 {a b c d : Int} (ha : u64ok a) (hb : u64ok b) (hc : u64ok c) (hd : u64ok d) :
    ((IntKind.wrap .u64 ((BitVec.ofInt (IntKind.bits .u64) (IntKind.wrap .u64 ((BitVec.ofInt (IntKind.bits .u64) (IntKind.wrap .u64 ((BitVec.ofInt (IntKind.bits .u64) a ||| BitVec.ofInt (IntKind.bits .u64) b).toNat : Int)) ||| BitVec.ofInt (IntKind.bits .u64) c).toNat : Int)) ||| BitVec.ofInt (IntKind.bits .u64) d).toNat : Int)) == 0) = emptyW a b c d := by
  have e2 : ∀ x y : BitVec 64, decide ((x ||| y) = 0#64) = (decide (x = 0#64) && decide (y = 0#64)) := by
    intro x y
    by_cases hx : x = 0#64
    · subst hx; simp
    · have : ¬ (x ||| y) = 0#64 := by
        intro h
        apply hx
        apply BitVec.eq_of_getLsbD_eq
        intro i hi
        have := congrArg (fun z => z.getLsbD i) h
        simp only [BitVec.getLsbD_or, BitVec.getLsbD_zero, Bool.or_eq_false_iff] at this
        rw [this.1]; simp
      simp [hx, this]
  rw [or_zero, or_u64, or_u64, e2, e2, ofInt_zero ha, ofInt_zero hb, ofInt_zero hc, ofInt_zero hd]
  simp only [emptyW, Bool.and_assoc, Bool.and_true]
theorem q44 {s : SymD} (h : SymOk s) : F44 s = some (emptyW s.a s.b s.c s.d) := by
  unfold F44
  rw [or4 h.a h.b h.c h.d]
theorem q44_2 {f : FollD} (h : u64ok f.a ∧ u64ok f.b ∧ u64ok f.c ∧ u64ok f.d) : F44_2 f = some (emptyW f.a f.b f.c f.d) := by
  unfold F44_2
  rw [or4 h.1 h.2.1 h.2.2.1 h.2.2.2]

/- Loops of the document's Check. -/
theorem range_take {α : Type} (l : List α) (f : α → Bool) : ∀ (i : Nat), i ≤ l.length → pv l f i = (l.take i).all f
  | 0, _ => rfl
  | i + 1, h => by
    have hx : l[i]? = some l[i] := List.getElem?_eq_getElem (by omega)
    have ih := range_take l f i (by omega)
    unfold pv at ih ⊢
    rw [List.range_succ, List.all_append, ih, List.take_add_one, hx, List.all_append]
    simp [pk, hx]

theorem l12_5 (g : GramD) {i : Nat} {x : ByteArray} (hi : g.sorts[i]? = some x) (hn : g.sorts.length ≤ 40) :
    runL (fun s => L12_5 (i : Int) g s) 0 = some (bif pv g.sorts (fun t => !decide (t = x)) i then E_L12_5.k1 else E_L12_5.k0) := by
  have hl : i < g.sorts.length := (List.getElem?_eq_some_iff.1 hi).1
  refine loop_range (pk g.sorts (fun t => !decide (t = x))) (fun k hk => ?_) ?_
  · have hy : g.sorts[k]? = some g.sorts[k] := List.getElem?_eq_getElem (by omega)
    simp only [L12_5, getI_nat, hi, hy, Option.bind_some, decide_eq_true (show (k : Int) < (i : Int) by omega), cond_true, bytes_list, w_S (show k < 4611686018427387904 by omega), pk]
    by_cases e : g.sorts[k] = x <;> simp [e]
  · simp [L12_5]
theorem beqF {a b : Int} (h : ¬ a = b) : (a == b) = false := by simp [h]
theorem bneT {a b : Int} (h : ¬ a = b) : (a != b) = true := by simp [h]
theorem l42_0 {g : GramD} {p : ProdD} (hp : ProdOk p) : runL (fun s => L42_0 g p s) 0 = some (bif allF (fun _ s => okSym g p s) 0 p.right then E_L42_0.k1 else E_L42_0.k0) := by
  have hlen := hp.len
  refine loop_list (fun _ s => okSym g p s) (fun i x hx => ?_) ?_
  · have hl : i < p.right.length := (List.getElem?_eq_some_iff.1 hx).1
    have hs := hp.right x (List.mem_of_getElem? hx)
    simp only [L42_0, getI_nat, hx, Option.bind_some, decide_eq_true (show (i : Int) < (p.right.length : Int) by omega), cond_true, q44 hs, q41_3, w_S (show i < 4611686018427387904 by omega), okSym]
    by_cases k0 : x.kind = 0
    · rw [k0]
      cases emptyW x.a x.b x.c x.d <;> by_cases hz : x.sort = 0 <;> first | (simp [hz]; done) | simp [beqF hz, bneT hz]
    · by_cases k1 : x.kind = 1
      · rw [k1]
        cases emptyW x.a x.b x.c x.d <;> cases sortOk g x.sort <;> by_cases hr : p.role = 11 <;> first | (simp [hr]; done) | simp [beqF hr]
      · simp [beqF k0, beqF k1, bneT k0, bneT k1]
  · simp [L42_0]
theorem q42 {g : GramD} {p : ProdD} (hp : ProdOk p) : F42 g p = some (okProd g p) := by
  unfold F42 okProd
  rw [q41_2, l42_0 hp, eqE]
  simp only [Option.bind_some]
  cases sortOk g p.left <;> simp only [cond_true, cond_false, Bool.false_and, Bool.true_and]
  cases decide ((p.right.length : Int) > 30) <;> simp only [cond_true, cond_false, Bool.false_and, Bool.true_and, Bool.not_true, Bool.not_false]
  cases decide (p.role < 0) <;> simp only [cond_true, cond_false, Bool.false_and, Bool.true_and, Bool.not_true, Bool.not_false]
  cases decide (p.role > 11) <;> simp only [cond_true, cond_false, Bool.false_and, Bool.true_and, Bool.not_true, Bool.not_false]
  cases decide (p.frm < -1) <;> simp only [cond_true, cond_false, Bool.false_and, Bool.true_and, Bool.not_true, Bool.not_false]
  cases decide ((p.cons.size : Int) > 64) <;> simp only [cond_true, cond_false, Bool.false_and, Bool.true_and, Bool.not_true, Bool.not_false]
  cases decide (p.cons = ByteArray.empty) <;> by_cases hr : p.role = 0 <;> cases p.prefer <;> cases p.avoid <;> cases allF (fun _ s => okSym g p s) 0 p.right <;> first | (simp [hr]; done) | simp [beqF hr, bneT hr]
theorem l12_4 {g : GramD} (hg : GramOk g) : runL (fun s => L12_4 g s) 0 = some (bif allF (fun _ p => okProd g p) 0 g.prods then E_L12_4.k1 else E_L12_4.k0) := by
  have hlen := hg.prods
  refine loop_list (fun _ p => okProd g p) (fun i x hx => ?_) ?_
  · have hl : i < g.prods.length := (List.getElem?_eq_some_iff.1 hx).1
    simp only [L12_4, getI_nat, hx, Option.bind_some, decide_eq_true (show (i : Int) < (g.prods.length : Int) by omega), cond_true, q42 (hg.prod x (List.mem_of_getElem? hx)), w_S (show i < 4611686018427387904 by omega)]
    cases okProd g x <;> rfl
  · simp [L12_4]

/-- What is forbidden may be. -/
def prodAt (g : GramD) (x : Int) : Option ProdD := getI g.prods x
def okForb (g : GramD) (f : ForbD) : Bool :=
  match getI g.prods f.parent, getI g.prods f.child with
  | some p, some c => !(p.role == 11) && !(c.role == 11) && !decide (f.at_ < 1) && !decide (f.at_ > (p.right.length : Int)) && (match getI p.right (f.at_ - 1) with | some s => (s.kind == 1) && (s.sort == c.left) | none => false)
  | _, _ => false
theorem getI_none {α : Type} {l : List α} {i : Int} (h : i < 0 ∨ (l.length : Int) ≤ i) : getI l i = none := by
  unfold getI
  split
  · rw [List.getElem?_eq_none (by omega)]
  · rfl
theorem getI_in {α : Type} {l : List α} {i : Int} (h0 : ¬ i < 0) (h1 : ¬ (l.length : Int) ≤ i) : ∃ x, getI l i = some x := by
  unfold getI
  rw [if_pos (by omega)]
  exact ⟨_, List.getElem?_eq_getElem (by omega)⟩
theorem q43 {g : GramD} (hg : GramOk g) {f : ForbD} (hf : i64ok f.at_) : F43 g f = some (okForb g f) := by
  unfold F43 okForb
  by_cases h1 : f.parent < 0
  · simp [h1, getI_none (l := g.prods) (.inl h1)]
  by_cases h2 : (g.prods.length : Int) ≤ f.parent
  · simp [h2, h1, getI_none (l := g.prods) (.inr h2)]
  obtain ⟨p, hp⟩ := getI_in h1 h2
  by_cases h3 : f.child < 0
  · simp [h1, h2, h3, hp, getI_none (l := g.prods) (.inl h3)]
  by_cases h4 : (g.prods.length : Int) ≤ f.child
  · simp [h1, h2, h3, h4, hp, getI_none (l := g.prods) (.inr h4)]
  obtain ⟨c, hc⟩ := getI_in h3 h4
  simp only [hp, hc, decide_eq_false h1, decide_eq_false h3, decide_eq_false (show ¬ f.parent ≥ (g.prods.length : Int) from h2), decide_eq_false (show ¬ f.child ≥ (g.prods.length : Int) from h4), cond_false, Option.bind_some]
  by_cases h5 : p.role = 11
  · simp [h5]
  by_cases h6 : c.role = 11
  · simp [beqF h5, h6]
  by_cases h7 : f.at_ < 1
  · simp [beqF h5, beqF h6, h7]
  by_cases h8 : f.at_ > (p.right.length : Int)
  · simp [beqF h5, beqF h6, h7, h8]
  have hb1 : (p.role == 11) = false := by simp [h5]
  have hb2 : (c.role == 11) = false := by simp [h6]
  simp only [hb1, hb2, decide_eq_false h7, decide_eq_false h8, cond_false, Bool.not_false, Bool.true_and]
  unfold i64ok at hf
  rw [w_id (by omega)]
  obtain ⟨s, hs⟩ := getI_in (l := p.right) (i := f.at_ - 1) (by omega) (by omega)
  rw [hs]
  simp only [Option.bind_some]
  exact bsome _ _

theorem l12_6 (g : GramD) (hn : g.sorts.length ≤ 40) : runL (fun s => L12_6 g s) 0 = some (bif allF (okName g) 0 g.sorts then E_L12_6.k1 else E_L12_6.k0) := by
  refine loop_list (okName g) (fun i x hx => ?_) ?_
  · have hl : i < g.sorts.length := (List.getElem?_eq_some_iff.1 hx).1
    simp only [L12_6, getI_nat, hx, Option.bind_some, decide_eq_true (show (i : Int) < (g.sorts.length : Int) by omega), cond_true, eqE, l12_5 g hx hn, w_S (show i < 4611686018427387904 by omega), okName]
    cases decide (x = ByteArray.empty) <;> cases decide ((x.size : Int) > 1000) <;> simp
    cases pv g.sorts (fun t => !decide (t = x)) i <;> simp
  · simp [L12_6]
end Go.Proofs.Tryd
namespace Go.Proofs.Tryd
set_option linter.unusedSimpArgs false
set_option linter.unusedVariables false
open Go Go.Vs

def eqFo (x y : ForbD) : Bool := (x.parent == y.parent) && ((x.at_ == y.at_) && ((x.child == y.child) && true))
def okForbI (g : GramD) (i : Nat) (f : ForbD) : Bool := okForb g f && pv g.forbid (fun t => !eqFo t f) i
def okFollI (g : GramD) (i : Nat) (f : FollD) : Bool := sortOk g f.sort && !emptyW f.a f.b f.c f.d && pv g.follow (fun t => !(t.sort == f.sort)) i

theorem l12_2 (g : GramD) {i : Nat} {x : ForbD} (hi : g.forbid[i]? = some x) (hn : g.forbid.length ≤ 200) :
    runL (fun s => L12_2 (i : Int) g s) 0 = some (bif pv g.forbid (fun t => !eqFo t x) i then E_L12_2.k1 else E_L12_2.k0) := by
  have hl : i < g.forbid.length := (List.getElem?_eq_some_iff.1 hi).1
  refine loop_range (pk g.forbid (fun t => !eqFo t x)) (fun k hk => ?_) ?_
  · have hy : g.forbid[k]? = some g.forbid[k] := List.getElem?_eq_getElem (by omega)
    simp only [L12_2, getI_nat, hi, hy, Option.bind_some, decide_eq_true (show (k : Int) < (i : Int) by omega), cond_true, w_S (show k < 4611686018427387904 by omega), eqFo, pk]
    cases (g.forbid[k].parent == x.parent && (g.forbid[k].at_ == x.at_ && (g.forbid[k].child == x.child && true))) <;> rfl
  · simp [L12_2]
theorem l12_3 {g : GramD} (hg : GramOk g) : runL (fun s => L12_3 g s) 0 = some (bif allF (okForbI g) 0 g.forbid then E_L12_3.k1 else E_L12_3.k0) := by
  have hn := hg.forbid
  refine loop_list (okForbI g) (fun i x hx => ?_) ?_
  · have hl : i < g.forbid.length := (List.getElem?_eq_some_iff.1 hx).1
    simp only [L12_3, getI_nat, hx, Option.bind_some, decide_eq_true (show (i : Int) < (g.forbid.length : Int) by omega), cond_true, q43 hg (hg.forb x (List.mem_of_getElem? hx)), l12_2 g hx hn, w_S (show i < 4611686018427387904 by omega), okForbI]
    cases okForb g x
    · rfl
    · simp only [cond_true, Bool.true_and]
      cases pv g.forbid (fun t => !eqFo t x) i <;> rfl
  · simp [L12_3]
theorem l12_0 (g : GramD) {i : Nat} {x : FollD} (hi : g.follow[i]? = some x) (hn : g.follow.length ≤ 200) :
    runL (fun s => L12_0 (i : Int) g s) 0 = some (bif pv g.follow (fun t => !(t.sort == x.sort)) i then E_L12_0.k1 else E_L12_0.k0) := by
  have hl : i < g.follow.length := (List.getElem?_eq_some_iff.1 hi).1
  refine loop_range (pk g.follow (fun t => !(t.sort == x.sort))) (fun k hk => ?_) ?_
  · have hy : g.follow[k]? = some g.follow[k] := List.getElem?_eq_getElem (by omega)
    simp only [L12_0, getI_nat, hi, hy, Option.bind_some, decide_eq_true (show (k : Int) < (i : Int) by omega), cond_true, w_S (show k < 4611686018427387904 by omega), pk]
    cases (g.follow[k].sort == x.sort) <;> rfl
  · simp [L12_0]
theorem l12_1 {g : GramD} (hg : GramOk g) : runL (fun s => L12_1 g s) 0 = some (bif allF (okFollI g) 0 g.follow then E_L12_1.k1 else E_L12_1.k0) := by
  have hn := hg.follow
  refine loop_list (okFollI g) (fun i x hx => ?_) ?_
  · have hl : i < g.follow.length := (List.getElem?_eq_some_iff.1 hx).1
    simp only [L12_1, getI_nat, hx, Option.bind_some, decide_eq_true (show (i : Int) < (g.follow.length : Int) by omega), cond_true, q41_4, q44_2 (hg.foll x (List.mem_of_getElem? hx)), l12_0 g hx hn, w_S (show i < 4611686018427387904 by omega), okFollI]
    cases sortOk g x.sort
    · rfl
    · cases emptyW x.a x.b x.c x.d
      · simp only [cond_true, cond_false, Bool.true_and, Bool.not_false]
        cases pv g.follow (fun t => !(t.sort == x.sort)) i <;> rfl
      · rfl
  · simp [L12_1]

def okSorts (g : GramD) : Bool := !decide ((g.sorts.length : Int) < 1) && sortOk g g.start && allF (okName g) 0 g.sorts
def okProds (g : GramD) : Bool := allF (fun _ p => okProd g p) 0 g.prods
def okForbs (g : GramD) : Bool := allF (okForbI g) 0 g.forbid
def okFolls (g : GramD) : Bool := allF (okFollI g) 0 g.follow
def chkB (g : GramD) : Bool := okSorts g && okProds g && okForbs g && okFolls g
def chkN (g : GramD) : Int := bif chkB g then 0 else 160

theorem q12 {g : GramD} (hg : GramOk g) : F12 g = some (chkN g) := by
  have h1 := hg.sorts
  have h2 := hg.prods
  unfold F12 chkN chkB okSorts okProds okForbs okFolls
  rw [q41, l12_6 g h1, l12_4 hg, l12_3 hg, l12_1 hg, decide_eq_false (show ¬ (g.sorts.length : Int) > 1000 by omega), decide_eq_false (show ¬ (g.prods.length : Int) > 1000 by omega)]
  simp only [Option.bind_some, cond_false]
  cases decide ((g.sorts.length : Int) < 1) <;> cases sortOk g g.start <;> cases allF (okName g) 0 g.sorts <;> cases allF (fun _ p => okProd g p) 0 g.prods <;> cases allF (okForbI g) 0 g.forbid <;> cases allF (okFollI g) 0 g.follow <;> rfl

/- The program's. -/
theorem seen_inv {α K : Type} [DecidableEq K] {l : List α} {key : α → K} {m : List (K × Int)} {i : Nat} {x : α} (hx : l[i]? = some x) (hm : ∀ s, mget 0 m s = if (l.take i).any (fun t => decide (key t = s)) then 1 else 0) :
    mget 0 (mput (key x) (IntKind.wrap .i64 (mget 0 m (key x) + 1)) m) (key x) = (if (l.take i).any (fun t => decide (key t = key x)) then 2 else 1) ∧ ((l.take i).any (fun t => decide (key t = key x)) = false → ∀ s, mget 0 (mput (key x) (IntKind.wrap .i64 (mget 0 m (key x) + 1)) m) s = if (l.take (i + 1)).any (fun t => decide (key t = s)) then 1 else 0) := by
  constructor
  · rw [mget_mput, if_pos rfl, hm (key x)]
    split <;> rfl
  · intro hn s
    rw [mget_mput, hm (key x), hn, List.take_add_one, hx, List.any_append]
    by_cases e : s = key x
    · subst e; simp; rfl
    · rw [if_neg e, hm s]
      have : ¬ key x = s := fun h => e h.symm
      simp [this]
theorem dup_take {α : Type} {l : List α} {i : Nat} (f : α → Bool) (hi : i ≤ l.length) : pv l (fun t => !f t) i = !((l.take i).any f) := by
  rw [range_take l (fun t => !f t) i hi]
  induction l.take i with
  | nil => rfl
  | cons x xs ih => simp only [List.all_cons, List.any_cons, ih]; cases f x <;> simp

theorem q57 {g : GramD} (hg : GramOk g) : F57 g = some (okSorts g) := by
  have hn := hg.sorts
  have key := loop_chk (step := fun s => L57_0 g (g.sorts.length : Int) s.1 s.2) (l := g.sorts) (emb := fun i m => ((i : Int), m)) (okName g) (fun i m x => mput x (IntKind.wrap .i64 (mget 0 m x + 1)) m) E_L57_0.k0 E_L57_0.k1
    (fun i m => ∀ s, mget 0 m s = if (g.sorts.take i).any (fun t => decide (t = s)) then 1 else 0) (fun i x m hx hm => ?_) (fun m _ => ?_) g.sorts.length 0 [] (by omega) (by intro s; simp [mget, mfind])
  · rw [List.drop_zero] at key
    unfold F57 okSorts
    have e : ((0 : Nat) : Int) = 0 := rfl
    simp only [e] at key
    cases hall : allF (okName g) 0 g.sorts with
    | true =>
      obtain ⟨b, hb, _⟩ := key.1 hall
      rw [hb]
      simp only [Option.bind_some, decide_eq_true (show (g.sorts.length : Int) ≤ 1000 by omega), cond_true, sortOk, inR]
      by_cases h1 : (g.sorts.length : Int) < 1
      · simp [h1, show ¬ (g.sorts.length : Int) ≥ 1 by omega]
      · rw [decide_eq_true (show (g.sorts.length : Int) ≥ 1 by omega), decide_eq_false h1]
        simp only [cond_true, Bool.not_false, Bool.true_and, Bool.and_true]
        exact bsome _ _
    | false =>
      rw [key.2 hall]
      simp
  · have hl : i < g.sorts.length := (List.getElem?_eq_some_iff.1 hx).1
    obtain ⟨h1, h2⟩ := seen_inv (key := fun t => t) hx hm
    have hd := dup_take (l := g.sorts) (i := i) (fun t => decide (t = x)) (by omega)
    simp only [L57_0, getI_nat, hx, Option.bind_some, decide_eq_true (show (i : Int) < (g.sorts.length : Int) by omega), cond_true, eqE, h1, w_S (show i < 4611686018427387904 by omega), okName, hd]
    cases decide (x = ByteArray.empty) <;> cases decide ((x.size : Int) > 1000) <;> cases hxm : (g.sorts.take i).any (fun t => decide (t = x)) <;> simp
    exact h2 hxm
  · simp [L57_0]

theorem l58_0 {g : GramD} {p : ProdD} (hp : ProdOk p) : runL (fun s => L58_0 g p (p.right.length : Int) s) 0 = some (bif allF (fun _ s => okSym g p s) 0 p.right then E_L58_0.k1 else E_L58_0.k0) := by
  have hlen := hp.len
  refine loop_list (fun _ s => okSym g p s) (fun i x hx => ?_) ?_
  · have hl : i < p.right.length := (List.getElem?_eq_some_iff.1 hx).1
    have he : ((x.a == 0) && ((x.b == 0) && ((x.c == 0) && ((x.d == 0) && true)))) = emptyW x.a x.b x.c x.d := rfl
    simp only [L58_0, getI_nat, hx, Option.bind_some, decide_eq_true (show (i : Int) < (p.right.length : Int) by omega), cond_true, q73_2, w_S (show i < 4611686018427387904 by omega), okSym, he]
    by_cases k0 : x.kind = 0
    · rw [k0]
      cases emptyW x.a x.b x.c x.d <;> by_cases hz : x.sort = 0 <;> first | (simp [hz]; done) | simp [beqF hz, bneT hz]
    · by_cases k1 : x.kind = 1
      · rw [k1]
        cases emptyW x.a x.b x.c x.d <;> cases sortOk g x.sort <;> by_cases hr : p.role = 11 <;> first | (simp [hr]; done) | simp [beqF hr]
      · simp [beqF k0, beqF k1, bneT k0, bneT k1]
  · simp [L58_0]
theorem q58 {g : GramD} (hg : GramOk g) : F58 g = some (okProds g) := by
  have hlen := hg.prods
  have key : runL (fun s => L58_1 g (g.prods.length : Int) s) 0 = some (bif allF (fun _ p => okProd g p) 0 g.prods then E_L58_1.k1 else E_L58_1.k0) := by
    refine loop_list (fun _ p => okProd g p) (fun i p hx => ?_) ?_
    · have hl : i < g.prods.length := (List.getElem?_eq_some_iff.1 hx).1
      have hp := hg.prod p (List.mem_of_getElem? hx)
      simp only [L58_1, getI_nat, hx, Option.bind_some, decide_eq_true (show (i : Int) < (g.prods.length : Int) by omega), cond_true, q73, l58_0 hp, eqE, w_S (show i < 4611686018427387904 by omega), okProd]
      cases sortOk g p.left <;> simp only [cond_true, cond_false, Bool.false_and, Bool.true_and]
      cases decide ((p.right.length : Int) > 30) <;> simp only [cond_true, cond_false, Bool.false_and, Bool.true_and, Bool.not_true, Bool.not_false]
      cases decide (p.role < 0) <;> simp only [cond_true, cond_false, Bool.false_and, Bool.true_and, Bool.not_true, Bool.not_false]
      cases decide (p.role > 11) <;> simp only [cond_true, cond_false, Bool.false_and, Bool.true_and, Bool.not_true, Bool.not_false]
      cases decide (p.frm < -1) <;> simp only [cond_true, cond_false, Bool.false_and, Bool.true_and, Bool.not_true, Bool.not_false]
      cases decide ((p.cons.size : Int) > 64) <;> simp only [cond_true, cond_false, Bool.false_and, Bool.true_and, Bool.not_true, Bool.not_false]
      cases decide (p.cons = ByteArray.empty) <;> by_cases hr : p.role = 0 <;> cases p.prefer <;> cases p.avoid <;> cases allF (fun _ s => okSym g p s) 0 p.right <;> first | (simp [hr]; done) | simp [beqF hr, bneT hr]
    · simp [L58_1]
  unfold F58 okProds
  rw [key]
  cases allF (fun _ p => okProd g p) 0 g.prods
  · rfl
  · simp only [cond_true, Option.bind_some, decide_eq_true (show (g.prods.length : Int) ≤ 1000 by omega)]
end Go.Proofs.Tryd
namespace Go.Proofs.Tryd
set_option linter.unusedSimpArgs false
set_option linter.unusedVariables false
open Go Go.Vs

theorem eqFo_key (t f : ForbD) : eqFo t f = decide ((t.parent, t.at_, t.child) = (f.parent, f.at_, f.child)) := by
  unfold eqFo
  by_cases h1 : t.parent = f.parent
  · by_cases h2 : t.at_ = f.at_
    · by_cases h3 : t.child = f.child
      · simp [h1, h2, h3]
      · simp [h1, h2, h3, beqF h3]
    · simp [h1, h2, beqF h2]
  · simp [h1, beqF h1]

theorem q59 {g : GramD} (hg : GramOk g) : F59 g = some (okForbs g) := by
  have hn := hg.forbid
  have key := loop_chk (step := fun s => L59_0 g (g.forbid.length : Int) s.1 s.2) (l := g.forbid) (emb := fun i m => ((i : Int), m)) (okForbI g)
    (fun i m x => mput (x.parent, x.at_, x.child) (IntKind.wrap .i64 (mget 0 m (x.parent, x.at_, x.child) + 1)) m) E_L59_0.k0 E_L59_0.k1
    (fun i m => ∀ s, mget 0 m s = if (g.forbid.take i).any (fun t => decide ((t.parent, t.at_, t.child) = s)) then 1 else 0) (fun i f m hx hm => ?_) (fun m _ => ?_) g.forbid.length 0 [] (by omega) (by intro s; simp [mget, mfind])
  · rw [List.drop_zero] at key
    have e : ((0 : Nat) : Int) = 0 := rfl
    simp only [e] at key
    unfold F59 okForbs
    cases hall : allF (okForbI g) 0 g.forbid with
    | true => obtain ⟨b, hb, _⟩ := key.1 hall; rw [hb]; rfl
    | false => rw [key.2 hall]; rfl
  · have hl : i < g.forbid.length := (List.getElem?_eq_some_iff.1 hx).1
    have hat := hg.forb f (List.mem_of_getElem? hx)
    unfold i64ok at hat
    obtain ⟨h1, h2⟩ := seen_inv (key := fun t : ForbD => (t.parent, t.at_, t.child)) hx hm
    have hd := dup_take (l := g.forbid) (i := i) (fun t => eqFo t f) (by omega)
    simp only [eqFo_key] at hd
    skip
    have hok : okForbI g i f = (okForb g f && !(g.forbid.take i).any (fun t => decide ((t.parent, t.at_, t.child) = (f.parent, f.at_, f.child)))) := by
      unfold okForbI
      simp only [eqFo_key]
      rw [hd]
    rw [hok]
    simp only [L59_0, getI_nat, hx, Option.bind_some, decide_eq_true (show (i : Int) < (g.forbid.length : Int) by omega), cond_true, h1, w_S (show i < 4611686018427387904 by omega)]
    cases hxm : (g.forbid.take i).any (fun t => decide ((t.parent, t.at_, t.child) = (f.parent, f.at_, f.child))) with
    | true => simp
    | false =>
      have h2 := h2 hxm
      simp only [Bool.not_false, Bool.and_true, Bool.false_eq_true, if_false, show decide ((1 : Int) > 1) = false from rfl, cond_false]
      have e73 : F74 f g = match getI g.prods f.parent with | some p => some (p.role != 11) | none => some false := by
        unfold F74
        by_cases a1 : f.parent < 0
        · simp [getI_none (l := g.prods) (.inl a1), show ¬ f.parent ≥ 0 by omega]
        · by_cases a2 : (g.prods.length : Int) ≤ f.parent
          · simp [getI_none (l := g.prods) (.inr a2), show ¬ f.parent < (g.prods.length : Int) by omega]
          · obtain ⟨p, hp⟩ := getI_in a1 a2
            simp [hp, show f.parent ≥ 0 by omega, show f.parent < (g.prods.length : Int) by omega]
      have e74 : F74_2 f g = match getI g.prods f.child with | some p => some (p.role != 11) | none => some false := by
        unfold F74_2
        by_cases a1 : f.child < 0
        · simp [getI_none (l := g.prods) (.inl a1), show ¬ f.child ≥ 0 by omega]
        · by_cases a2 : (g.prods.length : Int) ≤ f.child
          · simp [getI_none (l := g.prods) (.inr a2), show ¬ f.child < (g.prods.length : Int) by omega]
          · obtain ⟨p, hp⟩ := getI_in a1 a2
            simp [hp, show f.child ≥ 0 by omega, show f.child < (g.prods.length : Int) by omega]
      rw [e73, e74]
      unfold okForb
      cases hp : getI g.prods f.parent with
      | none => simp
      | some p =>
        cases hc : getI g.prods f.child with
        | none => by_cases r1 : p.role = 11 <;> first | (simp [r1]; done) | simp [bneT r1, beqF r1]
        | some c =>
          simp only [Option.bind_some]
          by_cases r1 : p.role = 11
          · simp [r1]
          by_cases r2 : c.role = 11
          · simp [bneT r1, beqF r1, r2]
          by_cases r3 : f.at_ < 1
          · simp [bneT r1, beqF r1, bneT r2, beqF r2, r3]
          by_cases r4 : f.at_ > (p.right.length : Int)
          · simp [bneT r1, beqF r1, bneT r2, beqF r2, r3, r4]
          rw [w_id (by omega)]
          obtain ⟨s, hs⟩ := getI_in (l := p.right) (i := f.at_ - 1) (by omega) (by omega)
          simp only [hs, Option.bind_some, bneT r1, beqF r1, bneT r2, beqF r2, decide_eq_false r3, decide_eq_false r4, cond_true, cond_false, Bool.not_false, Bool.true_and]
          by_cases r5 : s.kind = 1
          · by_cases r6 : s.sort = c.left
            · simpa [r5, r6] using h2
            · simp [r5, bneT r6, beqF r6]
          · simp [bneT r5, beqF r5]
  · simp [L59_0]

theorem q60 {g : GramD} (hg : GramOk g) : F60 g = some (okFolls g) := by
  have hn := hg.follow
  have key := loop_chk (step := fun s => L60_0 g (g.follow.length : Int) s.1 s.2) (l := g.follow) (emb := fun i m => ((i : Int), m)) (okFollI g)
    (fun i m x => mput x.sort (IntKind.wrap .i64 (mget 0 m x.sort + 1)) m) E_L60_0.k0 E_L60_0.k1
    (fun i m => ∀ s, mget 0 m s = if (g.follow.take i).any (fun t => decide (t.sort = s)) then 1 else 0) (fun i f m hx hm => ?_) (fun m _ => ?_) g.follow.length 0 [] (by omega) (by intro s; simp [mget, mfind])
  · rw [List.drop_zero] at key
    have e : ((0 : Nat) : Int) = 0 := rfl
    simp only [e] at key
    unfold F60 okFolls
    cases hall : allF (okFollI g) 0 g.follow with
    | true => obtain ⟨b, hb, _⟩ := key.1 hall; rw [hb]; rfl
    | false => rw [key.2 hall]; rfl
  · have hl : i < g.follow.length := (List.getElem?_eq_some_iff.1 hx).1
    obtain ⟨h1, h2⟩ := seen_inv (key := fun t : FollD => t.sort) hx hm
    have hd := dup_take (l := g.follow) (i := i) (fun t => t.sort == f.sort) (by omega)
    have hbeq : (g.follow.take i).any (fun t => t.sort == f.sort) = (g.follow.take i).any (fun t => decide (t.sort = f.sort)) := by
      congr 1
    rw [hbeq] at hd
    skip
    have he : ((f.a == 0) && ((f.b == 0) && ((f.c == 0) && ((f.d == 0) && true)))) = emptyW f.a f.b f.c f.d := rfl
    simp only [L60_0, getI_nat, hx, Option.bind_some, decide_eq_true (show (i : Int) < (g.follow.length : Int) by omega), cond_true, h1, w_S (show i < 4611686018427387904 by omega), okFollI, hd, he, sortOk, inR]
    cases hxm : (g.follow.take i).any (fun t => decide (t.sort = f.sort)) with
    | true => simp
    | false =>
      have h2 := h2 hxm
      by_cases a1 : f.sort < 0
      · simp [a1, show ¬ 0 ≤ f.sort by omega]
      by_cases a2 : (g.sorts.length : Int) ≤ f.sort
      · simp [a1, a2, show ¬ f.sort < (g.sorts.length : Int) by omega]
      cases emptyW f.a f.b f.c f.d
      · simpa [a1, a2, show 0 ≤ f.sort by omega, show f.sort < (g.sorts.length : Int) by omega] using h2
      · simp [a1, a2]
  · simp [L60_0]

theorem q29 {g : GramD} (hg : GramOk g) : F29 g = some (chkN g) := by
  have key : runL (fun s => L29_0 g s) 0 = some (bif (List.range 4).all (fun i => match i with | 0 => okSorts g | 1 => okProds g | 2 => okForbs g | _ => okFolls g) then E_L29_0.k1 else E_L29_0.k0) := by
    refine loop_range (n := 4) _ (fun i hi => ?_) ?_
    · match i, hi with
      | 0, _ => simp only [L29_0, q57 hg, Option.bind_some]; cases okSorts g <;> rfl
      | 1, _ => simp only [L29_0, q58 hg, Option.bind_some]; cases okProds g <;> rfl
      | 2, _ => simp only [L29_0, q59 hg, Option.bind_some]; cases okForbs g <;> rfl
      | 3, _ => simp only [L29_0, q60 hg, Option.bind_some]; cases okFolls g <;> rfl
      | n + 4, h => omega
    · rfl
  unfold F29 chkN chkB
  rw [key]
  show (some (bif (okSorts g && (okProds g && (okForbs g && (okFolls g && true)))) then E_L29_0.k1 else E_L29_0.k0)).bind _ = _
  cases okSorts g <;> cases okProds g <;> cases okForbs g <;> cases okFolls g <;> rfl
end Go.Proofs.Tryd
namespace Go.Proofs.Tryd
set_option linter.unusedSimpArgs false
set_option linter.unusedVariables false
open Go Go.Vs

/-- What a grammar that may be is. -/
structure SymV (n : Nat) (s : SymD) : Prop where
  k : s.kind = 0 ∨ s.kind = 1
  set : s.kind = 0 → emptyW s.a s.b s.c s.d = false
  sort : s.kind = 1 → 0 ≤ s.sort ∧ s.sort < n
structure ProdV (n : Nat) (p : ProdD) : Prop where
  left : 0 ≤ p.left ∧ p.left < n
  right : ∀ s ∈ p.right, SymV n s
  len : p.right.length ≤ 30
structure GramV (g : GramD) : Prop where
  n : 1 ≤ g.sorts.length
  prod : ∀ p ∈ g.prods, ProdV g.sorts.length p

theorem val_of {g : GramD} (h : chkB g = true) : GramV g := by
  unfold chkB okSorts okProds at h
  simp only [Bool.and_eq_true, Bool.not_eq_true', decide_eq_false_iff_not] at h
  obtain ⟨⟨⟨⟨⟨h1, _⟩, _⟩, h2⟩, _⟩, _⟩ := h
  refine ⟨by omega, fun p hp => ?_⟩
  obtain ⟨k, hk⟩ := List.getElem?_of_mem hp
  have hp2 := (allF_iff _ _).1 h2 k p hk
  unfold okProd at hp2
  simp only [Bool.and_eq_true, Bool.not_eq_true', decide_eq_false_iff_not] at hp2
  obtain ⟨⟨⟨⟨⟨⟨⟨⟨q1, q2⟩, _⟩, _⟩, _⟩, _⟩, _⟩, _⟩, q3⟩ := hp2
  refine ⟨?_, fun s hs => ?_, by omega⟩
  · unfold sortOk inR at q1
    simp only [Bool.and_eq_true, decide_eq_true_eq] at q1
    exact q1
  · obtain ⟨j, hj⟩ := List.getElem?_of_mem hs
    have hs2 := (allF_iff _ _).1 q3 j s hj
    unfold okSym at hs2
    by_cases k0 : s.kind = 0
    · rw [k0] at hs2
      simp only [beq_self_eq_true, cond_true, Bool.and_eq_true, Bool.not_eq_true'] at hs2
      exact ⟨.inl k0, fun _ => hs2.1, fun e => by rw [k0] at e; cases e⟩
    · by_cases k1 : s.kind = 1
      · rw [k1] at hs2
        have : ((1 : Int) == 0) = false := rfl
        simp only [this, cond_false, beq_self_eq_true, cond_true, Bool.and_eq_true, sortOk, inR, decide_eq_true_eq] at hs2
        exact ⟨.inr k1, fun e => absurd e k0, fun _ => hs2.1.2⟩
      · rw [beqF k0, beqF k1] at hs2
        cases hs2

/-- How many bytes a production's shortest text has. -/
def symS (sh : List Int) (s : SymD) : Int := bif s.kind == 1 then (sh[s.sort.toNat]?).getD 0 else 1
def sumS (sh : List Int) : Int → List SymD → Int
  | n, [] => n
  | n, s :: r => bif decide (symS sh s < 0) then -1 else sumS sh (if 1048577 < n + symS sh s then 1048577 else n + symS sh s) r

structure ShOk (n : Nat) (sh : List Int) : Prop where
  len : sh.length = n
  v : ∀ v ∈ sh, -1 ≤ v ∧ v ≤ 1048577

theorem symS_b {n : Nat} {sh : List Int} (hs : ShOk n sh) (s : SymD) : -1 ≤ symS sh s ∧ symS sh s ≤ 1048577 := by
  unfold symS
  cases s.kind == 1
  · simp
  · simp only [cond_true]
    cases h : sh[s.sort.toNat]? with
    | none => simp
    | some v => exact hs.v v (List.mem_of_getElem? h)
theorem sumS_b {n : Nat} {sh : List Int} (hs : ShOk n sh) : ∀ (r : List SymD) (a : Int), 0 ≤ a ∧ a ≤ 1048577 → -1 ≤ sumS sh a r ∧ sumS sh a r ≤ 1048577
  | [], a, h => by simp only [sumS]; omega
  | s :: r, a, h => by
    have hb := symS_b hs s
    simp only [sumS]
    by_cases hk : symS sh s < 0
    · rw [decide_eq_true hk]; simp
    · rw [decide_eq_false hk]
      simp only [cond_false]
      refine sumS_b hs r _ ?_
      split <;> omega

theorem l50_go {n : Nat} {sh : List Int} (hs : ShOk n sh) {p : ProdD} (hr : ∀ s ∈ p.right, SymV n s) (hl : p.right.length ≤ 31) : ∀ (k i : Nat) (a : Int), i + k = p.right.length → 0 ≤ a ∧ a ≤ 1048577 →
    ∃ e, runL (fun s => L50_0 sh p s.1 s.2) (a, (i : Int)) = some e ∧ (match e with | .k0 => (-1 : Int) | .k1 x => x) = sumS sh a (p.right.drop i)
  | 0, i, a, hi, ha => by
    obtain rfl : i = p.right.length := by omega
    refine ⟨.k1 a, runL_done (by simp [L50_0]), ?_⟩
    rw [List.drop_length]; rfl
  | k + 1, i, a, hi, ha => by
    have hx : p.right[i]? = some p.right[i] := List.getElem?_eq_getElem (by omega)
    have hd : p.right.drop i = p.right[i] :: p.right.drop (i + 1) := (List.drop_eq_getElem_cons (by omega))
    have hv := hr p.right[i] (List.getElem_mem _)
    have hb := symS_b hs p.right[i]
    rw [hd]
    simp only [sumS]
    have hstep : L50_0 sh p a (i : Int) = some (bif decide (symS sh p.right[i] < 0) then .inl .k0 else .inr ((if 1048577 < a + symS sh p.right[i] then 1048577 else a + symS sh p.right[i]), ((i + 1 : Nat) : Int))) := by
      simp only [L50_0, getI_nat, hx, Option.bind_some, decide_eq_true (show (i : Int) < (p.right.length : Int) by omega), cond_true, w_S (show i < 4611686018427387904 by omega)]
      rcases hv.k with k0 | k1
      · have : symS sh p.right[i] = 1 := by unfold symS; rw [k0]; rfl
        rw [this, k0, w_id (by omega)]
        rfl
      · obtain ⟨h1, h2⟩ := hv.sort k1
        obtain ⟨v, hg⟩ : ∃ v, sh[p.right[i].sort.toNat]? = some v := ⟨sh[p.right[i].sort.toNat]'(by have := hs.len; omega), List.getElem?_eq_getElem _⟩
        have hgi : getI sh p.right[i].sort = some v := getI_some.2 ⟨h1, hg⟩
        have : symS sh p.right[i] = v := by unfold symS; rw [k1, hg]; rfl
        rw [← this] at hgi
        have hw : IntKind.wrap .i64 (a + symS sh p.right[i]) = a + symS sh p.right[i] := w_id (by omega)
        rw [k1, hgi]
        simp only [beq_self_eq_true, cond_true, Option.bind_some, hw]
        cases decide (symS sh p.right[i] < 0) <;> rfl
    by_cases hk : symS sh p.right[i] < 0
    · rw [decide_eq_true hk] at hstep ⊢
      exact ⟨.k0, runL_done hstep, rfl⟩
    · rw [decide_eq_false hk] at hstep ⊢
      rw [runL_next hstep]
      exact l50_go hs hr hl k (i + 1) _ (by omega) (by split <;> omega)
theorem q50 {n : Nat} {sh : List Int} (hs : ShOk n sh) {p : ProdD} (hr : ∀ s ∈ p.right, SymV n s) (hl : p.right.length ≤ 31) : F50 p sh = some (sumS sh 0 p.right) := by
  obtain ⟨e, h1, h2⟩ := l50_go hs hr hl p.right.length 0 0 (by omega) (by omega)
  rw [List.drop_zero] at h2
  unfold F50
  rw [← h2]
  have e0 : ((0 : Nat) : Int) = 0 := rfl
  rw [e0] at h1
  rw [h1]
  cases e <;> rfl
theorem q48 {n : Nat} {sh : List Int} (hs : ShOk n sh) {p : ProdD} (hr : ∀ s ∈ p.right, SymV n s) (hl : p.right.length ≤ 31) : F48 sh p = some (sumS sh 0 p.right) := by
  have : ∀ s : Int × Int, L48_0 sh p (p.right.length : Int) s.1 s.2 = (L50_0 sh p s.1 s.2).map fun x => match x with | .inl .k0 => .inl .k0 | .inl (.k1 v) => .inl (.k1 v) | .inr s => .inr s := by
    intro s
    unfold L48_0 L50_0
    cases decide (s.2 < (p.right.length : Int))
    · rfl
    · simp only [cond_true]
      cases getI p.right s.2 with
      | none => rfl
      | some x =>
        simp only [Option.bind_some]
        cases x.kind == 1
        · rfl
        · simp only [cond_true]
          cases getI sh x.sort with
          | none => rfl
          | some v => simp only [Option.bind_some]; cases decide (v < 0) <;> rfl
  have key : ∀ s e, Iter (fun s => L50_0 sh p s.1 s.2) s e → Iter (fun s => L48_0 sh p (p.right.length : Int) s.1 s.2) s (match e with | .k0 => E_L48_0.k0 | .k1 v => .k1 v) := by
    intro s e h
    induction h with
    | done h => refine .done ?_; simp only [this, h, Option.map_some]; rename_i e; cases e <;> rfl
    | next h _ ih => exact .next (by simp only [this, h, Option.map_some]) ih
  obtain ⟨e, h1, h2⟩ := l50_go hs hr hl p.right.length 0 0 (by omega) (by omega)
  rw [List.drop_zero] at h2
  have e0 : ((0 : Nat) : Int) = 0 := rfl
  rw [e0] at h1
  have h3 := runL_iff.2 (key _ _ (runL_iff.1 h1))
  unfold F48
  rw [← h2, h3]
  cases e <;> rfl
end Go.Proofs.Tryd
namespace Go.Proofs.Tryd
set_option linter.unusedSimpArgs false
set_option linter.unusedVariables false
open Go Go.Vs

def old (sh : List Int) (p : ProdD) : Int := (sh[p.left.toNat]?).getD 0
def upd (sh : List Int) (p : ProdD) : Bool × List Int :=
  bif (p.role != 11) && (decide (0 ≤ sumS sh 0 p.right) && (decide (old sh p < 0) || decide (sumS sh 0 p.right < old sh p))) then (true, sh.set p.left.toNat (sumS sh 0 p.right)) else (false, sh)
def swp : List ProdD → Bool → List Int → Bool × List Int
  | [], b, sh => (b, sh)
  | p :: ps, b, sh => swp ps (b || (upd sh p).1) (upd sh p).2
def nulOf (sh : List Int) : List Bool := sh.map fun v => v == 0

def mu1 (v : Int) : Nat := bif decide (v < 0) then 1048578 else v.toNat
def mu (sh : List Int) : Nat := (sh.map mu1).sum

theorem sum_set {l : List Nat} : ∀ (k : Nat) (x y : Nat), l[k]? = some y → (l.set k x).sum + y = l.sum + x := by
  induction l with
  | nil => intro k x y h; simp at h
  | cons a l ih =>
    intro k x y h
    cases k with
    | zero => simp at h; subst h; simp [Nat.add_comm, Nat.add_left_comm]; 
    | succ k =>
      simp only [List.set_cons_succ, List.sum_cons]
      have := ih k x y (by simpa using h)
      omega

section
variable {n : Nat} {sh : List Int} {p : ProdD}
theorem old_get (hs : ShOk n sh) (hp : ProdV n p) : sh[p.left.toNat]? = some (old sh p) := by
  have h := hs.len
  have h2 := hp.left
  have : sh[p.left.toNat]? = some (sh[p.left.toNat]'(by omega)) := List.getElem?_eq_getElem _
  unfold old
  rw [this]
  rfl
theorem upd_ok (hs : ShOk n sh) (hp : ProdV n p) : ShOk n (upd sh p).2 := by
  unfold upd
  cases (p.role != 11) && (decide (0 ≤ sumS sh 0 p.right) && (decide (old sh p < 0) || decide (sumS sh 0 p.right < old sh p)))
  · exact hs
  · refine ⟨by simpa using hs.len, fun v hv => ?_⟩
    rcases List.mem_or_eq_of_mem_set hv with h | h
    · exact hs.v v h
    · rw [h]; exact sumS_b hs p.right 0 (by omega)
theorem upd_mu (hs : ShOk n sh) (hp : ProdV n p) : ((upd sh p).1 = true → mu (upd sh p).2 < mu sh) ∧ ((upd sh p).1 = false → (upd sh p).2 = sh) := by
  unfold upd
  cases hc : (p.role != 11) && (decide (0 ≤ sumS sh 0 p.right) && (decide (old sh p < 0) || decide (sumS sh 0 p.right < old sh p)))
  · exact ⟨fun h => by simp at h, fun _ => rfl⟩
  · refine ⟨fun _ => ?_, fun h => by simp at h⟩
    simp only [cond_true]
    simp only [Bool.and_eq_true, Bool.or_eq_true, decide_eq_true_eq] at hc
    obtain ⟨_, h0, h1⟩ := hc
    have hg := old_get hs hp
    have hb := sumS_b hs p.right 0 (by omega)
    have hv := hs.v _ (List.mem_of_getElem? hg)
    have := sum_set (l := sh.map mu1) p.left.toNat (mu1 (sumS sh 0 p.right)) (mu1 (old sh p)) (by rw [List.getElem?_map, hg]; rfl)
    unfold mu
    rw [List.map_set]
    have hlt : mu1 (sumS sh 0 p.right) < mu1 (old sh p) := by
      unfold mu1
      rw [decide_eq_false (by omega : ¬ sumS sh 0 p.right < 0)]
      by_cases hh : old sh p < 0
      · rw [decide_eq_true hh]; simp only [cond_false, cond_true]; omega
      · rw [decide_eq_false hh]; simp only [cond_false]; omega
    omega
end

theorem swp_ok {n : Nat} : ∀ (ps : List ProdD) (b : Bool) (sh : List Int), (∀ p ∈ ps, ProdV n p) → ShOk n sh → ShOk n (swp ps b sh).2
  | [], b, sh, _, hs => hs
  | p :: ps, b, sh, hp, hs => swp_ok ps _ _ (fun q hq => hp q (List.mem_cons_of_mem _ hq)) (upd_ok hs (hp p (List.mem_cons_self ..)))
theorem swp_mu {n : Nat} : ∀ (ps : List ProdD) (b : Bool) (sh : List Int), (∀ p ∈ ps, ProdV n p) → ShOk n sh → mu (swp ps b sh).2 ≤ mu sh ∧ ((swp ps b sh).1 = true → b = true ∨ mu (swp ps b sh).2 < mu sh) ∧ ((swp ps b sh).1 = false → b = false ∧ (swp ps b sh).2 = sh)
  | [], b, sh, _, hs => ⟨Nat.le_refl _, fun h => .inl h, fun h => ⟨h, rfl⟩⟩
  | p :: ps, b, sh, hp, hs => by
    have hpp := hp p (List.mem_cons_self ..)
    obtain ⟨u1, u2⟩ := upd_mu hs hpp
    obtain ⟨h1, h2, h3⟩ := swp_mu ps (b || (upd sh p).1) (upd sh p).2 (fun q hq => hp q (List.mem_cons_of_mem _ hq)) (upd_ok hs hpp)
    simp only [swp]
    cases hu : (upd sh p).1 with
    | true =>
      have := u1 hu
      rw [hu] at h1 h2 h3
      refine ⟨by omega, fun _ => .inr (by omega), fun h => ?_⟩
      have := (h3 h).1
      simp at this
    | false =>
      have := u2 hu
      rw [hu, this, Bool.or_false] at h1 h2 h3
      rw [this, Bool.or_false]
      exact ⟨h1, h2, h3⟩

section
variable {g : GramD} {n : Nat}
theorem l16_0 (hg : GramOk g) (hv : GramV g) (hn : n = g.sorts.length) : ∀ (k i : Nat) (b : Bool) (sh : List Int), i + k = g.prods.length → ShOk n sh →
    runL (fun s => L16_0 n g s.1 s.2.1 s.2.2) (b, (i : Int), sh) = some (.k0 (swp (g.prods.drop i) b sh).1 (swp (g.prods.drop i) b sh).2)
  | 0, i, b, sh, hi, hs => by
    obtain rfl : i = g.prods.length := by omega
    rw [List.drop_length]
    exact runL_done (by simp [L16_0, swp])
  | k + 1, i, b, sh, hi, hs => by
    have hgp := hg.prods
    have hx : g.prods[i]? = some g.prods[i] := List.getElem?_eq_getElem (by omega)
    have hd : g.prods.drop i = g.prods[i] :: g.prods.drop (i + 1) := (List.drop_eq_getElem_cons (by omega))
    generalize hp : g.prods[i] = p at hx hd
    have hmem : p ∈ g.prods := List.mem_of_getElem? hx
    have hpv : ProdV n p := by rw [hn]; exact hv.prod p hmem
    have hlen := hpv.len
    rw [hd]
    simp only [swp]
    have hstep : L16_0 n g b (i : Int) sh = some (.inr (b || (upd sh p).1, ((i + 1 : Nat) : Int), (upd sh p).2)) := by
      have ht : sh.take n = sh := List.take_of_length_le (by rw [hs.len]; exact Nat.le_refl _)
      have hle : decide (n ≤ sh.length) = true := decide_eq_true (by rw [hs.len]; exact Nat.le_refl _)
      have hix : ixN n p.left = some p.left.toNat := ixN_some.2 ⟨by have := hpv.left; omega, by have := hpv.left; omega⟩
      simp only [L16_0, getI_nat, hx, Option.bind_some, decide_eq_true (show (i : Int) < (g.prods.length : Int) by omega), cond_true, hle, ht, q50 hs hpv.right (by omega), F51, hix, old_get hs hpv, w_S (show i < 4611686018427387904 by omega), upd]
      cases p.role != 11 with
      | false => simp
      | true =>
        simp only [cond_true, Bool.true_and]
        by_cases h0 : sumS sh 0 p.right ≥ 0
        · rw [decide_eq_true h0]
          cases decide (old sh p < 0) <;> cases decide (sumS sh 0 p.right < old sh p) <;> simp
        · rw [decide_eq_false h0]
          simp
    rw [runL_next hstep]
    exact l16_0 hg hv hn k (i + 1) _ _ (by omega) (upd_ok hs hpv)

theorem q69 {p : ProdD} {sh : List Int} (hs : ShOk n sh) (hpv : ProdV n p) (hr : (p.role != 11) = true) : F69 p sh (nulOf sh) n = some (.k0 (upd sh p).1 (upd sh p).2 (nulOf (upd sh p).2)) := by
  have hlen := hpv.len
  have ht : sh.take n = sh := List.take_of_length_le (by rw [hs.len]; exact Nat.le_refl _)
  have hle : decide (n ≤ sh.length) = true := decide_eq_true (by rw [hs.len]; exact Nat.le_refl _)
  have hle2 : decide (n ≤ (nulOf sh).length) = true := decide_eq_true (by unfold nulOf; rw [List.length_map, hs.len]; exact Nat.le_refl _)
  have hix : ixN n p.left = some p.left.toNat := ixN_some.2 ⟨by have := hpv.left; omega, by have := hpv.left; omega⟩
  have hnul : (nulOf sh)[p.left.toNat]? = some (old sh p == 0) := by unfold nulOf; rw [List.getElem?_map, old_get hs hpv]; rfl
  have hset : (nulOf sh).set p.left.toNat (sumS sh 0 p.right == 0) = nulOf (sh.set p.left.toNat (sumS sh 0 p.right)) := by unfold nulOf; rw [List.map_set]
  simp only [F69, hle, hle2, ht, cond_true, q48 hs hpv.right (show p.right.length ≤ 31 by omega), Option.bind_some, hix, old_get hs hpv, hnul, hset, upd, hr, Bool.true_and]
  by_cases h0 : sumS sh 0 p.right < 0
  · rw [decide_eq_true h0, decide_eq_false (show ¬ 0 ≤ sumS sh 0 p.right by omega)]
    simp
  · rw [decide_eq_false h0, decide_eq_true (show 0 ≤ sumS sh 0 p.right by omega)]
    by_cases h1 : old sh p < 0
    · rw [decide_eq_true h1, decide_eq_false (show ¬ old sh p ≥ 0 by omega)]
      simp
    · rw [decide_eq_false h1, decide_eq_true (show old sh p ≥ 0 by omega)]
      by_cases h2 : sumS sh 0 p.right < old sh p
      · rw [decide_eq_true h2, decide_eq_false (show ¬ old sh p ≤ sumS sh 0 p.right by omega)]
        simp
      · rw [decide_eq_false h2, decide_eq_true (show old sh p ≤ sumS sh 0 p.right by omega)]
        simp

theorem l46_0 (hg : GramOk g) (hv : GramV g) (hn : n = g.sorts.length) : ∀ (k i : Nat) (b : Bool) (sh : List Int), i + k = g.prods.length → ShOk n sh →
    runL (fun s => L46_0 g (g.prods.length : Int) n s.1 s.2.1 s.2.2.1 s.2.2.2) (b, (i : Int), sh, nulOf sh) = some (.k0 (swp (g.prods.drop i) b sh).1 (swp (g.prods.drop i) b sh).2 (nulOf (swp (g.prods.drop i) b sh).2))
  | 0, i, b, sh, hi, hs => by
    obtain rfl : i = g.prods.length := by omega
    rw [List.drop_length]
    exact runL_done (by simp [L46_0, swp])
  | k + 1, i, b, sh, hi, hs => by
    have hgp := hg.prods
    have hx : g.prods[i]? = some g.prods[i] := List.getElem?_eq_getElem (by omega)
    have hd : g.prods.drop i = g.prods[i] :: g.prods.drop (i + 1) := (List.drop_eq_getElem_cons (by omega))
    generalize hp : g.prods[i] = p at hx hd
    have hmem : p ∈ g.prods := List.mem_of_getElem? hx
    have hpv : ProdV n p := by rw [hn]; exact hv.prod p hmem
    rw [hd]
    simp only [swp]
    have hstep : L46_0 g (g.prods.length : Int) n b (i : Int) sh (nulOf sh) = some (.inr (b || (upd sh p).1, ((i + 1 : Nat) : Int), (upd sh p).2, nulOf (upd sh p).2)) := by
      simp only [L46_0, getI_nat, hx, Option.bind_some, decide_eq_true (show (i : Int) < (g.prods.length : Int) by omega), cond_true, F54, w_S (show i < 4611686018427387904 by omega)]
      cases hr : p.role != 11 with
      | false => simp [upd, hr]
      | true =>
        simp only [cond_true, q69 hs hpv hr, Option.bind_some]
        cases (upd sh p).1 <;> simp
    rw [runL_next hstep]
    exact l46_0 hg hv hn k (i + 1) _ _ (by omega) (upd_ok hs hpv)

theorem fix (hg : GramOk g) (hv : GramV g) (hn : n = g.sorts.length) : ∀ (m : Nat) (sh : List Int), mu sh ≤ m → ShOk n sh →
    ∃ sh', ShOk n sh' ∧ runL (fun s => L16_1 n g s.1 s.2) (true, sh) = some (.k0 sh') ∧ runL (fun s => L46_1 g n s.1 s.2) (sh, nulOf sh) = some (.k0 sh' (nulOf sh')) ∧ swp g.prods false sh' = (false, sh') := by
  intro m
  induction m with
  | zero =>
    intro sh hm hs
    have hps : ∀ p ∈ g.prods, ProdV n p := fun p hp => by rw [hn]; exact hv.prod p hp
    obtain ⟨h1, h2, h3⟩ := swp_mu g.prods false sh hps hs
    have hf : (swp g.prods false sh).1 = false := by
      cases h : (swp g.prods false sh).1 with
      | false => rfl
      | true => rcases h2 h with h | h; cases h; omega
    obtain ⟨_, he⟩ := h3 hf
    have e0 : ((0 : Nat) : Int) = 0 := rfl
    have q1 := l16_0 hg hv hn g.prods.length 0 false sh (by omega) hs
    have q2 := l46_0 hg hv hn g.prods.length 0 false sh (by omega) hs
    rw [List.drop_zero, hf, he, e0] at q1 q2
    refine ⟨sh, hs, ?_, ?_, Prod.ext hf he⟩
    · rw [runL_next (s' := (false, sh)) (by simp only [L16_1, cond_true, q1, Option.bind_some])]
      exact runL_done (by simp [L16_1])
    · exact runL_done (by simp only [L46_1, q2, Option.bind_some, cond_false])
  | succ m ih =>
    intro sh hm hs
    have hps : ∀ p ∈ g.prods, ProdV n p := fun p hp => by rw [hn]; exact hv.prod p hp
    obtain ⟨h1, h2, h3⟩ := swp_mu g.prods false sh hps hs
    have e0 : ((0 : Nat) : Int) = 0 := rfl
    have q1 := l16_0 hg hv hn g.prods.length 0 false sh (by omega) hs
    have q2 := l46_0 hg hv hn g.prods.length 0 false sh (by omega) hs
    cases hf : (swp g.prods false sh).1 with
    | false =>
      obtain ⟨_, he⟩ := h3 hf
      rw [List.drop_zero, hf, he, e0] at q1 q2
      refine ⟨sh, hs, ?_, ?_, Prod.ext hf he⟩
      · rw [runL_next (s' := (false, sh)) (by simp only [L16_1, cond_true, q1, Option.bind_some])]
        exact runL_done (by simp [L16_1])
      · exact runL_done (by simp only [L46_1, q2, Option.bind_some, cond_false])
    | true =>
      have hlt : mu (swp g.prods false sh).2 < mu sh := by rcases h2 hf with h | h; cases h; exact h
      obtain ⟨sh', k1, k2, k3, k4⟩ := ih (swp g.prods false sh).2 (by omega) (swp_ok g.prods false sh hps hs)
      rw [List.drop_zero, hf, e0] at q1 q2
      refine ⟨sh', k1, ?_, ?_, k4⟩
      · rw [runL_next (s' := (true, (swp g.prods false sh).2)) (by simp only [L16_1, cond_true, q1, Option.bind_some])]
        exact k2
      · rw [runL_next (s' := ((swp g.prods false sh).2, nulOf (swp g.prods false sh).2)) (by simp only [L46_1, q2, Option.bind_some, cond_true])]
        exact k3
theorem l16_2 (hn : n ≤ 40) : ∀ (k i : Nat), i + k = n → runL (fun s => L16_2 n s.1 s.2) ((i : Int), List.replicate i (-1) ++ List.replicate k 0) = some (.k0 (List.replicate n (-1)))
  | 0, i, hi => by
    obtain rfl : i = n := by omega
    simp only [List.replicate_zero, List.append_nil]
    exact runL_done (by simp [L16_2])
  | k + 1, i, hi => by
    have hstep : L16_2 n (i : Int) (List.replicate i (-1) ++ List.replicate (k + 1) 0) = some (.inr (((i + 1 : Nat) : Int), List.replicate (i + 1) (-1) ++ List.replicate k 0)) := by
      have h1 : (List.replicate i (-1 : Int) ++ List.replicate (k + 1) 0)[i]? = some 0 := by
        rw [List.getElem?_append_right (by simp)]; simp
      have h2 : (List.replicate i (-1 : Int) ++ List.replicate (k + 1) 0).set i (-1) = List.replicate (i + 1) (-1) ++ List.replicate k 0 := by
        rw [List.set_append_right _ _ (by simp), List.length_replicate, Nat.sub_self, List.replicate_succ, List.set_cons_zero, List.replicate_succ', List.append_assoc]
        rfl
      simp only [L16_2, decide_eq_true (show (i : Int) < (n : Int) by omega), cond_true, ixN_nat, if_pos (show i < n by omega), Option.bind_some, h1, h2, w_S (show i < 4611686018427387904 by omega)]
    rw [runL_next hstep]
    exact l16_2 hn k (i + 1) (by omega)
theorem l45_0 (hn : n ≤ 40) : ∀ (k i : Nat), i + k = n → runL (fun s => L45_0 (n : Int) n s.1 s.2) ((i : Int), List.replicate i (-1) ++ List.replicate k 0) = some (.k0 (List.replicate n (-1)))
  | 0, i, hi => by
    obtain rfl : i = n := by omega
    simp only [List.replicate_zero, List.append_nil]
    exact runL_done (by simp [L45_0])
  | k + 1, i, hi => by
    have hstep : L45_0 (n : Int) n (i : Int) (List.replicate i (-1) ++ List.replicate (k + 1) 0) = some (.inr (((i + 1 : Nat) : Int), List.replicate (i + 1) (-1) ++ List.replicate k 0)) := by
      have h1 : (List.replicate i (-1 : Int) ++ List.replicate (k + 1) 0)[i]? = some 0 := by
        rw [List.getElem?_append_right (by simp)]; simp
      have h2 : (List.replicate i (-1 : Int) ++ List.replicate (k + 1) 0).set i (-1) = List.replicate (i + 1) (-1) ++ List.replicate k 0 := by
        rw [List.set_append_right _ _ (by simp), List.length_replicate, Nat.sub_self, List.replicate_succ, List.set_cons_zero, List.replicate_succ', List.append_assoc]
        rfl
      simp only [L45_0, decide_eq_true (show (i : Int) < (n : Int) by omega), cond_true, ixN_nat, if_pos (show i < n by omega), Option.bind_some, h1, h2, w_S (show i < 4611686018427387904 by omega)]
    rw [runL_next hstep]
    exact l45_0 hn k (i + 1) (by omega)

theorem mk8 {k : Nat} (h : k ≤ 40) : mkOk (k : Int) 8 = true := by
  unfold mkOk limit47
  exact decide_eq_true (by omega)
theorem mk1 {k : Nat} (h : k ≤ 40) : mkOk (k : Int) 1 = true := by
  unfold mkOk limit47
  exact decide_eq_true (by omega)
theorem sh0 : ShOk n (List.replicate n (-1)) := ⟨by simp, fun v hv => by rw [List.eq_of_mem_replicate hv]; omega⟩
theorem nul0 : nulOf (List.replicate n (-1)) = List.replicate n false := by unfold nulOf; simp

/-- Shortest: both answers. -/
theorem shortest (hg : GramOk g) (hc : chkB g = true) : ∃ sh, ShOk g.sorts.length sh ∧ F16 g = some sh ∧ F45 g = some (.k1 sh (nulOf sh)) ∧ F13 g = some (.k0 sh 0) := by
  have hv := val_of hc
  have h40 := hg.sorts
  obtain ⟨sh, k1, k2, k3, k4⟩ := fix hg hv rfl (mu (List.replicate g.sorts.length (-1))) (List.replicate g.sorts.length (-1)) (Nat.le_refl _) sh0
  have a1 := l16_2 h40 g.sorts.length 0 (by omega)
  have a2 := l45_0 h40 g.sorts.length 0 (by omega)
  have e0 : ((0 : Nat) : Int) = 0 := rfl
  simp only [List.replicate_zero, List.nil_append, e0] at a1 a2
  rw [nul0] at k3
  have hle : decide (g.sorts.length ≤ sh.length) = true := decide_eq_true (by rw [k1.len]; exact Nat.le_refl _)
  have ht : sh.take g.sorts.length = sh := List.take_of_length_le (by rw [k1.len]; exact Nat.le_refl _)
  have h45 : F45 g = some (.k1 sh (nulOf sh)) := by
    unfold F45
    rw [q29 hg]
    simp only [Option.bind_some, chkN, hc, cond_true, show ((0 : Int) != 0) = false from rfl, cond_false, mk8 h40, mk1 h40, Int.toNat_natCast, a2, F46, k3]
  refine ⟨sh, k1, ?_, h45, ?_⟩
  · unfold F16
    simp only [mk8 h40, cond_true, Int.toNat_natCast, a1, Option.bind_some, k2, hle, ht]
  · unfold F13
    rw [h45]
    simp only [Option.bind_some, Int.toNat_natCast, hle, ht, cond_true]
theorem shortest_no (hg : GramOk g) (hc : chkB g = false) : F13 g = some (.k0 [] 160) := by
  unfold F13 F45
  rw [q29 hg]
  simp [chkN, hc]
end
end Go.Proofs.Tryd
namespace Go.Proofs.Tryd
set_option linter.unusedSimpArgs false
set_option linter.unusedVariables false
open Go Go.Vs

theorem wOk_of {s : SymD} (h : SymOk s) : wOk s = true := by
  have h1 := h.a; have h2 := h.b; have h3 := h.c; have h4 := h.d
  unfold u64ok at h1 h2 h3 h4
  unfold wOk
  exact decide_eq_true (by omega)

theorem fd {x j : Nat} (hj : j < 64) : Int.tmod (Int.fdiv (x : Int) (2 ^ (min (Int.toNat (j : Int)) (IntKind.bits .u64)))) 2 = ((x >>> j % 2 : Nat) : Int) := by
  have e : min (Int.toNat (j : Int)) (IntKind.bits .u64) = j := by
    rw [show IntKind.bits .u64 = 64 from rfl, Int.toNat_natCast]; omega
  rw [e, two_pow, Int.fdiv_eq_ediv_of_nonneg _ (Int.natCast_nonneg _), Nat.shiftRight_eq_div_pow, show ((x : Int) / ((2 ^ j : Nat) : Int)) = ((x / 2 ^ j : Nat) : Int) from (Int.natCast_ediv _ _).symm, Int.tmod_eq_emod_of_nonneg (Int.natCast_nonneg _)]
  rfl
theorem q71 {s : SymD} (h : wOk s = true) {b : Nat} (hb : b < 256) : F71 s (b : Int) = some (has (v4 s) b) := by
  have hv := v4_of h
  have ea : ((v4 s).a.toNat : Int) = s.a := congrArg I4.a hv
  have eb : ((v4 s).b.toNat : Int) = s.b := congrArg I4.b hv
  have ec : ((v4 s).c.toNat : Int) = s.c := congrArg I4.c hv
  have ed : ((v4 s).d.toNat : Int) = s.d := congrArg I4.d hv
  have e1 : IntKind.wrap .i64 (Int.tdiv (b : Int) 64) = ((b / 64 : Nat) : Int) := by
    rw [show Int.tdiv (b : Int) 64 = ((b / 64 : Nat) : Int) from rfl, w_id (by omega)]
  have e2 : Int.tmod (b : Int) 64 = ((b % 64 : Nat) : Int) := rfl
  have hm : b % 64 < 64 := by omega
  have bq : ∀ w : BitVec 64, (((w.toNat >>> (b % 64) % 2 : Nat) : Int) == 1) = w.getLsbD (b % 64) := by
    intro w
    rw [q_bit _ _ hm, q_eq1]
  unfold F71 has
  rw [e1, e2, decide_eq_false (by omega), ← ea, ← eb, ← ec, ← ed, fd hm, fd hm, fd hm, fd hm, bq, bq, bq, bq]
  have h4 : b / 64 = 0 ∨ b / 64 = 1 ∨ b / 64 = 2 ∨ b / 64 = 3 := by omega
  rcases h4 with e | e | e | e <;> rw [e] <;> rfl

theorem l52 {s : SymD} (h : wOk s = true) : ∀ (k i : Nat) (gn : Nat) (xs : List Int), i + k = 256 → xs.length ≤ i →
    ∃ gn' , runL (fun t => L52_0 s t.1 t.2.1 t.2.2.1 t.2.2.2) (gn, xs.length, (i : Int), xs) = some (.k0 gn' (xs ++ ((List.range' i k).filter (has (v4 s))).map Int.ofNat).length (xs ++ ((List.range' i k).filter (has (v4 s))).map Int.ofNat))
  | 0, i, gn, xs, hi, hl => by
    obtain rfl : i = 256 := by omega
    refine ⟨gn, ?_⟩
    rw [List.range'_zero, List.filter_nil, List.map_nil, List.append_nil]
    exact runL_done (by simp [L52_0])
  | k + 1, i, gn, xs, hi, hl => by
    have hw : IntKind.wrap .u8 (i : Int) = (i : Int) := by rw [IntKind.wrap_u8]; omega
    have ok : apOk xs.length 1 xs.length 1 = true := decide_eq_true (by unfold limit47; omega)
    rw [List.range'_succ, List.filter_cons]
    cases hb : has (v4 s) i with
    | false =>
      have hstep : L52_0 s gn xs.length (i : Int) xs = some (.inr (gn, xs.length, ((i + 1 : Nat) : Int), xs)) := by
        simp only [L52_0, decide_eq_true (show (i : Int) < 256 by omega), cond_true, q71 h (show i < 256 by omega), Option.bind_some, hb, cond_false, w_S (show i < 4611686018427387904 by omega)]
      rw [runL_next (step := fun t => L52_0 s t.1 t.2.1 t.2.2.1 t.2.2.2) (s := (gn, xs.length, (i : Int), xs)) (s' := (gn, xs.length, ((i + 1 : Nat) : Int), xs)) hstep]
      simp only [Bool.false_eq_true, if_false]
      exact l52 h k (i + 1) gn xs (by omega) (by omega)
    | true =>
      have hstep : L52_0 s gn xs.length (i : Int) xs = some (.inr (gn + 1, (xs ++ [(i : Int)]).length, ((i + 1 : Nat) : Int), xs ++ [(i : Int)])) := by
        simp only [L52_0, decide_eq_true (show (i : Int) < 256 by omega), cond_true, q71 h (show i < 256 by omega), Option.bind_some, hb, ok, decide_eq_false (show ¬ xs.length + 1 ≤ xs.length by omega), cond_false, w_S (show i < 4611686018427387904 by omega), hw, List.take_length, List.length_append, List.length_singleton]
      rw [runL_next (step := fun t => L52_0 s t.1 t.2.1 t.2.2.1 t.2.2.2) (s := (gn, xs.length, (i : Int), xs)) (s' := (gn + 1, (xs ++ [(i : Int)]).length, ((i + 1 : Nat) : Int), xs ++ [(i : Int)])) hstep]
      simp only [if_true, List.map_cons]
      obtain ⟨g', hg⟩ := l52 h k (i + 1) (gn + 1) (xs ++ [(i : Int)]) (by omega) (by simp; omega)
      refine ⟨g', ?_⟩
      rw [List.append_assoc] at hg
      exact hg

theorem range_bits (w : BitVec 64) (i : Nat) (p : Nat → Bool) (hp : ∀ j, j < 64 → p (64 * i + j) = w.getLsbD j) : (List.range' (64 * i) 64).filter p = bitsW w i := by
  unfold bitsW bits
  have e : List.range' (64 * i) 64 = (List.range' 0 64).map (64 * i + ·) := by rw [List.map_add_range']; rfl
  rw [e, List.filter_map]
  congr 1
  refine List.filter_congr (fun j hj => ?_)
  exact hp j (by have := List.mem_range'_1.1 hj; omega)
theorem all_bits (s : V4) : (List.range' 0 256).filter (has s) = bytesS s := by
  have e : List.range' 0 256 = List.range' (64 * 0) 64 ++ (List.range' (64 * 1) 64 ++ (List.range' (64 * 2) 64 ++ List.range' (64 * 3) 64)) := by decide +kernel
  rw [e, List.filter_append, List.filter_append, List.filter_append]
  have hh : ∀ i j : Nat, j < 64 → has s (64 * i + j) = (s.get i).getLsbD j := by
    intro i j hj
    unfold has
    rw [show (64 * i + j) / 64 = i by omega, show (64 * i + j) % 64 = j by omega]
  rw [range_bits s.a 0 _ (hh 0), range_bits s.b 1 _ (hh 1), range_bits s.c 2 _ (hh 2), range_bits s.d 3 _ (hh 3)]
  rfl
theorem q52 {s : SymD} (h : wOk s = true) : F52 s = some ((bytesS (v4 s)).map Int.ofNat) := by
  obtain ⟨g', hg⟩ := l52 h 256 0 0 [] (by omega) (by simp)
  rw [all_bits, List.nil_append] at hg
  have e0 : ((0 : Nat) : Int) = 0 := rfl
  simp only [List.length_nil, e0] at hg
  unfold F52
  rw [hg]
  simp only [Option.bind_some, decide_eq_true (Nat.le_refl _), cond_true, List.take_length]

/-- A set that is not empty has a least byte. -/
theorem some_byte {s : SymD} (h : wOk s = true) (he : emptyW s.a s.b s.c s.d = false) : ∃ c l, bytesS (v4 s) = c :: l := by
  have hv := v4_of h
  cases hb : bytesS (v4 s) with
  | cons c l => exact ⟨c, l, rfl⟩
  | nil =>
    exfalso
    unfold bytesS bitsW at hb
    simp only [List.append_eq_nil_iff, List.map_eq_nil_iff] at hb
    have z : ∀ w : BitVec 64, bits w = [] → w.toNat = 0 := by
      intro w hw
      by_cases e : w = 0#64
      · rw [e]; rfl
      · rw [bits_cons w e] at hw; cases hw
    have ea : ((v4 s).a.toNat : Int) = s.a := congrArg I4.a hv
    have eb : ((v4 s).b.toNat : Int) = s.b := congrArg I4.b hv
    have ec : ((v4 s).c.toNat : Int) = s.c := congrArg I4.c hv
    have ed : ((v4 s).d.toNat : Int) = s.d := congrArg I4.d hv
    rw [z _ hb.1] at ea
    rw [z _ hb.2.1] at eb
    rw [z _ hb.2.2.1] at ec
    rw [z _ hb.2.2.2] at ed
    unfold emptyW at he
    rw [← ea, ← eb, ← ec, ← ed] at he
    exact absurd he (by decide)
theorem q49 {s : SymD} {c : Nat} {l : List Nat} (h : wOk s = true) (hb : bytesS (v4 s) = c :: l) : F49 s = some (.k0 c true) := by
  unfold F49
  rw [h, hb]
  rfl
end Go.Proofs.Tryd
namespace Go.Proofs.Tryd
set_option linter.unusedSimpArgs false
set_option linter.unusedVariables false
open Go Go.Vs
section
variable {g : GramD} {n : Nat}
theorem q69b {p : ProdD} {sh : List Int} (hs : ShOk n sh) (hpv : ProdV n p) (hr : (p.role != 11) = true) : F69_2 p sh (nulOf sh) n = some (.k0 (upd sh p).1 (upd sh p).2 (nulOf (upd sh p).2)) := by
  have hlen := hpv.len
  have ht : sh.take n = sh := List.take_of_length_le (by rw [hs.len]; exact Nat.le_refl _)
  have hle : decide (n ≤ sh.length) = true := decide_eq_true (by rw [hs.len]; exact Nat.le_refl _)
  have hle2 : decide (n ≤ (nulOf sh).length) = true := decide_eq_true (by unfold nulOf; rw [List.length_map, hs.len]; exact Nat.le_refl _)
  have hix : ixN n p.left = some p.left.toNat := ixN_some.2 ⟨by have := hpv.left; omega, by have := hpv.left; omega⟩
  have hnul : (nulOf sh)[p.left.toNat]? = some (old sh p == 0) := by unfold nulOf; rw [List.getElem?_map, old_get hs hpv]; rfl
  have hset : (nulOf sh).set p.left.toNat (sumS sh 0 p.right == 0) = nulOf (sh.set p.left.toNat (sumS sh 0 p.right)) := by unfold nulOf; rw [List.map_set]
  simp only [F69_2, hle, hle2, ht, cond_true, q48 hs hpv.right (show p.right.length ≤ 31 by omega), Option.bind_some, hix, old_get hs hpv, hnul, hset, upd, hr, Bool.true_and]
  by_cases h0 : sumS sh 0 p.right < 0
  · rw [decide_eq_true h0, decide_eq_false (show ¬ 0 ≤ sumS sh 0 p.right by omega)]
    simp
  · rw [decide_eq_false h0, decide_eq_true (show 0 ≤ sumS sh 0 p.right by omega)]
    by_cases h1 : old sh p < 0
    · rw [decide_eq_true h1, decide_eq_false (show ¬ old sh p ≥ 0 by omega)]
      simp
    · rw [decide_eq_false h1, decide_eq_true (show old sh p ≥ 0 by omega)]
      by_cases h2 : sumS sh 0 p.right < old sh p
      · rw [decide_eq_true h2, decide_eq_false (show ¬ old sh p ≤ sumS sh 0 p.right by omega)]
        simp
      · rw [decide_eq_false h2, decide_eq_true (show old sh p ≤ sumS sh 0 p.right by omega)]
        simp

theorem l46_0b (hg : GramOk g) (hv : GramV g) (hn : n = g.sorts.length) : ∀ (k i : Nat) (b : Bool) (sh : List Int), i + k = g.prods.length → ShOk n sh →
    runL (fun s => L46_0_2 g (g.prods.length : Int) n s.1 s.2.1 s.2.2.1 s.2.2.2) (b, (i : Int), sh, nulOf sh) = some (.k0 (swp (g.prods.drop i) b sh).1 (swp (g.prods.drop i) b sh).2 (nulOf (swp (g.prods.drop i) b sh).2))
  | 0, i, b, sh, hi, hs => by
    obtain rfl : i = g.prods.length := by omega
    rw [List.drop_length]
    exact runL_done (by simp [L46_0_2, swp])
  | k + 1, i, b, sh, hi, hs => by
    have hgp := hg.prods
    have hx : g.prods[i]? = some g.prods[i] := List.getElem?_eq_getElem (by omega)
    have hd : g.prods.drop i = g.prods[i] :: g.prods.drop (i + 1) := (List.drop_eq_getElem_cons (by omega))
    generalize hp : g.prods[i] = p at hx hd
    have hmem : p ∈ g.prods := List.mem_of_getElem? hx
    have hpv : ProdV n p := by rw [hn]; exact hv.prod p hmem
    rw [hd]
    simp only [swp]
    have hstep : L46_0_2 g (g.prods.length : Int) n b (i : Int) sh (nulOf sh) = some (.inr (b || (upd sh p).1, ((i + 1 : Nat) : Int), (upd sh p).2, nulOf (upd sh p).2)) := by
      simp only [L46_0_2, getI_nat, hx, Option.bind_some, decide_eq_true (show (i : Int) < (g.prods.length : Int) by omega), cond_true, F54, w_S (show i < 4611686018427387904 by omega)]
      cases hr : p.role != 11 with
      | false => simp [upd, hr]
      | true =>
        simp only [cond_true, q69b hs hpv hr, Option.bind_some]
        cases (upd sh p).1 <;> simp
    rw [runL_next hstep]
    exact l46_0b hg hv hn k (i + 1) _ _ (by omega) (upd_ok hs hpv)

theorem fixb (hg : GramOk g) (hv : GramV g) (hn : n = g.sorts.length) : ∀ (m : Nat) (sh : List Int), mu sh ≤ m → ShOk n sh →
    ∃ sh', ShOk n sh' ∧ runL (fun s => L16_1 n g s.1 s.2) (true, sh) = some (.k0 sh') ∧ runL (fun s => L46_1_2 g n s.1 s.2) (sh, nulOf sh) = some (.k0 sh' (nulOf sh')) ∧ swp g.prods false sh' = (false, sh') := by
  intro m
  induction m with
  | zero =>
    intro sh hm hs
    have hps : ∀ p ∈ g.prods, ProdV n p := fun p hp => by rw [hn]; exact hv.prod p hp
    obtain ⟨h1, h2, h3⟩ := swp_mu g.prods false sh hps hs
    have hf : (swp g.prods false sh).1 = false := by
      cases h : (swp g.prods false sh).1 with
      | false => rfl
      | true => rcases h2 h with h | h; cases h; omega
    obtain ⟨_, he⟩ := h3 hf
    have e0 : ((0 : Nat) : Int) = 0 := rfl
    have q1 := l16_0 hg hv hn g.prods.length 0 false sh (by omega) hs
    have q2 := l46_0b hg hv hn g.prods.length 0 false sh (by omega) hs
    rw [List.drop_zero, hf, he, e0] at q1 q2
    refine ⟨sh, hs, ?_, ?_, Prod.ext hf he⟩
    · rw [runL_next (s' := (false, sh)) (by simp only [L16_1, cond_true, q1, Option.bind_some])]
      exact runL_done (by simp [L16_1])
    · exact runL_done (by simp only [L46_1_2, q2, Option.bind_some, cond_false])
  | succ m ih =>
    intro sh hm hs
    have hps : ∀ p ∈ g.prods, ProdV n p := fun p hp => by rw [hn]; exact hv.prod p hp
    obtain ⟨h1, h2, h3⟩ := swp_mu g.prods false sh hps hs
    have e0 : ((0 : Nat) : Int) = 0 := rfl
    have q1 := l16_0 hg hv hn g.prods.length 0 false sh (by omega) hs
    have q2 := l46_0b hg hv hn g.prods.length 0 false sh (by omega) hs
    cases hf : (swp g.prods false sh).1 with
    | false =>
      obtain ⟨_, he⟩ := h3 hf
      rw [List.drop_zero, hf, he, e0] at q1 q2
      refine ⟨sh, hs, ?_, ?_, Prod.ext hf he⟩
      · rw [runL_next (s' := (false, sh)) (by simp only [L16_1, cond_true, q1, Option.bind_some])]
        exact runL_done (by simp [L16_1])
      · exact runL_done (by simp only [L46_1_2, q2, Option.bind_some, cond_false])
    | true =>
      have hlt : mu (swp g.prods false sh).2 < mu sh := by rcases h2 hf with h | h; cases h; exact h
      obtain ⟨sh', k1, k2, k3, k4⟩ := ih (swp g.prods false sh).2 (by omega) (swp_ok g.prods false sh hps hs)
      rw [List.drop_zero, hf, e0] at q1 q2
      refine ⟨sh', k1, ?_, ?_, k4⟩
      · rw [runL_next (s' := (true, (swp g.prods false sh).2)) (by simp only [L16_1, cond_true, q1, Option.bind_some])]
        exact k2
      · rw [runL_next (s' := ((swp g.prods false sh).2, nulOf (swp g.prods false sh).2)) (by simp only [L46_1_2, q2, Option.bind_some, cond_true])]
        exact k3
theorem l45_0b (hn : n ≤ 40) : ∀ (k i : Nat), i + k = n → runL (fun s => L45_0_2 (n : Int) n s.1 s.2) ((i : Int), List.replicate i (-1) ++ List.replicate k 0) = some (.k0 (List.replicate n (-1)))
  | 0, i, hi => by
    obtain rfl : i = n := by omega
    simp only [List.replicate_zero, List.append_nil]
    exact runL_done (by simp [L45_0_2])
  | k + 1, i, hi => by
    have hstep : L45_0_2 (n : Int) n (i : Int) (List.replicate i (-1) ++ List.replicate (k + 1) 0) = some (.inr (((i + 1 : Nat) : Int), List.replicate (i + 1) (-1) ++ List.replicate k 0)) := by
      have h1 : (List.replicate i (-1 : Int) ++ List.replicate (k + 1) 0)[i]? = some 0 := by
        rw [List.getElem?_append_right (by simp)]; simp
      have h2 : (List.replicate i (-1 : Int) ++ List.replicate (k + 1) 0).set i (-1) = List.replicate (i + 1) (-1) ++ List.replicate k 0 := by
        rw [List.set_append_right _ _ (by simp), List.length_replicate, Nat.sub_self, List.replicate_succ, List.set_cons_zero, List.replicate_succ', List.append_assoc]
        rfl
      simp only [L45_0_2, decide_eq_true (show (i : Int) < (n : Int) by omega), cond_true, ixN_nat, if_pos (show i < n by omega), Option.bind_some, h1, h2, w_S (show i < 4611686018427387904 by omega)]
    rw [runL_next hstep]
    exact l45_0b hn k (i + 1) (by omega)


theorem shortest2 (hg : GramOk g) (hc : chkB g = true) : ∃ sh, ShOk g.sorts.length sh ∧ F16 g = some sh ∧ F45_2 g = some (.k1 sh (nulOf sh)) ∧ F13 g = some (.k0 sh 0) := by
  have hv := val_of hc
  have h40 := hg.sorts
  obtain ⟨sh0', _, e1, _, e2⟩ := shortest hg hc
  obtain ⟨sh, k1, k2, k3, k4⟩ := fixb hg hv rfl (mu (List.replicate g.sorts.length (-1))) (List.replicate g.sorts.length (-1)) (Nat.le_refl _) sh0
  have a1 := l16_2 h40 g.sorts.length 0 (by omega)
  have a2 := l45_0b h40 g.sorts.length 0 (by omega)
  have e0 : ((0 : Nat) : Int) = 0 := rfl
  simp only [List.replicate_zero, List.nil_append, e0] at a1 a2
  rw [nul0] at k3
  have hle : decide (g.sorts.length ≤ sh.length) = true := decide_eq_true (by rw [k1.len]; exact Nat.le_refl _)
  have ht : sh.take g.sorts.length = sh := List.take_of_length_le (by rw [k1.len]; exact Nat.le_refl _)
  have h45 : F45_2 g = some (.k1 sh (nulOf sh)) := by
    unfold F45_2
    rw [q29 hg]
    simp only [Option.bind_some, chkN, hc, cond_true, show ((0 : Int) != 0) = false from rfl, cond_false, mk8 h40, mk1 h40, Int.toNat_natCast, a2, F46_2, k3]
  have h16 : F16 g = some sh := by
    unfold F16
    simp only [mk8 h40, cond_true, Int.toNat_natCast, a1, Option.bind_some, k2, hle, ht]
  rw [h16] at e1
  cases e1
  exact ⟨_, k1, h16, h45, e2⟩
theorem shortest2_no (hg : GramOk g) (hc : chkB g = false) : F45_2 g = some (.k0 160) := by
  unfold F45_2
  rw [q29 hg]
  simp [chkN, hc]
end
end Go.Proofs.Tryd
namespace Go.Proofs.Tryd
set_option linter.unusedSimpArgs false
set_option linter.unusedVariables false
open Go Go.Vs

/- Texts in order. -/
def valL : List UInt8 → Nat
  | [] => 0
  | x :: xs => x.toNat * 256 ^ xs.length + valL xs
theorem valL_lt : ∀ (xs : List UInt8), valL xs < 256 ^ xs.length
  | [] => by simp [valL]
  | x :: xs => by
    have h1 := valL_lt xs
    have h2 := x.toNat_lt
    simp only [valL, List.length_cons, Nat.pow_succ]
    have : x.toNat * 256 ^ xs.length ≤ 255 * 256 ^ xs.length := Nat.mul_le_mul_right _ (by omega)
    omega
theorem less_val : ∀ (xs ys : List UInt8), xs.length = ys.length → Op.bytesLess xs ys = true → valL xs < valL ys
  | _, [], _, h => by simp [Op.bytesLess] at h
  | [], y :: ys, hl, h => by simp at hl
  | x :: xs, y :: ys, hl, h => by
    simp only [List.length_cons, Nat.add_right_cancel_iff] at hl
    simp only [Op.bytesLess, Bool.or_eq_true, decide_eq_true_eq, Bool.and_eq_true, beq_iff_eq] at h
    simp only [valL, hl]
    rcases h with h | ⟨rfl, h⟩
    · have h1 := valL_lt xs
      rw [hl] at h1
      have hlt : x.toNat < y.toNat := h
      have : (x.toNat + 1) * 256 ^ ys.length ≤ y.toNat * 256 ^ ys.length := Nat.mul_le_mul_right _ (by omega)
      have e : (x.toNat + 1) * 256 ^ ys.length = x.toNat * 256 ^ ys.length + 256 ^ ys.length := by rw [Nat.add_mul, Nat.one_mul]
      omega
    · have := less_val xs ys hl h
      omega
theorem less_tri : ∀ (xs ys : List UInt8), (Op.bytesLess xs ys || xs == ys) = !Op.bytesLess ys xs
  | [], [] => rfl
  | x :: xs, [] => by simp [Op.bytesLess]
  | [], y :: ys => by simp [Op.bytesLess]
  | x :: xs, y :: ys => by
    have ih := less_tri xs ys
    simp only [Op.bytesLess]
    by_cases h : x = y
    · subst h
      have : ¬ x < x := by intro h; exact absurd h (by simp)
      simp only [decide_eq_false this, Bool.false_or, beq_self_eq_true, Bool.true_and]
      rw [← ih]
      simp
    · have hb : (x == y) = false := by simp [h]
      have hb2 : (y == x) = false := by simp [show ¬ y = x from fun e => h e.symm]
      have hc : ((x :: xs) == (y :: ys)) = false := by simp [h]
      rw [hb, hb2, hc]
      simp only [Bool.false_and, Bool.or_false]
      by_cases hlt : x < y
      · have : ¬ y < x := by
          intro h2
          have h3 : x.toNat < y.toNat := hlt
          have h4 : y.toNat < x.toNat := h2
          omega
        rw [decide_eq_true hlt, decide_eq_false this]; rfl
      · have : y < x := by
          have h3 : ¬ x.toNat < y.toNat := hlt
          have h4 : x.toNat ≠ y.toNat := fun e => h (UInt8.toNat_inj.1 e)
          show y.toNat < x.toNat
          omega
        rw [decide_eq_false hlt, decide_eq_true this]; rfl

abbrev Mp := List (Int × ByteArray)
def eB : ByteArray := (⟨([] : List UInt8).toArray⟩ : ByteArray)
/-- The least text of a set's bytes. -/
def lst (s : SymD) : ByteArray := (⟨([UInt8.ofNat ((bytesS (v4 s)).headD 0)] : List UInt8).toArray⟩ : ByteArray)
theorem lst_size (s : SymD) : (lst s).size = 1 := rfl
/-- A production's least text, by those that are found. -/
def txt (m : Mp) : ByteArray → List SymD → Option ByteArray
  | t, [] => some t
  | t, s :: r => bif s.kind == 1 then (match mfind s.sort m with | some u => txt m (t ++ u) r | none => none) else txt m (t ++ lst s) r

def shAt (sh : List Int) (i : Int) : Int := (sh[i.toNat]?).getD 0
structure InvM (n : Nat) (sh : List Int) (m : Mp) : Prop where
  size : ∀ (i : Int) t, 0 ≤ i → i < n → mfind i m = some t → (t.size : Int) = shAt sh i

section
variable {n : Nat} {sh : List Int} {m : Mp}

theorem shAt_b (hs : ShOk n sh) (i : Int) : -1 ≤ shAt sh i ∧ shAt sh i ≤ 1048577 := by
  unfold shAt
  cases h : sh[i.toNat]? with
  | none => simp
  | some v => exact hs.v v (List.mem_of_getElem? h)

theorem sumS_mono (hs : ShOk n sh) : ∀ (r : List SymD) (a : Int), 0 ≤ a ∧ a ≤ 1048577 → sumS sh a r = -1 ∨ a ≤ sumS sh a r
  | [], a, h => .inr (by simp [sumS])
  | s :: r, a, h => by
    have hb := symS_b hs s
    simp only [sumS]
    by_cases hk : symS sh s < 0
    · rw [decide_eq_true hk]; exact .inl rfl
    · rw [decide_eq_false hk]
      simp only [cond_false]
      rcases sumS_mono hs r (if 1048577 < a + symS sh s then 1048577 else a + symS sh s) (by split <;> omega) with h1 | h1
      · exact .inl h1
      · right
        revert h1
        split <;> omega

theorem txt_size (hs : ShOk n sh) (hm : InvM n sh m) : ∀ (r : List SymD) (t t' : ByteArray) (a : Int), (∀ s ∈ r, SymV n s) → txt m t r = some t' → 0 ≤ a ∧ a ≤ 1048577 → 0 ≤ sumS sh a r → sumS sh a r ≤ 1048576 → (t'.size : Int) - t.size = sumS sh a r - a
  | [], t, t', a, _, ht, ha, h0, h1 => by
    simp only [txt, Option.some.injEq] at ht
    subst ht
    simp [sumS]
  | s :: r, t, t', a, hv, ht, ha, h0, h1 => by
    have hb := symS_b hs s
    have hsv := hv s (List.mem_cons_self ..)
    have hrv : ∀ s ∈ r, SymV n s := fun q hq => hv q (List.mem_cons_of_mem _ hq)
    simp only [sumS] at h0 h1 ⊢
    by_cases hk : symS sh s < 0
    · rw [decide_eq_true hk] at h0; simp at h0
    · rw [decide_eq_false hk] at h0 h1 ⊢
      simp only [cond_false] at h0 h1 ⊢
      have hm1 := sumS_mono hs r (if 1048577 < a + symS sh s then 1048577 else a + symS sh s) (by split <;> omega)
      have hle : ¬ 1048577 < a + symS sh s := by
        intro hc
        rw [if_pos hc] at hm1 h0 h1
        rcases hm1 with h | h <;> omega
      rw [if_neg hle] at h0 h1 ⊢
      rcases hsv.k with k0 | k1
      · have hone : symS sh s = 1 := by unfold symS; rw [k0]; rfl
        simp only [txt, k0, show ((0 : Int) == 1) = false from rfl, cond_false] at ht
        have := txt_size hs hm r _ t' _ hrv ht (by omega) h0 h1
        rw [ByteArray.size_append, lst_size] at this
        rw [hone] at this ⊢
        omega
      · simp only [txt, k1, beq_self_eq_true, cond_true] at ht
        cases hf : mfind s.sort m with
        | none => rw [hf] at ht; cases ht
        | some u =>
          rw [hf] at ht
          simp only at ht
          obtain ⟨q0, q1⟩ := hsv.sort k1
          have hu := hm.size s.sort u q0 q1 hf
          have hsy : symS sh s = shAt sh s.sort := by unfold symS shAt; rw [k1]; rfl
          have := txt_size hs hm r _ t' _ hrv ht (by omega) h0 h1
          rw [ByteArray.size_append] at this
          rw [hsy] at this ⊢
          omega
end
end Go.Proofs.Tryd
namespace Go.Proofs.Tryd
set_option linter.unusedSimpArgs false
set_option linter.unusedVariables false
open Go Go.Vs

def wants (sh : List Int) (a : Int) (p : ProdD) : Bool :=
  (p.role != 11) && (decide (0 ≤ sumS sh 0 p.right) && (decide (sumS sh 0 p.right ≤ shAt sh a) && (sumS sh 0 p.right == shAt sh p.left)))
def updM (sh : List Int) (a : Int) (m : Mp) (p : ProdD) : Bool × Mp :=
  bif wants sh a p then
    match txt m eB p.right with
    | none => (false, m)
    | some t => match mfind p.left m with
      | some o => bif Op.bytesLess t.toList o.toList then (true, mput p.left t m) else (false, m)
      | none => (true, mput p.left t m)
  else (false, m)
def swpM (sh : List Int) (a : Int) : List ProdD → Bool → Mp → Bool × Mp
  | [], b, m => (b, m)
  | p :: ps, b, m => swpM sh a ps (b || (updM sh a m p).1) (updM sh a m p).2

def rk (L : Nat) : Option ByteArray → Nat
  | none => 256 ^ L
  | some t => valL t.toList
def muM (n : Nat) (sh : List Int) (m : Mp) : Nat := ((List.range n).map fun (i : Nat) => rk (shAt sh (i : Int)).toNat (mfind (i : Int) m)).sum

theorem sum_le {f g : Nat → Nat} : ∀ (n : Nat), (∀ i, i < n → f i ≤ g i) → ((List.range n).map f).sum ≤ ((List.range n).map g).sum
  | 0, _ => by simp
  | n + 1, h => by
    rw [List.range_succ, List.map_append, List.map_append, List.sum_append, List.sum_append]
    have := sum_le n (fun i hi => h i (by omega))
    have h2 := h n (by omega)
    simp only [List.map_cons, List.map_nil, List.sum_cons, List.sum_nil]
    omega
theorem sum_lt {f g : Nat → Nat} : ∀ (n k : Nat), k < n → (∀ i, i < n → f i ≤ g i) → f k < g k → ((List.range n).map f).sum < ((List.range n).map g).sum
  | 0, k, hk, _, _ => by omega
  | n + 1, k, hk, h, hlt => by
    rw [List.range_succ, List.map_append, List.map_append, List.sum_append, List.sum_append]
    have h2 := h n (by omega)
    simp only [List.map_cons, List.map_nil, List.sum_cons, List.sum_nil]
    by_cases e : k = n
    · subst e
      have := sum_le k (fun i hi => h i (by omega))
      omega
    · have := sum_lt n k (by omega) (fun i hi => h i (by omega)) hlt
      omega

theorem toList_len (t : ByteArray) : t.toList.length = t.size := by
  rw [ByteArray.toList_eq, Array.length_toList]; rfl

section
variable {n : Nat} {sh : List Int} {m : Mp} {a : Int} {p : ProdD}

theorem wants_of (h : wants sh a p = true) : (p.role != 11) = true ∧ 0 ≤ sumS sh 0 p.right ∧ sumS sh 0 p.right ≤ shAt sh a ∧ sumS sh 0 p.right = shAt sh p.left := by
  unfold wants at h
  simp only [Bool.and_eq_true, decide_eq_true_eq, beq_iff_eq] at h
  exact h

theorem txt_len (hs : ShOk n sh) (hm : InvM n sh m) (hp : ProdV n p) (ha : shAt sh a ≤ 1048576) (hw : wants sh a p = true) {t : ByteArray} (ht : txt m eB p.right = some t) : (t.size : Int) = shAt sh p.left := by
  obtain ⟨_, h0, h1, h2⟩ := wants_of hw
  have := txt_size hs hm p.right eB t 0 hp.right ht (by omega) h0 (by omega)
  have e : (eB.size : Int) = 0 := rfl
  omega

theorem updM_inv (hs : ShOk n sh) (hm : InvM n sh m) (hp : ProdV n p) (ha : shAt sh a ≤ 1048576) : InvM n sh (updM sh a m p).2 := by
  have key : ∀ t, wants sh a p = true → txt m eB p.right = some t → InvM n sh (mput p.left t m) := by
    intro t hw ht
    refine ⟨fun i u h0 h1 hf => ?_⟩
    rw [mfind_mput] at hf
    split at hf
    · rename_i e
      simp only [Option.some.injEq] at hf
      subst hf; subst e
      exact txt_len hs hm hp ha hw ht
    · exact hm.size i u h0 h1 hf
  unfold updM
  cases hw : wants sh a p with
  | false => exact hm
  | true =>
    simp only [cond_true]
    cases ht : txt m eB p.right with
    | none => exact hm
    | some t =>
      simp only
      cases ho : mfind p.left m with
      | none => exact key t hw ht
      | some o =>
        simp only
        cases Op.bytesLess t.toList o.toList
        · exact hm
        · exact key t hw ht

theorem updM_mu (hs : ShOk n sh) (hm : InvM n sh m) (hp : ProdV n p) (ha : shAt sh a ≤ 1048576) : ((updM sh a m p).1 = true → muM n sh (updM sh a m p).2 < muM n sh m) ∧ ((updM sh a m p).1 = false → (updM sh a m p).2 = m) := by
  have hl := hp.left
  have ek : ((p.left.toNat : Nat) : Int) = p.left := by omega
  have key : ∀ t, rk (shAt sh p.left).toNat (some t) < rk (shAt sh p.left).toNat (mfind p.left m) → muM n sh (mput p.left t m) < muM n sh m := by
    intro t hlt
    unfold muM
    refine sum_lt n p.left.toNat (by omega) (fun i hi => ?_) ?_
    · rw [mfind_mput]
      by_cases e : (i : Int) = p.left
      · rw [if_pos e, e]; exact Nat.le_of_lt hlt
      · rw [if_neg e]; exact Nat.le_refl _
    · rw [mfind_mput, ek, if_pos rfl]; exact hlt
  unfold updM
  cases hw : wants sh a p with
  | false => exact ⟨fun h => by simp at h, fun _ => rfl⟩
  | true =>
    simp only [cond_true]
    cases ht : txt m eB p.right with
    | none => exact ⟨fun h => by simp at h, fun _ => rfl⟩
    | some t =>
      have hsz := txt_len hs hm hp ha hw ht
      have hlen : t.toList.length = (shAt sh p.left).toNat := by rw [toList_len]; omega
      simp only
      cases ho : mfind p.left m with
      | none =>
        refine ⟨fun _ => key t ?_, fun h => by simp at h⟩
        rw [ho]
        simp only [rk]
        rw [← hlen]
        exact valL_lt _
      | some o =>
        simp only
        cases hc : Op.bytesLess t.toList o.toList with
        | false => exact ⟨fun h => by simp at h, fun _ => rfl⟩
        | true =>
          refine ⟨fun _ => key t ?_, fun h => by simp at h⟩
          rw [ho]
          simp only [rk]
          have hosz := hm.size p.left o hl.1 hl.2 ho
          exact less_val _ _ (by rw [toList_len, toList_len]; omega) hc
end

theorem swpM_inv {n : Nat} {sh : List Int} {a : Int} (hs : ShOk n sh) (ha : shAt sh a ≤ 1048576) : ∀ (ps : List ProdD) (b : Bool) (m : Mp), (∀ p ∈ ps, ProdV n p) → InvM n sh m → InvM n sh (swpM sh a ps b m).2
  | [], b, m, _, hm => hm
  | p :: ps, b, m, hp, hm => swpM_inv hs ha ps _ _ (fun q hq => hp q (List.mem_cons_of_mem _ hq)) (updM_inv hs hm (hp p (List.mem_cons_self ..)) ha)
theorem swpM_mu {n : Nat} {sh : List Int} {a : Int} (hs : ShOk n sh) (ha : shAt sh a ≤ 1048576) : ∀ (ps : List ProdD) (b : Bool) (m : Mp), (∀ p ∈ ps, ProdV n p) → InvM n sh m →
    muM n sh (swpM sh a ps b m).2 ≤ muM n sh m ∧ ((swpM sh a ps b m).1 = true → b = true ∨ muM n sh (swpM sh a ps b m).2 < muM n sh m) ∧ ((swpM sh a ps b m).1 = false → b = false ∧ (swpM sh a ps b m).2 = m)
  | [], b, m, _, hm => ⟨Nat.le_refl _, fun h => .inl h, fun h => ⟨h, rfl⟩⟩
  | p :: ps, b, m, hp, hm => by
    have hpp := hp p (List.mem_cons_self ..)
    obtain ⟨u1, u2⟩ := updM_mu hs hm hpp ha
    obtain ⟨h1, h2, h3⟩ := swpM_mu hs ha ps (b || (updM sh a m p).1) (updM sh a m p).2 (fun q hq => hp q (List.mem_cons_of_mem _ hq)) (updM_inv hs hm hpp ha)
    simp only [swpM]
    cases hu : (updM sh a m p).1 with
    | true =>
      have := u1 hu
      rw [hu] at h1 h2 h3
      refine ⟨by omega, fun _ => .inr (by omega), fun h => ?_⟩
      have := (h3 h).1
      simp at this
    | false =>
      have := u2 hu
      rw [hu, this, Bool.or_false] at h1 h2 h3
      rw [this, Bool.or_false]
      exact ⟨h1, h2, h3⟩

/-- The document's two lists, and the program's map. -/
structure Rel (n : Nat) (m : Mp) (best : List ByteArray) (has : List Bool) : Prop where
  bl : best.length = n
  hl : has.length = n
  b : ∀ i : Nat, i < n → best[i]? = some ((mfind (i : Int) m).getD eB)
  h : ∀ i : Nat, i < n → has[i]? = some (mhas m (i : Int))

theorem Rel.put {n : Nat} {m : Mp} {best : List ByteArray} {has : List Bool} (r : Rel n m best has) {k : Nat} (hk : k < n) (t : ByteArray) : Rel n (mput (k : Int) t m) (best.set k t) (has.set k true) := by
  refine ⟨by simp [r.bl], by simp [r.hl], fun i hi => ?_, fun i hi => ?_⟩
  · rw [List.getElem?_set, mfind_mput]
    by_cases e : k = i
    · subst e
      rw [if_pos rfl, if_pos (by rw [r.bl]; exact hk), if_pos rfl]; rfl
    · rw [if_neg e, if_neg (by omega)]; exact r.b i hi
  · rw [List.getElem?_set, mhas_mput]
    by_cases e : k = i
    · subst e
      rw [if_pos rfl, if_pos (by rw [r.hl]; exact hk), decide_eq_true rfl]; rfl
    · rw [if_neg e, decide_eq_false (by omega)]; exact r.h i hi
end Go.Proofs.Tryd
namespace Go.Proofs.Tryd
set_option linter.unusedSimpArgs false
set_option linter.unusedVariables false
open Go Go.Vs

def endM : E_L47_0 → Option ByteArray
  | .k0 .. => none
  | .k1 t => some t
def endR (b : Bool) (t : ByteArray) : Option ByteArray := bif b then some t else none

section
variable {n : Nat} {sh : List Int} {m : Mp} {a : Int} {p : ProdD}

theorem lst_prog {s : SymD} (ho : SymOk s) (hv : SymV n s) (k0 : s.kind = 0) : ∃ c l, bytesS (v4 s) = c :: l ∧ F49 s = some (.k0 c true) ∧ (⟨([UInt8.ofNat (Int.toNat (c : Int))] : List UInt8).toArray⟩ : ByteArray) = lst s ∧ F52 s = some (((c : Nat) : Int) :: l.map Int.ofNat) := by
  have hw := wOk_of ho
  obtain ⟨c, l, hb⟩ := some_byte hw (hv.set k0)
  refine ⟨c, l, hb, q49 hw hb, ?_, ?_⟩
  · unfold lst
    rw [hb]; rfl
  · rw [q52 hw, hb]; rfl

theorem l47_0 (hs : ShOk n sh) (hm : InvM n sh m) (hp : ProdV n p) (hok : ProdOk p) : ∀ (k i : Nat) (t : ByteArray), i + k = p.right.length → t.size ≤ i * 1048577 →
    ∃ e, runL (fun s => L47_0 p (p.right.length : Int) m s.1 s.2) (t, (i : Int)) = some e ∧ endM e = txt m t (p.right.drop i)
  | 0, i, t, hi, ht => by
    obtain rfl : i = p.right.length := by omega
    refine ⟨.k1 t, runL_done (by simp [L47_0]), ?_⟩
    rw [List.drop_length]; rfl
  | k + 1, i, t, hi, ht => by
    have hlen := hp.len
    have hx : p.right[i]? = some p.right[i] := List.getElem?_eq_getElem (by omega)
    have hd : p.right.drop i = p.right[i] :: p.right.drop (i + 1) := (List.drop_eq_getElem_cons (by omega))
    generalize hq : p.right[i] = s at hx hd
    have hmem := List.mem_of_getElem? hx
    have hv := hp.right s hmem
    have ho := hok.right s hmem
    rw [hd]
    simp only [txt]
    rcases hv.k with k0 | k1
    · obtain ⟨c, l, _, h49, hl, _⟩ := lst_prog ho hv k0
      have hsz : decide (t.size + (lst s).size ≤ 9223372036854775807) = true := decide_eq_true (by rw [lst_size]; omega)
      have hstep : L47_0 p (p.right.length : Int) m t (i : Int) = some (.inr (t ++ lst s, ((i + 1 : Nat) : Int))) := by
        simp only [L47_0, getI_nat, hx, Option.bind_some, decide_eq_true (show (i : Int) < (p.right.length : Int) by omega), cond_true, k0, beq_self_eq_true, h49, hl, hsz, w_S (show i < 4611686018427387904 by omega)]
      rw [runL_next (step := fun s => L47_0 p (p.right.length : Int) m s.1 s.2) (s := (t, (i : Int))) (s' := (t ++ lst s, ((i + 1 : Nat) : Int))) hstep]
      rw [k0, show ((0 : Int) == 1) = false from rfl, cond_false]
      exact l47_0 hs hm hp hok k (i + 1) _ (by omega) (by rw [ByteArray.size_append, lst_size]; omega)
    · rw [k1, beq_self_eq_true, cond_true]
      have h10 : ((1 : Int) == 0) = false := rfl
      obtain ⟨q0, q1⟩ := hv.sort k1
      cases hf : mfind s.sort m with
      | none =>
        have hh : mhas m s.sort = false := by unfold mhas; rw [hf]; rfl
        refine ⟨.k0 s.kind s.a s.b s.c s.d s.sort, runL_done ?_, rfl⟩
        simp only [L47_0, getI_nat, hx, Option.bind_some, decide_eq_true (show (i : Int) < (p.right.length : Int) by omega), cond_true, k1, h10, cond_false, hh]
      | some u =>
        have hh : mhas m s.sort = true := by unfold mhas; rw [hf]; rfl
        have hgt : ∀ z, mget z m s.sort = u := fun z => by unfold mget; rw [hf]; rfl
        have hu := hm.size s.sort u q0 q1 hf
        have hub := shAt_b hs s.sort
        have hsz : decide (t.size + u.size ≤ 9223372036854775807) = true := decide_eq_true (by omega)
        have hstep : L47_0 p (p.right.length : Int) m t (i : Int) = some (.inr (t ++ u, ((i + 1 : Nat) : Int))) := by
          simp only [L47_0, getI_nat, hx, Option.bind_some, decide_eq_true (show (i : Int) < (p.right.length : Int) by omega), cond_true, k1, h10, cond_false, hh, hgt, hsz, w_S (show i < 4611686018427387904 by omega)]
        rw [runL_next (step := fun s => L47_0 p (p.right.length : Int) m s.1 s.2) (s := (t, (i : Int))) (s' := (t ++ u, ((i + 1 : Nat) : Int))) hstep]
        exact l47_0 hs hm hp hok k (i + 1) _ (by omega) (by rw [ByteArray.size_append]; omega)

theorem l17_0 {best : List ByteArray} {has : List Bool} (hs : ShOk n sh) (hm : InvM n sh m) (hr : Rel n m best has) (hp : ProdV n p) (hok : ProdOk p) : ∀ (k i : Nat) (t : ByteArray), i + k = p.right.length → t.size ≤ i * 1048577 →
    ∃ b u, runL (fun s => L17_0 n best has p s.1 s.2.1 s.2.2) (true, t, (i : Int)) = some (.k0 b u) ∧ endR b u = txt m t (p.right.drop i)
  | 0, i, t, hi, ht => by
    obtain rfl : i = p.right.length := by omega
    refine ⟨true, t, runL_done (by simp [L17_0]), ?_⟩
    rw [List.drop_length]; rfl
  | k + 1, i, t, hi, ht => by
    have hlen := hp.len
    have hx : p.right[i]? = some p.right[i] := List.getElem?_eq_getElem (by omega)
    have hd : p.right.drop i = p.right[i] :: p.right.drop (i + 1) := (List.drop_eq_getElem_cons (by omega))
    generalize hq : p.right[i] = s at hx hd
    have hmem := List.mem_of_getElem? hx
    have hv := hp.right s hmem
    have ho := hok.right s hmem
    rw [hd]
    simp only [txt]
    rcases hv.k with k0 | k1
    · obtain ⟨c, l, hb, _, hl, h52⟩ := lst_prog ho hv k0
      have hbs : bstr ((((((c : Nat) : Int) :: l.map Int.ofNat)).take (Int.toNat 1)).drop (Int.toNat 0)) = lst s := by rw [← hl]; rfl
      have hsz : decide (t.size + (lst s).size ≤ 9223372036854775807) = true := decide_eq_true (by rw [lst_size]; omega)
      have hslo : sl_ok 0 1 (((c : Nat) : Int) :: l.map Int.ofNat).length = true := decide_eq_true (by simp only [List.length_cons]; omega)
      have h01 : ((0 : Int) == 1) = false := rfl
      have hstep : L17_0 n best has p true t (i : Int) = some (.inr (true, t ++ lst s, ((i + 1 : Nat) : Int))) := by
        simp only [L17_0, getI_nat, hx, Option.bind_some, decide_eq_true (show (i : Int) < (p.right.length : Int) by omega), cond_true, k0, h01, cond_false, h52, hslo, hbs, hsz, w_S (show i < 4611686018427387904 by omega)]
      rw [runL_next (step := fun s => L17_0 n best has p s.1 s.2.1 s.2.2) (s := (true, t, (i : Int))) (s' := (true, t ++ lst s, ((i + 1 : Nat) : Int))) hstep]
      rw [k0, h01, cond_false]
      exact l17_0 hs hm hr hp hok k (i + 1) _ (by omega) (by rw [ByteArray.size_append, lst_size]; omega)
    · rw [k1, beq_self_eq_true, cond_true]
      obtain ⟨q0, q1⟩ := hv.sort k1
      have hix : ixN n s.sort = some s.sort.toNat := ixN_some.2 ⟨by omega, by omega⟩
      have ek : ((s.sort.toNat : Nat) : Int) = s.sort := by omega
      have hb := hr.b s.sort.toNat (by omega)
      have hh := hr.h s.sort.toNat (by omega)
      rw [ek] at hb hh
      cases hf : mfind s.sort m with
      | none =>
        have hmh : mhas m s.sort = false := by unfold mhas; rw [hf]; rfl
        rw [hf] at hb
        rw [hmh] at hh
        have hsz : decide (t.size + eB.size ≤ 9223372036854775807) = true := decide_eq_true (by rw [show eB.size = 0 from rfl]; omega)
        have hstep : L17_0 n best has p true t (i : Int) = some (.inr (false, t ++ eB, ((i + 1 : Nat) : Int))) := by
          simp only [L17_0, getI_nat, hx, Option.bind_some, decide_eq_true (show (i : Int) < (p.right.length : Int) by omega), cond_true, k1, beq_self_eq_true, hix, hb, hh, Option.getD_none, hsz, cond_false, w_S (show i < 4611686018427387904 by omega)]
        refine ⟨false, t ++ eB, ?_, rfl⟩
        rw [runL_next (step := fun s => L17_0 n best has p s.1 s.2.1 s.2.2) (s := (true, t, (i : Int))) (s' := (false, t ++ eB, ((i + 1 : Nat) : Int))) hstep]
        refine runL_done ?_
        simp only [L17_0, cond_false]
        cases decide (((i + 1 : Nat) : Int) < (p.right.length : Int)) <;> rfl
      | some u =>
        have hmh : mhas m s.sort = true := by unfold mhas; rw [hf]; rfl
        rw [hf] at hb
        rw [hmh] at hh
        have hu := hm.size s.sort u q0 q1 hf
        have hub := shAt_b hs s.sort
        have hsz : decide (t.size + u.size ≤ 9223372036854775807) = true := decide_eq_true (by omega)
        have hstep : L17_0 n best has p true t (i : Int) = some (.inr (true, t ++ u, ((i + 1 : Nat) : Int))) := by
          simp only [L17_0, getI_nat, hx, Option.bind_some, decide_eq_true (show (i : Int) < (p.right.length : Int) by omega), cond_true, k1, beq_self_eq_true, hix, hb, hh, Option.getD_some, hsz, w_S (show i < 4611686018427387904 by omega)]
        rw [runL_next (step := fun s => L17_0 n best has p s.1 s.2.1 s.2.2) (s := (true, t, (i : Int))) (s' := (true, t ++ u, ((i + 1 : Nat) : Int))) hstep]
        exact l17_0 hs hm hr hp hok k (i + 1) _ (by omega) (by rw [ByteArray.size_append]; omega)
theorem l17_0_2 (p : ProdD) : runL (fun s => L17_0_2 p) () = some .k0 := runL_done (by unfold L17_0_2; cases decide (0 < (p.right.length : Int)) <;> rfl)

def endF : R_F47 → Mp → Bool × Mp
  | .k0 b m', _ => (b, m')
  | .k1 .., m => (false, m)

theorem q47 (hs : ShOk n sh) (hm : InvM n sh m) (hp : ProdV n p) (hok : ProdOk p) (ha : 0 ≤ a ∧ a < n) (hr : (p.role != 11) = true) : ∃ r, F47 p a sh (nulOf sh) n m = some r ∧ endF r m = updM sh a m p := by
  have hlen := hp.len
  have hpl := hp.left
  have ht : sh.take n = sh := List.take_of_length_le (by rw [hs.len]; exact Nat.le_refl _)
  have hle : decide (n ≤ sh.length) = true := decide_eq_true (by rw [hs.len]; exact Nat.le_refl _)
  have hle2 : decide (n ≤ (nulOf sh).length) = true := decide_eq_true (by unfold nulOf; rw [List.length_map, hs.len]; exact Nat.le_refl _)
  have g1 : ∀ i : Int, 0 ≤ i → i < n → ixN n i = some i.toNat ∧ sh[i.toNat]? = some (shAt sh i) := by
    intro i h0 h1
    refine ⟨ixN_some.2 ⟨by omega, by omega⟩, ?_⟩
    have hl := hs.len
    have : sh[i.toNat]? = some (sh[i.toNat]'(by omega)) := List.getElem?_eq_getElem _
    unfold shAt
    rw [this]; rfl
  obtain ⟨a1, a2⟩ := g1 a ha.1 ha.2
  obtain ⟨b1, b2⟩ := g1 p.left hpl.1 hpl.2
  obtain ⟨e, he1, he2⟩ := l47_0 hs hm hp hok p.right.length 0 eB (by omega) (by rw [show eB.size = 0 from rfl]; omega)
  rw [List.drop_zero] at he2
  have e0 : ((0 : Nat) : Int) = 0 := rfl
  rw [e0] at he1
  have hw : wants sh a p = (decide (0 ≤ sumS sh 0 p.right) && (decide (sumS sh 0 p.right ≤ shAt sh a) && (sumS sh 0 p.right == shAt sh p.left))) := by
    unfold wants; rw [hr, Bool.true_and]
  unfold F47 updM
  simp only [hle, hle2, ht, cond_true, q48 hs hp.right (show p.right.length ≤ 31 by omega), Option.bind_some, a1, a2, b1, b2, hw]
  by_cases c0 : sumS sh 0 p.right < 0
  · rw [decide_eq_true c0, decide_eq_false (show ¬ 0 ≤ sumS sh 0 p.right by omega)]
    exact ⟨_, rfl, rfl⟩
  rw [decide_eq_false c0, decide_eq_true (show 0 ≤ sumS sh 0 p.right by omega)]
  by_cases c1 : sumS sh 0 p.right > shAt sh a
  · rw [decide_eq_true c1, decide_eq_false (show ¬ sumS sh 0 p.right ≤ shAt sh a by omega)]
    exact ⟨_, rfl, rfl⟩
  rw [decide_eq_false c1, decide_eq_true (show sumS sh 0 p.right ≤ shAt sh a by omega)]
  by_cases c2 : sumS sh 0 p.right = shAt sh p.left
  · have hb1 : (sumS sh 0 p.right != shAt sh p.left) = false := by simp [c2]
    have hb2 : (sumS sh 0 p.right == shAt sh p.left) = true := by simp [c2]
    rw [hb1, hb2]
    simp only [cond_false, cond_true, Bool.and_self]
    have he1' : runL (fun s => L47_0 p (p.right.length : Int) m s.1 s.2) ((⟨([] : List UInt8).toArray⟩ : ByteArray), 0) = some e := he1
    rw [he1']
    cases e with
    | k0 x0 x1 x2 x3 x4 x5 =>
      rw [← he2]
      exact ⟨_, rfl, rfl⟩
    | k1 t =>
      rw [← he2]
      simp only [Option.bind_some, endM]
      cases ho : mfind p.left m with
      | none =>
        have hmh : mhas m p.left = false := by unfold mhas; rw [ho]; rfl
        rw [hmh]
        exact ⟨_, rfl, rfl⟩
      | some o =>
        have hmh : mhas m p.left = true := by unfold mhas; rw [ho]; rfl
        have hgt : ∀ z, mget z m p.left = o := fun z => by unfold mget; rw [ho]; rfl
        rw [hmh]
        simp only [hgt, cond_true, less_tri]
        cases Op.bytesLess t.toList o.toList
        · exact ⟨_, rfl, rfl⟩
        · exact ⟨_, rfl, rfl⟩
  · rw [bneT c2, beqF c2]
    exact ⟨_, rfl, rfl⟩
end
end Go.Proofs.Tryd
namespace Go.Proofs.Tryd
set_option linter.unusedSimpArgs false
set_option linter.unusedVariables false
open Go Go.Vs

section
variable {g : GramD} {n : Nat} {sh : List Int} {a : Int}

theorem l46_0_3 (hg : GramOk g) (hv : GramV g) (hn : n = g.sorts.length) (hs : ShOk n sh) (ha : 0 ≤ a ∧ a < n) (hb : shAt sh a ≤ 1048576) : ∀ (k i : Nat) (b : Bool) (m : Mp), i + k = g.prods.length → InvM n sh m →
    runL (fun s => L46_0_3 g (g.prods.length : Int) a sh (nulOf sh) n s.1 s.2.1 s.2.2) (b, (i : Int), m) = some (.k0 (swpM sh a (g.prods.drop i) b m).1 (swpM sh a (g.prods.drop i) b m).2)
  | 0, i, b, m, hi, hm => by
    obtain rfl : i = g.prods.length := by omega
    rw [List.drop_length]
    exact runL_done (by simp [L46_0_3, swpM])
  | k + 1, i, b, m, hi, hm => by
    have hgp := hg.prods
    have hx : g.prods[i]? = some g.prods[i] := List.getElem?_eq_getElem (by omega)
    have hd : g.prods.drop i = g.prods[i] :: g.prods.drop (i + 1) := (List.drop_eq_getElem_cons (by omega))
    generalize hp : g.prods[i] = p at hx hd
    have hmem : p ∈ g.prods := List.mem_of_getElem? hx
    have hpv : ProdV n p := by rw [hn]; exact hv.prod p hmem
    rw [hd]
    simp only [swpM]
    have hstep : L46_0_3 g (g.prods.length : Int) a sh (nulOf sh) n b (i : Int) m = some (.inr (b || (updM sh a m p).1, ((i + 1 : Nat) : Int), (updM sh a m p).2)) := by
      simp only [L46_0_3, getI_nat, hx, Option.bind_some, decide_eq_true (show (i : Int) < (g.prods.length : Int) by omega), cond_true, F54, w_S (show i < 4611686018427387904 by omega)]
      cases hr : p.role != 11 with
      | false => simp [updM, wants, hr]
      | true =>
        obtain ⟨r, h1, h2⟩ := q47 hs hm hpv (hg.prod p hmem) ha hr
        simp only [cond_true, h1, Option.bind_some]
        rw [← h2]
        cases r with
        | k0 x0 x1 => cases x0 <;> simp [endF]
        | k1 => simp [endF]
    rw [runL_next (step := fun s => L46_0_3 g (g.prods.length : Int) a sh (nulOf sh) n s.1 s.2.1 s.2.2) (s := (b, (i : Int), m)) (s' := (b || (updM sh a m p).1, ((i + 1 : Nat) : Int), (updM sh a m p).2)) hstep]
    exact l46_0_3 hg hv hn hs ha hb k (i + 1) _ _ (by omega) (updM_inv hs hm hpv hb)

theorem step17 {m : Mp} {best : List ByteArray} {has : List Bool} {p : ProdD} (hs : ShOk n sh) (hm : InvM n sh m) (hr : Rel n m best has) (hpv : ProdV n p) (hok : ProdOk p) (ha : 0 ≤ a ∧ a < n) {i : Nat} (hi : i < 1000) (hx : g.prods[i]? = some p) (hl : i < g.prods.length) (b : Bool) :
    ∃ best' has', L17_1 a sh n g b (i : Int) best has = some (.inr (b || (updM sh a m p).1, ((i + 1 : Nat) : Int), best', has')) ∧ Rel n (updM sh a m p).2 best' has' := by
  have hlen := hpv.len
  have hpl := hpv.left
  have g1 : ∀ i : Int, 0 ≤ i → i < n → getI sh i = some (shAt sh i) := by
    intro i h0 h1
    have hl := hs.len
    have : sh[i.toNat]? = some (sh[i.toNat]'(by omega)) := List.getElem?_eq_getElem _
    rw [getI_some]
    refine ⟨h0, ?_⟩
    unfold shAt
    rw [this]; rfl
  have ek : ((p.left.toNat : Nat) : Int) = p.left := by omega
  have hix : ixN n p.left = some p.left.toNat := ixN_some.2 ⟨by omega, by omega⟩
  have hbst := hr.b p.left.toNat (by omega)
  have hhas := hr.h p.left.toNat (by omega)
  have hput := hr.put (k := p.left.toNat) (by omega)
  rw [ek] at hbst hhas hput
  obtain ⟨ok, u, he1, he2⟩ := l17_0 hs hm hr hpv hok p.right.length 0 eB (by omega) (by rw [show eB.size = 0 from rfl]; omega)
  rw [List.drop_zero] at he2
  have he1' : runL (fun s => L17_0 n best has p s.1 s.2.1 s.2.2) (true, (⟨([] : List UInt8).toArray⟩ : ByteArray), 0) = some (.k0 ok u) := he1
  have hsum := q50 hs hpv.right (show p.right.length ≤ 31 by omega)
  have none' : wants sh a p = false → ∃ best' has', (some (Sum.inr (b, ((i + 1 : Nat) : Int), best, has)) : Option (E_L17_1 ⊕ _)) = some (.inr (b || (updM sh a m p).1, ((i + 1 : Nat) : Int), best', has')) ∧ Rel n (updM sh a m p).2 best' has' := by
    intro hw
    refine ⟨best, has, ?_, ?_⟩
    · unfold updM; rw [hw]; simp
    · unfold updM; rw [hw]; exact hr
  simp only [L17_1, getI_nat, hx, Option.bind_some, decide_eq_true (show (i : Int) < (g.prods.length : Int) by omega), cond_true, hsum, F51, w_S (show i < 4611686018427387904 by omega), l17_0_2]
  cases hro : p.role != 11 with
  | false => exact none' (by unfold wants; rw [hro]; rfl)
  | true =>
    simp only [cond_true]
    by_cases c0 : sumS sh 0 p.right ≥ 0
    · rw [decide_eq_true c0]
      simp only [cond_true, g1 a ha.1 ha.2, Option.bind_some]
      by_cases c1 : sumS sh 0 p.right ≤ shAt sh a
      · rw [decide_eq_true c1]
        simp only [cond_true, g1 p.left hpl.1 hpl.2, Option.bind_some]
        by_cases c2 : sumS sh 0 p.right = shAt sh p.left
        · have hb2 : (sumS sh 0 p.right == shAt sh p.left) = true := by simp [c2]
          have hw : wants sh a p = true := by
            unfold wants
            rw [hro, decide_eq_true (show 0 ≤ sumS sh 0 p.right from c0), decide_eq_true c1, hb2]; rfl
          simp only [hb2, cond_true, he1', Option.bind_some]
          unfold updM
          rw [hw]
          simp only [cond_true]
          rw [← he2]
          cases ok with
          | false => exact ⟨best, has, by simp [endR], by simpa [endR] using hr⟩
          | true =>
            simp only [endR, cond_true, hix, Option.bind_some, hhas, hbst]
            cases ho : mfind p.left m with
            | none =>
              have hmh : mhas m p.left = false := by unfold mhas; rw [ho]; rfl
              rw [hmh]
              exact ⟨_, _, by simp, hput u⟩
            | some o =>
              have hmh : mhas m p.left = true := by unfold mhas; rw [ho]; rfl
              rw [hmh]
              simp only [cond_true, Option.bind_some, Option.getD_some]
              cases Op.bytesLess u.toList o.toList
              · exact ⟨best, has, by simp, hr⟩
              · exact ⟨_, _, by simp, hput u⟩
        · rw [beqF c2]
          exact none' (by unfold wants; rw [beqF c2]; simp)
      · rw [decide_eq_false c1]
        exact none' (by unfold wants; rw [decide_eq_false c1]; simp)
    · rw [decide_eq_false c0]
      exact none' (by unfold wants; rw [decide_eq_false (show ¬ 0 ≤ sumS sh 0 p.right from c0)]; simp)

theorem l17_1 (hg : GramOk g) (hv : GramV g) (hn : n = g.sorts.length) (hs : ShOk n sh) (ha : 0 ≤ a ∧ a < n) (hb : shAt sh a ≤ 1048576) : ∀ (k i : Nat) (b : Bool) (m : Mp) (best : List ByteArray) (has : List Bool), i + k = g.prods.length → InvM n sh m → Rel n m best has →
    ∃ best' has', runL (fun s => L17_1 a sh n g s.1 s.2.1 s.2.2.1 s.2.2.2) (b, (i : Int), best, has) = some (.k0 (swpM sh a (g.prods.drop i) b m).1 best' has') ∧ Rel n (swpM sh a (g.prods.drop i) b m).2 best' has'
  | 0, i, b, m, best, has, hi, hm, hr => by
    obtain rfl : i = g.prods.length := by omega
    rw [List.drop_length]
    exact ⟨best, has, runL_done (by simp [L17_1, swpM]), hr⟩
  | k + 1, i, b, m, best, has, hi, hm, hr => by
    have hgp := hg.prods
    have hx : g.prods[i]? = some g.prods[i] := List.getElem?_eq_getElem (by omega)
    have hd : g.prods.drop i = g.prods[i] :: g.prods.drop (i + 1) := (List.drop_eq_getElem_cons (by omega))
    generalize hp : g.prods[i] = p at hx hd
    have hmem : p ∈ g.prods := List.mem_of_getElem? hx
    have hpv : ProdV n p := by rw [hn]; exact hv.prod p hmem
    rw [hd]
    simp only [swpM]
    obtain ⟨best1, has1, hstep, hr1⟩ := step17 (g := g) hs hm hr hpv (hg.prod p hmem) ha (show i < 1000 by omega) hx (by omega) b
    rw [runL_next (step := fun s => L17_1 a sh n g s.1 s.2.1 s.2.2.1 s.2.2.2) (s := (b, (i : Int), best, has)) (s' := (b || (updM sh a m p).1, ((i + 1 : Nat) : Int), best1, has1)) hstep]
    exact l17_1 hg hv hn hs ha hb k (i + 1) _ _ _ _ (by omega) (updM_inv hs hm hpv hb) hr1

theorem fixM (hg : GramOk g) (hv : GramV g) (hn : n = g.sorts.length) (hs : ShOk n sh) (ha : 0 ≤ a ∧ a < n) (hb : shAt sh a ≤ 1048576) : ∀ (c : Nat) (m : Mp) (best : List ByteArray) (has : List Bool), muM n sh m < c → InvM n sh m → Rel n m best has →
    ∃ m' best' has', Rel n m' best' has' ∧ runL (fun s => L46_1_3 g a sh (nulOf sh) n s) m = some (.k0 m') ∧ runL (fun s => L17_2 a sh n g s.1 s.2.1 s.2.2) (true, best, has) = some (.k0 best' has')
  | 0, m, best, has, hc, _, _ => by omega
  | c + 1, m, best, has, hc, hm, hr => by
    have hps : ∀ p ∈ g.prods, ProdV n p := fun p hp => by rw [hn]; exact hv.prod p hp
    obtain ⟨h1, h2, h3⟩ := swpM_mu hs hb g.prods false m hps hm
    have e0 : ((0 : Nat) : Int) = 0 := rfl
    have q1 := l46_0_3 hg hv hn hs ha hb g.prods.length 0 false m (by omega) hm
    obtain ⟨best1, has1, q2, hr1⟩ := l17_1 hg hv hn hs ha hb g.prods.length 0 false m best has (by omega) hm hr
    rw [List.drop_zero, e0] at q1 q2
    rw [List.drop_zero] at hr1
    cases hf : (swpM sh a g.prods false m).1 with
    | false =>
      obtain ⟨_, he⟩ := h3 hf
      rw [hf, he] at q1
      rw [hf] at q2
      rw [he] at hr1
      refine ⟨m, best1, has1, hr1, ?_, ?_⟩
      · exact runL_done (by simp only [L46_1_3, q1, Option.bind_some, cond_false])
      · rw [runL_next (step := fun s => L17_2 a sh n g s.1 s.2.1 s.2.2) (s := (true, best, has)) (s' := (false, best1, has1)) (by simp only [L17_2, cond_true, q2, Option.bind_some])]
        exact runL_done (by simp [L17_2])
    | true =>
      have hlt : muM n sh (swpM sh a g.prods false m).2 < muM n sh m := by rcases h2 hf with h | h; cases h; exact h
      obtain ⟨m', best', has', k1, k2, k3⟩ := fixM hg hv hn hs ha hb c (swpM sh a g.prods false m).2 best1 has1 (by omega) (swpM_inv hs hb g.prods false m hps hm) hr1
      rw [hf] at q1 q2
      refine ⟨m', best', has', k1, ?_, ?_⟩
      · rw [runL_next (step := fun s => L46_1_3 g a sh (nulOf sh) n s) (s := m) (s' := (swpM sh a g.prods false m).2) (by simp only [L46_1_3, q1, Option.bind_some, cond_true])]
        exact k2
      · rw [runL_next (step := fun s => L17_2 a sh n g s.1 s.2.1 s.2.2) (s := (true, best, has)) (s' := (true, best1, has1)) (by simp only [L17_2, cond_true, q2, Option.bind_some])]
        exact k3

theorem inv0 : InvM n sh [] := ⟨fun i t _ _ h => by simp [mfind] at h⟩
theorem rel0 : Rel n [] (List.replicate n eB) (List.replicate n false) := by
  refine ⟨by simp, by simp, fun i hi => ?_, fun i hi => ?_⟩
  · rw [List.getElem?_replicate, if_pos hi]; rfl
  · rw [List.getElem?_replicate, if_pos hi]; rfl
theorem mk16 {k : Nat} (h : k ≤ 40) : mkOk (k : Int) 16 = true := by
  unfold mkOk limit47
  exact decide_eq_true (by omega)

/-- Sample: both answers. -/
theorem sample (hg : GramOk g) (a : Int) : ∃ t c, F14 g a = some (.k0 t c) ∧ (chkB g = true → F17 g a = some (.k0 t c)) ∧ (chkB g = false → t = eB ∧ c = 160) := by
  cases hc : chkB g with
  | false =>
    refine ⟨eB, 160, ?_, fun h => (by cases h), fun _ => ⟨rfl, rfl⟩⟩
    unfold F14
    rw [shortest2_no hg hc]
    rfl
  | true =>
    obtain ⟨sh, hs, h16, h45, _⟩ := shortest2 hg hc
    have hv := val_of hc
    have h40 := hg.sorts
    have h12 : F12 g = some 0 := by rw [q12 hg]; unfold chkN; rw [hc]; rfl
    have h00 : ((0 : Int) != 0) = false := rfl
    unfold F14 F17
    rw [h45, h12, h16]
    simp only [Option.bind_some, h00, cond_false]
    by_cases a0 : a < 0
    · rw [decide_eq_true a0]; exact ⟨_, _, rfl, fun _ => rfl, fun h => (by cases h)⟩
    by_cases a1 : a ≥ (g.sorts.length : Int)
    · rw [decide_eq_false a0, decide_eq_true a1]; exact ⟨_, _, rfl, fun _ => rfl, fun h => (by cases h)⟩
    have hl := hs.len
    have hga : sh[a.toNat]? = some (shAt sh a) := by
      have : sh[a.toNat]? = some (sh[a.toNat]'(by omega)) := List.getElem?_eq_getElem _
      unfold shAt
      rw [this]; rfl
    have hgi : getI sh a = some (shAt sh a) := getI_some.2 ⟨by omega, hga⟩
    have hix : ixN g.sorts.length a = some a.toNat := ixN_some.2 ⟨by omega, by omega⟩
    rw [decide_eq_false a0, decide_eq_false a1]
    simp only [cond_false, Int.toNat_natCast, hix, hga, hgi, Option.bind_some]
    by_cases s0 : shAt sh a < 0
    · rw [decide_eq_true s0]; exact ⟨_, _, rfl, fun _ => rfl, fun h => (by cases h)⟩
    by_cases s1 : shAt sh a > 1048576
    · rw [decide_eq_false s0, decide_eq_true s1]; exact ⟨_, _, rfl, fun _ => rfl, fun h => (by cases h)⟩
    rw [decide_eq_false s0, decide_eq_false s1]
    simp only [cond_false, mk16 h40, mk1 h40, cond_true]
    obtain ⟨m', best', has', hr, k1, k2⟩ := fixM (a := a) hg hv rfl hs ⟨show 0 ≤ a by omega, show a < (g.sorts.length : Int) by omega⟩ (show shAt sh a ≤ 1048576 by omega) (muM g.sorts.length sh [] + 1) [] (List.replicate g.sorts.length eB) (List.replicate g.sorts.length false) (by omega) inv0 rel0
    have k2' : runL (fun s => L17_2 a sh g.sorts.length g s.1 s.2.1 s.2.2) (true, List.replicate g.sorts.length (⟨([] : List UInt8).toArray⟩ : ByteArray), List.replicate g.sorts.length false) = some (.k0 best' has') := k2
    have hba := hr.b a.toNat (by omega)
    rw [show ((a.toNat : Nat) : Int) = a by omega] at hba
    simp only [F46_3, k1, k2', Option.bind_some, hba]
    exact ⟨_, _, rfl, fun _ => rfl, fun h => (by cases h)⟩
end
end Go.Proofs.Tryd
namespace Go.Proofs.Tryd
set_option linter.unusedSimpArgs false
set_option linter.unusedVariables false
open Go Go.Vs

/-- What any grammar's argument is. -/
structure ArgOk (g : GramD) : Prop where
  left : ∀ p ∈ g.prods, i64ok p.left
  role : ∀ p ∈ g.prods, i64ok p.role
  sym : ∀ p ∈ g.prods, ∀ s ∈ p.right, SymOk s
  foll : ∀ f ∈ g.follow, u64ok f.a ∧ u64ok f.b ∧ u64ok f.c ∧ u64ok f.d
  forb : ∀ f ∈ g.forbid, i64ok f.at_

theorem q10 {g : GramD} (h : ArgOk g) : ∃ v, F10 g = some v ∧ (v = false → GramOk g) := by
  unfold F10
  by_cases c1 : (g.sorts.length : Int) > 40
  · rw [decide_eq_true c1]; exact ⟨true, rfl, fun e => by cases e⟩
  rw [decide_eq_false c1, cond_false]
  by_cases c2 : (g.prods.length : Int) > 80
  · rw [decide_eq_true c2]; exact ⟨true, rfl, fun e => by cases e⟩
  rw [decide_eq_false c2, cond_false]
  by_cases c3 : (g.forbid.length : Int) > 200
  · rw [decide_eq_true c3]; exact ⟨true, rfl, fun e => by cases e⟩
  rw [decide_eq_false c3, cond_false]
  by_cases c4 : (g.follow.length : Int) > 200
  · rw [decide_eq_true c4]; exact ⟨true, rfl, fun e => by cases e⟩
  rw [decide_eq_false c4, cond_false]
  have key : runL (fun s => L10_0 g s) 0 = some (bif allF (fun _ (p : ProdD) => !decide ((p.right.length : Int) > 31) && !decide ((p.cons.size : Int) > 200)) 0 g.prods then E_L10_0.k1 else E_L10_0.k0) := by
    refine loop_list (fun _ (p : ProdD) => !decide ((p.right.length : Int) > 31) && !decide ((p.cons.size : Int) > 200)) (fun i p hx => ?_) ?_
    · have hl : i < g.prods.length := (List.getElem?_eq_some_iff.1 hx).1
      simp only [L10_0, getI_nat, hx, Option.bind_some, decide_eq_true (show (i : Int) < (g.prods.length : Int) by omega), cond_true, w_S (show i < 4611686018427387904 by omega)]
      cases decide ((p.right.length : Int) > 31) <;> cases decide ((p.cons.size : Int) > 200) <;> rfl
    · simp [L10_0]
  rw [key]
  cases hall : allF (fun _ (p : ProdD) => !decide ((p.right.length : Int) > 31) && !decide ((p.cons.size : Int) > 200)) 0 g.prods with
  | false => exact ⟨true, rfl, fun e => by cases e⟩
  | true =>
    refine ⟨false, rfl, fun _ => ⟨by omega, by omega, by omega, by omega, fun p hp => ?_, h.foll, h.forb⟩⟩
    obtain ⟨k, hk⟩ := List.getElem?_of_mem hp
    have := (allF_iff _ _).1 hall k p hk
    simp only [Bool.and_eq_true, Bool.not_eq_true', decide_eq_false_iff_not] at this
    exact ⟨h.left p hp, h.sym p hp, by omega, h.role p hp⟩

theorem l3_0 {sh : List Int} (hl : sh.length ≤ 40) : runL (fun s => L3_0 sh sh s) 0 = some .k1 := by
  have := loop_list (l := sh) (step := fun s => L3_0 sh sh s) (fun _ _ => true) (bad := E_L3_0.k0) (fin := E_L3_0.k1) (fun i x hx => by
    have hi : i < sh.length := (List.getElem?_eq_some_iff.1 hx).1
    simp only [L3_0, getI_nat, hx, Option.bind_some, decide_eq_true (show (i : Int) < (sh.length : Int) by omega), cond_true, w_S (show i < 4611686018427387904 by omega)]
    rw [show (x != x) = false by simp]
    rfl) (by simp [L3_0])
  rw [this]
  have e : ∀ (l : List Int) (i : Nat), allF (fun _ _ => true) i l = true := by
    intro l
    induction l with
    | nil => intro i; rfl
    | cons x xs ih => intro i; simp only [allF, ih, Bool.and_self]
  rw [e]
  rfl

theorem law3 {g : GramD} (h : ArgOk g) (a : Int) : F3 g a = some true := by
  obtain ⟨v, h10, hv⟩ := q10 h
  unfold F3
  rw [h10]
  simp only [Option.bind_some]
  cases v with
  | true => rfl
  | false =>
    have hg := hv rfl
    obtain ⟨t, c, h14, h17, hno⟩ := sample hg a
    rw [q12 hg, h14]
    simp only [cond_false, Option.bind_some]
    cases hc : chkB g with
    | false =>
      obtain ⟨rfl, rfl⟩ := hno hc
      rw [shortest_no hg hc]
      have hcn : chkN g = 160 := by unfold chkN; rw [hc]; rfl
      have e1 : (eB.toList == (⟨([] : List UInt8).toArray⟩ : ByteArray).toList) = true := beq_self_eq_true eB.toList
      simp only [Option.bind_some, hcn, show ((160 : Int) != 0) = true from rfl, cond_true, List.length_nil, show (((0 : Nat) : Int) == 0) = true from rfl, F15, show ((160 : Int) == 160) = true from rfl, e1, F11]
    | true =>
      obtain ⟨sh, hs, h16, _, h13⟩ := shortest hg hc
      rw [h13, h16, h17 hc]
      have h40 : sh.length ≤ 40 := by rw [hs.len]; exact hg.sorts
      have hcn : chkN g = 0 := by unfold chkN; rw [hc]; rfl
      have h00 : ((0 : Int) != 0) = false := rfl
      have hll : ((sh.length : Int) != (sh.length : Int)) = false := by simp
      have ht : (t.toList == t.toList) = true := by rw [beq_self_eq_true]
      have hcc : (c == c) = true := by simp
      simp only [Option.bind_some, hcn, h00, cond_false, F15, hll, l3_0 h40, ht, hcc, cond_true, F11]
      by_cases a0 : a ≥ 0
      · rw [decide_eq_true a0]
        simp only [cond_true]
        by_cases a1 : a < (sh.length : Int)
        · rw [decide_eq_true a1]
          obtain ⟨x, hx⟩ := getI_in (l := sh) (i := a) (by omega) (by omega)
          simp only [cond_true, hx, Option.bind_some]
          cases decide (x > 5000) <;> cases decide (x ≤ 1048576) <;> rfl
        · rw [decide_eq_false a1]; rfl
      · rw [decide_eq_false a0]; rfl
end Go.Proofs.Tryd
