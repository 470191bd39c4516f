/- Whether a grammar may be: the program and the document's answer say the same. -/
import Derived.Test.YtefidjmkfefilaaDoorS35
import Derived.Test.YtefidjmkfefilaaDoorVE
namespace Go.Proofs.Tryd
set_option linter.unusedSimpArgs false
set_option linter.unusedVariables false
open Go Go.Vs

def u64ok (a : Int) : Prop := 0 ≤ a ∧ a ≤ 18446744073709551615
def i64ok (a : Int) : Prop := -9223372036854775808 ≤ a ∧ a ≤ 9223372036854775807
structure SymOk (s : SymD) : Prop where
  kind : i64ok s.kind
  a : u64ok s.a
  b : u64ok s.b
  c : u64ok s.c
  d : u64ok s.d
  sort : i64ok s.sort
structure ProdOk (p : ProdD) : Prop where
  left : i64ok p.left
  right : ∀ s ∈ p.right, SymOk s
  len : p.right.length ≤ 31
  role : i64ok p.role
/-- What a grammar's argument is, of one that is not vast. -/
structure GramOk (g : GramD) : Prop where
  sorts : g.sorts.length ≤ 40
  prods : g.prods.length ≤ 80
  forbid : g.forbid.length ≤ 200
  follow : g.follow.length ≤ 200
  prod : ∀ p ∈ g.prods, ProdOk p
  foll : ∀ f ∈ g.follow, u64ok f.a ∧ u64ok f.b ∧ u64ok f.c ∧ u64ok f.d
  forb : ∀ f ∈ g.forbid, i64ok f.at_

def inR (n : Nat) (x : Int) : Bool := decide (0 ≤ x) && decide (x < (n : Int))
def sortOk (g : GramD) (x : Int) : Bool := inR g.sorts.length x
def emptyW (a b c d : Int) : Bool := (a == 0) && ((b == 0) && ((c == 0) && ((d == 0) && true)))
def pk {α : Type} (l : List α) (f : α → Bool) (k : Nat) : Bool := match l[k]? with | some t => f t | none => true
/-- All that stand ahead. -/
def pv {α : Type} (l : List α) (f : α → Bool) (i : Nat) : Bool := (List.range i).all (pk l f)
def okName (g : GramD) (i : Nat) (s : ByteArray) : Bool := !decide (s = .empty) && !decide ((s.size : Int) > 1000) && pv g.sorts (fun t => !decide (t = s)) i
def okSym (g : GramD) (p : ProdD) (s : SymD) : Bool :=
  bif s.kind == 0 then !emptyW s.a s.b s.c s.d && (s.sort == 0) else bif s.kind == 1 then emptyW s.a s.b s.c s.d && sortOk g s.sort && !(p.role == 11) else false
def okProd (g : GramD) (p : ProdD) : Bool :=
  sortOk g p.left && !decide ((p.right.length : Int) > 30) && !decide (p.role < 0) && !decide (p.role > 11) && !decide (p.frm < -1) && !decide ((p.cons.size : Int) > 64) && (decide (p.cons = .empty) || (p.role == 0)) && !(p.prefer && p.avoid) && allF (fun _ s => okSym g p s) 0 p.right

theorem eqE (s : ByteArray) : (s.toList == (⟨([] : List UInt8).toArray⟩ : ByteArray).toList) = decide (s = .empty) := bytes_list

theorem bsome (c d : Bool) : (bif c then some d else some false) = some (c && d) := by cases c <;> rfl
theorem q41 (g : GramD) : F41 g = some (sortOk g g.start) := bsome _ _
theorem q41_2 (g : GramD) (p : ProdD) : F41_2 g p = some (sortOk g p.left) := bsome _ _
theorem q41_3 (g : GramD) (p : SymD) : F41_3 g p = some (sortOk g p.sort) := bsome _ _
theorem q41_4 (g : GramD) (p : FollD) : F41_4 g p = some (sortOk g p.sort) := bsome _ _
theorem q73 (p : ProdD) (g : GramD) : F73 p g = some (sortOk g p.left) := bsome _ _
theorem q73_2 (s : SymD) (g : GramD) : F73_2 s g = some (sortOk g s.sort) := bsome _ _

theorem or4 {a b c d : Int} (ha : u64ok a) (hb : u64ok b) (hc : u64ok c) (hd : u64ok d) :
    ((IntKind.wrap .u64 ((BitVec.ofInt (IntKind.bits .u64) (IntKind.wrap .u64 ((BitVec.ofInt (IntKind.bits .u64) (IntKind.wrap .u64 ((BitVec.ofInt (IntKind.bits .u64) a ||| BitVec.ofInt (IntKind.bits .u64) b).toNat : Int)) ||| BitVec.ofInt (IntKind.bits .u64) c).toNat : Int)) ||| BitVec.ofInt (IntKind.bits .u64) d).toNat : Int)) == 0) = emptyW a b c d := by
  have e2 : ∀ x y : BitVec 64, decide ((x ||| y) = 0#64) = (decide (x = 0#64) && decide (y = 0#64)) := by
    intro x y
    by_cases hx : x = 0#64
    · subst hx; simp
    · have : ¬ (x ||| y) = 0#64 := by
        intro h
        apply hx
        apply BitVec.eq_of_getLsbD_eq
        intro i hi
        have := congrArg (fun z => z.getLsbD i) h
        simp only [BitVec.getLsbD_or, BitVec.getLsbD_zero, Bool.or_eq_false_iff] at this
        rw [this.1]; simp
      simp [hx, this]
  rw [or_zero, or_u64, or_u64, e2, e2, ofInt_zero ha, ofInt_zero hb, ofInt_zero hc, ofInt_zero hd]
  simp only [emptyW, Bool.and_assoc, Bool.and_true]
theorem q44 {s : SymD} (h : SymOk s) : F44 s = some (emptyW s.a s.b s.c s.d) := by
  unfold F44
  rw [or4 h.a h.b h.c h.d]
theorem q44_2 {f : FollD} (h : u64ok f.a ∧ u64ok f.b ∧ u64ok f.c ∧ u64ok f.d) : F44_2 f = some (emptyW f.a f.b f.c f.d) := by
  unfold F44_2
  rw [or4 h.1 h.2.1 h.2.2.1 h.2.2.2]

/- Loops of the document's Check. -/
theorem range_take {α : Type} (l : List α) (f : α → Bool) : ∀ (i : Nat), i ≤ l.length → pv l f i = (l.take i).all f
  | 0, _ => rfl
  | i + 1, h => by
    have hx : l[i]? = some l[i] := List.getElem?_eq_getElem (by omega)
    have ih := range_take l f i (by omega)
    unfold pv at ih ⊢
    rw [List.range_succ, List.all_append, ih, List.take_add_one, hx, List.all_append]
    simp [pk, hx]

theorem l12_5 (g : GramD) {i : Nat} {x : ByteArray} (hi : g.sorts[i]? = some x) (hn : g.sorts.length ≤ 40) :
    runL (fun s => L12_5 (i : Int) g s) 0 = some (bif pv g.sorts (fun t => !decide (t = x)) i then E_L12_5.k1 else E_L12_5.k0) := by
  have hl : i < g.sorts.length := (List.getElem?_eq_some_iff.1 hi).1
  refine loop_range (pk g.sorts (fun t => !decide (t = x))) (fun k hk => ?_) ?_
  · have hy : g.sorts[k]? = some g.sorts[k] := List.getElem?_eq_getElem (by omega)
    simp only [L12_5, getI_nat, hi, hy, Option.bind_some, decide_eq_true (show (k : Int) < (i : Int) by omega), cond_true, bytes_list, w_S (show k < 4611686018427387904 by omega), pk]
    by_cases e : g.sorts[k] = x <;> simp [e]
  · simp [L12_5]
theorem beqF {a b : Int} (h : ¬ a = b) : (a == b) = false := by simp [h]
theorem bneT {a b : Int} (h : ¬ a = b) : (a != b) = true := by simp [h]
theorem l42_0 {g : GramD} {p : ProdD} (hp : ProdOk p) : runL (fun s => L42_0 g p s) 0 = some (bif allF (fun _ s => okSym g p s) 0 p.right then E_L42_0.k1 else E_L42_0.k0) := by
  have hlen := hp.len
  refine loop_list (fun _ s => okSym g p s) (fun i x hx => ?_) ?_
  · have hl : i < p.right.length := (List.getElem?_eq_some_iff.1 hx).1
    have hs := hp.right x (List.mem_of_getElem? hx)
    simp only [L42_0, getI_nat, hx, Option.bind_some, decide_eq_true (show (i : Int) < (p.right.length : Int) by omega), cond_true, q44 hs, q41_3, w_S (show i < 4611686018427387904 by omega), okSym]
    by_cases k0 : x.kind = 0
    · rw [k0]
      cases emptyW x.a x.b x.c x.d <;> by_cases hz : x.sort = 0 <;> first | (simp [hz]; done) | simp [beqF hz, bneT hz]
    · by_cases k1 : x.kind = 1
      · rw [k1]
        cases emptyW x.a x.b x.c x.d <;> cases sortOk g x.sort <;> by_cases hr : p.role = 11 <;> first | (simp [hr]; done) | simp [beqF hr]
      · simp [beqF k0, beqF k1, bneT k0, bneT k1]
  · simp [L42_0]
theorem q42 {g : GramD} {p : ProdD} (hp : ProdOk p) : F42 g p = some (okProd g p) := by
  unfold F42 okProd
  rw [q41_2, l42_0 hp, eqE]
  simp only [Option.bind_some]
  cases sortOk g p.left <;> simp only [cond_true, cond_false, Bool.false_and, Bool.true_and]
  cases decide ((p.right.length : Int) > 30) <;> simp only [cond_true, cond_false, Bool.false_and, Bool.true_and, Bool.not_true, Bool.not_false]
  cases decide (p.role < 0) <;> simp only [cond_true, cond_false, Bool.false_and, Bool.true_and, Bool.not_true, Bool.not_false]
  cases decide (p.role > 11) <;> simp only [cond_true, cond_false, Bool.false_and, Bool.true_and, Bool.not_true, Bool.not_false]
  cases decide (p.frm < -1) <;> simp only [cond_true, cond_false, Bool.false_and, Bool.true_and, Bool.not_true, Bool.not_false]
  cases decide ((p.cons.size : Int) > 64) <;> simp only [cond_true, cond_false, Bool.false_and, Bool.true_and, Bool.not_true, Bool.not_false]
  cases decide (p.cons = ByteArray.empty) <;> by_cases hr : p.role = 0 <;> cases p.prefer <;> cases p.avoid <;> cases allF (fun _ s => okSym g p s) 0 p.right <;> first | (simp [hr]; done) | simp [beqF hr, bneT hr]
theorem l12_4 {g : GramD} (hg : GramOk g) : runL (fun s => L12_4 g s) 0 = some (bif allF (fun _ p => okProd g p) 0 g.prods then E_L12_4.k1 else E_L12_4.k0) := by
  have hlen := hg.prods
  refine loop_list (fun _ p => okProd g p) (fun i x hx => ?_) ?_
  · have hl : i < g.prods.length := (List.getElem?_eq_some_iff.1 hx).1
    simp only [L12_4, getI_nat, hx, Option.bind_some, decide_eq_true (show (i : Int) < (g.prods.length : Int) by omega), cond_true, q42 (hg.prod x (List.mem_of_getElem? hx)), w_S (show i < 4611686018427387904 by omega)]
    cases okProd g x <;> rfl
  · simp [L12_4]

/-- What is forbidden may be. -/
def prodAt (g : GramD) (x : Int) : Option ProdD := getI g.prods x
def okForb (g : GramD) (f : ForbD) : Bool :=
  match getI g.prods f.parent, getI g.prods f.child with
  | some p, some c => !(p.role == 11) && !(c.role == 11) && !decide (f.at_ < 1) && !decide (f.at_ > (p.right.length : Int)) && (match getI p.right (f.at_ - 1) with | some s => (s.kind == 1) && (s.sort == c.left) | none => false)
  | _, _ => false
theorem getI_none {α : Type} {l : List α} {i : Int} (h : i < 0 ∨ (l.length : Int) ≤ i) : getI l i = none := by
  unfold getI
  split
  · rw [List.getElem?_eq_none (by omega)]
  · rfl
theorem getI_in {α : Type} {l : List α} {i : Int} (h0 : ¬ i < 0) (h1 : ¬ (l.length : Int) ≤ i) : ∃ x, getI l i = some x := by
  unfold getI
  rw [if_pos (by omega)]
  exact ⟨_, List.getElem?_eq_getElem (by omega)⟩
theorem q43 {g : GramD} (hg : GramOk g) {f : ForbD} (hf : i64ok f.at_) : F43 g f = some (okForb g f) := by
  unfold F43 okForb
  by_cases h1 : f.parent < 0
  · simp [h1, getI_none (l := g.prods) (.inl h1)]
  by_cases h2 : (g.prods.length : Int) ≤ f.parent
  · simp [h2, h1, getI_none (l := g.prods) (.inr h2)]
  obtain ⟨p, hp⟩ := getI_in h1 h2
  by_cases h3 : f.child < 0
  · simp [h1, h2, h3, hp, getI_none (l := g.prods) (.inl h3)]
  by_cases h4 : (g.prods.length : Int) ≤ f.child
  · simp [h1, h2, h3, h4, hp, getI_none (l := g.prods) (.inr h4)]
  obtain ⟨c, hc⟩ := getI_in h3 h4
  simp only [hp, hc, decide_eq_false h1, decide_eq_false h3, decide_eq_false (show ¬ f.parent ≥ (g.prods.length : Int) from h2), decide_eq_false (show ¬ f.child ≥ (g.prods.length : Int) from h4), cond_false, Option.bind_some]
  by_cases h5 : p.role = 11
  · simp [h5]
  by_cases h6 : c.role = 11
  · simp [beqF h5, h6]
  by_cases h7 : f.at_ < 1
  · simp [beqF h5, beqF h6, h7]
  by_cases h8 : f.at_ > (p.right.length : Int)
  · simp [beqF h5, beqF h6, h7, h8]
  have hb1 : (p.role == 11) = false := by simp [h5]
  have hb2 : (c.role == 11) = false := by simp [h6]
  simp only [hb1, hb2, decide_eq_false h7, decide_eq_false h8, cond_false, Bool.not_false, Bool.true_and]
  unfold i64ok at hf
  rw [w_id (by omega)]
  obtain ⟨s, hs⟩ := getI_in (l := p.right) (i := f.at_ - 1) (by omega) (by omega)
  rw [hs]
  simp only [Option.bind_some]
  exact bsome _ _

theorem l12_6 (g : GramD) (hn : g.sorts.length ≤ 40) : runL (fun s => L12_6 g s) 0 = some (bif allF (okName g) 0 g.sorts then E_L12_6.k1 else E_L12_6.k0) := by
  refine loop_list (okName g) (fun i x hx => ?_) ?_
  · have hl : i < g.sorts.length := (List.getElem?_eq_some_iff.1 hx).1
    simp only [L12_6, getI_nat, hx, Option.bind_some, decide_eq_true (show (i : Int) < (g.sorts.length : Int) by omega), cond_true, eqE, l12_5 g hx hn, w_S (show i < 4611686018427387904 by omega), okName]
    cases decide (x = ByteArray.empty) <;> cases decide ((x.size : Int) > 1000) <;> simp
    cases pv g.sorts (fun t => !decide (t = x)) i <;> simp
  · simp [L12_6]
end Go.Proofs.Tryd
namespace Go.Proofs.Tryd
set_option linter.unusedSimpArgs false
set_option linter.unusedVariables false
open Go Go.Vs

def eqFo (x y : ForbD) : Bool := (x.parent == y.parent) && ((x.at_ == y.at_) && ((x.child == y.child) && true))
def okForbI (g : GramD) (i : Nat) (f : ForbD) : Bool := okForb g f && pv g.forbid (fun t => !eqFo t f) i
def okFollI (g : GramD) (i : Nat) (f : FollD) : Bool := sortOk g f.sort && !emptyW f.a f.b f.c f.d && pv g.follow (fun t => !(t.sort == f.sort)) i

theorem l12_2 (g : GramD) {i : Nat} {x : ForbD} (hi : g.forbid[i]? = some x) (hn : g.forbid.length ≤ 200) :
    runL (fun s => L12_2 (i : Int) g s) 0 = some (bif pv g.forbid (fun t => !eqFo t x) i then E_L12_2.k1 else E_L12_2.k0) := by
  have hl : i < g.forbid.length := (List.getElem?_eq_some_iff.1 hi).1
  refine loop_range (pk g.forbid (fun t => !eqFo t x)) (fun k hk => ?_) ?_
  · have hy : g.forbid[k]? = some g.forbid[k] := List.getElem?_eq_getElem (by omega)
    simp only [L12_2, getI_nat, hi, hy, Option.bind_some, decide_eq_true (show (k : Int) < (i : Int) by omega), cond_true, w_S (show k < 4611686018427387904 by omega), eqFo, pk]
    cases (g.forbid[k].parent == x.parent && (g.forbid[k].at_ == x.at_ && (g.forbid[k].child == x.child && true))) <;> rfl
  · simp [L12_2]
theorem l12_3 {g : GramD} (hg : GramOk g) : runL (fun s => L12_3 g s) 0 = some (bif allF (okForbI g) 0 g.forbid then E_L12_3.k1 else E_L12_3.k0) := by
  have hn := hg.forbid
  refine loop_list (okForbI g) (fun i x hx => ?_) ?_
  · have hl : i < g.forbid.length := (List.getElem?_eq_some_iff.1 hx).1
    simp only [L12_3, getI_nat, hx, Option.bind_some, decide_eq_true (show (i : Int) < (g.forbid.length : Int) by omega), cond_true, q43 hg (hg.forb x (List.mem_of_getElem? hx)), l12_2 g hx hn, w_S (show i < 4611686018427387904 by omega), okForbI]
    cases okForb g x
    · rfl
    · simp only [cond_true, Bool.true_and]
      cases pv g.forbid (fun t => !eqFo t x) i <;> rfl
  · simp [L12_3]
theorem l12_0 (g : GramD) {i : Nat} {x : FollD} (hi : g.follow[i]? = some x) (hn : g.follow.length ≤ 200) :
    runL (fun s => L12_0 (i : Int) g s) 0 = some (bif pv g.follow (fun t => !(t.sort == x.sort)) i then E_L12_0.k1 else E_L12_0.k0) := by
  have hl : i < g.follow.length := (List.getElem?_eq_some_iff.1 hi).1
  refine loop_range (pk g.follow (fun t => !(t.sort == x.sort))) (fun k hk => ?_) ?_
  · have hy : g.follow[k]? = some g.follow[k] := List.getElem?_eq_getElem (by omega)
    simp only [L12_0, getI_nat, hi, hy, Option.bind_some, decide_eq_true (show (k : Int) < (i : Int) by omega), cond_true, w_S (show k < 4611686018427387904 by omega), pk]
    cases (g.follow[k].sort == x.sort) <;> rfl
  · simp [L12_0]
theorem l12_1 {g : GramD} (hg : GramOk g) : runL (fun s => L12_1 g s) 0 = some (bif allF (okFollI g) 0 g.follow then E_L12_1.k1 else E_L12_1.k0) := by
  have hn := hg.follow
  refine loop_list (okFollI g) (fun i x hx => ?_) ?_
  · have hl : i < g.follow.length := (List.getElem?_eq_some_iff.1 hx).1
    simp only [L12_1, getI_nat, hx, Option.bind_some, decide_eq_true (show (i : Int) < (g.follow.length : Int) by omega), cond_true, q41_4, q44_2 (hg.foll x (List.mem_of_getElem? hx)), l12_0 g hx hn, w_S (show i < 4611686018427387904 by omega), okFollI]
    cases sortOk g x.sort
    · rfl
    · cases emptyW x.a x.b x.c x.d
      · simp only [cond_true, cond_false, Bool.true_and, Bool.not_false]
        cases pv g.follow (fun t => !(t.sort == x.sort)) i <;> rfl
      · rfl
  · simp [L12_1]

def okSorts (g : GramD) : Bool := !decide ((g.sorts.length : Int) < 1) && sortOk g g.start && allF (okName g) 0 g.sorts
def okProds (g : GramD) : Bool := allF (fun _ p => okProd g p) 0 g.prods
def okForbs (g : GramD) : Bool := allF (okForbI g) 0 g.forbid
def okFolls (g : GramD) : Bool := allF (okFollI g) 0 g.follow
def chkB (g : GramD) : Bool := okSorts g && okProds g && okForbs g && okFolls g
def chkN (g : GramD) : Int := bif chkB g then 0 else 160

theorem q12 {g : GramD} (hg : GramOk g) : F12 g = some (chkN g) := by
  have h1 := hg.sorts
  have h2 := hg.prods
  unfold F12 chkN chkB okSorts okProds okForbs okFolls
  rw [q41, l12_6 g h1, l12_4 hg, l12_3 hg, l12_1 hg, decide_eq_false (show ¬ (g.sorts.length : Int) > 1000 by omega), decide_eq_false (show ¬ (g.prods.length : Int) > 1000 by omega)]
  simp only [Option.bind_some, cond_false]
  cases decide ((g.sorts.length : Int) < 1) <;> cases sortOk g g.start <;> cases allF (okName g) 0 g.sorts <;> cases allF (fun _ p => okProd g p) 0 g.prods <;> cases allF (okForbI g) 0 g.forbid <;> cases allF (okFollI g) 0 g.follow <;> rfl

/- The program's. -/
theorem seen_inv {α K : Type} [DecidableEq K] {l : List α} {key : α → K} {m : List (K × Int)} {i : Nat} {x : α} (hx : l[i]? = some x) (hm : ∀ s, mget 0 m s = if (l.take i).any (fun t => decide (key t = s)) then 1 else 0) :
    mget 0 (mput (key x) (IntKind.wrap .i64 (mget 0 m (key x) + 1)) m) (key x) = (if (l.take i).any (fun t => decide (key t = key x)) then 2 else 1) ∧ ((l.take i).any (fun t => decide (key t = key x)) = false → ∀ s, mget 0 (mput (key x) (IntKind.wrap .i64 (mget 0 m (key x) + 1)) m) s = if (l.take (i + 1)).any (fun t => decide (key t = s)) then 1 else 0) := by
  constructor
  · rw [mget_mput, if_pos rfl, hm (key x)]
    split <;> rfl
  · intro hn s
    rw [mget_mput, hm (key x), hn, List.take_add_one, hx, List.any_append]
    by_cases e : s = key x
    · subst e; simp; rfl
    · rw [if_neg e, hm s]
      have : ¬ key x = s := fun h => e h.symm
      simp [this]
theorem dup_take {α : Type} {l : List α} {i : Nat} (f : α → Bool) (hi : i ≤ l.length) : pv l (fun t => !f t) i = !((l.take i).any f) := by
  rw [range_take l (fun t => !f t) i hi]
  induction l.take i with
  | nil => rfl
  | cons x xs ih => simp only [List.all_cons, List.any_cons, ih]; cases f x <;> simp

theorem q57 {g : GramD} (hg : GramOk g) : F57 g = some (okSorts g) := by
  have hn := hg.sorts
  have key := loop_chk (step := fun s => L57_0 g (g.sorts.length : Int) s.1 s.2) (l := g.sorts) (emb := fun i m => ((i : Int), m)) (okName g) (fun i m x => mput x (IntKind.wrap .i64 (mget 0 m x + 1)) m) E_L57_0.k0 E_L57_0.k1
    (fun i m => ∀ s, mget 0 m s = if (g.sorts.take i).any (fun t => decide (t = s)) then 1 else 0) (fun i x m hx hm => ?_) (fun m _ => ?_) g.sorts.length 0 [] (by omega) (by intro s; simp [mget, mfind])
  · rw [List.drop_zero] at key
    unfold F57 okSorts
    have e : ((0 : Nat) : Int) = 0 := rfl
    simp only [e] at key
    cases hall : allF (okName g) 0 g.sorts with
    | true =>
      obtain ⟨b, hb, _⟩ := key.1 hall
      rw [hb]
      simp only [Option.bind_some, decide_eq_true (show (g.sorts.length : Int) ≤ 1000 by omega), cond_true, sortOk, inR]
      by_cases h1 : (g.sorts.length : Int) < 1
      · simp [h1, show ¬ (g.sorts.length : Int) ≥ 1 by omega]
      · rw [decide_eq_true (show (g.sorts.length : Int) ≥ 1 by omega), decide_eq_false h1]
        simp only [cond_true, Bool.not_false, Bool.true_and, Bool.and_true]
        exact bsome _ _
    | false =>
      rw [key.2 hall]
      simp
  · have hl : i < g.sorts.length := (List.getElem?_eq_some_iff.1 hx).1
    obtain ⟨h1, h2⟩ := seen_inv (key := fun t => t) hx hm
    have hd := dup_take (l := g.sorts) (i := i) (fun t => decide (t = x)) (by omega)
    simp only [L57_0, getI_nat, hx, Option.bind_some, decide_eq_true (show (i : Int) < (g.sorts.length : Int) by omega), cond_true, eqE, h1, w_S (show i < 4611686018427387904 by omega), okName, hd]
    cases decide (x = ByteArray.empty) <;> cases decide ((x.size : Int) > 1000) <;> cases hxm : (g.sorts.take i).any (fun t => decide (t = x)) <;> simp
    exact h2 hxm
  · simp [L57_0]

theorem l58_0 {g : GramD} {p : ProdD} (hp : ProdOk p) : runL (fun s => L58_0 g p (p.right.length : Int) s) 0 = some (bif allF (fun _ s => okSym g p s) 0 p.right then E_L58_0.k1 else E_L58_0.k0) := by
  have hlen := hp.len
  refine loop_list (fun _ s => okSym g p s) (fun i x hx => ?_) ?_
  · have hl : i < p.right.length := (List.getElem?_eq_some_iff.1 hx).1
    have he : ((x.a == 0) && ((x.b == 0) && ((x.c == 0) && ((x.d == 0) && true)))) = emptyW x.a x.b x.c x.d := rfl
    simp only [L58_0, getI_nat, hx, Option.bind_some, decide_eq_true (show (i : Int) < (p.right.length : Int) by omega), cond_true, q73_2, w_S (show i < 4611686018427387904 by omega), okSym, he]
    by_cases k0 : x.kind = 0
    · rw [k0]
      cases emptyW x.a x.b x.c x.d <;> by_cases hz : x.sort = 0 <;> first | (simp [hz]; done) | simp [beqF hz, bneT hz]
    · by_cases k1 : x.kind = 1
      · rw [k1]
        cases emptyW x.a x.b x.c x.d <;> cases sortOk g x.sort <;> by_cases hr : p.role = 11 <;> first | (simp [hr]; done) | simp [beqF hr]
      · simp [beqF k0, beqF k1, bneT k0, bneT k1]
  · simp [L58_0]
theorem q58 {g : GramD} (hg : GramOk g) : F58 g = some (okProds g) := by
  have hlen := hg.prods
  have key : runL (fun s => L58_1 g (g.prods.length : Int) s) 0 = some (bif allF (fun _ p => okProd g p) 0 g.prods then E_L58_1.k1 else E_L58_1.k0) := by
    refine loop_list (fun _ p => okProd g p) (fun i p hx => ?_) ?_
    · have hl : i < g.prods.length := (List.getElem?_eq_some_iff.1 hx).1
      have hp := hg.prod p (List.mem_of_getElem? hx)
      simp only [L58_1, getI_nat, hx, Option.bind_some, decide_eq_true (show (i : Int) < (g.prods.length : Int) by omega), cond_true, q73, l58_0 hp, eqE, w_S (show i < 4611686018427387904 by omega), okProd]
      cases sortOk g p.left <;> simp only [cond_true, cond_false, Bool.false_and, Bool.true_and]
      cases decide ((p.right.length : Int) > 30) <;> simp only [cond_true, cond_false, Bool.false_and, Bool.true_and, Bool.not_true, Bool.not_false]
      cases decide (p.role < 0) <;> simp only [cond_true, cond_false, Bool.false_and, Bool.true_and, Bool.not_true, Bool.not_false]
      cases decide (p.role > 11) <;> simp only [cond_true, cond_false, Bool.false_and, Bool.true_and, Bool.not_true, Bool.not_false]
      cases decide (p.frm < -1) <;> simp only [cond_true, cond_false, Bool.false_and, Bool.true_and, Bool.not_true, Bool.not_false]
      cases decide ((p.cons.size : Int) > 64) <;> simp only [cond_true, cond_false, Bool.false_and, Bool.true_and, Bool.not_true, Bool.not_false]
      cases decide (p.cons = ByteArray.empty) <;> by_cases hr : p.role = 0 <;> cases p.prefer <;> cases p.avoid <;> cases allF (fun _ s => okSym g p s) 0 p.right <;> first | (simp [hr]; done) | simp [beqF hr, bneT hr]
    · simp [L58_1]
  unfold F58 okProds
  rw [key]
  cases allF (fun _ p => okProd g p) 0 g.prods
  · rfl
  · simp only [cond_true, Option.bind_some, decide_eq_true (show (g.prods.length : Int) ≤ 1000 by omega)]
end Go.Proofs.Tryd
namespace Go.Proofs.Tryd
set_option linter.unusedSimpArgs false
set_option linter.unusedVariables false
open Go Go.Vs

theorem eqFo_key (t f : ForbD) : eqFo t f = decide ((t.parent, t.at_, t.child) = (f.parent, f.at_, f.child)) := by
  unfold eqFo
  by_cases h1 : t.parent = f.parent
  · by_cases h2 : t.at_ = f.at_
    · by_cases h3 : t.child = f.child
      · simp [h1, h2, h3]
      · simp [h1, h2, h3, beqF h3]
    · simp [h1, h2, beqF h2]
  · simp [h1, beqF h1]

theorem q59 {g : GramD} (hg : GramOk g) : F59 g = some (okForbs g) := by
  have hn := hg.forbid
  have key := loop_chk (step := fun s => L59_0 g (g.forbid.length : Int) s.1 s.2) (l := g.forbid) (emb := fun i m => ((i : Int), m)) (okForbI g)
    (fun i m x => mput (x.parent, x.at_, x.child) (IntKind.wrap .i64 (mget 0 m (x.parent, x.at_, x.child) + 1)) m) E_L59_0.k0 E_L59_0.k1
    (fun i m => ∀ s, mget 0 m s = if (g.forbid.take i).any (fun t => decide ((t.parent, t.at_, t.child) = s)) then 1 else 0) (fun i f m hx hm => ?_) (fun m _ => ?_) g.forbid.length 0 [] (by omega) (by intro s; simp [mget, mfind])
  · rw [List.drop_zero] at key
    have e : ((0 : Nat) : Int) = 0 := rfl
    simp only [e] at key
    unfold F59 okForbs
    cases hall : allF (okForbI g) 0 g.forbid with
    | true => obtain ⟨b, hb, _⟩ := key.1 hall; rw [hb]; rfl
    | false => rw [key.2 hall]; rfl
  · have hl : i < g.forbid.length := (List.getElem?_eq_some_iff.1 hx).1
    have hat := hg.forb f (List.mem_of_getElem? hx)
    unfold i64ok at hat
    obtain ⟨h1, h2⟩ := seen_inv (key := fun t : ForbD => (t.parent, t.at_, t.child)) hx hm
    have hd := dup_take (l := g.forbid) (i := i) (fun t => eqFo t f) (by omega)
    simp only [eqFo_key] at hd
    skip
    have hok : okForbI g i f = (okForb g f && !(g.forbid.take i).any (fun t => decide ((t.parent, t.at_, t.child) = (f.parent, f.at_, f.child)))) := by
      unfold okForbI
      simp only [eqFo_key]
      rw [hd]
    rw [hok]
    simp only [L59_0, getI_nat, hx, Option.bind_some, decide_eq_true (show (i : Int) < (g.forbid.length : Int) by omega), cond_true, h1, w_S (show i < 4611686018427387904 by omega)]
    cases hxm : (g.forbid.take i).any (fun t => decide ((t.parent, t.at_, t.child) = (f.parent, f.at_, f.child))) with
    | true => simp
    | false =>
      have h2 := h2 hxm
      simp only [Bool.not_false, Bool.and_true, Bool.false_eq_true, if_false, show decide ((1 : Int) > 1) = false from rfl, cond_false]
      have e73 : F74 f g = match getI g.prods f.parent with | some p => some (p.role != 11) | none => some false := by
        unfold F74
        by_cases a1 : f.parent < 0
        · simp [getI_none (l := g.prods) (.inl a1), show ¬ f.parent ≥ 0 by omega]
        · by_cases a2 : (g.prods.length : Int) ≤ f.parent
          · simp [getI_none (l := g.prods) (.inr a2), show ¬ f.parent < (g.prods.length : Int) by omega]
          · obtain ⟨p, hp⟩ := getI_in a1 a2
            simp [hp, show f.parent ≥ 0 by omega, show f.parent < (g.prods.length : Int) by omega]
      have e74 : F74_2 f g = match getI g.prods f.child with | some p => some (p.role != 11) | none => some false := by
        unfold F74_2
        by_cases a1 : f.child < 0
        · simp [getI_none (l := g.prods) (.inl a1), show ¬ f.child ≥ 0 by omega]
        · by_cases a2 : (g.prods.length : Int) ≤ f.child
          · simp [getI_none (l := g.prods) (.inr a2), show ¬ f.child < (g.prods.length : Int) by omega]
          · obtain ⟨p, hp⟩ := getI_in a1 a2
            simp [hp, show f.child ≥ 0 by omega, show f.child < (g.prods.length : Int) by omega]
      rw [e73, e74]
      unfold okForb
      cases hp : getI g.prods f.parent with
      | none => simp
      | some p =>
        cases hc : getI g.prods f.child with
        | none => by_cases r1 : p.role = 11 <;> first | (simp [r1]; done) | simp [bneT r1, beqF r1]
        | some c =>
          simp only [Option.bind_some]
          by_cases r1 : p.role = 11
          · simp [r1]
          by_cases r2 : c.role = 11
          · simp [bneT r1, beqF r1, r2]
          by_cases r3 : f.at_ < 1
          · simp [bneT r1, beqF r1, bneT r2, beqF r2, r3]
          by_cases r4 : f.at_ > (p.right.length : Int)
          · simp [bneT r1, beqF r1, bneT r2, beqF r2, r3, r4]
          rw [w_id (by omega)]
          obtain ⟨s, hs⟩ := getI_in (l := p.right) (i := f.at_ - 1) (by omega) (by omega)
          simp only [hs, Option.bind_some, bneT r1, beqF r1, bneT r2, beqF r2, decide_eq_false r3, decide_eq_false r4, cond_true, cond_false, Bool.not_false, Bool.true_and]
          by_cases r5 : s.kind = 1
          · by_cases r6 : s.sort = c.left
            · simpa [r5, r6] using h2
            · simp [r5, bneT r6, beqF r6]
          · simp [bneT r5, beqF r5]
  · simp [L59_0]

theorem q60 {g : GramD} (hg : GramOk g) : F60 g = some (okFolls g) := by
  have hn := hg.follow
  have key := loop_chk (step := fun s => L60_0 g (g.follow.length : Int) s.1 s.2) (l := g.follow) (emb := fun i m => ((i : Int), m)) (okFollI g)
    (fun i m x => mput x.sort (IntKind.wrap .i64 (mget 0 m x.sort + 1)) m) E_L60_0.k0 E_L60_0.k1
    (fun i m => ∀ s, mget 0 m s = if (g.follow.take i).any (fun t => decide (t.sort = s)) then 1 else 0) (fun i f m hx hm => ?_) (fun m _ => ?_) g.follow.length 0 [] (by omega) (by intro s; simp [mget, mfind])
  · rw [List.drop_zero] at key
    have e : ((0 : Nat) : Int) = 0 := rfl
    simp only [e] at key
    unfold F60 okFolls
    cases hall : allF (okFollI g) 0 g.follow with
    | true => obtain ⟨b, hb, _⟩ := key.1 hall; rw [hb]; rfl
    | false => rw [key.2 hall]; rfl
  · have hl : i < g.follow.length := (List.getElem?_eq_some_iff.1 hx).1
    obtain ⟨h1, h2⟩ := seen_inv (key := fun t : FollD => t.sort) hx hm
    have hd := dup_take (l := g.follow) (i := i) (fun t => t.sort == f.sort) (by omega)
    have hbeq : (g.follow.take i).any (fun t => t.sort == f.sort) = (g.follow.take i).any (fun t => decide (t.sort = f.sort)) := by
      congr 1
    rw [hbeq] at hd
    skip
    have he : ((f.a == 0) && ((f.b == 0) && ((f.c == 0) && ((f.d == 0) && true)))) = emptyW f.a f.b f.c f.d := rfl
    simp only [L60_0, getI_nat, hx, Option.bind_some, decide_eq_true (show (i : Int) < (g.follow.length : Int) by omega), cond_true, h1, w_S (show i < 4611686018427387904 by omega), okFollI, hd, he, sortOk, inR]
    cases hxm : (g.follow.take i).any (fun t => decide (t.sort = f.sort)) with
    | true => simp
    | false =>
      have h2 := h2 hxm
      by_cases a1 : f.sort < 0
      · simp [a1, show ¬ 0 ≤ f.sort by omega]
      by_cases a2 : (g.sorts.length : Int) ≤ f.sort
      · simp [a1, a2, show ¬ f.sort < (g.sorts.length : Int) by omega]
      cases emptyW f.a f.b f.c f.d
      · simpa [a1, a2, show 0 ≤ f.sort by omega, show f.sort < (g.sorts.length : Int) by omega] using h2
      · simp [a1, a2]
  · simp [L60_0]

theorem q29 {g : GramD} (hg : GramOk g) : F29 g = some (chkN g) := by
  have key : runL (fun s => L29_0 g s) 0 = some (bif (List.range 4).all (fun i => match i with | 0 => okSorts g | 1 => okProds g | 2 => okForbs g | _ => okFolls g) then E_L29_0.k1 else E_L29_0.k0) := by
    refine loop_range (n := 4) _ (fun i hi => ?_) ?_
    · match i, hi with
      | 0, _ => simp only [L29_0, q57 hg, Option.bind_some]; cases okSorts g <;> rfl
      | 1, _ => simp only [L29_0, q58 hg, Option.bind_some]; cases okProds g <;> rfl
      | 2, _ => simp only [L29_0, q59 hg, Option.bind_some]; cases okForbs g <;> rfl
      | 3, _ => simp only [L29_0, q60 hg, Option.bind_some]; cases okFolls g <;> rfl
      | n + 4, h => omega
    · rfl
  unfold F29 chkN chkB
  rw [key]
  show (some (bif (okSorts g && (okProds g && (okForbs g && (okFolls g && true)))) then E_L29_0.k1 else E_L29_0.k0)).bind _ = _
  cases okSorts g <;> cases okProds g <;> cases okForbs g <;> cases okFolls g <;> rfl
end Go.Proofs.Tryd
namespace Go.Proofs.Tryd
set_option linter.unusedSimpArgs false
set_option linter.unusedVariables false
open Go Go.Vs

/-- What a grammar that may be is. -/
structure SymV (n : Nat) (s : SymD) : Prop where
  k : s.kind = 0 ∨ s.kind = 1
  set : s.kind = 0 → emptyW s.a s.b s.c s.d = false
  sort : s.kind = 1 → 0 ≤ s.sort ∧ s.sort < n
structure ProdV (n : Nat) (p : ProdD) : Prop where
  left : 0 ≤ p.left ∧ p.left < n
  right : ∀ s ∈ p.right, SymV n s
  len : p.right.length ≤ 30
structure GramV (g : GramD) : Prop where
  n : 1 ≤ g.sorts.length
  prod : ∀ p ∈ g.prods, ProdV g.sorts.length p

theorem val_of {g : GramD} (h : chkB g = true) : GramV g := by
  unfold chkB okSorts okProds at h
  simp only [Bool.and_eq_true, Bool.not_eq_true', decide_eq_false_iff_not] at h
  obtain ⟨⟨⟨⟨⟨h1, _⟩, _⟩, h2⟩, _⟩, _⟩ := h
  refine ⟨by omega, fun p hp => ?_⟩
  obtain ⟨k, hk⟩ := List.getElem?_of_mem hp
  have hp2 := (allF_iff _ _).1 h2 k p hk
  unfold okProd at hp2
  simp only [Bool.and_eq_true, Bool.not_eq_true', decide_eq_false_iff_not] at hp2
  obtain ⟨⟨⟨⟨⟨⟨⟨⟨q1, q2⟩, _⟩, _⟩, _⟩, _⟩, _⟩, _⟩, q3⟩ := hp2
  refine ⟨?_, fun s hs => ?_, by omega⟩
  · unfold sortOk inR at q1
    simp only [Bool.and_eq_true, decide_eq_true_eq] at q1
    exact q1
  · obtain ⟨j, hj⟩ := List.getElem?_of_mem hs
    have hs2 := (allF_iff _ _).1 q3 j s hj
    unfold okSym at hs2
    by_cases k0 : s.kind = 0
    · rw [k0] at hs2
      simp only [beq_self_eq_true, cond_true, Bool.and_eq_true, Bool.not_eq_true'] at hs2
      exact ⟨.inl k0, fun _ => hs2.1, fun e => by rw [k0] at e; cases e⟩
    · by_cases k1 : s.kind = 1
      · rw [k1] at hs2
        have : ((1 : Int) == 0) = false := rfl
        simp only [this, cond_false, beq_self_eq_true, cond_true, Bool.and_eq_true, sortOk, inR, decide_eq_true_eq] at hs2
        exact ⟨.inr k1, fun e => absurd e k0, fun _ => hs2.1.2⟩
      · rw [beqF k0, beqF k1] at hs2
        cases hs2

/-- How many bytes a production's shortest text has. -/
def symS (sh : List Int) (s : SymD) : Int := bif s.kind == 1 then (sh[s.sort.toNat]?).getD 0 else 1
def sumS (sh : List Int) : Int → List SymD → Int
  | n, [] => n
  | n, s :: r => bif decide (symS sh s < 0) then -1 else sumS sh (if 1048577 < n + symS sh s then 1048577 else n + symS sh s) r

structure ShOk (n : Nat) (sh : List Int) : Prop where
  len : sh.length = n
  v : ∀ v ∈ sh, -1 ≤ v ∧ v ≤ 1048577

theorem symS_b {n : Nat} {sh : List Int} (hs : ShOk n sh) (s : SymD) : -1 ≤ symS sh s ∧ symS sh s ≤ 1048577 := by
  unfold symS
  cases s.kind == 1
  · simp
  · simp only [cond_true]
    cases h : sh[s.sort.toNat]? with
    | none => simp
    | some v => exact hs.v v (List.mem_of_getElem? h)
theorem sumS_b {n : Nat} {sh : List Int} (hs : ShOk n sh) : ∀ (r : List SymD) (a : Int), 0 ≤ a ∧ a ≤ 1048577 → -1 ≤ sumS sh a r ∧ sumS sh a r ≤ 1048577
  | [], a, h => by simp only [sumS]; omega
  | s :: r, a, h => by
    have hb := symS_b hs s
    simp only [sumS]
    by_cases hk : symS sh s < 0
    · rw [decide_eq_true hk]; simp
    · rw [decide_eq_false hk]
      simp only [cond_false]
      refine sumS_b hs r _ ?_
      split <;> omega

theorem l50_go {n : Nat} {sh : List Int} (hs : ShOk n sh) {p : ProdD} (hr : ∀ s ∈ p.right, SymV n s) (hl : p.right.length ≤ 31) : ∀ (k i : Nat) (a : Int), i + k = p.right.length → 0 ≤ a ∧ a ≤ 1048577 →
    ∃ e, runL (fun s => L50_0 sh p s.1 s.2) (a, (i : Int)) = some e ∧ (match e with | .k0 => (-1 : Int) | .k1 x => x) = sumS sh a (p.right.drop i)
  | 0, i, a, hi, ha => by
    obtain rfl : i = p.right.length := by omega
    refine ⟨.k1 a, runL_done (by simp [L50_0]), ?_⟩
    rw [List.drop_length]; rfl
  | k + 1, i, a, hi, ha => by
    have hx : p.right[i]? = some p.right[i] := List.getElem?_eq_getElem (by omega)
    have hd : p.right.drop i = p.right[i] :: p.right.drop (i + 1) := (List.drop_eq_getElem_cons (by omega))
    have hv := hr p.right[i] (List.getElem_mem _)
    have hb := symS_b hs p.right[i]
    rw [hd]
    simp only [sumS]
    have hstep : L50_0 sh p a (i : Int) = some (bif decide (symS sh p.right[i] < 0) then .inl .k0 else .inr ((if 1048577 < a + symS sh p.right[i] then 1048577 else a + symS sh p.right[i]), ((i + 1 : Nat) : Int))) := by
      simp only [L50_0, getI_nat, hx, Option.bind_some, decide_eq_true (show (i : Int) < (p.right.length : Int) by omega), cond_true, w_S (show i < 4611686018427387904 by omega)]
      rcases hv.k with k0 | k1
      · have : symS sh p.right[i] = 1 := by unfold symS; rw [k0]; rfl
        rw [this, k0, w_id (by omega)]
        rfl
      · obtain ⟨h1, h2⟩ := hv.sort k1
        obtain ⟨v, hg⟩ : ∃ v, sh[p.right[i].sort.toNat]? = some v := ⟨sh[p.right[i].sort.toNat]'(by have := hs.len; omega), List.getElem?_eq_getElem _⟩
        have hgi : getI sh p.right[i].sort = some v := getI_some.2 ⟨h1, hg⟩
        have : symS sh p.right[i] = v := by unfold symS; rw [k1, hg]; rfl
        rw [← this] at hgi
        have hw : IntKind.wrap .i64 (a + symS sh p.right[i]) = a + symS sh p.right[i] := w_id (by omega)
        rw [k1, hgi]
        simp only [beq_self_eq_true, cond_true, Option.bind_some, hw]
        cases decide (symS sh p.right[i] < 0) <;> rfl
    by_cases hk : symS sh p.right[i] < 0
    · rw [decide_eq_true hk] at hstep ⊢
      exact ⟨.k0, runL_done hstep, rfl⟩
    · rw [decide_eq_false hk] at hstep ⊢
      rw [runL_next hstep]
      exact l50_go hs hr hl k (i + 1) _ (by omega) (by split <;> omega)
theorem q50 {n : Nat} {sh : List Int} (hs : ShOk n sh) {p : ProdD} (hr : ∀ s ∈ p.right, SymV n s) (hl : p.right.length ≤ 31) : F50 p sh = some (sumS sh 0 p.right) := by
  obtain ⟨e, h1, h2⟩ := l50_go hs hr hl p.right.length 0 0 (by omega) (by omega)
  rw [List.drop_zero] at h2
  unfold F50
  rw [← h2]
  have e0 : ((0 : Nat) : Int) = 0 := rfl
  rw [e0] at h1
  rw [h1]
  cases e <;> rfl
theorem q48 {n : Nat} {sh : List Int} (hs : ShOk n sh) {p : ProdD} (hr : ∀ s ∈ p.right, SymV n s) (hl : p.right.length ≤ 31) : F48 sh p = some (sumS sh 0 p.right) := by
  have : ∀ s : Int × Int, L48_0 sh p (p.right.length : Int) s.1 s.2 = (L50_0 sh p s.1 s.2).map fun x => match x with | .inl .k0 => .inl .k0 | .inl (.k1 v) => .inl (.k1 v) | .inr s => .inr s := by
    intro s
    unfold L48_0 L50_0
    cases decide (s.2 < (p.right.length : Int))
    · rfl
    · simp only [cond_true]
      cases getI p.right s.2 with
      | none => rfl
      | some x =>
        simp only [Option.bind_some]
        cases x.kind == 1
        · rfl
        · simp only [cond_true]
          cases getI sh x.sort with
          | none => rfl
          | some v => simp only [Option.bind_some]; cases decide (v < 0) <;> rfl
  have key : ∀ s e, Iter (fun s => L50_0 sh p s.1 s.2) s e → Iter (fun s => L48_0 sh p (p.right.length : Int) s.1 s.2) s (match e with | .k0 => E_L48_0.k0 | .k1 v => .k1 v) := by
    intro s e h
    induction h with
    | done h => refine .done ?_; simp only [this, h, Option.map_some]; rename_i e; cases e <;> rfl
    | next h _ ih => exact .next (by simp only [this, h, Option.map_some]) ih
  obtain ⟨e, h1, h2⟩ := l50_go hs hr hl p.right.length 0 0 (by omega) (by omega)
  rw [List.drop_zero] at h2
  have e0 : ((0 : Nat) : Int) = 0 := rfl
  rw [e0] at h1
  have h3 := runL_iff.2 (key _ _ (runL_iff.1 h1))
  unfold F48
  rw [← h2, h3]
  cases e <;> rfl
end Go.Proofs.Tryd
namespace Go.Proofs.Tryd
set_option linter.unusedSimpArgs false
set_option linter.unusedVariables false
open Go Go.Vs

def old (sh : List Int) (p : ProdD) : Int := (sh[p.left.toNat]?).getD 0
def upd (sh : List Int) (p : ProdD) : Bool × List Int :=
  bif (p.role != 11) && (decide (0 ≤ sumS sh 0 p.right) && (decide (old sh p < 0) || decide (sumS sh 0 p.right < old sh p))) then (true, sh.set p.left.toNat (sumS sh 0 p.right)) else (false, sh)
def swp : List ProdD → Bool → List Int → Bool × List Int
  | [], b, sh => (b, sh)
  | p :: ps, b, sh => swp ps (b || (upd sh p).1) (upd sh p).2
def nulOf (sh : List Int) : List Bool := sh.map fun v => v == 0

def mu1 (v : Int) : Nat := bif decide (v < 0) then 1048578 else v.toNat
def mu (sh : List Int) : Nat := (sh.map mu1).sum

theorem sum_set {l : List Nat} : ∀ (k : Nat) (x y : Nat), l[k]? = some y → (l.set k x).sum + y = l.sum + x := by
  induction l with
  | nil => intro k x y h; simp at h
  | cons a l ih =>
    intro k x y h
    cases k with
    | zero => simp at h; subst h; simp [Nat.add_comm, Nat.add_left_comm]; 
    | succ k =>
      simp only [List.set_cons_succ, List.sum_cons]
      have := ih k x y (by simpa using h)
      omega

section
variable {n : Nat} {sh : List Int} {p : ProdD}
theorem old_get (hs : ShOk n sh) (hp : ProdV n p) : sh[p.left.toNat]? = some (old sh p) := by
  have h := hs.len
  have h2 := hp.left
  have : sh[p.left.toNat]? = some (sh[p.left.toNat]'(by omega)) := List.getElem?_eq_getElem _
  unfold old
  rw [this]
  rfl
theorem upd_ok (hs : ShOk n sh) (hp : ProdV n p) : ShOk n (upd sh p).2 := by
  unfold upd
  cases (p.role != 11) && (decide (0 ≤ sumS sh 0 p.right) && (decide (old sh p < 0) || decide (sumS sh 0 p.right < old sh p)))
  · exact hs
  · refine ⟨by simpa using hs.len, fun v hv => ?_⟩
    rcases List.mem_or_eq_of_mem_set hv with h | h
    · exact hs.v v h
    · rw [h]; exact sumS_b hs p.right 0 (by omega)
theorem upd_mu (hs : ShOk n sh) (hp : ProdV n p) : ((upd sh p).1 = true → mu (upd sh p).2 < mu sh) ∧ ((upd sh p).1 = false → (upd sh p).2 = sh) := by
  unfold upd
  cases hc : (p.role != 11) && (decide (0 ≤ sumS sh 0 p.right) && (decide (old sh p < 0) || decide (sumS sh 0 p.right < old sh p)))
  · exact ⟨fun h => by simp at h, fun _ => rfl⟩
  · refine ⟨fun _ => ?_, fun h => by simp at h⟩
    simp only [cond_true]
    simp only [Bool.and_eq_true, Bool.or_eq_true, decide_eq_true_eq] at hc
    obtain ⟨_, h0, h1⟩ := hc
    have hg := old_get hs hp
    have hb := sumS_b hs p.right 0 (by omega)
    have hv := hs.v _ (List.mem_of_getElem? hg)
    have := sum_set (l := sh.map mu1) p.left.toNat (mu1 (sumS sh 0 p.right)) (mu1 (old sh p)) (by rw [List.getElem?_map, hg]; rfl)
    unfold mu
    rw [List.map_set]
    have hlt : mu1 (sumS sh 0 p.right) < mu1 (old sh p) := by
      unfold mu1
      rw [decide_eq_false (by omega : ¬ sumS sh 0 p.right < 0)]
      by_cases hh : old sh p < 0
      · rw [decide_eq_true hh]; simp only [cond_false, cond_true]; omega
      · rw [decide_eq_false hh]; simp only [cond_false]; omega
    omega
end

theorem swp_ok {n : Nat} : ∀ (ps : List ProdD) (b : Bool) (sh : List Int), (∀ p ∈ ps, ProdV n p) → ShOk n sh → ShOk n (swp ps b sh).2
  | [], b, sh, _, hs => hs
  | p :: ps, b, sh, hp, hs => swp_ok ps _ _ (fun q hq => hp q (List.mem_cons_of_mem _ hq)) (upd_ok hs (hp p (List.mem_cons_self ..)))
theorem swp_mu {n : Nat} : ∀ (ps : List ProdD) (b : Bool) (sh : List Int), (∀ p ∈ ps, ProdV n p) → ShOk n sh → mu (swp ps b sh).2 ≤ mu sh ∧ ((swp ps b sh).1 = true → b = true ∨ mu (swp ps b sh).2 < mu sh) ∧ ((swp ps b sh).1 = false → b = false ∧ (swp ps b sh).2 = sh)
  | [], b, sh, _, hs => ⟨Nat.le_refl _, fun h => .inl h, fun h => ⟨h, rfl⟩⟩
  | p :: ps, b, sh, hp, hs => by
    have hpp := hp p (List.mem_cons_self ..)
    obtain ⟨u1, u2⟩ := upd_mu hs hpp
    obtain ⟨h1, h2, h3⟩ := swp_mu ps (b || (upd sh p).1) (upd sh p).2 (fun q hq => hp q (List.mem_cons_of_mem _ hq)) (upd_ok hs hpp)
    simp only [swp]
    cases hu : (upd sh p).1 with
    | true =>
      have := u1 hu
      rw [hu] at h1 h2 h3
      refine ⟨by omega, fun _ => .inr (by omega), fun h => ?_⟩
      have := (h3 h).1
      simp at this
    | false =>
      have := u2 hu
      rw [hu, this, Bool.or_false] at h1 h2 h3
      rw [this, Bool.or_false]
      exact ⟨h1, h2, h3⟩

theorem swp_Q {n : Nat} {Q : List Int → Prop} {all : List ProdD} (hQ : ∀ s p, p ∈ all → ShOk n s → Q s → Q (upd s p).2) (hall : ∀ p ∈ all, ProdV n p) : ∀ (ps : List ProdD) (b : Bool) (sh : List Int), (∀ p ∈ ps, p ∈ all) → ShOk n sh → Q sh → Q (swp ps b sh).2
  | [], b, sh, _, _, h => h
  | p :: ps, b, sh, hp, hs, h => swp_Q hQ hall ps _ _ (fun q hq => hp q (List.mem_cons_of_mem _ hq)) (upd_ok hs (hall p (hp p (List.mem_cons_self ..)))) (hQ sh p (hp p (List.mem_cons_self ..)) hs h)

section
variable {g : GramD} {n : Nat}
theorem l16_0 (hg : GramOk g) (hv : GramV g) (hn : n = g.sorts.length) : ∀ (k i : Nat) (b : Bool) (sh : List Int), i + k = g.prods.length → ShOk n sh →
    runL (fun s => L16_0 n g s.1 s.2.1 s.2.2) (b, (i : Int), sh) = some (.k0 (swp (g.prods.drop i) b sh).1 (swp (g.prods.drop i) b sh).2)
  | 0, i, b, sh, hi, hs => by
    obtain rfl : i = g.prods.length := by omega
    rw [List.drop_length]
    exact runL_done (by simp [L16_0, swp])
  | k + 1, i, b, sh, hi, hs => by
    have hgp := hg.prods
    have hx : g.prods[i]? = some g.prods[i] := List.getElem?_eq_getElem (by omega)
    have hd : g.prods.drop i = g.prods[i] :: g.prods.drop (i + 1) := (List.drop_eq_getElem_cons (by omega))
    generalize hp : g.prods[i] = p at hx hd
    have hmem : p ∈ g.prods := List.mem_of_getElem? hx
    have hpv : ProdV n p := by rw [hn]; exact hv.prod p hmem
    have hlen := hpv.len
    rw [hd]
    simp only [swp]
    have hstep : L16_0 n g b (i : Int) sh = some (.inr (b || (upd sh p).1, ((i + 1 : Nat) : Int), (upd sh p).2)) := by
      have ht : sh.take n = sh := List.take_of_length_le (by rw [hs.len]; exact Nat.le_refl _)
      have hle : decide (n ≤ sh.length) = true := decide_eq_true (by rw [hs.len]; exact Nat.le_refl _)
      have hix : ixN n p.left = some p.left.toNat := ixN_some.2 ⟨by have := hpv.left; omega, by have := hpv.left; omega⟩
      simp only [L16_0, getI_nat, hx, Option.bind_some, decide_eq_true (show (i : Int) < (g.prods.length : Int) by omega), cond_true, hle, ht, q50 hs hpv.right (by omega), F51, hix, old_get hs hpv, w_S (show i < 4611686018427387904 by omega), upd]
      cases p.role != 11 with
      | false => simp
      | true =>
        simp only [cond_true, Bool.true_and]
        by_cases h0 : sumS sh 0 p.right ≥ 0
        · rw [decide_eq_true h0]
          cases decide (old sh p < 0) <;> cases decide (sumS sh 0 p.right < old sh p) <;> simp
        · rw [decide_eq_false h0]
          simp
    rw [runL_next hstep]
    exact l16_0 hg hv hn k (i + 1) _ _ (by omega) (upd_ok hs hpv)

theorem q69 {p : ProdD} {sh : List Int} (hs : ShOk n sh) (hpv : ProdV n p) (hr : (p.role != 11) = true) : F69 p sh (nulOf sh) n = some (.k0 (upd sh p).1 (upd sh p).2 (nulOf (upd sh p).2)) := by
  have hlen := hpv.len
  have ht : sh.take n = sh := List.take_of_length_le (by rw [hs.len]; exact Nat.le_refl _)
  have hle : decide (n ≤ sh.length) = true := decide_eq_true (by rw [hs.len]; exact Nat.le_refl _)
  have hle2 : decide (n ≤ (nulOf sh).length) = true := decide_eq_true (by unfold nulOf; rw [List.length_map, hs.len]; exact Nat.le_refl _)
  have hix : ixN n p.left = some p.left.toNat := ixN_some.2 ⟨by have := hpv.left; omega, by have := hpv.left; omega⟩
  have hnul : (nulOf sh)[p.left.toNat]? = some (old sh p == 0) := by unfold nulOf; rw [List.getElem?_map, old_get hs hpv]; rfl
  have hset : (nulOf sh).set p.left.toNat (sumS sh 0 p.right == 0) = nulOf (sh.set p.left.toNat (sumS sh 0 p.right)) := by unfold nulOf; rw [List.map_set]
  simp only [F69, hle, hle2, ht, cond_true, q48 hs hpv.right (show p.right.length ≤ 31 by omega), Option.bind_some, hix, old_get hs hpv, hnul, hset, upd, hr, Bool.true_and]
  by_cases h0 : sumS sh 0 p.right < 0
  · rw [decide_eq_true h0, decide_eq_false (show ¬ 0 ≤ sumS sh 0 p.right by omega)]
    simp
  · rw [decide_eq_false h0, decide_eq_true (show 0 ≤ sumS sh 0 p.right by omega)]
    by_cases h1 : old sh p < 0
    · rw [decide_eq_true h1, decide_eq_false (show ¬ old sh p ≥ 0 by omega)]
      simp
    · rw [decide_eq_false h1, decide_eq_true (show old sh p ≥ 0 by omega)]
      by_cases h2 : sumS sh 0 p.right < old sh p
      · rw [decide_eq_true h2, decide_eq_false (show ¬ old sh p ≤ sumS sh 0 p.right by omega)]
        simp
      · rw [decide_eq_false h2, decide_eq_true (show old sh p ≤ sumS sh 0 p.right by omega)]
        simp

theorem l46_0 (hg : GramOk g) (hv : GramV g) (hn : n = g.sorts.length) : ∀ (k i : Nat) (b : Bool) (sh : List Int), i + k = g.prods.length → ShOk n sh →
    runL (fun s => L46_0 g (g.prods.length : Int) n s.1 s.2.1 s.2.2.1 s.2.2.2) (b, (i : Int), sh, nulOf sh) = some (.k0 (swp (g.prods.drop i) b sh).1 (swp (g.prods.drop i) b sh).2 (nulOf (swp (g.prods.drop i) b sh).2))
  | 0, i, b, sh, hi, hs => by
    obtain rfl : i = g.prods.length := by omega
    rw [List.drop_length]
    exact runL_done (by simp [L46_0, swp])
  | k + 1, i, b, sh, hi, hs => by
    have hgp := hg.prods
    have hx : g.prods[i]? = some g.prods[i] := List.getElem?_eq_getElem (by omega)
    have hd : g.prods.drop i = g.prods[i] :: g.prods.drop (i + 1) := (List.drop_eq_getElem_cons (by omega))
    generalize hp : g.prods[i] = p at hx hd
    have hmem : p ∈ g.prods := List.mem_of_getElem? hx
    have hpv : ProdV n p := by rw [hn]; exact hv.prod p hmem
    rw [hd]
    simp only [swp]
    have hstep : L46_0 g (g.prods.length : Int) n b (i : Int) sh (nulOf sh) = some (.inr (b || (upd sh p).1, ((i + 1 : Nat) : Int), (upd sh p).2, nulOf (upd sh p).2)) := by
      simp only [L46_0, getI_nat, hx, Option.bind_some, decide_eq_true (show (i : Int) < (g.prods.length : Int) by omega), cond_true, F54, w_S (show i < 4611686018427387904 by omega)]
      cases hr : p.role != 11 with
      | false => simp [upd, hr]
      | true =>
        simp only [cond_true, q69 hs hpv hr, Option.bind_some]
        cases (upd sh p).1 <;> simp
    rw [runL_next hstep]
    exact l46_0 hg hv hn k (i + 1) _ _ (by omega) (upd_ok hs hpv)

theorem fix (hg : GramOk g) (hv : GramV g) (hn : n = g.sorts.length) : ∀ (m : Nat) (sh : List Int), mu sh ≤ m → ShOk n sh →
    ∃ sh', ShOk n sh' ∧ runL (fun s => L16_1 n g s.1 s.2) (true, sh) = some (.k0 sh') ∧ runL (fun s => L46_1 g n s.1 s.2) (sh, nulOf sh) = some (.k0 sh' (nulOf sh')) ∧ swp g.prods false sh' = (false, sh') ∧
      ∀ Q : List Int → Prop, (∀ s p, p ∈ g.prods → ShOk n s → Q s → Q (upd s p).2) → Q sh → Q sh' := by
  intro m
  induction m with
  | zero =>
    intro sh hm hs
    have hps : ∀ p ∈ g.prods, ProdV n p := fun p hp => by rw [hn]; exact hv.prod p hp
    obtain ⟨h1, h2, h3⟩ := swp_mu g.prods false sh hps hs
    have hf : (swp g.prods false sh).1 = false := by
      cases h : (swp g.prods false sh).1 with
      | false => rfl
      | true => rcases h2 h with h | h; cases h; omega
    obtain ⟨_, he⟩ := h3 hf
    have e0 : ((0 : Nat) : Int) = 0 := rfl
    have q1 := l16_0 hg hv hn g.prods.length 0 false sh (by omega) hs
    have q2 := l46_0 hg hv hn g.prods.length 0 false sh (by omega) hs
    rw [List.drop_zero, hf, he, e0] at q1 q2
    refine ⟨sh, hs, ?_, ?_, Prod.ext hf he, fun Q _ h => h⟩
    · rw [runL_next (s' := (false, sh)) (by simp only [L16_1, cond_true, q1, Option.bind_some])]
      exact runL_done (by simp [L16_1])
    · exact runL_done (by simp only [L46_1, q2, Option.bind_some, cond_false])
  | succ m ih =>
    intro sh hm hs
    have hps : ∀ p ∈ g.prods, ProdV n p := fun p hp => by rw [hn]; exact hv.prod p hp
    obtain ⟨h1, h2, h3⟩ := swp_mu g.prods false sh hps hs
    have e0 : ((0 : Nat) : Int) = 0 := rfl
    have q1 := l16_0 hg hv hn g.prods.length 0 false sh (by omega) hs
    have q2 := l46_0 hg hv hn g.prods.length 0 false sh (by omega) hs
    cases hf : (swp g.prods false sh).1 with
    | false =>
      obtain ⟨_, he⟩ := h3 hf
      rw [List.drop_zero, hf, he, e0] at q1 q2
      refine ⟨sh, hs, ?_, ?_, Prod.ext hf he, fun Q _ h => h⟩
      · rw [runL_next (s' := (false, sh)) (by simp only [L16_1, cond_true, q1, Option.bind_some])]
        exact runL_done (by simp [L16_1])
      · exact runL_done (by simp only [L46_1, q2, Option.bind_some, cond_false])
    | true =>
      have hlt : mu (swp g.prods false sh).2 < mu sh := by rcases h2 hf with h | h; cases h; exact h
      obtain ⟨sh', k1, k2, k3, k4, k5⟩ := ih (swp g.prods false sh).2 (by omega) (swp_ok g.prods false sh hps hs)
      rw [List.drop_zero, hf, e0] at q1 q2
      refine ⟨sh', k1, ?_, ?_, k4, fun Q hQ h => k5 Q hQ (swp_Q hQ hps g.prods false sh (fun p hp => hp) hs h)⟩
      · rw [runL_next (s' := (true, (swp g.prods false sh).2)) (by simp only [L16_1, cond_true, q1, Option.bind_some])]
        exact k2
      · rw [runL_next (s' := ((swp g.prods false sh).2, nulOf (swp g.prods false sh).2)) (by simp only [L46_1, q2, Option.bind_some, cond_true])]
        exact k3
theorem l16_2 (hn : n ≤ 40) : ∀ (k i : Nat), i + k = n → runL (fun s => L16_2 n s.1 s.2) ((i : Int), List.replicate i (-1) ++ List.replicate k 0) = some (.k0 (List.replicate n (-1)))
  | 0, i, hi => by
    obtain rfl : i = n := by omega
    simp only [List.replicate_zero, List.append_nil]
    exact runL_done (by simp [L16_2])
  | k + 1, i, hi => by
    have hstep : L16_2 n (i : Int) (List.replicate i (-1) ++ List.replicate (k + 1) 0) = some (.inr (((i + 1 : Nat) : Int), List.replicate (i + 1) (-1) ++ List.replicate k 0)) := by
      have h1 : (List.replicate i (-1 : Int) ++ List.replicate (k + 1) 0)[i]? = some 0 := by
        rw [List.getElem?_append_right (by simp)]; simp
      have h2 : (List.replicate i (-1 : Int) ++ List.replicate (k + 1) 0).set i (-1) = List.replicate (i + 1) (-1) ++ List.replicate k 0 := by
        rw [List.set_append_right _ _ (by simp), List.length_replicate, Nat.sub_self, List.replicate_succ, List.set_cons_zero, List.replicate_succ', List.append_assoc]
        rfl
      simp only [L16_2, decide_eq_true (show (i : Int) < (n : Int) by omega), cond_true, ixN_nat, if_pos (show i < n by omega), Option.bind_some, h1, h2, w_S (show i < 4611686018427387904 by omega)]
    rw [runL_next hstep]
    exact l16_2 hn k (i + 1) (by omega)
theorem l45_0 (hn : n ≤ 40) : ∀ (k i : Nat), i + k = n → runL (fun s => L45_0 (n : Int) n s.1 s.2) ((i : Int), List.replicate i (-1) ++ List.replicate k 0) = some (.k0 (List.replicate n (-1)))
  | 0, i, hi => by
    obtain rfl : i = n := by omega
    simp only [List.replicate_zero, List.append_nil]
    exact runL_done (by simp [L45_0])
  | k + 1, i, hi => by
    have hstep : L45_0 (n : Int) n (i : Int) (List.replicate i (-1) ++ List.replicate (k + 1) 0) = some (.inr (((i + 1 : Nat) : Int), List.replicate (i + 1) (-1) ++ List.replicate k 0)) := by
      have h1 : (List.replicate i (-1 : Int) ++ List.replicate (k + 1) 0)[i]? = some 0 := by
        rw [List.getElem?_append_right (by simp)]; simp
      have h2 : (List.replicate i (-1 : Int) ++ List.replicate (k + 1) 0).set i (-1) = List.replicate (i + 1) (-1) ++ List.replicate k 0 := by
        rw [List.set_append_right _ _ (by simp), List.length_replicate, Nat.sub_self, List.replicate_succ, List.set_cons_zero, List.replicate_succ', List.append_assoc]
        rfl
      simp only [L45_0, decide_eq_true (show (i : Int) < (n : Int) by omega), cond_true, ixN_nat, if_pos (show i < n by omega), Option.bind_some, h1, h2, w_S (show i < 4611686018427387904 by omega)]
    rw [runL_next hstep]
    exact l45_0 hn k (i + 1) (by omega)

theorem mk8 {k : Nat} (h : k ≤ 40) : mkOk (k : Int) 8 = true := by
  unfold mkOk limit47
  exact decide_eq_true (by omega)
theorem mk1 {k : Nat} (h : k ≤ 40) : mkOk (k : Int) 1 = true := by
  unfold mkOk limit47
  exact decide_eq_true (by omega)
theorem sh0 : ShOk n (List.replicate n (-1)) := ⟨by simp, fun v hv => by rw [List.eq_of_mem_replicate hv]; omega⟩
theorem nul0 : nulOf (List.replicate n (-1)) = List.replicate n false := by unfold nulOf; simp

/-- Shortest: both answers, and what is known of them. -/
theorem shortest (hg : GramOk g) (hc : chkB g = true) : ∃ sh, ShOk g.sorts.length sh ∧ F16 g = some sh ∧ F45 g = some (.k1 g.sorts g.prods g.start g.forbid g.follow sh (nulOf sh)) ∧ swp g.prods false sh = (false, sh) ∧
    ∀ Q : List Int → Prop, (∀ s p, p ∈ g.prods → ShOk g.sorts.length s → Q s → Q (upd s p).2) → Q (List.replicate g.sorts.length (-1)) → Q sh := by
  have hv := val_of hc
  have h40 := hg.sorts
  obtain ⟨sh, k1, k2, k3, k4, k5⟩ := fix hg hv rfl (mu (List.replicate g.sorts.length (-1))) (List.replicate g.sorts.length (-1)) (Nat.le_refl _) sh0
  have a1 := l16_2 h40 g.sorts.length 0 (by omega)
  have a2 := l45_0 h40 g.sorts.length 0 (by omega)
  have e0 : ((0 : Nat) : Int) = 0 := rfl
  simp only [List.replicate_zero, List.nil_append, e0] at a1 a2
  rw [nul0] at k3
  have hle : decide (g.sorts.length ≤ sh.length) = true := decide_eq_true (by rw [k1.len]; exact Nat.le_refl _)
  have ht : sh.take g.sorts.length = sh := List.take_of_length_le (by rw [k1.len]; exact Nat.le_refl _)
  have hnl : (nulOf sh).length = g.sorts.length := by unfold nulOf; rw [List.length_map, k1.len]
  have hle2 : decide (g.sorts.length ≤ (nulOf sh).length) = true := decide_eq_true (by rw [hnl]; exact Nat.le_refl _)
  have ht2 : (nulOf sh).take g.sorts.length = nulOf sh := List.take_of_length_le (by rw [hnl]; exact Nat.le_refl _)
  have h45 : F45 g = some (.k1 g.sorts g.prods g.start g.forbid g.follow sh (nulOf sh)) := by
    unfold F45
    rw [q29 hg]
    simp only [Option.bind_some, chkN, hc, cond_true, show ((0 : Int) != 0) = false from rfl, cond_false, mk8 h40, mk1 h40, Int.toNat_natCast, a2, F46, k3, hle, ht, hle2, ht2]
  refine ⟨sh, k1, ?_, h45, k4, k5⟩
  unfold F16
  simp only [mk8 h40, cond_true, Int.toNat_natCast, a1, Option.bind_some, k2, hle, ht]
theorem shortest_no (hg : GramOk g) (hc : chkB g = false) : F45 g = some (.k0 160) := by
  unfold F45
  rw [q29 hg]
  simp [chkN, hc]
end
end Go.Proofs.Tryd
namespace Go.Proofs.Tryd
set_option linter.unusedSimpArgs false
set_option linter.unusedVariables false
open Go Go.Vs

/-- Has a production only sets, and sorts that are told? -/
def canB (is : List Bool) (p : ProdD) : Bool := (p.role != 11) && allF (fun _ (s : SymD) => !(s.kind == 1) || (is[s.sort.toNat]?).getD false) 0 p.right
def updP (is : List Bool) (p : ProdD) : List Bool := bif canB is p then is.set p.left.toNat true else is
def swpP (g : GramD) (is : List Bool) : List Bool := g.prods.foldl updP is

section
variable {g : GramD} {n : Nat}

theorem q56 {is : List Bool} {p : ProdD} (hl : is.length = n) (hp : ProdV n p) : F56 p is = some (canB is p) := by
  have hlen := hp.len
  have key : runL (fun s => L56_0 is p s) 0 = some (bif allF (fun _ (s : SymD) => !(s.kind == 1) || (is[s.sort.toNat]?).getD false) 0 p.right then E_L56_0.k1 else E_L56_0.k0) := by
    refine loop_list (fun _ (s : SymD) => !(s.kind == 1) || (is[s.sort.toNat]?).getD false) (fun i s hx => ?_) ?_
    · have hi : i < p.right.length := (List.getElem?_eq_some_iff.1 hx).1
      have hv := hp.right s (List.mem_of_getElem? hx)
      simp only [L56_0, getI_nat, hx, Option.bind_some, decide_eq_true (show (i : Int) < (p.right.length : Int) by omega), cond_true, w_S (show i < 4611686018427387904 by omega)]
      rcases hv.k with k0 | k1
      · rw [k0]; rfl
      · obtain ⟨h0, h1⟩ := hv.sort k1
        have hg : is[s.sort.toNat]? = some (is[s.sort.toNat]'(by omega)) := List.getElem?_eq_getElem _
        have hgi : getI is s.sort = some (is[s.sort.toNat]'(by omega)) := getI_some.2 ⟨h0, hg⟩
        rw [k1, hgi, hg]
        simp only [beq_self_eq_true, cond_true, Option.bind_some, Bool.not_true, Bool.false_or, Option.getD_some]
        cases is[s.sort.toNat]'(by omega) <;> rfl
    · simp [L56_0]
  unfold F56 canB
  rw [key]
  by_cases hr : p.role = 11
  · rw [hr]; rfl
  · rw [beqF hr, bneT hr]
    cases allF (fun _ (s : SymD) => !(s.kind == 1) || (is[s.sort.toNat]?).getD false) 0 p.right <;> rfl

theorem updP_len {is : List Bool} (p : ProdD) : (updP is p).length = is.length := by
  unfold updP
  cases canB is p <;> simp
theorem updP_le (is : List Bool) (p : ProdD) : leB is (updP is p) := by
  unfold updP
  cases canB is p
  · exact leB.refl _
  · exact leB_set _
theorem foldP_le : ∀ (ps : List ProdD) (is : List Bool), leB is (ps.foldl updP is)
  | [], is => leB.refl _
  | p :: ps, is => (updP_le is p).trans (foldP_le ps _)

theorem l25_0 (hg : GramOk g) (hv : GramV g) (hn : n = g.sorts.length) {is : List Bool} (hl : is.length = n) : runL (fun s => L25_0 n g s.1 s.2) (0, is) = some (.k0 (swpP g is)) := by
  have hgp := hg.prods
  have := loop_foldl (step := fun s => L25_0 n g s.1 s.2) (l := g.prods) (emb := fun i a => ((i : Int), a)) updP E_L25_0.k0 (fun a => a.length = n) (fun i p a hx ha => by
    have hi : i < g.prods.length := (List.getElem?_eq_some_iff.1 hx).1
    have hpv : ProdV n p := by rw [hn]; exact hv.prod p (List.mem_of_getElem? hx)
    have hpl := hpv.left
    have ht : a.take n = a := List.take_of_length_le (by omega)
    have hle : decide (n ≤ a.length) = true := decide_eq_true (by omega)
    have hix : ixN n p.left = some p.left.toNat := ixN_some.2 ⟨by omega, by omega⟩
    have hga : a[p.left.toNat]? = some (a[p.left.toNat]'(by omega)) := List.getElem?_eq_getElem _
    refine ⟨?_, (updP_len p).trans ha⟩
    simp only [L25_0, getI_nat, hx, Option.bind_some, decide_eq_true (show (i : Int) < (g.prods.length : Int) by omega), cond_true, hle, ht, q56 ha hpv, hix, hga, w_S (show i < 4611686018427387904 by omega), updP]
    cases canB a p <;> rfl) (fun a _ => by simp [L25_0]) g.prods.length 0 is (by omega) hl
  rw [List.drop_zero] at this
  exact this

theorem swpP_len (is : List Bool) : (swpP g is).length = is.length := (foldP_le g.prods is).1.symm
theorem swpP_le (is : List Bool) : leB is (swpP g is) := foldP_le g.prods is

theorem fixP (hl : ∀ a : List Bool, a.length = n → True) {is : List Bool} (h : is.length = n) : swpP g (itN (swpP g) n is) = itN (swpP g) n is :=
  itN_fix cnt n (fun a => a.length = n) (fun a ha => (swpP_len a).trans ha) (fun a _ hne => (leB_cnt (swpP_le a)).2 hne) (fun a ha => by have := cnt_le a; omega) n is h (by omega)

/-- Productive, the document's: rounds as many as there are sorts. -/
theorem q25 (hg : GramOk g) (hv : GramV g) : F25 g = some (itN (swpP g) g.sorts.length (List.replicate g.sorts.length false)) := by
  have h40 := hg.sorts
  have key := loop_foldl (step := fun s => L25_1 g.sorts.length g s.1 s.2) (l := g.sorts) (emb := fun i a => ((i : Int), a)) (fun a _ => swpP g a) E_L25_1.k0 (fun a => a.length = g.sorts.length) (fun i p a hx ha => by
    have hi : i < g.sorts.length := (List.getElem?_eq_some_iff.1 hx).1
    refine ⟨?_, (swpP_len a).trans ha⟩
    simp only [L25_1, decide_eq_true (show (i : Int) < (g.sorts.length : Int) by omega), cond_true, l25_0 hg hv rfl ha, Option.bind_some, w_S (show i < 4611686018427387904 by omega)]) (fun a _ => by simp [L25_1]) g.sorts.length 0 (List.replicate g.sorts.length false) (by omega) (by simp)
  rw [List.drop_zero, foldl_const] at key
  have e0 : ((0 : Nat) : Int) = 0 := rfl
  rw [e0] at key
  have hlen : (itN (swpP g) g.sorts.length (List.replicate g.sorts.length false)).length = g.sorts.length :=
    itN_inv (Inv := fun a => a.length = g.sorts.length) (fun a ha => (swpP_len a).trans ha) _ _ (by simp)
  unfold F25
  simp only [mk1 h40, cond_true, Int.toNat_natCast, key, Option.bind_some, hlen, decide_eq_true (Nat.le_refl _)]
  rw [List.take_of_length_le (by omega)]

def liveOf (sh : List Int) : List Bool := sh.map fun v => decide (v ≥ 0)

/-- What has a sum has sorts that are told. -/
theorem sum_all {sh : List Int} (hs : ShOk n sh) : ∀ (r : List SymD) (a : Int), 0 ≤ a ∧ a ≤ 1048577 → ((0 ≤ sumS sh a r) ↔ ∀ s ∈ r, 0 ≤ symS sh s)
  | [], a, h => by simp [sumS]; omega
  | s :: r, a, h => by
    have hb := symS_b hs s
    simp only [sumS]
    by_cases hk : symS sh s < 0
    · rw [decide_eq_true hk]
      simp only [cond_true]
      constructor
      · intro h; omega
      · intro h; have := h s (List.mem_cons_self ..); omega
    · rw [decide_eq_false hk]
      simp only [cond_false]
      rw [sum_all hs r _ (by split <;> omega)]
      constructor
      · intro h2 q hq
        rcases List.mem_cons.1 hq with rfl | hq
        · omega
        · exact h2 q hq
      · intro h2 q hq; exact h2 q (List.mem_cons_of_mem _ hq)

theorem live_at {sh : List Int} (i : Int) : ((liveOf sh)[i.toNat]?).getD false = true ↔ ∃ v, sh[i.toNat]? = some v ∧ 0 ≤ v := by
  unfold liveOf
  rw [List.getElem?_map]
  cases sh[i.toNat]? with
  | none => simp
  | some v => simp

theorem can_sum {sh : List Int} (hs : ShOk n sh) {p : ProdD} (hp : ProdV n p) : canB (liveOf sh) p = true ↔ ((p.role != 11) = true ∧ 0 ≤ sumS sh 0 p.right) := by
  unfold canB
  rw [Bool.and_eq_true, sum_all hs p.right 0 (by omega), allF_iff]
  refine and_congr Iff.rfl ?_
  have key : ∀ s ∈ p.right, (!(s.kind == 1) || ((liveOf sh)[s.sort.toNat]?).getD false) = true ↔ 0 ≤ symS sh s := by
    intro s hs2
    have hv := hp.right s hs2
    rcases hv.k with k0 | k1
    · unfold symS; rw [k0]; simp
    · obtain ⟨h0, h1⟩ := hv.sort k1
      have hl := hs.len
      have hg : sh[s.sort.toNat]? = some (sh[s.sort.toNat]'(by omega)) := List.getElem?_eq_getElem _
      have : symS sh s = sh[s.sort.toNat]'(by omega) := by unfold symS; rw [k1, hg]; rfl
      rw [this, k1]
      simp only [beq_self_eq_true, Bool.not_true, Bool.false_or]
      rw [live_at, hg]
      simp
  constructor
  · intro h s hs2
    obtain ⟨k, hk⟩ := List.getElem?_of_mem hs2
    exact (key s hs2).1 (h k s hk)
  · intro h k s hk
    exact (key s (List.mem_of_getElem? hk)).2 (h s (List.mem_of_getElem? hk))

theorem can_mono {a b : List Bool} (h : leB a b) {p : ProdD} (hc : canB a p = true) : canB b p = true := by
  unfold canB at hc ⊢
  rw [Bool.and_eq_true] at hc ⊢
  refine ⟨hc.1, ?_⟩
  rw [allF_iff] at hc ⊢
  intro k s hk
  have := hc.2 k s hk
  rw [Bool.or_eq_true] at this ⊢
  refine this.imp_right (fun h2 => ?_)
  cases ha : a[s.sort.toNat]? with
  | none => rw [ha] at h2; cases h2
  | some v =>
    rw [ha] at h2
    simp at h2
    subst h2
    rw [h.2 _ ha]
    rfl

/-- A sweep that changes nothing: whoever can has it. -/
theorem fix_can : ∀ (ps : List ProdD) (is : List Bool), ps.foldl updP is = is → ∀ p ∈ ps, canB is p = true → is[p.left.toNat]? = some true ∨ is.length ≤ p.left.toNat
  | [], _, _, p, hp, _ => by simp at hp
  | q :: ps, is, h, p, hp, hc => by
    simp only [List.foldl_cons] at h
    have h1 := updP_le is q
    have h2 := foldP_le ps (updP is q)
    have e : updP is q = is := by
      by_cases hne : updP is q = is
      · exact hne
      · exfalso
        have k1 := (leB_cnt h1).2 hne
        have k2 := (leB_cnt h2).1
        rw [h] at k2
        omega
    rw [e] at h
    rcases List.mem_cons.1 hp with rfl | hp
    · unfold updP at e
      rw [hc] at e
      simp only [cond_true] at e
      by_cases hl : p.left.toNat < is.length
      · left
        rw [← e, List.getElem?_set, if_pos rfl, if_pos hl]
      · right; omega
    · exact fix_can ps is h p hp hc

theorem fix_upd : ∀ (ps : List ProdD) (sh : List Int), (∀ p ∈ ps, ProdV n p) → ShOk n sh → swp ps false sh = (false, sh) → ∀ p ∈ ps, (upd sh p).1 = false
  | [], _, _, _, _, p, hp => by simp at hp
  | q :: ps, sh, hv, hs, h, p, hp => by
    have hq := hv q (List.mem_cons_self ..)
    simp only [swp, Bool.false_or] at h
    obtain ⟨u1, u2⟩ := upd_mu hs hq
    obtain ⟨_, _, h3⟩ := swp_mu ps (upd sh q).1 (upd sh q).2 (fun x hx => hv x (List.mem_cons_of_mem _ hx)) (upd_ok hs hq)
    have hf := (h3 (by rw [h])).1
    rw [hf, u2 hf] at h
    rcases List.mem_cons.1 hp with rfl | hp
    · exact hf
    · exact fix_upd ps sh (fun x hx => hv x (List.mem_cons_of_mem _ hx)) hs h p hp
end
end Go.Proofs.Tryd
namespace Go.Proofs.Tryd
set_option linter.unusedSimpArgs false
set_option linter.unusedVariables false
open Go Go.Vs

theorem leB.antisymm {a b : List Bool} (h : leB a b) (k : leB b a) : a = b := by
  apply List.ext_getElem? 
  intro i
  have h1 := h.2 i
  have h2 := k.2 i
  have hl := h.1
  cases ha : a[i]? with
  | none =>
    have := List.getElem?_eq_none_iff.1 ha
    rw [List.getElem?_eq_none (by omega)]
  | some x =>
    have hi := (List.getElem?_eq_some_iff.1 ha).1
    have hb : b[i]? = some (b[i]'(by omega)) := List.getElem?_eq_getElem _
    rw [ha] at h1 h2
    rw [hb] at h1 h2 ⊢
    cases x <;> cases hy : b[i]'(by omega) <;> simp_all

section
variable {g : GramD} {n : Nat}

/-- What is known of the shortest. -/
structure ShK (g : GramD) (sh : List Int) : Prop where
  ok : ShOk g.sorts.length sh
  fix : swp g.prods false sh = (false, sh)
  ind : ∀ Q : List Int → Prop, (∀ s p, p ∈ g.prods → ShOk g.sorts.length s → Q s → Q (upd s p).2) → Q (List.replicate g.sorts.length (-1)) → Q sh

theorem live_len {sh : List Int} : (liveOf sh).length = sh.length := by simp [liveOf]

theorem live_upd {sh : List Int} (hk : ShK g sh) (hv : GramV g) {p : ProdD} (hp : p ∈ g.prods) (hc : canB (liveOf sh) p = true) : (liveOf sh)[p.left.toNat]? = some true := by
  have hpv := hv.prod p hp
  have hf := fix_upd g.prods sh hv.prod hk.ok hk.fix p hp
  obtain ⟨h1, h2⟩ := (can_sum hk.ok hpv).1 hc
  have hg := old_get hk.ok hpv
  unfold liveOf
  rw [List.getElem?_map, hg]
  unfold upd at hf
  by_cases ho : old sh p < 0
  · rw [h1, decide_eq_true h2, decide_eq_true ho] at hf
    simp at hf
  · simp only [Option.map_some]
    rw [decide_eq_true (by omega)]

theorem can_live {sh : List Int} (hk : ShK g sh) (hv : GramV g) : ∀ (ps : List ProdD) (a : List Bool), (∀ p ∈ ps, p ∈ g.prods) → leB a (liveOf sh) → leB (ps.foldl updP a) (liveOf sh)
  | [], a, _, h => h
  | p :: ps, a, hp, h => by
    refine can_live hk hv ps (updP a p) (fun q hq => hp q (List.mem_cons_of_mem _ hq)) ?_
    unfold updP
    cases hc : canB a p with
    | false => exact h
    | true =>
      have hl := live_upd hk hv (hp p (List.mem_cons_self ..)) (can_mono h hc)
      refine ⟨by simpa using h.1, fun j hj => ?_⟩
      simp only [cond_true, List.getElem?_set] at hj
      by_cases e : p.left.toNat = j
      · subst e; exact hl
      · rw [if_neg e] at hj; exact h.2 j hj

theorem live_eq {sh : List Int} (hk : ShK g sh) (hv : GramV g) : itN (swpP g) g.sorts.length (List.replicate g.sorts.length false) = liveOf sh := by
  have hrl : (List.replicate g.sorts.length false).length = g.sorts.length := by simp
  have hlen : (itN (swpP g) g.sorts.length (List.replicate g.sorts.length false)).length = g.sorts.length :=
    itN_inv (Inv := fun a => a.length = g.sorts.length) (fun a ha => (swpP_len a).trans ha) _ _ hrl
  have hfix := fixP (g := g) (n := g.sorts.length) (fun _ _ => trivial) hrl
  refine leB.antisymm ?_ ?_
  · refine itN_inv (Inv := fun a => leB a (liveOf sh)) (fun a ha => can_live hk hv g.prods a (fun _ h => h) ha) _ _ ⟨?_, fun i hi => ?_⟩
    · rw [live_len, hk.ok.len]; exact hrl
    · rw [List.getElem?_replicate] at hi
      split at hi <;> cases hi
  · generalize itN (swpP g) g.sorts.length (List.replicate g.sorts.length false) = B at hlen hfix
    refine hk.ind (fun s => leB (liveOf s) B) (fun s p hp hs h => ?_) ⟨?_, fun i hi => ?_⟩
    · have hpv := hv.prod p hp
      unfold upd
      cases hc : (p.role != 11) && (decide (0 ≤ sumS s 0 p.right) && (decide (old s p < 0) || decide (sumS s 0 p.right < old s p))) with
      | false => exact h
      | true =>
        simp only [Bool.and_eq_true, decide_eq_true_eq] at hc
        have hcan := can_mono h ((can_sum hs hpv).2 ⟨hc.1, hc.2.1⟩)
        have hB := fix_can g.prods B hfix p hp hcan
        have hl := hpv.left
        refine ⟨by simpa [liveOf] using h.1, fun j hj => ?_⟩
        simp only [cond_true, liveOf, List.map_set, List.getElem?_set] at hj
        by_cases e : p.left.toNat = j
        · subst e; exact hB.resolve_right (by omega)
        · rw [if_neg e] at hj; exact h.2 j hj
    · simp [liveOf, hlen]
    · simp [liveOf, List.getElem?_replicate] at hi

theorem l20_0 {sh : List Int} (h40 : sh.length ≤ 40) : runL (fun s => L20_0 sh.length sh (sh.length : Int) s.1 s.2) (0, List.replicate sh.length false) = some (.k0 (liveOf sh)) := by
  have := loop_map (l := sh) (step := fun s => L20_0 sh.length sh (sh.length : Int) s.1 s.2) (emb := fun i a => ((i : Int), a)) (fun v => decide (v ≥ 0)) E_L20_0.k0 (fun i x out hx ho => by
    have hi : i < sh.length := (List.getElem?_eq_some_iff.1 hx).1
    have hgo : out[i]? = some (out[i]'(by omega)) := List.getElem?_eq_getElem _
    simp only [L20_0, getI_nat, hx, ixN_nat, if_pos hi, hgo, Option.bind_some, decide_eq_true (show (i : Int) < (sh.length : Int) by omega), cond_true, w_S (show i < 4611686018427387904 by omega)]) (fun out ho => by simp [L20_0]) sh.length 0 (List.replicate sh.length false) (by omega) (by simp) (by simp)
  exact this

theorem productive (hg : GramOk g) (hc : chkB g = true) {sh : List Int} (hk : ShK g sh) (h45 : F45 g = some (.k1 g.sorts g.prods g.start g.forbid g.follow sh (nulOf sh))) : F20 g = some (.k0 (liveOf sh) 0) ∧ F25 g = some (liveOf sh) := by
  have hv := val_of hc
  have h40 := hg.sorts
  have hl := hk.ok.len
  constructor
  · have hq := l20_0 (sh := sh) (by omega)
    rw [hl] at hq
    unfold F20
    simp only [h45, Option.bind_some, mk1 h40, cond_true, Int.toNat_natCast, hl, hq, live_len, decide_eq_true (Nat.le_refl _)]
    rw [List.take_of_length_le (by rw [live_len]; omega)]
  · rw [q25 hg hv, live_eq hk hv]
end
end Go.Proofs.Tryd
namespace Go.Proofs.Tryd
set_option linter.unusedSimpArgs false
set_option linter.unusedVariables false
open Go Go.Vs

/-- Sweeps that note whether they changed anything. -/
theorem foldB {α : Type} {f : List Bool → α → List Bool} (hf : ∀ o x, leB o (f o x)) : ∀ (l : List α) (b : Bool) (o : List Bool),
    l.foldl (fun (a : Bool × List Bool) x => (a.1 || decide (f a.2 x ≠ a.2), f a.2 x)) (b, o) = (b || decide (l.foldl f o ≠ o), l.foldl f o)
  | [], b, o => by simp
  | x :: l, b, o => by
    have hle : ∀ (l : List α) (o : List Bool), leB o (l.foldl f o) := by
      intro l
      induction l with
      | nil => intro o; exact leB.refl o
      | cons y l ih => intro o; exact (hf o y).trans (ih _)
    simp only [List.foldl_cons]
    rw [foldB hf l]
    refine Prod.ext ?_ rfl
    simp only
    by_cases e : f o x = o
    · simp [e]
    · have : ¬ l.foldl f (f o x) = o := fun h => e (leB.antisymm (by have := hle l (f o x); rwa [h] at this) (hf o x))
      simp [e, this]

/-- A loop that goes on until nothing changes. -/
theorem loop_until {A E : Type} {step : A → Option (E ⊕ A)} {f : A → A} (fin : A → E) (m : A → Nat) (N : Nat) (Inv : A → Prop) (hI : ∀ a, Inv a → Inv (f a)) (hm : ∀ a, Inv a → f a ≠ a → m a < m (f a)) (hb : ∀ a, Inv a → m a ≤ N)
    (h1 : ∀ a, Inv a → f a ≠ a → step a = some (.inr (f a))) (h2 : ∀ a, Inv a → f a = a → step a = some (.inl (fin a))) : ∀ (k : Nat) (a : A), Inv a → N ≤ m a + k → runL step a = some (fin (itN f k a))
  | 0, a, ha, hk => by
    have e : f a = a := by
      by_cases e : f a = a
      · exact e
      · have := hm a ha e
        have := hb _ (hI a ha)
        omega
    exact runL_done (h2 a ha e)
  | k + 1, a, ha, hk => by
    by_cases e : f a = a
    · rw [itN_fixed e]; exact runL_done (h2 a ha e)
    · have := hm a ha e
      rw [runL_next (h1 a ha e)]
      exact loop_until fin m N Inv hI hm hb h1 h2 k (f a) (hI a ha) (by omega)

/-- One symbol's sort is reached if the production's is. -/
def updS (p : ProdD) (o : List Bool) (s : SymD) : List Bool := bif (s.kind == 1) && (o[p.left.toNat]?).getD false then o.set s.sort.toNat true else o
def updR (o : List Bool) (p : ProdD) : List Bool := bif p.role != 11 then p.right.foldl (updS p) o else o
def swpR (g : GramD) (o : List Bool) : List Bool := g.prods.foldl updR o

theorem updS_le (p : ProdD) (o : List Bool) (s : SymD) : leB o (updS p o s) := by
  unfold updS
  cases (s.kind == 1) && (o[p.left.toNat]?).getD false
  · exact leB.refl _
  · exact leB_set _
theorem foldS_le (p : ProdD) : ∀ (r : List SymD) (o : List Bool), leB o (r.foldl (updS p) o)
  | [], o => leB.refl o
  | s :: r, o => (updS_le p o s).trans (foldS_le p r _)
theorem updR_le (o : List Bool) (p : ProdD) : leB o (updR o p) := by
  unfold updR
  cases p.role != 11
  · exact leB.refl _
  · exact foldS_le p _ _
theorem foldR_le : ∀ (ps : List ProdD) (o : List Bool), leB o (ps.foldl updR o)
  | [], o => leB.refl o
  | p :: ps, o => (updR_le o p).trans (foldR_le ps _)

section
variable {g : GramD} {n : Nat}

theorem at_left {o : List Bool} {p : ProdD} (ho : o.length = n) (hp : ProdV n p) : ixN n p.left = some p.left.toNat ∧ o[p.left.toNat]? = some (o[p.left.toNat]'(by have := hp.left; omega)) := by
  have := hp.left
  exact ⟨ixN_some.2 ⟨by omega, by omega⟩, List.getElem?_eq_getElem _⟩
theorem at_sort {o : List Bool} {s : SymD} (ho : o.length = n) (hs : 0 ≤ s.sort ∧ s.sort < n) : ixN n s.sort = some s.sort.toNat ∧ o[s.sort.toNat]? = some (o[s.sort.toNat]'(by omega)) := by
  exact ⟨ixN_some.2 ⟨by omega, by omega⟩, List.getElem?_eq_getElem _⟩

theorem set_same {o : List Bool} {k : Nat} (h : o[k]? = some true) : o.set k true = o := by
  apply List.ext_getElem?
  intro i
  rw [List.getElem?_set]
  split
  · rename_i e; subst e
    rw [if_pos (List.getElem?_eq_some_iff.1 h).1, h]
  · rfl
theorem set_other {o : List Bool} {k : Nat} (h : o[k]? = some false) : o.set k true ≠ o := by
  intro e
  have := congrArg (fun l : List Bool => l[k]?) e
  simp only [List.getElem?_set, if_true, if_pos (List.getElem?_eq_some_iff.1 h).1, h] at this
  cases this

theorem q72 {p : ProdD} (hp : ProdV n p) {o : List Bool} (ho : o.length = n) (hr : (p.role != 11) = true) : F72 p o n = some (.k0 (decide (updR o p ≠ o)) (updR o p)) := by
  have hlen := hp.len
  have key := loop_foldl (l := p.right) (step := fun s => L72_0 p (p.right.length : Int) n s.1 s.2.1 s.2.2) (emb := fun i (a : Bool × List Bool) => (a.1, (i : Int), a.2)) (fun (a : Bool × List Bool) (x : SymD) => (a.1 || decide (updS p a.2 x ≠ a.2), updS p a.2 x)) (fun a => E_L72_0.k0 a.1 a.2) (fun a => a.2.length = n) (fun i s a hx ha => by
    have hi : i < p.right.length := (List.getElem?_eq_some_iff.1 hx).1
    have hv := hp.right s (List.mem_of_getElem? hx)
    refine ⟨?_, (updS_le p a.2 s).1.symm.trans ha⟩
    obtain ⟨b, o⟩ := a
    simp only at ha
    obtain ⟨h1, h2⟩ := at_left ha hp
    simp only [L72_0, getI_nat, hx, Option.bind_some, decide_eq_true (show (i : Int) < (p.right.length : Int) by omega), cond_true, w_S (show i < 4611686018427387904 by omega), updS]
    rcases hv.k with k0 | k1
    · simp [k0]
    · obtain ⟨h3, h4⟩ := at_sort ha (hv.sort k1)
      simp only [k1, beq_self_eq_true, cond_true, h1, h2, Option.bind_some, Option.getD_some, Bool.true_and]
      cases hx1 : o[p.left.toNat]'(by have := hp.left; omega) with
      | false => simp
      | true =>
        simp only [cond_true, F54_2, hr, Option.bind_some, h3, h4]
        cases hx2 : o[s.sort.toNat]'(by have := hv.sort k1; omega) with
        | true =>
          rw [hx2] at h4
          rw [set_same h4]
          simp
        | false =>
          rw [hx2] at h4
          rw [decide_eq_true (set_other h4)]
          simp) (fun a _ => by simp [L72_0]) p.right.length 0 (false, o) (by omega) ho
  rw [List.drop_zero, foldB (updS_le p), Bool.false_or] at key
  have e0 : ((0 : Nat) : Int) = 0 := rfl
  simp only [e0] at key
  unfold F72
  rw [key]
  unfold updR
  rw [hr]
  rfl

theorem l46_0_2 (hg : GramOk g) (hv : GramV g) (hn : n = g.sorts.length) {o : List Bool} (ho : o.length = n) :
    runL (fun s => L46_0_2 g (g.prods.length : Int) n s.1 s.2.1 s.2.2) (false, 0, o) = some (.k0 (decide (swpR g o ≠ o)) (swpR g o)) := by
  have hgp := hg.prods
  have key := loop_foldl (l := g.prods) (step := fun s => L46_0_2 g (g.prods.length : Int) n s.1 s.2.1 s.2.2) (emb := fun i (a : Bool × List Bool) => (a.1, (i : Int), a.2)) (fun (a : Bool × List Bool) (x : ProdD) => (a.1 || decide (updR a.2 x ≠ a.2), updR a.2 x)) (fun a => E_L46_0_2.k0 a.1 a.2) (fun a => a.2.length = n) (fun i p a hx ha => by
    have hi : i < g.prods.length := (List.getElem?_eq_some_iff.1 hx).1
    have hpv : ProdV n p := by rw [hn]; exact hv.prod p (List.mem_of_getElem? hx)
    refine ⟨?_, (updR_le a.2 p).1.symm.trans ha⟩
    obtain ⟨b, o⟩ := a
    simp only at ha
    simp only [L46_0_2, getI_nat, hx, Option.bind_some, decide_eq_true (show (i : Int) < (g.prods.length : Int) by omega), cond_true, w_S (show i < 4611686018427387904 by omega), F54]
    cases hr : p.role != 11 with
    | false => simp [updR, hr]
    | true =>
      simp only [cond_true, q72 hpv ha hr, Option.bind_some]
      cases decide (updR o p ≠ o) <;> simp) (fun a _ => by simp [L46_0_2]) g.prods.length 0 (false, o) (by omega) ho
  rw [List.drop_zero, foldB updR_le, Bool.false_or] at key
  exact key

theorem swpR_le (o : List Bool) : leB o (swpR g o) := foldR_le g.prods o
theorem q46_3 (hg : GramOk g) (hv : GramV g) (hn : n = g.sorts.length) {o : List Bool} (ho : o.length = n) : F46_3 g o n = some (itN (swpR g) n o) := by
  have key := loop_until (step := fun s => L46_1_3 g n s) (f := swpR g) E_L46_1_3.k0 cnt n (fun a => a.length = n) (fun a ha => (swpR_le a).1.symm.trans ha) (fun a _ hne => (leB_cnt (swpR_le a)).2 hne) (fun a ha => by have := cnt_le a; omega)
    (fun a ha hne => by simp only [L46_1_3, l46_0_2 hg hv hn ha, Option.bind_some, decide_eq_true hne, cond_true])
    (fun a ha he => by simp only [L46_1_3, l46_0_2 hg hv hn ha, Option.bind_some, he]; simp) n o ho (by omega)
  unfold F46_3
  rw [key]
  rfl

/-- The document's. -/
theorem l26_0 {p : ProdD} (hp : ProdV n p) {o : List Bool} (ho : o.length = n) (hl : o[p.left.toNat]? = some true) : runL (fun s => L26_0 n p s.1 s.2) (0, o) = some (.k0 (p.right.foldl (updS p) o)) := by
  have hlen := hp.len
  have key := loop_foldl (l := p.right) (step := fun s => L26_0 n p s.1 s.2) (emb := fun i (a : List Bool) => ((i : Int), a)) (updS p) E_L26_0.k0 (fun a => a.length = n ∧ a[p.left.toNat]? = some true) (fun i s a hx ha => by
    have hi : i < p.right.length := (List.getElem?_eq_some_iff.1 hx).1
    have hv := hp.right s (List.mem_of_getElem? hx)
    refine ⟨?_, (updS_le p a s).1.symm.trans ha.1, (updS_le p a s).2 _ ha.2⟩
    simp only [L26_0, getI_nat, hx, Option.bind_some, decide_eq_true (show (i : Int) < (p.right.length : Int) by omega), cond_true, w_S (show i < 4611686018427387904 by omega), updS, ha.2, Option.getD_some, Bool.and_true]
    rcases hv.k with k0 | k1
    · rw [k0]; rfl
    · obtain ⟨h3, h4⟩ := at_sort ha.1 (hv.sort k1)
      rw [k1]
      simp only [beq_self_eq_true, cond_true, h3, h4, Option.bind_some]) (fun a _ => by simp [L26_0]) p.right.length 0 o (by omega) ⟨ho, hl⟩
  exact key

theorem foldS_no {p : ProdD} : ∀ (r : List SymD) {o : List Bool}, o[p.left.toNat]? = some false → r.foldl (updS p) o = o
  | [], o, h => rfl
  | s :: r, o, h => by
    have : updS p o s = o := by unfold updS; rw [h]; simp
    simp only [List.foldl_cons, this]
    exact foldS_no r h

theorem l26_1 (hg : GramOk g) (hv : GramV g) (hn : n = g.sorts.length) {o : List Bool} (ho : o.length = n) : runL (fun s => L26_1 n g s.1 s.2) (0, o) = some (.k0 (swpR g o)) := by
  have hgp := hg.prods
  have key := loop_foldl (l := g.prods) (step := fun s => L26_1 n g s.1 s.2) (emb := fun i (a : List Bool) => ((i : Int), a)) updR E_L26_1.k0 (fun a => a.length = n) (fun i p a hx ha => by
    have hi : i < g.prods.length := (List.getElem?_eq_some_iff.1 hx).1
    have hpv : ProdV n p := by rw [hn]; exact hv.prod p (List.mem_of_getElem? hx)
    refine ⟨?_, (updR_le a p).1.symm.trans ha⟩
    simp only [L26_1, getI_nat, hx, Option.bind_some, decide_eq_true (show (i : Int) < (g.prods.length : Int) by omega), cond_true, w_S (show i < 4611686018427387904 by omega), updR]
    by_cases hr : p.role = 11
    · rw [hr]; rfl
    · obtain ⟨h1, h2⟩ := at_left ha hpv
      rw [beqF hr, bneT hr]
      simp only [cond_false, cond_true, h1, Option.bind_some]
      cases hx1 : a[p.left.toNat]'(by have := hpv.left; omega) with
      | false =>
        rw [hx1] at h2
        simp only [h2, Option.bind_some, cond_false, foldS_no p.right h2]
      | true =>
        rw [hx1] at h2
        simp only [h2, Option.bind_some, cond_true, l26_0 hpv ha h2]) (fun a _ => by simp [L26_1]) g.prods.length 0 o (by omega) ho
  exact key

theorem start_in (hc : chkB g = true) : 0 ≤ g.start ∧ g.start < g.sorts.length := by
  unfold chkB okSorts at hc
  simp only [Bool.and_eq_true] at hc
  have h := hc.1.1.1.1.2
  unfold sortOk inR at h
  simpa using h

def reachOf (g : GramD) : List Bool := itN (swpR g) g.sorts.length ((List.replicate g.sorts.length false).set g.start.toNat true)
theorem reach_len : (reachOf g).length = g.sorts.length :=
  itN_inv (Inv := fun a => a.length = g.sorts.length) (fun a ha => (swpR_le a).1.symm.trans ha) _ _ (by simp)

theorem reached (hg : GramOk g) (hc : chkB g = true) {sh : List Int} (hk : ShK g sh) (h45 : F45 g = some (.k1 g.sorts g.prods g.start g.forbid g.follow sh (nulOf sh))) : F21 g = some (.k0 (reachOf g) 0) ∧ F26 g = some (reachOf g) := by
  have hv := val_of hc
  have h40 := hg.sorts
  have hs := start_in hc
  have hi : ixN g.sorts.length g.start = some g.start.toNat := ixN_some.2 ⟨by omega, by omega⟩
  have hr : (List.replicate g.sorts.length false)[g.start.toNat]? = some false := by rw [List.getElem?_replicate, if_pos (by omega)]
  have hl : ((List.replicate g.sorts.length false).set g.start.toNat true).length = g.sorts.length := by simp
  constructor
  · unfold F21
    rw [h45]
    unfold F53_2
    have hq := q46_3 hg hv rfl hl
    rw [show itN (swpR g) g.sorts.length ((List.replicate g.sorts.length false).set g.start.toNat true) = reachOf g from rfl] at hq
    simp only [Option.bind_some, mk1 h40, cond_true, Int.toNat_natCast, hi, hr, hq, reach_len, decide_eq_true (Nat.le_refl _)]
    rw [List.take_of_length_le (by rw [reach_len]; omega)]
  · have key := loop_foldl (step := fun s => L26_2 g.sorts.length g s.1 s.2) (l := g.sorts) (emb := fun i a => ((i : Int), a)) (fun a _ => swpR g a) E_L26_2.k0 (fun a => a.length = g.sorts.length) (fun i p a hx ha => by
      have hi : i < g.sorts.length := (List.getElem?_eq_some_iff.1 hx).1
      refine ⟨?_, (swpR_le a).1.symm.trans ha⟩
      simp only [L26_2, decide_eq_true (show (i : Int) < (g.sorts.length : Int) by omega), cond_true, l26_1 hg hv rfl ha, Option.bind_some, w_S (show i < 4611686018427387904 by omega)]) (fun a _ => by simp [L26_2]) g.sorts.length 0 _ (by omega) hl
    rw [List.drop_zero, foldl_const] at key
    have e0 : ((0 : Nat) : Int) = 0 := rfl
    rw [e0, show itN (swpR g) g.sorts.length ((List.replicate g.sorts.length false).set g.start.toNat true) = reachOf g from rfl] at key
    unfold F26
    simp only [(productive hg hc hk h45).2, mk1 h40, cond_true, Int.toNat_natCast, Option.bind_some, hi, hr, key, reach_len, decide_eq_true (Nat.le_refl _)]
    rw [List.take_of_length_le (by rw [reach_len]; omega)]

/-- Which may be nothing. -/
theorem l27_0 {sh : List Int} (h40 : sh.length ≤ 40) : runL (fun s => L27_0 sh sh.length s.1 s.2) (0, List.replicate sh.length false) = some (.k0 (nulOf sh)) := by
  have := loop_map (l := sh) (step := fun s => L27_0 sh sh.length s.1 s.2) (emb := fun i a => ((i : Int), a)) (fun v => v == 0) E_L27_0.k0 (fun i x out hx ho => by
    have hi : i < sh.length := (List.getElem?_eq_some_iff.1 hx).1
    have hgo : out[i]? = some (out[i]'(by omega)) := List.getElem?_eq_getElem _
    simp only [L27_0, getI_nat, hx, ixN_nat, if_pos hi, hgo, Option.bind_some, decide_eq_true (show (i : Int) < (sh.length : Int) by omega), cond_true, w_S (show i < 4611686018427387904 by omega)]) (fun out ho => by simp [L27_0]) sh.length 0 (List.replicate sh.length false) (by omega) (by simp) (by simp)
  exact this
theorem nul_len {sh : List Int} : (nulOf sh).length = sh.length := by simp [nulOf]

theorem nullable (hg : GramOk g) {sh : List Int} (hk : ShK g sh) (h16 : F16 g = some sh) (h45 : F45 g = some (.k1 g.sorts g.prods g.start g.forbid g.follow sh (nulOf sh))) : F22 g = some (.k0 (nulOf sh) 0) ∧ F27 g = some (nulOf sh) := by
  have h40 := hg.sorts
  have hl := hk.ok.len
  constructor
  · unfold F22
    rw [h45]
    rfl
  · have hq := l27_0 (sh := sh) (by omega)
    unfold F27
    simp only [h16, Option.bind_some, mk1 (show sh.length ≤ 40 by omega), cond_true, Int.toNat_natCast, hq, nul_len, decide_eq_true (Nat.le_refl _)]
    rw [List.take_of_length_le (by rw [nul_len]; omega)]
end
end Go.Proofs.Tryd
namespace Go.Proofs.Tryd
set_option linter.unusedSimpArgs false
set_option linter.unusedVariables false
open Go Go.Vs

abbrev Rl := Nat → Nat → Bool
def putR (R : Rl) (i j : Nat) : Rl := fun a b => (decide (a = i) && decide (b = j)) || R a b
def leR (R S : Rl) : Prop := ∀ a b, R a b = true → S a b = true
def tri (R : Rl) (i k j : Nat) : Rl := bif R i k && R k j then putR R i j else R
def rdJ (n : Nat) (i k : Nat) (R : Rl) : Rl := (List.range n).foldl (fun R j => tri R i k j) R
/-- One round of the program's: by way of k. -/
def rdK (n : Nat) (R : Rl) (k : Nat) : Rl := (List.range n).foldl (fun R i => rdJ n i k R) R
def fw (n : Nat) (R : Rl) : Rl := (List.range n).foldl (rdK n) R
/-- One round of the document's. -/
def rdI (n : Nat) (i : Nat) (R : Rl) : Rl := (List.range n).foldl (fun R k => rdJ n i k R) R
def rdA (n : Nat) (R : Rl) : Rl := (List.range n).foldl (fun R i => rdI n i R) R

theorem leR.refl (R : Rl) : leR R R := fun _ _ h => h
theorem leR.trans {R S T : Rl} (h : leR R S) (k : leR S T) : leR R T := fun a b x => k a b (h a b x)
theorem put_le (R : Rl) (i j : Nat) : leR R (putR R i j) := fun a b h => by unfold putR; rw [h, Bool.or_true]
theorem put_at (R : Rl) (i j : Nat) : putR R i j i j = true := by unfold putR; simp
theorem put_sub {R T : Rl} {i j : Nat} (h : leR R T) (k : T i j = true) : leR (putR R i j) T := fun a b x => by
  unfold putR at x
  rw [Bool.or_eq_true, Bool.and_eq_true] at x
  rcases x with ⟨x, y⟩ | x
  · rw [of_decide_eq_true x, of_decide_eq_true y]; exact k
  · exact h a b x
theorem tri_le (R : Rl) (i k j : Nat) : leR R (tri R i k j) := by
  unfold tri
  cases R i k && R k j
  · exact leR.refl R
  · exact put_le R i j

theorem fold_le {α : Type} {f : Rl → α → Rl} (hf : ∀ R x, leR R (f R x)) : ∀ (l : List α) (R : Rl), leR R (l.foldl f R)
  | [], R => leR.refl R
  | x :: l, R => (hf R x).trans (fold_le hf l _)
theorem fold_sub {α : Type} {f : Rl → α → Rl} {T : Rl} : ∀ (l : List α) (R : Rl), (∀ R x, x ∈ l → leR R T → leR (f R x) T) → leR R T → leR (l.foldl f R) T
  | [], R, _, h => h
  | x :: l, R, hf, h => fold_sub l _ (fun R y hy => hf R y (List.mem_cons_of_mem _ hy)) (hf R x (List.mem_cons_self ..) h)
theorem fold_at {α : Type} {f : Rl → α → Rl} (hf : ∀ R x, leR R (f R x)) {x : α} : ∀ (l : List α) (R : Rl), x ∈ l → ∃ S, leR R S ∧ leR (f S x) (l.foldl f R)
  | y :: l, R, h => by
    rcases List.mem_cons.1 h with rfl | h
    · exact ⟨R, leR.refl R, fold_le hf l _⟩
    · obtain ⟨S, h1, h2⟩ := fold_at hf l (f R y) h
      exact ⟨S, (hf R y).trans h1, h2⟩

theorem rdJ_le (n i k : Nat) (R : Rl) : leR R (rdJ n i k R) := fold_le (fun R j => tri_le R i k j) _ R
theorem rdK_le (n : Nat) (R : Rl) (k : Nat) : leR R (rdK n R k) := fold_le (fun R i => rdJ_le n i k R) _ R
theorem fw_le (n : Nat) (R : Rl) : leR R (fw n R) := fold_le (rdK_le n) _ R
theorem rdI_le (n i : Nat) (R : Rl) : leR R (rdI n i R) := fold_le (fun R k => rdJ_le n i k R) _ R
theorem rdA_le (n : Nat) (R : Rl) : leR R (rdA n R) := fold_le (fun R i => rdI_le n i R) _ R

/-- Closed at k. -/
def clK (n : Nat) (R : Rl) (k : Nat) : Prop := ∀ i j, i < n → j < n → R i k = true → R k j = true → R i j = true
def trR (n : Nat) (R : Rl) : Prop := ∀ k, k < n → clK n R k

theorem tri_sub {n : Nat} {R T : Rl} {i k j : Nat} (hT : clK n T k) (hi : i < n) (hj : j < n) (h : leR R T) : leR (tri R i k j) T := by
  unfold tri
  cases hc : R i k && R k j with
  | false => exact h
  | true =>
    rw [Bool.and_eq_true] at hc
    exact put_sub h (hT i j hi hj (h _ _ hc.1) (h _ _ hc.2))
theorem rdJ_sub {n : Nat} {R T : Rl} {i k : Nat} (hT : clK n T k) (hi : i < n) (h : leR R T) : leR (rdJ n i k R) T :=
  fold_sub _ R (fun R j hj h => tri_sub hT hi (List.mem_range.1 hj) h) h
theorem rdK_sub {n : Nat} {R T : Rl} {k : Nat} (hT : clK n T k) (h : leR R T) : leR (rdK n R k) T :=
  fold_sub _ R (fun R i hi h => rdJ_sub hT (List.mem_range.1 hi) h) h
theorem fw_sub {n : Nat} {R T : Rl} (hT : trR n T) (h : leR R T) : leR (fw n R) T :=
  fold_sub _ R (fun R k hk h => rdK_sub (hT k (List.mem_range.1 hk)) h) h
theorem rdI_sub {n : Nat} {R T : Rl} {i : Nat} (hT : trR n T) (hi : i < n) (h : leR R T) : leR (rdI n i R) T :=
  fold_sub _ R (fun R k hk h => rdJ_sub (hT k (List.mem_range.1 hk)) hi h) h
theorem rdA_sub {n : Nat} {R T : Rl} (hT : trR n T) (h : leR R T) : leR (rdA n R) T :=
  fold_sub _ R (fun R i hi h => rdI_sub hT (List.mem_range.1 hi) h) h

theorem rdJ_at {n : Nat} {R : Rl} {i k j : Nat} (hj : j < n) (h1 : R i k = true) (h2 : R k j = true) : rdJ n i k R i j = true := by
  obtain ⟨S, h3, h4⟩ := fold_at (fun R j => tri_le R i k j) (List.range n) R (List.mem_range.2 hj)
  apply h4
  unfold tri
  rw [h3 _ _ h1, h3 _ _ h2]
  exact put_at S i j
theorem rdK_at {n : Nat} {R : Rl} {i k j : Nat} (hi : i < n) (hj : j < n) (h1 : R i k = true) (h2 : R k j = true) : rdK n R k i j = true := by
  obtain ⟨S, h3, h4⟩ := fold_at (fun R i => rdJ_le n i k R) (List.range n) R (List.mem_range.2 hi)
  exact h4 _ _ (rdJ_at hj (h3 _ _ h1) (h3 _ _ h2))
theorem rdA_at {n : Nat} {R : Rl} {i k j : Nat} (hi : i < n) (hk : k < n) (hj : j < n) (h1 : R i k = true) (h2 : R k j = true) : rdA n R i j = true := by
  obtain ⟨S, h3, h4⟩ := fold_at (fun R i => rdI_le n i R) (List.range n) R (List.mem_range.2 hi)
  obtain ⟨S2, h5, h6⟩ := fold_at (fun R k => rdJ_le n i k R) (List.range n) S (List.mem_range.2 hk)
  exact h4 _ _ (h6 _ _ (rdJ_at hj (h5 _ _ (h3 _ _ h1)) (h5 _ _ (h3 _ _ h2))))

/-- What one of the program's rounds makes, at most. -/
theorem rdK_up {n : Nat} (R : Rl) (k : Nat) : leR (rdK n R k) (fun i j => R i j || (R i k && R k j)) := by
  refine rdK_sub (n := n) (fun i j _ _ h1 h2 => ?_) (fun a b h => by simp [h])
  simp only [Bool.or_eq_true, Bool.and_eq_true] at h1 h2 ⊢
  exact .inr ⟨h1.elim id And.left, h2.elim id And.right⟩

theorem rdK_cl {n : Nat} {R : Rl} {k : Nat} : clK n (rdK n R k) k := fun i j hi hj h1 h2 => by
  have q1 := rdK_up R k _ _ h1
  have q2 := rdK_up R k _ _ h2
  simp only [Bool.or_eq_true, Bool.and_eq_true] at q1 q2
  exact rdK_at hi hj (q1.elim id And.left) (q2.elim id And.right)
theorem rdK_keep {n : Nat} {R : Rl} {k q : Nat} (hk : k < n) (h : clK n R q) : clK n (rdK n R k) q := fun i j hi hj h1 h2 => by
  have q1 := rdK_up R k _ _ h1
  have q2 := rdK_up R k _ _ h2
  simp only [Bool.or_eq_true, Bool.and_eq_true] at q1 q2
  rcases q1 with q1 | ⟨q1, q3⟩ <;> rcases q2 with q2 | ⟨q2, q4⟩
  · exact rdK_le n R k _ _ (h i j hi hj q1 q2)
  · exact rdK_at hi hj (h i k hi hk q1 q2) q4
  · exact rdK_at hi hj q1 (h k j hk hj q3 q2)
  · exact rdK_at hi hj q1 q4
theorem fold_cl {n : Nat} : ∀ (ks : List Nat) (R : Rl) (q : Nat), (∀ k ∈ ks, k < n) → (clK n R q ∨ q ∈ ks) → clK n (ks.foldl (rdK n) R) q
  | [], R, q, _, h => h.resolve_right (by simp)
  | k :: ks, R, q, hk, h => by
    refine fold_cl ks _ q (fun x hx => hk x (List.mem_cons_of_mem _ hx)) ?_
    rcases h with h | h
    · exact .inl (rdK_keep (hk k (List.mem_cons_self ..)) h)
    · rcases List.mem_cons.1 h with rfl | h
      · exact .inl rdK_cl
      · exact .inr h
theorem fw_tr (n : Nat) (R : Rl) : trR n (fw n R) := fun q hq => fold_cl (List.range n) R q (fun k hk => List.mem_range.1 hk) (.inr (List.mem_range.2 hq))

/-- Rows: what is reached in so many steps. -/
def rowF (n : Nat) (R : Rl) (x : List Bool) : List Bool := (List.range n).map fun j => (x[j]?).getD false || (List.range n).any fun k => (x[k]?).getD false && R k j
def row0 (n : Nat) (R : Rl) (i : Nat) : List Bool := (List.range n).map (R i)
theorem getD_true {x : List Bool} {j : Nat} : (x[j]?).getD false = true ↔ x[j]? = some true := by
  cases x[j]? with
  | none => simp
  | some b => simp
theorem rowF_at {n : Nat} {R : Rl} {x : List Bool} {j : Nat} : (rowF n R x)[j]? = some true ↔ j < n ∧ (x[j]? = some true ∨ ∃ k, k < n ∧ x[k]? = some true ∧ R k j = true) := by
  unfold rowF
  rw [List.getElem?_map]
  by_cases hj : j < n
  · rw [List.getElem?_range hj]
    simp only [Option.map_some, Option.some.injEq, Bool.or_eq_true, List.any_eq_true, List.mem_range, Bool.and_eq_true, getD_true, hj, true_and]
  · rw [List.getElem?_eq_none (by simpa using hj)]
    simp [hj]
theorem row0_at {n : Nat} {R : Rl} {i j : Nat} : (row0 n R i)[j]? = some true ↔ j < n ∧ R i j = true := by
  unfold row0
  rw [List.getElem?_map]
  by_cases hj : j < n
  · rw [List.getElem?_range hj]
    simp [hj]
  · rw [List.getElem?_eq_none (by simpa using hj)]
    simp [hj]
theorem rowF_le {n : Nat} {R : Rl} {x : List Bool} (hx : x.length = n) : leB x (rowF n R x) := by
  refine ⟨by simp [rowF, hx], fun j hj => rowF_at.2 ⟨?_, .inl hj⟩⟩
  have := (List.getElem?_eq_some_iff.1 hj).1
  omega
def rowT (n : Nat) (R : Rl) : Rl := fun i j => ((itN (rowF n R) n (row0 n R i))[j]?).getD false
theorem rowF_len {n : Nat} {R : Rl} (x : List Bool) : (rowF n R x).length = n := by simp [rowF]
theorem row_fix (n : Nat) (R : Rl) (i : Nat) : rowF n R (itN (rowF n R) n (row0 n R i)) = itN (rowF n R) n (row0 n R i) :=
  itN_fix cnt n (fun a => a.length = n) (fun a _ => rowF_len a) (fun a ha hne => (leB_cnt (rowF_le ha)).2 hne) (fun a ha => by have := cnt_le a; omega) n _ (by simp [row0]) (by omega)

theorem rowT_le (n : Nat) (R : Rl) {i j : Nat} (hj : j < n) (h : R i j = true) : rowT n R i j = true := by
  unfold rowT
  rw [getD_true]
  have : leB (row0 n R i) (itN (rowF n R) n (row0 n R i)) := by
    have := itN_inv (f := rowF n R) (Inv := fun a => leB (row0 n R i) a ∧ a.length = n) (fun a ha => ⟨ha.1.trans (rowF_le ha.2), rowF_len a⟩) n (row0 n R i) ⟨leB.refl _, by simp [row0]⟩
    exact this.1
  exact this.2 _ (row0_at.2 ⟨hj, h⟩)
theorem rowT_tr (n : Nat) (R : Rl) : trR n (rowT n R) := fun k hk i j hi hj h1 h2 => by
  unfold rowT at h1 h2 ⊢
  rw [getD_true] at h1 h2 ⊢
  have hf := row_fix n R i
  generalize itN (rowF n R) n (row0 n R i) = x at h1 hf ⊢
  have hx : x.length = n := by rw [← hf]; exact rowF_len x
  have cl : ∀ k j, k < n → j < n → x[k]? = some true → R k j = true → x[j]? = some true := fun k j hk hj a b => by
    rw [← hf]
    exact rowF_at.2 ⟨hj, .inr ⟨k, hk, a, b⟩⟩
  have := itN_inv (f := rowF n R) (Inv := fun a => leB a x) (fun a ha => ⟨by rw [rowF_len, hx], fun j hj => by
    obtain ⟨hj, h | ⟨k, hk, a1, a2⟩⟩ := rowF_at.1 hj
    · exact ha.2 _ h
    · exact cl k j hk hj (ha.2 _ a1) a2⟩) n (row0 n R k) ⟨by simp [row0, hx], fun j hj => by
      obtain ⟨hj, h⟩ := row0_at.1 hj
      exact cl k j hk hj h1 h⟩
  exact this.2 _ h2
theorem row_ref (n : Nat) (R : Rl) : ∀ (t i j : Nat), i < n → (itN (rowF n R) t (row0 n R i))[j]? = some true → itN (rdA n) t R i j = true
  | 0, i, j, hi, h => (row0_at.1 h).2
  | t + 1, i, j, hi, h => by
    simp only [itN] at h ⊢
    rw [itN_comm] at h ⊢
    obtain ⟨hj, h | ⟨k, hk, a1, a2⟩⟩ := rowF_at.1 h
    · exact rdA_le n _ _ _ (row_ref n R t i j hi h)
    · have hle : leR R (itN (rdA n) t R) := itN_inv (f := rdA n) (Inv := fun a => leR R a) (fun a ha => ha.trans (rdA_le n a)) t R (leR.refl R)
      exact rdA_at hi hk hj (row_ref n R t i k hi a1) (hle _ _ a2)

/-- Both ways lead to the same. -/
theorem circ_eq {n : Nat} {R : Rl} (hR : ∀ i j, R i j = true → i < n ∧ j < n) {i j : Nat} (hi : i < n) : fw n R i j = itN (rdA n) n R i j := by
  have h1 : leR (itN (rdA n) n R) (fw n R) := itN_inv (f := rdA n) (Inv := fun a => leR a (fw n R)) (fun a ha => rdA_sub (fw_tr n R) ha) n R (fw_le n R)
  have h2 : leR (fw n R) (rowT n R) := fw_sub (rowT_tr n R) (fun a b h => rowT_le n R (hR a b h).2 h)
  cases hf : fw n R i j with
  | true =>
    have := h2 _ _ hf
    unfold rowT at this
    exact (row_ref n R n i j hi (getD_true.1 this)).symm
  | false =>
    cases hr : itN (rdA n) n R i j with
    | false => rfl
    | true => rw [h1 _ _ hr] at hf; cases hf

/-- Loops that do alike on other data. -/
theorem loop_sim {α A B E S : Type} {step : S → Option (E ⊕ S)} {l : List α} (emb : Nat → A → S) (fin : A → E) (Rel : A → B → Prop) (f : B → α → B)
    (h : ∀ (i : Nat) (x : α) (a : A) (b : B), l[i]? = some x → Rel a b → ∃ a', step (emb i a) = some (.inr (emb (i + 1) a')) ∧ Rel a' (f b x)) (hend : ∀ a, step (emb l.length a) = some (.inl (fin a))) :
    ∀ (k i : Nat) (a : A) (b : B), i + k = l.length → Rel a b → ∃ a', runL step (emb i a) = some (fin a') ∧ Rel a' ((l.drop i).foldl f b)
  | 0, i, a, b, hi, ha => by
    obtain rfl : i = l.length := by omega
    rw [List.drop_length]
    exact ⟨a, runL_done (hend a), ha⟩
  | k + 1, i, a, b, hi, ha => by
    have hx : l[i]? = some l[i] := List.getElem?_eq_getElem (by omega)
    have hd : l.drop i = l[i] :: l.drop (i + 1) := (List.drop_eq_getElem_cons (by omega))
    obtain ⟨a1, h1, h2⟩ := h i _ a b hx ha
    rw [runL_next h1, hd, List.foldl_cons]
    exact loop_sim emb fin Rel f h hend k (i + 1) a1 _ (by omega) h2
theorem loop_simR {A B E : Type} {n : Nat} {step : Int × A → Option (E ⊕ (Int × A))} (fin : A → E) (Rel : A → B → Prop) (f : B → Nat → B)
    (h : ∀ (i : Nat) (a : A) (b : B), i < n → Rel a b → ∃ a', step ((i : Int), a) = some (.inr (((i + 1 : Nat) : Int), a')) ∧ Rel a' (f b i)) (hend : ∀ a, step ((n : Int), a) = some (.inl (fin a))) {a : A} {b : B} (hab : Rel a b) :
    ∃ a', runL step (0, a) = some (fin a') ∧ Rel a' ((List.range n).foldl f b) := by
  have := loop_sim (l := List.range n) (step := step) (fun i a => ((i : Int), a)) fin Rel f (fun i x a b hx hr => by
    have hi : i < n := by have := (List.getElem?_eq_some_iff.1 hx).1; simpa using this
    have : x = i := by rw [List.getElem?_eq_some_iff] at hx; obtain ⟨_, hx⟩ := hx; simp at hx; exact hx.symm
    subst this
    exact h x a b hi hr) (fun a => by rw [List.length_range]; exact hend a) n 0 a b (by simp) hab
  exact this
/-- A loop that looks whether all are so. -/
theorem loop_and {α E : Type} {step : Bool × Int → Option (E ⊕ (Bool × Int))} {l : List α} (p : Nat → α → Bool) (fin : Bool → E)
    (h : ∀ (i : Nat) (x : α) (b : Bool), l[i]? = some x → step (b, (i : Int)) = some (.inr (b && p i x, ((i + 1 : Nat) : Int)))) (hend : ∀ b, step (b, (l.length : Int)) = some (.inl (fin b))) :
    ∀ (k i : Nat) (b : Bool), i + k = l.length → runL step (b, (i : Int)) = some (fin (b && allF p i (l.drop i)))
  | 0, i, b, hi => by
    obtain rfl : i = l.length := by omega
    rw [List.drop_length, allF, Bool.and_true]
    exact runL_done (hend b)
  | k + 1, i, b, hi => by
    have hx : l[i]? = some l[i] := List.getElem?_eq_getElem (by omega)
    have hd : l.drop i = l[i] :: l.drop (i + 1) := (List.drop_eq_getElem_cons (by omega))
    rw [runL_next (h i _ b hx), hd, allF, loop_and p fin h hend k (i + 1) _ (by omega), Bool.and_assoc]
end Go.Proofs.Tryd
namespace Go.Proofs.Tryd
set_option linter.unusedSimpArgs false
set_option linter.unusedVariables false
open Go Go.Vs

def nulAt (nul : List Bool) (q : SymD) : Bool := (q.kind == 1) && (nul[q.sort.toNat]?).getD false
def oth (nul : List Bool) (p : ProdD) (i : Nat) : Bool := allF (fun j (q : SymD) => decide (j = i) || nulAt nul q) 0 p.right
def leadC (sh : List Int) (nul : List Bool) (p : ProdD) (i : Nat) (s : SymD) : Bool := (p.role != 11) && ((s.kind == 1) && (decide (0 ≤ (sh[s.sort.toNat]?).getD 0) && oth nul p i))
def lead1 (sh : List Int) (nul : List Bool) (p : ProdD) (R : Rl) (i : Nat) : Rl :=
  match p.right[i]? with
  | some s => bif leadC sh nul p i s then putR R p.left.toNat s.sort.toNat else R
  | none => R
def leadP (sh : List Int) (nul : List Bool) (R : Rl) (p : ProdD) : Rl := (List.range p.right.length).foldl (lead1 sh nul p) R
def lead0 (sh : List Int) (nul : List Bool) (g : GramD) : Rl := g.prods.foldl (leadP sh nul) (fun _ _ => false)

/-- A map that tells a relation; a table that does. -/
def RM (n : Nat) (m : List ((Int × Int) × Int)) (R : Rl) : Prop := ∀ a b, a < n → b < n → decide (mget 0 m ((a : Int), (b : Int)) > 0) = R a b
structure RL (n : Nat) (l : List Bool) (R : Rl) : Prop where
  len : l.length = n * n
  at_ : ∀ a b, a < n → b < n → l[a * n + b]? = some (R a b)

section
variable {n : Nat}
theorem RM_put {m : List ((Int × Int) × Int)} {R : Rl} (h : RM n m R) (i j : Nat) : RM n (mput ((i : Int), (j : Int)) 1 m) (putR R i j) := fun a b ha hb => by
  rw [mget_mput]
  unfold putR
  by_cases e : a = i ∧ b = j
  · obtain ⟨rfl, rfl⟩ := e
    simp
  · rw [if_neg (fun h => e ⟨Int.ofNat.inj (congrArg Prod.fst h), Int.ofNat.inj (congrArg Prod.snd h)⟩), h a b ha hb]
    by_cases e1 : a = i
    · have e2 : ¬ b = j := fun h => e ⟨e1, h⟩
      simp [e2]
    · simp [e1]
theorem ix_lt {a b : Nat} (ha : a < n) (hb : b < n) : a * n + b < n * n := by
  have : (a + 1) * n ≤ n * n := Nat.mul_le_mul_right n ha
  rw [Nat.succ_mul] at this
  omega
theorem ix_inj {a b c d : Nat} (hb : b < n) (hd : d < n) (h : a * n + b = c * n + d) : a = c ∧ b = d := by
  have h1 : (a * n + b) / n = a := by rw [Nat.mul_comm, Nat.mul_add_div (by omega), Nat.div_eq_of_lt hb, Nat.add_zero]
  have h2 : (c * n + d) / n = c := by rw [Nat.mul_comm, Nat.mul_add_div (by omega), Nat.div_eq_of_lt hd, Nat.add_zero]
  have e : a = c := by rw [← h1, h, h2]
  subst e
  exact ⟨rfl, by omega⟩
theorem RL_put {l : List Bool} {R : Rl} (h : RL n l R) {i j : Nat} (hi : i < n) (hj : j < n) : RL n (l.set (i * n + j) true) (putR R i j) := by
  refine ⟨by simpa using h.len, fun a b ha hb => ?_⟩
  have hlt := ix_lt hi hj
  have hl := h.len
  rw [List.getElem?_set]
  unfold putR
  by_cases e : i * n + j = a * n + b
  · obtain ⟨rfl, rfl⟩ := ix_inj hj hb e
    rw [if_pos rfl, if_pos (by omega)]
    simp
  · rw [if_neg e, h.at_ a b ha hb]
    by_cases e1 : a = i
    · have e2 : ¬ b = j := fun h => e (by rw [e1, h])
      simp [e2]
    · simp [e1]
theorem wI {x : Nat} (h : x < 4611686018427387904) : IntKind.wrap .i64 (x : Int) = (x : Int) := w_id (by omega)
theorem ix_w (h40 : n ≤ 40) {a b : Nat} (ha : a < n) (hb : b < n) : IntKind.wrap .i64 (IntKind.wrap .i64 ((a : Int) * (n : Int)) + (b : Int)) = ((a * n + b : Nat) : Int) := by
  have h1 := ix_lt ha hb
  have h2 : n * n ≤ 40 * 40 := Nat.mul_le_mul h40 h40
  rw [show ((a : Int) * (n : Int)) = ((a * n : Nat) : Int) by simp, wI (by omega), show ((a * n : Nat) : Int) + (b : Int) = ((a * n + b : Nat) : Int) by simp, wI (by omega)]
theorem nn_w (h40 : n ≤ 40) : IntKind.wrap .i64 ((n : Int) * (n : Int)) = ((n * n : Nat) : Int) := by
  have h2 : n * n ≤ 40 * 40 := Nat.mul_le_mul h40 h40
  rw [show ((n : Int) * (n : Int)) = ((n * n : Nat) : Int) by simp, wI (by omega)]

/- The program's. -/
theorem l23_1 (h40 : n ≤ 40) {m : List ((Int × Int) × Int)} {R : Rl} (h : RM n m R) {i k : Nat} (hi : i < n) (hk : k < n) :
    ∃ m', runL (fun s => L23_1 (k : Int) (i : Int) (n : Int) s.1 s.2) (0, m) = some (.k0 m') ∧ RM n m' (rdJ n i k R) := by
  refine loop_simR E_L23_1.k0 (RM n) (fun R j => tri R i k j) (fun j a b hj hab => ?_) (fun a => by simp [L23_1]) h
  simp only [L23_1, decide_eq_true (show (j : Int) < (n : Int) by omega), cond_true, w_S (show j < 4611686018427387904 by omega), hab i k hi hk, hab k j hk hj, tri]
  cases b i k with
  | false => exact ⟨a, rfl, hab⟩
  | true =>
    cases b k j with
    | false => exact ⟨a, rfl, hab⟩
    | true => exact ⟨_, rfl, RM_put hab i j⟩
theorem l23_2 (h40 : n ≤ 40) {g : GramD} (hn : g.sorts.length = n) {m : List ((Int × Int) × Int)} {R : Rl} (h : RM n m R) {k : Nat} (hk : k < n) :
    ∃ m', runL (fun s => L23_2 (k : Int) (n : Int) g s.1 s.2) (0, m) = some (.k0 m') ∧ RM n m' (rdK n R k) := by
  refine loop_simR E_L23_2.k0 (RM n) (fun R i => rdJ n i k R) (fun i a b hi hab => ?_) (fun a => by simp [L23_2]) h
  obtain ⟨a', h1, h2⟩ := l23_1 h40 hab hi hk
  refine ⟨a', ?_, h2⟩
  simp only [L23_2, hn, decide_eq_true (show (i : Int) < (n : Int) by omega), cond_true, w_S (show i < 4611686018427387904 by omega), h1, Option.bind_some]
theorem l23_3 (h40 : n ≤ 40) {g : GramD} (hn : g.sorts.length = n) {m : List ((Int × Int) × Int)} {R : Rl} (h : RM n m R) :
    ∃ m', runL (fun s => L23_3_2 (n : Int) g s.1 s.2) (0, m) = some (.k0 m') ∧ RM n m' (fw n R) := by
  refine loop_simR E_L23_3_2.k0 (RM n) (rdK n) (fun k a b hk hab => ?_) (fun a => by simp [L23_3_2]) h
  obtain ⟨a', h1, h2⟩ := l23_2 h40 hn hab hk
  refine ⟨a', ?_, h2⟩
  simp only [L23_3_2, hn, decide_eq_true (show (k : Int) < (n : Int) by omega), cond_true, w_S (show k < 4611686018427387904 by omega), h1, Option.bind_some]

theorem q55 {nul : List Bool} (hl : nul.length = n) {q : SymD} (hq : SymV n q) : F55 nul q = some (nulAt nul q) := by
  unfold F55 nulAt
  rcases hq.k with k0 | k1
  · rw [k0]; rfl
  · obtain ⟨h0, h1⟩ := hq.sort k1
    have hg : nul[q.sort.toNat]? = some (nul[q.sort.toNat]'(by omega)) := List.getElem?_eq_getElem _
    rw [k1, hg, getI_some.2 ⟨h0, hg⟩]
    rfl

theorem l23_4 {nul : List Bool} (hl : nul.length = n) {p : ProdD} (hp : ProdV n p) {i : Nat} :
    runL (fun s => L23_4 nul (i : Int) p (p.right.length : Int) s.1 s.2) (true, 0) = some (.k0 (oth nul p i)) := by
  have hlen := hp.len
  have := loop_and (l := p.right) (step := fun s => L23_4 nul (i : Int) p (p.right.length : Int) s.1 s.2) (fun j (q : SymD) => decide (j = i) || nulAt nul q) E_L23_4.k0 (fun j q b hx => by
    have hj : j < p.right.length := (List.getElem?_eq_some_iff.1 hx).1
    have hq := hp.right q (List.mem_of_getElem? hx)
    simp only [L23_4, getI_nat, hx, Option.bind_some, decide_eq_true (show (j : Int) < (p.right.length : Int) by omega), cond_true, w_S (show j < 4611686018427387904 by omega), q55 hl hq]
    cases b with
    | false => simp
    | true =>
      by_cases e : j = i
      · subst e; simp
      · have e2 : ((j : Int) == (i : Int)) = false := by rw [beq_eq_false_iff_ne]; omega
        rw [decide_eq_false e, e2]
        cases nulAt nul q <;> rfl) (fun b => by simp [L23_4]) p.right.length 0 true (by omega)
  unfold oth
  simpa using this

theorem sort_nat {s : SymD} (h : 0 ≤ s.sort ∧ s.sort < n) : s.sort = ((s.sort.toNat : Nat) : Int) := by omega

theorem l23_5 {sh : List Int} (hs : sh.length = n) {nul : List Bool} (hl : nul.length = n) {p : ProdD} (hp : ProdV n p) {m : List ((Int × Int) × Int)} {R : Rl} (h : RM n m R) :
    ∃ m', runL (fun s => L23_5_2 sh nul p (p.right.length : Int) s.1 s.2) (0, m) = some (.k0 m') ∧ RM n m' (leadP sh nul R p) := by
  have hlen := hp.len
  refine loop_simR E_L23_5_2.k0 (RM n) (lead1 sh nul p) (fun i a b hi hab => ?_) (fun a => by simp [L23_5_2]) h
  have hx : p.right[i]? = some p.right[i] := List.getElem?_eq_getElem _
  generalize p.right[i] = s at hx
  have hv := hp.right s (List.mem_of_getElem? hx)
  have h4 := l23_4 hl hp (i := i)
  simp only [L23_5_2, getI_nat, hx, Option.bind_some, decide_eq_true (show (i : Int) < (p.right.length : Int) by omega), cond_true, w_S (show i < 4611686018427387904 by omega), F54, lead1, leadC]
  cases hr : p.role != 11 with
  | false => exact ⟨a, rfl, hab⟩
  | true =>
    rcases hv.k with k0 | k1
    · rw [k0]; exact ⟨a, rfl, hab⟩
    · obtain ⟨h0, h1⟩ := hv.sort k1
      have hg : sh[s.sort.toNat]? = some (sh[s.sort.toNat]'(by omega)) := List.getElem?_eq_getElem _
      have hgi : getI sh s.sort = some (sh[s.sort.toNat]'(by omega)) := getI_some.2 ⟨h0, hg⟩
      rw [k1, hg, hgi]
      generalize sh[s.sort.toNat]'(by omega) = v
      simp only [show ((1 : Int) != 1) = false from rfl, cond_true, cond_false, Option.bind_some, beq_self_eq_true, Bool.true_and, Option.getD_some, h4]
      by_cases hv0 : v < 0
      · rw [decide_eq_true hv0, decide_eq_false (show ¬ 0 ≤ v by omega)]
        exact ⟨a, rfl, hab⟩
      · rw [decide_eq_false hv0, decide_eq_true (show 0 ≤ v by omega)]
        cases oth nul p i with
        | false => exact ⟨a, rfl, hab⟩
        | true =>
          have hpl := hp.left
          refine ⟨_, rfl, ?_⟩
          have e1 : p.left = ((p.left.toNat : Nat) : Int) := by omega
          have e2 : s.sort = ((s.sort.toNat : Nat) : Int) := by omega
          have := RM_put hab p.left.toNat s.sort.toNat
          rw [← e1, ← e2] at this
          exact this

theorem l23_6 {g : GramD} (hg : GramOk g) (hv : GramV g) (hn : g.sorts.length = n) {sh : List Int} (hs : sh.length = n) {nul : List Bool} (hl : nul.length = n) :
    ∃ m', runL (fun s => L23_6_2 sh nul g (g.prods.length : Int) s.1 s.2) (0, []) = some (.k0 m') ∧ RM n m' (lead0 sh nul g) := by
  have hgp := hg.prods
  have := loop_sim (l := g.prods) (step := fun s => L23_6_2 sh nul g (g.prods.length : Int) s.1 s.2) (fun i (a : List ((Int × Int) × Int)) => ((i : Int), a)) E_L23_6_2.k0 (RM n) (leadP sh nul) (fun i p a b hx hab => by
    have hi : i < g.prods.length := (List.getElem?_eq_some_iff.1 hx).1
    have hpv : ProdV n p := by rw [← hn]; exact hv.prod p (List.mem_of_getElem? hx)
    obtain ⟨a', h1, h2⟩ := l23_5 hs hl hpv hab
    refine ⟨a', ?_, h2⟩
    simp only [L23_6_2, getI_nat, hx, Option.bind_some, decide_eq_true (show (i : Int) < (g.prods.length : Int) by omega), cond_true, w_S (show i < 4611686018427387904 by omega), h1]) (fun a => by simp [L23_6_2]) g.prods.length 0 [] (fun _ _ => false) (by omega) (fun a b _ _ => rfl)
  exact this

theorem l23_0 (h40 : n ≤ 40) {m : List ((Int × Int) × Int)} {R : Rl} (h : RM n m R) : runL (fun s => L23_0 n (n : Int) m s.1 s.2) (0, List.replicate n false) = some (.k0 ((List.range n).map fun i => R i i)) := by
  have := loop_map (l := List.range n) (step := fun s => L23_0 n (n : Int) m s.1 s.2) (emb := fun i (a : List Bool) => ((i : Int), a)) (fun i => R i i) E_L23_0.k0 (fun i x out hx ho => by
    have hi : i < n := by have := (List.getElem?_eq_some_iff.1 hx).1; simpa using this
    have e : x = i := by rw [List.getElem?_eq_some_iff] at hx; obtain ⟨_, hx⟩ := hx; simp at hx; exact hx.symm
    subst e
    rw [List.length_range] at ho
    have hgo : out[x]? = some (out[x]'(by omega)) := List.getElem?_eq_getElem _
    simp only [L23_0, ixN_nat, if_pos hi, hgo, Option.bind_some, decide_eq_true (show (x : Int) < (n : Int) by omega), cond_true, w_S (show x < 4611686018427387904 by omega), h x x hi hi]) (fun out ho => by simp [L23_0]) n 0 (List.replicate n false) (by simp) (by simp) (by simp)
  exact this

/- The document's. -/
theorem l28_1 (h40 : n ≤ 40) {m : List Bool} {R : Rl} (h : RL n m R) {i k : Nat} (hi : i < n) (hk : k < n) :
    ∃ m', runL (fun s => L28_1 (n : Int) (n * n) (i : Int) (k : Int) s.1 s.2) (0, m) = some (.k0 m') ∧ RL n m' (rdJ n i k R) := by
  refine loop_simR E_L28_1.k0 (RL n) (fun R j => tri R i k j) (fun j a b hj hab => ?_) (fun a => by simp [L28_1]) h
  simp only [L28_1, decide_eq_true (show (j : Int) < (n : Int) by omega), cond_true, w_S (show j < 4611686018427387904 by omega), ix_w h40 hi hk, ix_w h40 hk hj, ix_w h40 hi hj, ixN_nat, if_pos (ix_lt hi hk), if_pos (ix_lt hk hj), if_pos (ix_lt hi hj), Option.bind_some, hab.at_ i k hi hk, hab.at_ k j hk hj, hab.at_ i j hi hj, tri]
  cases b i k with
  | false => exact ⟨a, rfl, hab⟩
  | true =>
    cases b k j with
    | false => exact ⟨a, rfl, hab⟩
    | true => exact ⟨_, rfl, RL_put hab hi hj⟩
theorem l28_2 (h40 : n ≤ 40) {m : List Bool} {R : Rl} (h : RL n m R) {i : Nat} (hi : i < n) :
    ∃ m', runL (fun s => L28_2 (n : Int) (n * n) (i : Int) s.1 s.2) (0, m) = some (.k0 m') ∧ RL n m' (rdI n i R) := by
  refine loop_simR E_L28_2.k0 (RL n) (fun R k => rdJ n i k R) (fun k a b hk hab => ?_) (fun a => by simp [L28_2]) h
  obtain ⟨a', h1, h2⟩ := l28_1 h40 hab hi hk
  refine ⟨a', ?_, h2⟩
  simp only [L28_2, decide_eq_true (show (k : Int) < (n : Int) by omega), cond_true, w_S (show k < 4611686018427387904 by omega), h1, Option.bind_some]
theorem l28_3 (h40 : n ≤ 40) {m : List Bool} {R : Rl} (h : RL n m R) :
    ∃ m', runL (fun s => L28_3 (n : Int) (n * n) s.1 s.2) (0, m) = some (.k0 m') ∧ RL n m' (rdA n R) := by
  refine loop_simR E_L28_3.k0 (RL n) (fun R i => rdI n i R) (fun i a b hi hab => ?_) (fun a => by simp [L28_3]) h
  obtain ⟨a', h1, h2⟩ := l28_2 h40 hab hi
  refine ⟨a', ?_, h2⟩
  simp only [L28_3, decide_eq_true (show (i : Int) < (n : Int) by omega), cond_true, w_S (show i < 4611686018427387904 by omega), h1, Option.bind_some]
theorem l28_4 (h40 : n ≤ 40) {m : List Bool} {R : Rl} (h : RL n m R) :
    ∃ m', runL (fun s => L28_4 (n : Int) (n * n) s.1 s.2) (0, m) = some (.k0 m') ∧ RL n m' (itN (rdA n) n R) := by
  have := loop_simR (n := n) (step := fun s => L28_4 (n : Int) (n * n) s.1 s.2) E_L28_4.k0 (RL n) (fun R _ => rdA n R) (fun i a b hi hab => by
    obtain ⟨a', h1, h2⟩ := l28_3 h40 hab
    refine ⟨a', ?_, h2⟩
    simp only [L28_4, decide_eq_true (show (i : Int) < (n : Int) by omega), cond_true, w_S (show i < 4611686018427387904 by omega), h1, Option.bind_some]) (fun a => by simp [L28_4]) h
  rw [foldl_const, List.length_range] at this
  exact this

theorem l28_5 {nul : List Bool} (hl : nul.length = n) {p : ProdD} (hp : ProdV n p) {i : Nat} :
    runL (fun s => L28_5 nul (i : Int) p s.1 s.2) (true, 0) = some (.k0 (oth nul p i)) := by
  have hlen := hp.len
  have := loop_and (l := p.right) (step := fun s => L28_5 nul (i : Int) p s.1 s.2) (fun j (q : SymD) => decide (j = i) || nulAt nul q) E_L28_5.k0 (fun j q b hx => by
    have hj : j < p.right.length := (List.getElem?_eq_some_iff.1 hx).1
    have hq := hp.right q (List.mem_of_getElem? hx)
    simp only [L28_5, getI_nat, hx, Option.bind_some, decide_eq_true (show (j : Int) < (p.right.length : Int) by omega), cond_true, w_S (show j < 4611686018427387904 by omega), nulAt]
    cases b with
    | false => simp
    | true =>
      by_cases e : j = i
      · subst e; simp
      · have e2 : ((j : Int) == (i : Int)) = false := by rw [beq_eq_false_iff_ne]; omega
        rw [decide_eq_false e, e2]
        rcases hq.k with k0 | k1
        · rw [k0]; rfl
        · obtain ⟨h0, h1⟩ := hq.sort k1
          have hg : nul[q.sort.toNat]? = some (nul[q.sort.toNat]'(by omega)) := List.getElem?_eq_getElem _
          rw [k1, hg, getI_some.2 ⟨h0, hg⟩]
          cases nul[q.sort.toNat]'(by omega) <;> rfl) (fun b => by simp [L28_5]) p.right.length 0 true (by omega)
  unfold oth
  simpa using this
theorem l28_5_2 {p : ProdD} (hlen : p.right.length ≤ 30) : runL (fun s => L28_5_2 p s) 0 = some .k0 := by
  have := loop_list (l := p.right) (step := fun s => L28_5_2 p s) (fun _ _ => true) (bad := E_L28_5_2.k0) (fin := E_L28_5_2.k0) (fun i x hx => by
    have hi : i < p.right.length := (List.getElem?_eq_some_iff.1 hx).1
    simp only [L28_5_2, getI_nat, hx, Option.bind_some, decide_eq_true (show (i : Int) < (p.right.length : Int) by omega), cond_true, w_S (show i < 4611686018427387904 by omega)]) (by simp [L28_5_2])
  rw [this]

theorem l28_6 (h40 : n ≤ 40) {sh : List Int} (hs : sh.length = n) {nul : List Bool} (hl : nul.length = n) {p : ProdD} (hp : ProdV n p) (hr : (p.role != 11) = true) {m : List Bool} {R : Rl} (h : RL n m R) :
    ∃ m', runL (fun s => L28_6 sh nul (n : Int) (n * n) p s.1 s.2) (0, m) = some (.k0 m') ∧ RL n m' (leadP sh nul R p) := by
  have hlen := hp.len
  refine loop_simR E_L28_6.k0 (RL n) (lead1 sh nul p) (fun i a b hi hab => ?_) (fun a => by simp [L28_6]) h
  have hx : p.right[i]? = some p.right[i] := List.getElem?_eq_getElem _
  generalize p.right[i] = s at hx
  have hv := hp.right s (List.mem_of_getElem? hx)
  have h4 := l28_5 hl hp (i := i)
  have h5 := l28_5_2 hlen
  simp only [L28_6, getI_nat, hx, Option.bind_some, decide_eq_true (show (i : Int) < (p.right.length : Int) by omega), cond_true, w_S (show i < 4611686018427387904 by omega), lead1, leadC, hr, h4, h5, Bool.true_and]
  rcases hv.k with k0 | k1
  · rw [k0]; exact ⟨a, rfl, hab⟩
  · obtain ⟨h0, h1⟩ := hv.sort k1
    have hg : sh[s.sort.toNat]? = some (sh[s.sort.toNat]'(by omega)) := List.getElem?_eq_getElem _
    have hgi : getI sh s.sort = some (sh[s.sort.toNat]'(by omega)) := getI_some.2 ⟨h0, hg⟩
    rw [k1, hg, hgi]
    generalize sh[s.sort.toNat]'(by omega) = v
    simp only [cond_true, Option.bind_some, beq_self_eq_true, Bool.true_and, Option.getD_some]
    by_cases hv0 : 0 ≤ v
    · rw [decide_eq_true hv0]
      cases oth nul p i with
      | false => exact ⟨a, rfl, hab⟩
      | true =>
        have hpl := hp.left
        have e1 : p.left = ((p.left.toNat : Nat) : Int) := by omega
        have e2 : s.sort = ((s.sort.toNat : Nat) : Int) := by omega
        have hl1 : p.left.toNat < n := by omega
        have hl2 : s.sort.toNat < n := by omega
        have hw := ix_w h40 hl1 hl2
        rw [← e1, ← e2] at hw
        refine ⟨_, ?_, RL_put hab hl1 hl2⟩
        simp only [cond_true, hw, ixN_nat, if_pos (ix_lt hl1 hl2), Option.bind_some, hab.at_ _ _ hl1 hl2]
    · rw [decide_eq_false hv0]
      exact ⟨a, rfl, hab⟩

theorem leadP_no {sh : List Int} {nul : List Bool} {p : ProdD} (hr : (p.role != 11) = false) (R : Rl) : leadP sh nul R p = R := by
  have e : ∀ R i, lead1 sh nul p R i = R := by
    intro R i
    unfold lead1
    cases p.right[i]? with
    | none => rfl
    | some s => simp [leadC, hr]
  unfold leadP
  generalize List.range p.right.length = l
  induction l with
  | nil => rfl
  | cons x l ih => rw [List.foldl_cons, e]; exact ih

theorem l28_7 {g : GramD} (hg : GramOk g) (hv : GramV g) (hn : g.sorts.length = n) {sh : List Int} (hs : sh.length = n) {nul : List Bool} (hl : nul.length = n) :
    ∃ m', runL (fun s => L28_7 sh nul (n : Int) (n * n) g s.1 s.2) (0, List.replicate (n * n) false) = some (.k0 m') ∧ RL n m' (lead0 sh nul g) := by
  have hgp := hg.prods
  have h40 := hg.sorts
  have := loop_sim (l := g.prods) (step := fun s => L28_7 sh nul (n : Int) (n * n) g s.1 s.2) (fun i (a : List Bool) => ((i : Int), a)) E_L28_7.k0 (RL n) (leadP sh nul) (fun i p a b hx hab => by
    have hi : i < g.prods.length := (List.getElem?_eq_some_iff.1 hx).1
    have hpv : ProdV n p := by rw [← hn]; exact hv.prod p (List.mem_of_getElem? hx)
    simp only [L28_7, getI_nat, hx, Option.bind_some, decide_eq_true (show (i : Int) < (g.prods.length : Int) by omega), cond_true, w_S (show i < 4611686018427387904 by omega), F51]
    cases hr : p.role != 11 with
    | false => exact ⟨a, rfl, by rw [leadP_no hr]; exact hab⟩
    | true =>
      obtain ⟨a', h1, h2⟩ := l28_6 (by omega) hs hl hpv hr hab
      refine ⟨a', ?_, h2⟩
      simp only [cond_true, h1, Option.bind_some]) (fun a => by simp [L28_7]) g.prods.length 0 (List.replicate (n * n) false) (fun _ _ => false) (by omega) ⟨by simp, fun a b ha hb => by rw [List.getElem?_replicate, if_pos (ix_lt ha hb)]⟩
  exact this

theorem l28_0 (h40 : n ≤ 40) {m : List Bool} {R : Rl} (h : RL n m R) : runL (fun s => L28_0 (n : Int) (n * n) n m s.1 s.2) (0, List.replicate n false) = some (.k0 ((List.range n).map fun i => R i i)) := by
  have := loop_map (l := List.range n) (step := fun s => L28_0 (n : Int) (n * n) n m s.1 s.2) (emb := fun i (a : List Bool) => ((i : Int), a)) (fun i => R i i) E_L28_0.k0 (fun i x out hx ho => by
    have hi : i < n := by have := (List.getElem?_eq_some_iff.1 hx).1; simpa using this
    have e : x = i := by rw [List.getElem?_eq_some_iff] at hx; obtain ⟨_, hx⟩ := hx; simp at hx; exact hx.symm
    subst e
    rw [List.length_range] at ho
    have hgo : out[x]? = some (out[x]'(by omega)) := List.getElem?_eq_getElem _
    simp only [L28_0, ix_w h40 hi hi, ixN_nat, if_pos (ix_lt hi hi), if_pos hi, hgo, Option.bind_some, decide_eq_true (show (x : Int) < (n : Int) by omega), cond_true, w_S (show x < 4611686018427387904 by omega), h.at_ x x hi hi]) (fun out ho => by simp [L28_0]) n 0 (List.replicate n false) (by simp) (by simp) (by simp)
  exact this

theorem lead0_in {g : GramD} (hv : GramV g) (hn : g.sorts.length = n) (sh : List Int) (nul : List Bool) (i j : Nat) (h : lead0 sh nul g i j = true) : i < n ∧ j < n := by
  have : leR (lead0 sh nul g) (fun a b => decide (a < n) && decide (b < n)) := by
    refine fold_sub g.prods _ (fun R p hp hR => ?_) (fun a b h => by cases h)
    have hpv : ProdV n p := by rw [← hn]; exact hv.prod p hp
    refine fold_sub _ R (fun R k hk hR => ?_) hR
    unfold lead1
    cases hx : p.right[k]? with
    | none => exact hR
    | some s =>
      cases hc : leadC sh nul p k s with
      | false => simp only [hc, cond_false]; exact hR
      | true =>
        simp only [hc, cond_true]
        unfold leadC at hc
        simp only [Bool.and_eq_true, beq_iff_eq] at hc
        have h1 := (hpv.right s (List.mem_of_getElem? hx)).sort hc.2.1
        have h2 := hpv.left
        refine put_sub hR ?_
        rw [decide_eq_true (by omega), decide_eq_true (by omega)]
        rfl
  have := this i j h
  simpa using this
end

def circOf (g : GramD) (sh : List Int) : List Bool := (List.range g.sorts.length).map fun i => fw g.sorts.length (lead0 sh (nulOf sh) g) i i

theorem circular {g : GramD} (hg : GramOk g) (hc : chkB g = true) {sh : List Int} (hk : ShK g sh) (h16 : F16 g = some sh) (h45 : F45 g = some (.k1 g.sorts g.prods g.start g.forbid g.follow sh (nulOf sh))) : F23 g = some (.k0 (circOf g sh) 0) ∧ F28 g = some (circOf g sh) := by
  have hv := val_of hc
  have h40 := hg.sorts
  have hs := hk.ok.len
  have hl : (nulOf sh).length = g.sorts.length := by rw [nul_len]; exact hs
  have hcl : (circOf g sh).length = g.sorts.length := by simp [circOf]
  have hle : decide (g.sorts.length ≤ (circOf g sh).length) = true := decide_eq_true (by omega)
  have ht : (circOf g sh).take g.sorts.length = circOf g sh := List.take_of_length_le (by omega)
  constructor
  · obtain ⟨m1, h1, h2⟩ := l23_6 hg hv rfl hs hl
    obtain ⟨m2, h3, h4⟩ := l23_3 h40 rfl h2
    have h5 := l23_0 h40 h4
    rw [show ((List.range g.sorts.length).map fun i => fw g.sorts.length (lead0 sh (nulOf sh) g) i i) = circOf g sh from rfl] at h5
    unfold F23
    simp only [h45, Option.bind_some, h1, h3, mk1 h40, cond_true, Int.toNat_natCast, h5, hle, ht]
  · obtain ⟨m1, h1, h2⟩ := l28_7 hg hv rfl hs hl
    obtain ⟨m2, h3, h4⟩ := l28_4 h40 h2
    have h5 := l28_0 h40 h4
    have e : ((List.range g.sorts.length).map fun i => itN (rdA g.sorts.length) g.sorts.length (lead0 sh (nulOf sh) g) i i) = circOf g sh := by
      unfold circOf
      refine List.map_congr_left (fun i hi => ?_)
      exact (circ_eq (lead0_in hv rfl sh (nulOf sh)) (List.mem_range.1 hi)).symm
    rw [e] at h5
    have hmk : mkOk ((g.sorts.length * g.sorts.length : Nat) : Int) 1 = true := by
      have h2 : g.sorts.length * g.sorts.length ≤ 40 * 40 := Nat.mul_le_mul h40 h40
      unfold mkOk limit47
      exact decide_eq_true (by omega)
    unfold F28
    simp only [h16, (nullable hg hk h16 h45).2, nn_w h40, hmk, Option.bind_some, h1, h3, mk1 h40, cond_true, Int.toNat_natCast, h5, hle, ht]
end Go.Proofs.Tryd
namespace Go.Proofs.Tryd
set_option linter.unusedSimpArgs false
set_option linter.unusedVariables false
open Go Go.Vs

/-- What any grammar's argument is. -/
structure ArgOk (g : GramD) : Prop where
  left : ∀ p ∈ g.prods, i64ok p.left
  role : ∀ p ∈ g.prods, i64ok p.role
  sym : ∀ p ∈ g.prods, ∀ s ∈ p.right, SymOk s
  foll : ∀ f ∈ g.follow, u64ok f.a ∧ u64ok f.b ∧ u64ok f.c ∧ u64ok f.d
  forb : ∀ f ∈ g.forbid, i64ok f.at_

theorem q10 {g : GramD} (h : ArgOk g) : ∃ v, F10 g = some v ∧ (v = false → GramOk g) := by
  unfold F10
  by_cases c1 : (g.sorts.length : Int) > 40
  · rw [decide_eq_true c1]; exact ⟨true, rfl, fun e => by cases e⟩
  rw [decide_eq_false c1, cond_false]
  by_cases c2 : (g.prods.length : Int) > 80
  · rw [decide_eq_true c2]; exact ⟨true, rfl, fun e => by cases e⟩
  rw [decide_eq_false c2, cond_false]
  by_cases c3 : (g.forbid.length : Int) > 200
  · rw [decide_eq_true c3]; exact ⟨true, rfl, fun e => by cases e⟩
  rw [decide_eq_false c3, cond_false]
  by_cases c4 : (g.follow.length : Int) > 200
  · rw [decide_eq_true c4]; exact ⟨true, rfl, fun e => by cases e⟩
  rw [decide_eq_false c4, cond_false]
  have key : runL (fun s => L10_0 g s) 0 = some (bif allF (fun _ (p : ProdD) => !decide ((p.right.length : Int) > 31) && !decide ((p.cons.size : Int) > 200)) 0 g.prods then E_L10_0.k1 else E_L10_0.k0) := by
    refine loop_list (fun _ (p : ProdD) => !decide ((p.right.length : Int) > 31) && !decide ((p.cons.size : Int) > 200)) (fun i p hx => ?_) ?_
    · have hl : i < g.prods.length := (List.getElem?_eq_some_iff.1 hx).1
      simp only [L10_0, getI_nat, hx, Option.bind_some, decide_eq_true (show (i : Int) < (g.prods.length : Int) by omega), cond_true, w_S (show i < 4611686018427387904 by omega)]
      cases decide ((p.right.length : Int) > 31) <;> cases decide ((p.cons.size : Int) > 200) <;> rfl
    · simp [L10_0]
  rw [key]
  cases hall : allF (fun _ (p : ProdD) => !decide ((p.right.length : Int) > 31) && !decide ((p.cons.size : Int) > 200)) 0 g.prods with
  | false => exact ⟨true, rfl, fun e => by cases e⟩
  | true =>
    refine ⟨false, rfl, fun _ => ⟨by omega, by omega, by omega, by omega, fun p hp => ?_, h.foll, h.forb⟩⟩
    obtain ⟨k, hk⟩ := List.getElem?_of_mem hp
    have := (allF_iff _ _).1 hall k p hk
    simp only [Bool.and_eq_true, Bool.not_eq_true', decide_eq_false_iff_not] at this
    exact ⟨h.left p hp, h.sym p hp, by omega, h.role p hp⟩


theorem l24_0_2 {a : List Bool} (hl : a.length ≤ 40) : runL (fun s => L24_0_2 a a s) 0 = some .k1 := by
  have := loop_list (l := a) (step := fun s => L24_0_2 a a s) (fun _ _ => true) (bad := E_L24_0_2.k0) (fin := E_L24_0_2.k1) (fun i x hx => by
    have hi : i < a.length := (List.getElem?_eq_some_iff.1 hx).1
    simp only [L24_0_2, getI_nat, hx, Option.bind_some, decide_eq_true (show (i : Int) < (a.length : Int) by omega), cond_true, w_S (show i < 4611686018427387904 by omega)]
    rw [show (x == x) = true by simp]
    rfl) (by simp [L24_0_2])
  rw [this]
  have e : ∀ (l : List Bool) (i : Nat), allF (fun _ _ => true) i l = true := by
    intro l
    induction l with
    | nil => intro i; rfl
    | cons x xs ih => intro i; simp only [allF, ih, Bool.and_self]
  rw [e]
  rfl
theorem q24_2 {a : List Bool} (hl : a.length ≤ 40) : F24_2 a a 0 0 = some true := by
  have hll : ((a.length : Int) != (a.length : Int)) = false := by simp
  have h00 : ((0 : Int) != 0) = false := rfl
  unfold F24_2
  simp only [F15, Option.bind_some, h00, cond_false, hll, l24_0_2 hl]
theorem q24 : F24 [] 160 160 = some true := rfl

theorem law5 {g : GramD} (h : ArgOk g) : F5 g = some true := by
  obtain ⟨v, h10, hv⟩ := q10 h
  unfold F5
  rw [h10]
  simp only [Option.bind_some]
  cases v with
  | true => rfl
  | false =>
    have hg := hv rfl
    rw [q12 hg]
    simp only [cond_false, Option.bind_some]
    cases hc : chkB g with
    | false =>
      have h45 := shortest_no hg hc
      have hcn : chkN g = 160 := by unfold chkN; rw [hc]; rfl
      have hn : ((160 : Int) != 0) = true := rfl
      have h20 : F20 g = some (.k0 [] 160) := by unfold F20; simp only [h45, Option.bind_some, hn, cond_true]
      have h21 : F21 g = some (.k0 [] 160) := by unfold F21; simp only [h45, Option.bind_some, hn, cond_true]
      have h22 : F22 g = some (.k0 [] 160) := by unfold F22; simp only [h45, Option.bind_some, hn, cond_true]
      have h23 : F23 g = some (.k0 [] 160) := by unfold F23; simp only [h45, Option.bind_some, hn, cond_true]
      simp only [h20, h21, h22, h23, hcn, Option.bind_some, hn, cond_true, q24, F11]
    | true =>
      obtain ⟨sh, hs, h16, h45, h1, h2⟩ := shortest hg hc
      have hk : ShK g sh := ⟨hs, h1, h2⟩
      have h40 := hg.sorts
      have hcn : chkN g = 0 := by unfold chkN; rw [hc]; rfl
      have h00 : ((0 : Int) != 0) = false := rfl
      obtain ⟨h20, h25⟩ := productive hg hc hk h45
      obtain ⟨h21, h26⟩ := reached hg hc hk h45
      obtain ⟨h22, h27⟩ := nullable hg hk h16 h45
      obtain ⟨h23, h28⟩ := circular hg hc hk h16 h45
      have l1 : (liveOf sh).length ≤ 40 := by rw [live_len, hs.len]; exact h40
      have l2 : (reachOf g).length ≤ 40 := by rw [reach_len]; exact h40
      have l3 : (nulOf sh).length ≤ 40 := by rw [nul_len, hs.len]; exact h40
      have l4 : (circOf g sh).length ≤ 40 := by simpa [circOf] using h40
      simp only [h20, h21, h22, h23, h25, h26, h27, h28, hcn, Option.bind_some, h00, cond_false, cond_true, q24_2 l1, q24_2 l2, q24_2 l3, q24_2 l4, F11]
end Go.Proofs.Tryd
