/- Whether a grammar may be: the program and the document's answer say the same. -/
import Derived.Test.YtpoclajcldnjeaaH42
import Derived.Test.YtpoclajcldnjeaaVE
import Derived.Test.YtpoclajcldnjeaaW4
import Derived.Test.YtpoclajcldnjeaaRows
import Derived.ProofKit
namespace Go.Proofs.Try
set_option linter.unusedSimpArgs false
set_option linter.unusedVariables false
open Go Go.Vs
def u64ok (a : Int) : Prop := 0 ≤ a ∧ a ≤ 18446744073709551615
def i64ok (a : Int) : Prop := -9223372036854775808 ≤ a ∧ a ≤ 9223372036854775807
structure SymOk (s : SymD) : Prop where
  kind : i64ok s.kind
  a : u64ok s.a
  b : u64ok s.b
  c : u64ok s.c
  d : u64ok s.d
  sort : i64ok s.sort
structure ProdOk (p : ProdD) : Prop where
  left : i64ok p.left
  right : ∀ s ∈ p.right, SymOk s
  len : p.right.length ≤ 40
  role : i64ok p.role
structure GramOk (g : GramD) : Prop where
  sorts : g.sorts.length ≤ 40
  prods : g.prods.length ≤ 80
  forbid : g.forbid.length ≤ 200
  follow : g.follow.length ≤ 200
  prod : ∀ p ∈ g.prods, ProdOk p
  foll : ∀ f ∈ g.follow, u64ok f.a ∧ u64ok f.b ∧ u64ok f.c ∧ u64ok f.d
  forb : ∀ f ∈ g.forbid, i64ok f.at_
def inR (n : Nat) (x : Int) : Bool := decide (0 ≤ x) && decide (x < (n : Int))
def sortOk (g : GramD) (x : Int) : Bool := inR g.sorts.length x
def emptyW (a b c d : Int) : Bool := (a == 0) && ((b == 0) && ((c == 0) && ((d == 0) && true)))
def pk {α : Type} (l : List α) (f : α → Bool) (k : Nat) : Bool := match l[k]? with | some t => f t | none => true
def pv {α : Type} (l : List α) (f : α → Bool) (i : Nat) : Bool := (List.range i).all (pk l f)
def okName (g : GramD) (i : Nat) (s : ByteArray) : Bool := !decide (s = .empty) && !decide ((s.size : Int) > 1000) && pv g.sorts (fun t => !decide (t = s)) i
def okSym (g : GramD) (p : ProdD) (s : SymD) : Bool :=
  bif s.kind == 0 then !emptyW s.a s.b s.c s.d && (s.sort == 0) else bif s.kind == 1 then emptyW s.a s.b s.c s.d && sortOk g s.sort && !(p.role == 11) else false
def okProd (g : GramD) (p : ProdD) : Bool :=
  sortOk g p.left && !decide ((p.right.length : Int) > 30) && !decide (p.role < 0) && !decide (p.role > 11) && !decide (p.frm < -1) && !decide ((p.cons.size : Int) > 64) && (decide (p.cons = .empty) || (p.role == 0)) && !(p.prefer && p.avoid) && allF (fun _ s => okSym g p s) 0 p.right
theorem eqE (s : ByteArray) : (s.toList == (⟨([] : List UInt8).toArray⟩ : ByteArray).toList) = decide (s = .empty) := bytes_list
theorem bsome (c d : Bool) : (bif c then some d else some false) = some (c && d) := by cases c <;> rfl
theorem q41 (g : GramD) : F31 g = some (sortOk g g.start) := bsome _ _
theorem q41_2 (g : GramD) (p : ProdD) : F31_2 g p = some (sortOk g p.left) := bsome _ _
theorem q41_3 (g : GramD) (p : SymD) : F31_3 g p = some (sortOk g p.sort) := bsome _ _
theorem q41_4 (g : GramD) (p : FollD) : F31_4 g p = some (sortOk g p.sort) := bsome _ _
theorem q73 (p : ProdD) (g : GramD) : F67 p g = some (sortOk g p.left) := bsome _ _
theorem q73_2 (s : SymD) (g : GramD) : F67_2 s g = some (sortOk g s.sort) := bsome _ _
theorem or4 {a b c d : Int} (ha : u64ok a) (hb : u64ok b) (hc : u64ok c) (hd : u64ok d) :
    ((IntKind.wrap .u64 ((BitVec.ofInt (IntKind.bits .u64) (IntKind.wrap .u64 ((BitVec.ofInt (IntKind.bits .u64) (IntKind.wrap .u64 ((BitVec.ofInt (IntKind.bits .u64) a ||| BitVec.ofInt (IntKind.bits .u64) b).toNat : Int)) ||| BitVec.ofInt (IntKind.bits .u64) c).toNat : Int)) ||| BitVec.ofInt (IntKind.bits .u64) d).toNat : Int)) == 0) = emptyW a b c d := by
  have e2 : ∀ x y : BitVec 64, decide ((x ||| y) = 0#64) = (decide (x = 0#64) && decide (y = 0#64)) := by
    intro x y
    by_cases hx : x = 0#64
    · subst hx; simp
    · have : ¬ (x ||| y) = 0#64 := by
        intro h
        apply hx
        apply BitVec.eq_of_getLsbD_eq
        intro i hi
        have := congrArg (fun z => z.getLsbD i) h
        simp only [BitVec.getLsbD_or, BitVec.getLsbD_zero, Bool.or_eq_false_iff] at this
        rw [this.1]; simp
      simp [hx, this]
  rw [or_zero, or_u64, or_u64, e2, e2, ofInt_zero ha, ofInt_zero hb, ofInt_zero hc, ofInt_zero hd]
  simp only [emptyW, Bool.and_assoc, Bool.and_true]
theorem q44 {s : SymD} (h : SymOk s) : F34 s = some (emptyW s.a s.b s.c s.d) := by
  unfold F34
  rw [or4 h.a h.b h.c h.d]
theorem q44_2 {f : FollD} (h : u64ok f.a ∧ u64ok f.b ∧ u64ok f.c ∧ u64ok f.d) : F34_2 f = some (emptyW f.a f.b f.c f.d) := by
  unfold F34_2
  rw [or4 h.1 h.2.1 h.2.2.1 h.2.2.2]
theorem range_take {α : Type} (l : List α) (f : α → Bool) : ∀ (i : Nat), i ≤ l.length → pv l f i = (l.take i).all f
  | 0, _ => rfl
  | i + 1, h => by
    have hx : l[i]? = some l[i] := List.getElem?_eq_getElem (by omega)
    have ih := range_take l f i (by omega)
    unfold pv at ih ⊢
    rw [List.range_succ, List.all_append, ih, List.take_add_one, hx, List.all_append]
    simp [pk, hx]
theorem l12_5 (g : GramD) {i : Nat} {x : ByteArray} (hi : g.sorts[i]? = some x) (hn : g.sorts.length ≤ 40) :
    runL (fun s => L12_5_2 (i : Int) g s) 0 = some (bif pv g.sorts (fun t => !decide (t = x)) i then E_L12_5_2.k1 else E_L12_5_2.k0) := by
  have hl : i < g.sorts.length := (List.getElem?_eq_some_iff.1 hi).1
  refine loop_range (pk g.sorts (fun t => !decide (t = x))) (fun k hk => ?_) ?_
  · have hy : g.sorts[k]? = some g.sorts[k] := List.getElem?_eq_getElem (by omega)
    simp only [L12_5_2, getI_nat, hi, hy, Option.bind_some, decide_eq_true (show (k : Int) < (i : Int) by omega), cond_true, bytes_list, w_S (show k < 4611686018427387904 by omega), pk]
    by_cases e : g.sorts[k] = x <;> simp [e]
  · simp [L12_5_2]
theorem beqF {a b : Int} (h : ¬ a = b) : (a == b) = false := by simp [h]
theorem bneT {a b : Int} (h : ¬ a = b) : (a != b) = true := by simp [h]
theorem l42_0 {g : GramD} {p : ProdD} (hp : ProdOk p) : runL (fun s => L32_0 g p s) 0 = some (bif allF (fun _ s => okSym g p s) 0 p.right then E_L32_0.k1 else E_L32_0.k0) := by
  have hlen := hp.len
  refine loop_list (fun _ s => okSym g p s) (fun i x hx => ?_) ?_
  · have hl : i < p.right.length := (List.getElem?_eq_some_iff.1 hx).1
    have hs := hp.right x (List.mem_of_getElem? hx)
    simp only [L32_0, getI_nat, hx, Option.bind_some, decide_eq_true (show (i : Int) < (p.right.length : Int) by omega), cond_true, q44 hs, q41_3, w_S (show i < 4611686018427387904 by omega), okSym]
    by_cases k0 : x.kind = 0
    · rw [k0]
      cases emptyW x.a x.b x.c x.d <;> by_cases hz : x.sort = 0 <;> first | (simp [hz]; done) | simp [beqF hz, bneT hz]
    · by_cases k1 : x.kind = 1
      · rw [k1]
        cases emptyW x.a x.b x.c x.d <;> cases sortOk g x.sort <;> by_cases hr : p.role = 11 <;> first | (simp [hr]; done) | simp [beqF hr]
      · simp [beqF k0, beqF k1, bneT k0, bneT k1]
  · simp [L32_0]
theorem q42 {g : GramD} {p : ProdD} (hp : ProdOk p) : F32 g p = some (okProd g p) := by
  unfold F32 okProd
  rw [q41_2, l42_0 hp, eqE]
  simp only [Option.bind_some]
  cases sortOk g p.left <;> simp only [cond_true, cond_false, Bool.false_and, Bool.true_and]
  cases decide ((p.right.length : Int) > 30) <;> simp only [cond_true, cond_false, Bool.false_and, Bool.true_and, Bool.not_true, Bool.not_false]
  cases decide (p.role < 0) <;> simp only [cond_true, cond_false, Bool.false_and, Bool.true_and, Bool.not_true, Bool.not_false]
  cases decide (p.role > 11) <;> simp only [cond_true, cond_false, Bool.false_and, Bool.true_and, Bool.not_true, Bool.not_false]
  cases decide (p.frm < -1) <;> simp only [cond_true, cond_false, Bool.false_and, Bool.true_and, Bool.not_true, Bool.not_false]
  cases decide ((p.cons.size : Int) > 64) <;> simp only [cond_true, cond_false, Bool.false_and, Bool.true_and, Bool.not_true, Bool.not_false]
  cases decide (p.cons = ByteArray.empty) <;> by_cases hr : p.role = 0 <;> cases p.prefer <;> cases p.avoid <;> cases allF (fun _ s => okSym g p s) 0 p.right <;> first | (simp [hr]; done) | simp [beqF hr, bneT hr]
theorem l12_4 {g : GramD} (hg : GramOk g) : runL (fun s => L12_4 g s) 0 = some (bif allF (fun _ p => okProd g p) 0 g.prods then E_L12_4.k1 else E_L12_4.k0) := by
  have hlen := hg.prods
  refine loop_list (fun _ p => okProd g p) (fun i x hx => ?_) ?_
  · have hl : i < g.prods.length := (List.getElem?_eq_some_iff.1 hx).1
    simp only [L12_4, getI_nat, hx, Option.bind_some, decide_eq_true (show (i : Int) < (g.prods.length : Int) by omega), cond_true, q42 (hg.prod x (List.mem_of_getElem? hx)), w_S (show i < 4611686018427387904 by omega)]
    cases okProd g x <;> rfl
  · simp [L12_4]
def okForb (g : GramD) (f : ForbD) : Bool :=
  match getI g.prods f.parent, getI g.prods f.child with
  | some p, some c => !(p.role == 11) && !(c.role == 11) && !decide (f.at_ < 1) && !decide (f.at_ > (p.right.length : Int)) && (match getI p.right (f.at_ - 1) with | some s => (s.kind == 1) && (s.sort == c.left) | none => false)
  | _, _ => false
theorem getI_none {α : Type} {l : List α} {i : Int} (h : i < 0 ∨ (l.length : Int) ≤ i) : getI l i = none := by
  unfold getI
  split
  · rw [List.getElem?_eq_none (by omega)]
  · rfl
theorem getI_in {α : Type} {l : List α} {i : Int} (h0 : ¬ i < 0) (h1 : ¬ (l.length : Int) ≤ i) : ∃ x, getI l i = some x := by
  unfold getI
  rw [if_pos (by omega)]
  exact ⟨_, List.getElem?_eq_getElem (by omega)⟩
theorem q43 {g : GramD} (hg : GramOk g) {f : ForbD} (hf : i64ok f.at_) : F33 g f = some (okForb g f) := by
  unfold F33 okForb
  by_cases h1 : f.parent < 0
  · simp [h1, getI_none (l := g.prods) (.inl h1)]
  by_cases h2 : (g.prods.length : Int) ≤ f.parent
  · simp [h2, h1, getI_none (l := g.prods) (.inr h2)]
  obtain ⟨p, hp⟩ := getI_in h1 h2
  by_cases h3 : f.child < 0
  · simp [h1, h2, h3, hp, getI_none (l := g.prods) (.inl h3)]
  by_cases h4 : (g.prods.length : Int) ≤ f.child
  · simp [h1, h2, h3, h4, hp, getI_none (l := g.prods) (.inr h4)]
  obtain ⟨c, hc⟩ := getI_in h3 h4
  simp only [hp, hc, decide_eq_false h1, decide_eq_false h3, decide_eq_false (show ¬ f.parent ≥ (g.prods.length : Int) from h2), decide_eq_false (show ¬ f.child ≥ (g.prods.length : Int) from h4), cond_false, Option.bind_some]
  by_cases h5 : p.role = 11
  · simp [h5]
  by_cases h6 : c.role = 11
  · simp [beqF h5, h6]
  by_cases h7 : f.at_ < 1
  · simp [beqF h5, beqF h6, h7]
  by_cases h8 : f.at_ > (p.right.length : Int)
  · simp [beqF h5, beqF h6, h7, h8]
  have hb1 : (p.role == 11) = false := by simp [h5]
  have hb2 : (c.role == 11) = false := by simp [h6]
  simp only [hb1, hb2, decide_eq_false h7, decide_eq_false h8, cond_false, Bool.not_false, Bool.true_and]
  unfold i64ok at hf
  rw [w_id (by omega)]
  obtain ⟨s, hs⟩ := getI_in (l := p.right) (i := f.at_ - 1) (by omega) (by omega)
  rw [hs]
  simp only [Option.bind_some]
  exact bsome _ _
theorem l12_6 (g : GramD) (hn : g.sorts.length ≤ 40) : runL (fun s => L12_6 g s) 0 = some (bif allF (okName g) 0 g.sorts then E_L12_6.k1 else E_L12_6.k0) := by
  refine loop_list (okName g) (fun i x hx => ?_) ?_
  · have hl : i < g.sorts.length := (List.getElem?_eq_some_iff.1 hx).1
    simp only [L12_6, getI_nat, hx, Option.bind_some, decide_eq_true (show (i : Int) < (g.sorts.length : Int) by omega), cond_true, eqE, l12_5 g hx hn, w_S (show i < 4611686018427387904 by omega), okName]
    cases decide (x = ByteArray.empty) <;> cases decide ((x.size : Int) > 1000) <;> simp
    cases pv g.sorts (fun t => !decide (t = x)) i <;> simp
  · simp [L12_6]
end Go.Proofs.Try
namespace Go.Proofs.Try
set_option linter.unusedSimpArgs false
set_option linter.unusedVariables false
open Go Go.Vs
def eqFo (x y : ForbD) : Bool := (x.parent == y.parent) && ((x.at_ == y.at_) && ((x.child == y.child) && true))
def okForbI (g : GramD) (i : Nat) (f : ForbD) : Bool := okForb g f && pv g.forbid (fun t => !eqFo t f) i
def okFollI (g : GramD) (i : Nat) (f : FollD) : Bool := sortOk g f.sort && !emptyW f.a f.b f.c f.d && pv g.follow (fun t => !(t.sort == f.sort)) i
theorem l12_2 (g : GramD) {i : Nat} {x : ForbD} (hi : g.forbid[i]? = some x) (hn : g.forbid.length ≤ 200) :
    runL (fun s => L12_2_2 (i : Int) g s) 0 = some (bif pv g.forbid (fun t => !eqFo t x) i then E_L12_2_2.k1 else E_L12_2_2.k0) := by
  have hl : i < g.forbid.length := (List.getElem?_eq_some_iff.1 hi).1
  refine loop_range (pk g.forbid (fun t => !eqFo t x)) (fun k hk => ?_) ?_
  · have hy : g.forbid[k]? = some g.forbid[k] := List.getElem?_eq_getElem (by omega)
    simp only [L12_2_2, getI_nat, hi, hy, Option.bind_some, decide_eq_true (show (k : Int) < (i : Int) by omega), cond_true, w_S (show k < 4611686018427387904 by omega), eqFo, pk]
    cases (g.forbid[k].parent == x.parent && (g.forbid[k].at_ == x.at_ && (g.forbid[k].child == x.child && true))) <;> rfl
  · simp [L12_2_2]
theorem l12_3 {g : GramD} (hg : GramOk g) : runL (fun s => L12_3 g s) 0 = some (bif allF (okForbI g) 0 g.forbid then E_L12_3.k1 else E_L12_3.k0) := by
  have hn := hg.forbid
  refine loop_list (okForbI g) (fun i x hx => ?_) ?_
  · have hl : i < g.forbid.length := (List.getElem?_eq_some_iff.1 hx).1
    simp only [L12_3, getI_nat, hx, Option.bind_some, decide_eq_true (show (i : Int) < (g.forbid.length : Int) by omega), cond_true, q43 hg (hg.forb x (List.mem_of_getElem? hx)), l12_2 g hx hn, w_S (show i < 4611686018427387904 by omega), okForbI]
    cases okForb g x
    · rfl
    · simp only [cond_true, Bool.true_and]
      cases pv g.forbid (fun t => !eqFo t x) i <;> rfl
  · simp [L12_3]
theorem l12_0 (g : GramD) {i : Nat} {x : FollD} (hi : g.follow[i]? = some x) (hn : g.follow.length ≤ 200) :
    runL (fun s => L12_0_2 (i : Int) g s) 0 = some (bif pv g.follow (fun t => !(t.sort == x.sort)) i then E_L12_0_2.k1 else E_L12_0_2.k0) := by
  have hl : i < g.follow.length := (List.getElem?_eq_some_iff.1 hi).1
  refine loop_range (pk g.follow (fun t => !(t.sort == x.sort))) (fun k hk => ?_) ?_
  · have hy : g.follow[k]? = some g.follow[k] := List.getElem?_eq_getElem (by omega)
    simp only [L12_0_2, getI_nat, hi, hy, Option.bind_some, decide_eq_true (show (k : Int) < (i : Int) by omega), cond_true, w_S (show k < 4611686018427387904 by omega), pk]
    cases (g.follow[k].sort == x.sort) <;> rfl
  · simp [L12_0_2]
theorem l12_1 {g : GramD} (hg : GramOk g) : runL (fun s => L12_1 g s) 0 = some (bif allF (okFollI g) 0 g.follow then E_L12_1.k1 else E_L12_1.k0) := by
  have hn := hg.follow
  refine loop_list (okFollI g) (fun i x hx => ?_) ?_
  · have hl : i < g.follow.length := (List.getElem?_eq_some_iff.1 hx).1
    simp only [L12_1, getI_nat, hx, Option.bind_some, decide_eq_true (show (i : Int) < (g.follow.length : Int) by omega), cond_true, q41_4, q44_2 (hg.foll x (List.mem_of_getElem? hx)), l12_0 g hx hn, w_S (show i < 4611686018427387904 by omega), okFollI]
    cases sortOk g x.sort
    · rfl
    · cases emptyW x.a x.b x.c x.d
      · simp only [cond_true, cond_false, Bool.true_and, Bool.not_false]
        cases pv g.follow (fun t => !(t.sort == x.sort)) i <;> rfl
      · rfl
  · simp [L12_1]
def okSorts (g : GramD) : Bool := !decide ((g.sorts.length : Int) < 1) && sortOk g g.start && allF (okName g) 0 g.sorts
def okProds (g : GramD) : Bool := allF (fun _ p => okProd g p) 0 g.prods
def okForbs (g : GramD) : Bool := allF (okForbI g) 0 g.forbid
def okFolls (g : GramD) : Bool := allF (okFollI g) 0 g.follow
def chkB (g : GramD) : Bool := okSorts g && okProds g && okForbs g && okFolls g
def chkN (g : GramD) : Int := bif chkB g then 0 else 160
theorem q12 {g : GramD} (hg : GramOk g) : F12 g = some (chkN g) := by
  have h1 := hg.sorts
  have h2 := hg.prods
  unfold F12 chkN chkB okSorts okProds okForbs okFolls
  rw [q41, l12_6 g h1, l12_4 hg, l12_3 hg, l12_1 hg, decide_eq_false (show ¬ (g.sorts.length : Int) > 1000 by omega), decide_eq_false (show ¬ (g.prods.length : Int) > 1000 by omega)]
  simp only [Option.bind_some, cond_false]
  cases decide ((g.sorts.length : Int) < 1) <;> cases sortOk g g.start <;> cases allF (okName g) 0 g.sorts <;> cases allF (fun _ p => okProd g p) 0 g.prods <;> cases allF (okForbI g) 0 g.forbid <;> cases allF (okFollI g) 0 g.follow <;> rfl
theorem seen_inv {α K : Type} [DecidableEq K] {l : List α} {key : α → K} {m : List (K × Int)} {i : Nat} {x : α} (hx : l[i]? = some x) (hm : ∀ s, mget 0 m s = if (l.take i).any (fun t => decide (key t = s)) then 1 else 0) :
    mget 0 (mput (key x) (IntKind.wrap .i64 (mget 0 m (key x) + 1)) m) (key x) = (if (l.take i).any (fun t => decide (key t = key x)) then 2 else 1) ∧ ((l.take i).any (fun t => decide (key t = key x)) = false → ∀ s, mget 0 (mput (key x) (IntKind.wrap .i64 (mget 0 m (key x) + 1)) m) s = if (l.take (i + 1)).any (fun t => decide (key t = s)) then 1 else 0) := by
  constructor
  · rw [mget_mput, if_pos rfl, hm (key x)]
    split <;> rfl
  · intro hn s
    rw [mget_mput, hm (key x), hn, List.take_add_one, hx, List.any_append]
    by_cases e : s = key x
    · subst e; simp; rfl
    · rw [if_neg e, hm s]
      have : ¬ key x = s := fun h => e h.symm
      simp [this]
theorem dup_take {α : Type} {l : List α} {i : Nat} (f : α → Bool) (hi : i ≤ l.length) : pv l (fun t => !f t) i = !((l.take i).any f) := by
  rw [range_take l (fun t => !f t) i hi]
  induction l.take i with
  | nil => rfl
  | cons x xs ih => simp only [List.all_cons, List.any_cons, ih]; cases f x <;> simp
theorem q57 {g : GramD} (hg : GramOk g) : F41 g = some (okSorts g) := by
  have hn := hg.sorts
  have key := loop_chk (step := fun s => L41_0 g (g.sorts.length : Int) s.1 s.2) (l := g.sorts) (emb := fun i m => ((i : Int), m)) (okName g) (fun i m x => mput x (IntKind.wrap .i64 (mget 0 m x + 1)) m) E_L41_0.k0 E_L41_0.k1
    (fun i m => ∀ s, mget 0 m s = if (g.sorts.take i).any (fun t => decide (t = s)) then 1 else 0) (fun i x m hx hm => ?_) (fun m _ => ?_) g.sorts.length 0 [] (by omega) (by intro s; simp [mget, mfind])
  · rw [List.drop_zero] at key
    unfold F41 okSorts
    have e : ((0 : Nat) : Int) = 0 := rfl
    simp only [e] at key
    cases hall : allF (okName g) 0 g.sorts with
    | true =>
      obtain ⟨b, hb, _⟩ := key.1 hall
      rw [hb]
      simp only [Option.bind_some, decide_eq_true (show (g.sorts.length : Int) ≤ 1000 by omega), cond_true, sortOk, inR]
      by_cases h1 : (g.sorts.length : Int) < 1
      · simp [h1, show ¬ (g.sorts.length : Int) ≥ 1 by omega]
      · rw [decide_eq_true (show (g.sorts.length : Int) ≥ 1 by omega), decide_eq_false h1]
        simp only [cond_true, Bool.not_false, Bool.true_and, Bool.and_true]
        exact bsome _ _
    | false =>
      rw [key.2 hall]
      simp
  · have hl : i < g.sorts.length := (List.getElem?_eq_some_iff.1 hx).1
    obtain ⟨h1, h2⟩ := seen_inv (key := fun t => t) hx hm
    have hd := dup_take (l := g.sorts) (i := i) (fun t => decide (t = x)) (by omega)
    simp only [L41_0, getI_nat, hx, Option.bind_some, decide_eq_true (show (i : Int) < (g.sorts.length : Int) by omega), cond_true, eqE, h1, w_S (show i < 4611686018427387904 by omega), okName, hd]
    cases decide (x = ByteArray.empty) <;> cases decide ((x.size : Int) > 1000) <;> cases hxm : (g.sorts.take i).any (fun t => decide (t = x)) <;> simp
    exact h2 hxm
  · simp [L41_0]
theorem l58_0 {g : GramD} {p : ProdD} (hp : ProdOk p) : runL (fun s => L42_0_2 g p (p.right.length : Int) s) 0 = some (bif allF (fun _ s => okSym g p s) 0 p.right then E_L42_0_2.k1 else E_L42_0_2.k0) := by
  have hlen := hp.len
  refine loop_list (fun _ s => okSym g p s) (fun i x hx => ?_) ?_
  · have hl : i < p.right.length := (List.getElem?_eq_some_iff.1 hx).1
    have he : ((x.a == 0) && ((x.b == 0) && ((x.c == 0) && ((x.d == 0) && true)))) = emptyW x.a x.b x.c x.d := rfl
    simp only [L42_0_2, getI_nat, hx, Option.bind_some, decide_eq_true (show (i : Int) < (p.right.length : Int) by omega), cond_true, q73_2, w_S (show i < 4611686018427387904 by omega), okSym, he]
    by_cases k0 : x.kind = 0
    · rw [k0]
      cases emptyW x.a x.b x.c x.d <;> by_cases hz : x.sort = 0 <;> first | (simp [hz]; done) | simp [beqF hz, bneT hz]
    · by_cases k1 : x.kind = 1
      · rw [k1]
        cases emptyW x.a x.b x.c x.d <;> cases sortOk g x.sort <;> by_cases hr : p.role = 11 <;> first | (simp [hr]; done) | simp [beqF hr]
      · simp [beqF k0, beqF k1, bneT k0, bneT k1]
  · simp [L42_0_2]
theorem q58 {g : GramD} (hg : GramOk g) : F42 g = some (okProds g) := by
  have hlen := hg.prods
  have key : runL (fun s => L42_1 g (g.prods.length : Int) s) 0 = some (bif allF (fun _ p => okProd g p) 0 g.prods then E_L42_1.k1 else E_L42_1.k0) := by
    refine loop_list (fun _ p => okProd g p) (fun i p hx => ?_) ?_
    · have hl : i < g.prods.length := (List.getElem?_eq_some_iff.1 hx).1
      have hp := hg.prod p (List.mem_of_getElem? hx)
      simp only [L42_1, getI_nat, hx, Option.bind_some, decide_eq_true (show (i : Int) < (g.prods.length : Int) by omega), cond_true, q73, l58_0 hp, eqE, w_S (show i < 4611686018427387904 by omega), okProd]
      cases sortOk g p.left <;> simp only [cond_true, cond_false, Bool.false_and, Bool.true_and]
      cases decide ((p.right.length : Int) > 30) <;> simp only [cond_true, cond_false, Bool.false_and, Bool.true_and, Bool.not_true, Bool.not_false]
      cases decide (p.role < 0) <;> simp only [cond_true, cond_false, Bool.false_and, Bool.true_and, Bool.not_true, Bool.not_false]
      cases decide (p.role > 11) <;> simp only [cond_true, cond_false, Bool.false_and, Bool.true_and, Bool.not_true, Bool.not_false]
      cases decide (p.frm < -1) <;> simp only [cond_true, cond_false, Bool.false_and, Bool.true_and, Bool.not_true, Bool.not_false]
      cases decide ((p.cons.size : Int) > 64) <;> simp only [cond_true, cond_false, Bool.false_and, Bool.true_and, Bool.not_true, Bool.not_false]
      cases decide (p.cons = ByteArray.empty) <;> by_cases hr : p.role = 0 <;> cases p.prefer <;> cases p.avoid <;> cases allF (fun _ s => okSym g p s) 0 p.right <;> first | (simp [hr]; done) | simp [beqF hr, bneT hr]
    · simp [L42_1]
  unfold F42 okProds
  rw [key]
  cases allF (fun _ p => okProd g p) 0 g.prods
  · rfl
  · simp only [cond_true, Option.bind_some, decide_eq_true (show (g.prods.length : Int) ≤ 1000 by omega)]
end Go.Proofs.Try
namespace Go.Proofs.Try
set_option linter.unusedSimpArgs false
set_option linter.unusedVariables false
open Go Go.Vs
theorem eqFo_key (t f : ForbD) : eqFo t f = decide ((t.parent, t.at_, t.child) = (f.parent, f.at_, f.child)) := by
  unfold eqFo
  by_cases h1 : t.parent = f.parent
  · by_cases h2 : t.at_ = f.at_
    · by_cases h3 : t.child = f.child
      · simp [h1, h2, h3]
      · simp [h1, h2, h3, beqF h3]
    · simp [h1, h2, beqF h2]
  · simp [h1, beqF h1]
theorem q59 {g : GramD} (hg : GramOk g) : F43 g = some (okForbs g) := by
  have hn := hg.forbid
  have key := loop_chk (step := fun s => L43_0 g (g.forbid.length : Int) s.1 s.2) (l := g.forbid) (emb := fun i m => ((i : Int), m)) (okForbI g)
    (fun i m x => mput (x.parent, x.at_, x.child) (IntKind.wrap .i64 (mget 0 m (x.parent, x.at_, x.child) + 1)) m) E_L43_0.k0 E_L43_0.k1
    (fun i m => ∀ s, mget 0 m s = if (g.forbid.take i).any (fun t => decide ((t.parent, t.at_, t.child) = s)) then 1 else 0) (fun i f m hx hm => ?_) (fun m _ => ?_) g.forbid.length 0 [] (by omega) (by intro s; simp [mget, mfind])
  · rw [List.drop_zero] at key
    have e : ((0 : Nat) : Int) = 0 := rfl
    simp only [e] at key
    unfold F43 okForbs
    cases hall : allF (okForbI g) 0 g.forbid with
    | true => obtain ⟨b, hb, _⟩ := key.1 hall; rw [hb]; rfl
    | false => rw [key.2 hall]; rfl
  · have hl : i < g.forbid.length := (List.getElem?_eq_some_iff.1 hx).1
    have hat := hg.forb f (List.mem_of_getElem? hx)
    unfold i64ok at hat
    obtain ⟨h1, h2⟩ := seen_inv (key := fun t : ForbD => (t.parent, t.at_, t.child)) hx hm
    have hd := dup_take (l := g.forbid) (i := i) (fun t => eqFo t f) (by omega)
    simp only [eqFo_key] at hd
    skip
    have hok : okForbI g i f = (okForb g f && !(g.forbid.take i).any (fun t => decide ((t.parent, t.at_, t.child) = (f.parent, f.at_, f.child)))) := by
      unfold okForbI
      simp only [eqFo_key]
      rw [hd]
    rw [hok]
    simp only [L43_0, getI_nat, hx, Option.bind_some, decide_eq_true (show (i : Int) < (g.forbid.length : Int) by omega), cond_true, h1, w_S (show i < 4611686018427387904 by omega)]
    cases hxm : (g.forbid.take i).any (fun t => decide ((t.parent, t.at_, t.child) = (f.parent, f.at_, f.child))) with
    | true => simp
    | false =>
      have h2 := h2 hxm
      simp only [Bool.not_false, Bool.and_true, Bool.false_eq_true, if_false, show decide ((1 : Int) > 1) = false from rfl, cond_false]
      have e73 : F68 f g = match getI g.prods f.parent with | some p => some (p.role != 11) | none => some false := by
        unfold F68
        by_cases a1 : f.parent < 0
        · simp [getI_none (l := g.prods) (.inl a1), show ¬ f.parent ≥ 0 by omega]
        · by_cases a2 : (g.prods.length : Int) ≤ f.parent
          · simp [getI_none (l := g.prods) (.inr a2), show ¬ f.parent < (g.prods.length : Int) by omega]
          · obtain ⟨p, hp⟩ := getI_in a1 a2
            simp [hp, show f.parent ≥ 0 by omega, show f.parent < (g.prods.length : Int) by omega]
      have e74 : F68_2 f g = match getI g.prods f.child with | some p => some (p.role != 11) | none => some false := by
        unfold F68_2
        by_cases a1 : f.child < 0
        · simp [getI_none (l := g.prods) (.inl a1), show ¬ f.child ≥ 0 by omega]
        · by_cases a2 : (g.prods.length : Int) ≤ f.child
          · simp [getI_none (l := g.prods) (.inr a2), show ¬ f.child < (g.prods.length : Int) by omega]
          · obtain ⟨p, hp⟩ := getI_in a1 a2
            simp [hp, show f.child ≥ 0 by omega, show f.child < (g.prods.length : Int) by omega]
      rw [e73, e74]
      unfold okForb
      cases hp : getI g.prods f.parent with
      | none => simp
      | some p =>
        cases hc : getI g.prods f.child with
        | none => by_cases r1 : p.role = 11 <;> first | (simp [r1]; done) | simp [bneT r1, beqF r1]
        | some c =>
          simp only [Option.bind_some]
          by_cases r1 : p.role = 11
          · simp [r1]
          by_cases r2 : c.role = 11
          · simp [bneT r1, beqF r1, r2]
          by_cases r3 : f.at_ < 1
          · simp [bneT r1, beqF r1, bneT r2, beqF r2, r3]
          by_cases r4 : f.at_ > (p.right.length : Int)
          · simp [bneT r1, beqF r1, bneT r2, beqF r2, r3, r4]
          rw [w_id (by omega)]
          obtain ⟨s, hs⟩ := getI_in (l := p.right) (i := f.at_ - 1) (by omega) (by omega)
          simp only [hs, Option.bind_some, bneT r1, beqF r1, bneT r2, beqF r2, decide_eq_false r3, decide_eq_false r4, cond_true, cond_false, Bool.not_false, Bool.true_and]
          by_cases r5 : s.kind = 1
          · by_cases r6 : s.sort = c.left
            · simpa [r5, r6] using h2
            · simp [r5, bneT r6, beqF r6]
          · simp [bneT r5, beqF r5]
  · simp [L43_0]
theorem q60 {g : GramD} (hg : GramOk g) : F44 g = some (okFolls g) := by
  have hn := hg.follow
  have key := loop_chk (step := fun s => L44_0 g (g.follow.length : Int) s.1 s.2) (l := g.follow) (emb := fun i m => ((i : Int), m)) (okFollI g)
    (fun i m x => mput x.sort (IntKind.wrap .i64 (mget 0 m x.sort + 1)) m) E_L44_0.k0 E_L44_0.k1
    (fun i m => ∀ s, mget 0 m s = if (g.follow.take i).any (fun t => decide (t.sort = s)) then 1 else 0) (fun i f m hx hm => ?_) (fun m _ => ?_) g.follow.length 0 [] (by omega) (by intro s; simp [mget, mfind])
  · rw [List.drop_zero] at key
    have e : ((0 : Nat) : Int) = 0 := rfl
    simp only [e] at key
    unfold F44 okFolls
    cases hall : allF (okFollI g) 0 g.follow with
    | true => obtain ⟨b, hb, _⟩ := key.1 hall; rw [hb]; rfl
    | false => rw [key.2 hall]; rfl
  · have hl : i < g.follow.length := (List.getElem?_eq_some_iff.1 hx).1
    obtain ⟨h1, h2⟩ := seen_inv (key := fun t : FollD => t.sort) hx hm
    have hd := dup_take (l := g.follow) (i := i) (fun t => t.sort == f.sort) (by omega)
    have hbeq : (g.follow.take i).any (fun t => t.sort == f.sort) = (g.follow.take i).any (fun t => decide (t.sort = f.sort)) := by
      congr 1
    rw [hbeq] at hd
    skip
    have he : ((f.a == 0) && ((f.b == 0) && ((f.c == 0) && ((f.d == 0) && true)))) = emptyW f.a f.b f.c f.d := rfl
    simp only [L44_0, getI_nat, hx, Option.bind_some, decide_eq_true (show (i : Int) < (g.follow.length : Int) by omega), cond_true, h1, w_S (show i < 4611686018427387904 by omega), okFollI, hd, he, sortOk, inR]
    cases hxm : (g.follow.take i).any (fun t => decide (t.sort = f.sort)) with
    | true => simp
    | false =>
      have h2 := h2 hxm
      by_cases a1 : f.sort < 0
      · simp [a1, show ¬ 0 ≤ f.sort by omega]
      by_cases a2 : (g.sorts.length : Int) ≤ f.sort
      · simp [a1, a2, show ¬ f.sort < (g.sorts.length : Int) by omega]
      cases emptyW f.a f.b f.c f.d
      · simpa [a1, a2, show 0 ≤ f.sort by omega, show f.sort < (g.sorts.length : Int) by omega] using h2
      · simp [a1, a2]
  · simp [L44_0]
theorem q29 {g : GramD} (hg : GramOk g) : F15 g = some (chkN g) := by
  have key : runL (fun s => L15_0 g s) 0 = some (bif (List.range 4).all (fun i => match i with | 0 => okSorts g | 1 => okProds g | 2 => okForbs g | _ => okFolls g) then E_L15_0.k1 else E_L15_0.k0) := by
    refine loop_range (n := 4) _ (fun i hi => ?_) ?_
    · match i, hi with
      | 0, _ => simp only [L15_0, q57 hg, Option.bind_some]; cases okSorts g <;> rfl
      | 1, _ => simp only [L15_0, q58 hg, Option.bind_some]; cases okProds g <;> rfl
      | 2, _ => simp only [L15_0, q59 hg, Option.bind_some]; cases okForbs g <;> rfl
      | 3, _ => simp only [L15_0, q60 hg, Option.bind_some]; cases okFolls g <;> rfl
      | n + 4, h => omega
    · rfl
  unfold F15 chkN chkB
  rw [key]
  show (some (bif (okSorts g && (okProds g && (okForbs g && (okFolls g && true)))) then E_L15_0.k1 else E_L15_0.k0)).bind _ = _
  cases okSorts g <;> cases okProds g <;> cases okForbs g <;> cases okFolls g <;> rfl
end Go.Proofs.Try
namespace Go.Proofs.Try
set_option linter.unusedSimpArgs false
set_option linter.unusedVariables false
open Go Go.Vs
structure SymV (n : Nat) (s : SymD) : Prop where
  k : s.kind = 0 ∨ s.kind = 1
  set : s.kind = 0 → emptyW s.a s.b s.c s.d = false
  sort : s.kind = 1 → 0 ≤ s.sort ∧ s.sort < n
structure ProdV (n : Nat) (p : ProdD) : Prop where
  left : 0 ≤ p.left ∧ p.left < n
  right : ∀ s ∈ p.right, SymV n s
  len : p.right.length ≤ 30
structure GramV (g : GramD) : Prop where
  n : 1 ≤ g.sorts.length
  prod : ∀ p ∈ g.prods, ProdV g.sorts.length p
  start : 0 ≤ g.start ∧ g.start < g.sorts.length
theorem val_of {g : GramD} (h : chkB g = true) : GramV g := by
  unfold chkB okSorts okProds at h
  simp only [Bool.and_eq_true, Bool.not_eq_true', decide_eq_false_iff_not] at h
  obtain ⟨⟨⟨⟨⟨h1, h3⟩, _⟩, h2⟩, _⟩, _⟩ := h
  unfold sortOk inR at h3
  simp only [Bool.and_eq_true, decide_eq_true_eq] at h3
  refine ⟨by omega, fun p hp => ?_, h3⟩
  obtain ⟨k, hk⟩ := List.getElem?_of_mem hp
  have hp2 := (allF_iff _ _).1 h2 k p hk
  unfold okProd at hp2
  simp only [Bool.and_eq_true, Bool.not_eq_true', decide_eq_false_iff_not] at hp2
  obtain ⟨⟨⟨⟨⟨⟨⟨⟨q1, q2⟩, _⟩, _⟩, _⟩, _⟩, _⟩, _⟩, q3⟩ := hp2
  refine ⟨?_, fun s hs => ?_, by omega⟩
  · unfold sortOk inR at q1
    simp only [Bool.and_eq_true, decide_eq_true_eq] at q1
    exact q1
  · obtain ⟨j, hj⟩ := List.getElem?_of_mem hs
    have hs2 := (allF_iff _ _).1 q3 j s hj
    unfold okSym at hs2
    by_cases k0 : s.kind = 0
    · rw [k0] at hs2
      simp only [beq_self_eq_true, cond_true, Bool.and_eq_true, Bool.not_eq_true'] at hs2
      exact ⟨.inl k0, fun _ => hs2.1, fun e => by rw [k0] at e; cases e⟩
    · by_cases k1 : s.kind = 1
      · rw [k1] at hs2
        have : ((1 : Int) == 0) = false := rfl
        simp only [this, cond_false, beq_self_eq_true, cond_true, Bool.and_eq_true, sortOk, inR, decide_eq_true_eq] at hs2
        exact ⟨.inr k1, fun e => absurd e k0, fun _ => hs2.1.2⟩
      · rw [beqF k0, beqF k1] at hs2
        cases hs2
section
variable {g : GramD} {n : Nat}
end
end Go.Proofs.Try
namespace Go.Proofs.Try
set_option linter.unusedSimpArgs false
set_option linter.unusedVariables false
open Go Go.Vs
section
variable {c : ProdD → Bool} {g : GramD} {n : Nat}
end
end Go.Proofs.Try
namespace Go.Proofs.Try
set_option linter.unusedSimpArgs false
set_option linter.unusedVariables false
open Go Go.Vs
theorem drop_cons {α : Type} {l : List α} {i : Nat} {x : α} (h : l[i]? = some x) : l.drop i = x :: l.drop (i + 1) := by
  obtain ⟨h1, h2⟩ := List.getElem?_eq_some_iff.1 h
  rw [← h2]
  exact List.drop_eq_getElem_cons h1
def Small (g : GramD) : Prop := g.sorts.length ≤ 40 ∧ g.prods.length ≤ 60 ∧ g.forbid.length ≤ 40 ∧ g.follow.length ≤ 40 ∧ ∀ p ∈ g.prods, p.right.length ≤ 40
theorem loop_any {α E : Type} {f : Int → Option (E ⊕ Int)} {k0 k1 : E} (t : α → Bool) {l : List α}
    (hf : ∀ (i : Nat) x, i < l.length → l[i]? = some x → f (i : Int) = some (bif t x then .inl k0 else .inr ((i + 1 : Nat) : Int))) (he : f (l.length : Int) = some (.inl k1)) :
    ∀ (m i : Nat), i + m = l.length → runL f (i : Int) = some (bif (l.drop i).any t then k0 else k1)
  | 0, i, hi => by
    have : i = l.length := by omega
    subst this
    rw [List.drop_length]
    exact runL_done he
  | m + 1, i, hi => by
    have h1 : i < l.length := by omega
    have g1 : l[i]? = some l[i] := List.getElem?_eq_getElem h1
    have := hf i _ h1 g1
    rw [drop_cons g1]
    simp only [List.any_cons]
    cases ht : t l[i] with
    | true =>
      rw [ht] at this
      exact runL_done this
    | false =>
      rw [ht] at this
      rw [runL_next this, Bool.false_or]
      exact loop_any t hf he m (i + 1) (by omega)
theorem lt62 {i n : Nat} (h : i < n) (hn : n ≤ 1000) : i < 4611686018427387904 := by omega
theorem dlt {i n : Nat} (h : i < n) : decide ((i : Int) < (n : Int)) = true := decide_eq_true (by omega)
theorem dge {n : Nat} : decide ((n : Int) < (n : Int)) = false := decide_eq_false (by omega)
theorem q9 (g : GramD) : F9 g = some true ∨ (F9 g = some false ∧ Small g) := by
  unfold F9
  by_cases h1 : g.sorts.length ≤ 40
  case neg => rw [decide_eq_true (show (g.sorts.length : Int) > 40 by omega)]; exact .inl rfl
  by_cases h2 : g.prods.length ≤ 60
  case neg => rw [decide_eq_true (show (g.prods.length : Int) > 60 by omega)]; left; cases decide ((g.sorts.length : Int) > 40) <;> rfl
  by_cases h3 : g.forbid.length ≤ 40
  case neg => rw [decide_eq_true (show (g.forbid.length : Int) > 40 by omega)]; left; cases decide ((g.sorts.length : Int) > 40) <;> cases decide ((g.prods.length : Int) > 60) <;> rfl
  by_cases h4 : g.follow.length ≤ 40
  case neg => rw [decide_eq_true (show (g.follow.length : Int) > 40 by omega)]; left; cases decide ((g.sorts.length : Int) > 40) <;> cases decide ((g.prods.length : Int) > 60) <;> cases decide ((g.forbid.length : Int) > 40) <;> rfl
  rw [decide_eq_false (show ¬ (g.sorts.length : Int) > 40 by omega), decide_eq_false (show ¬ (g.prods.length : Int) > 60 by omega), decide_eq_false (show ¬ (g.forbid.length : Int) > 40 by omega), decide_eq_false (show ¬ (g.follow.length : Int) > 40 by omega)]
  simp only [cond_false]
  have e1 := loop_any (f := fun s => L9_1 g s) (k0 := E_L9_1.k0) (k1 := E_L9_1.k1) (fun x : ByteArray => decide ((x.size : Int) > 1500)) (l := g.sorts) (fun i x hi hx => by
    simp only [L9_1, getI_nat, hx, dlt hi, cond_true, Option.bind_some, w_S (lt62 hi (by omega))]
    cases decide ((x.size : Int) > 1500) <;> rfl) (by simp only [L9_1, dge, cond_false]) g.sorts.length 0 (by omega)
  have e2 := loop_any (f := fun s => L9_0 g s) (k0 := E_L9_0.k0) (k1 := E_L9_0.k1) (fun x : ProdD => decide ((x.right.length : Int) > 40) || decide ((x.cons.size : Int) > 1500)) (l := g.prods) (fun i x hi hx => by
    simp only [L9_0, getI_nat, hx, dlt hi, cond_true, Option.bind_some, w_S (lt62 hi (by omega))]
    cases decide ((x.right.length : Int) > 40) <;> cases decide ((x.cons.size : Int) > 1500) <;> rfl) (by simp only [L9_0, dge, cond_false]) g.prods.length 0 (by omega)
  rw [show ((0 : Nat) : Int) = 0 from rfl] at e1 e2
  rw [e1]
  simp only [Option.bind_some]
  cases (g.sorts.drop 0).any fun x => decide ((x.size : Int) > 1500) with
  | true => exact .inl rfl
  | false =>
    simp only [Option.bind_some, cond_false, e2]
    cases hany : (g.prods.drop 0).any fun x => decide ((x.right.length : Int) > 40) || decide ((x.cons.size : Int) > 1500) with
    | true => exact .inl rfl
    | false =>
      refine .inr ⟨rfl, h1, h2, h3, h4, fun p hp => ?_⟩
      rw [List.drop_zero, List.any_eq_false] at hany
      have := hany p hp
      simp only [Bool.or_eq_true, decide_eq_true_eq, not_or] at this
      omega
section
variable {a b : GramD}
theorem nil_ok {k b : Nat} (hk : k ≤ 1000) (hb : b ≤ 1000) : nilOk k b = true := by
  refine decide_eq_true ?_
  have : k * b ≤ 1000 * 1000 := Nat.mul_le_mul hk hb
  unfold limit47
  omega
end
end Go.Proofs.Try
namespace Go.Proofs.Try
set_option linter.unusedSimpArgs false
set_option linter.unusedVariables false
open Go Go.Vs
section
variable {g : GramD}
theorem ap_ok {len n bytes : Nat} (h1 : len ≤ n) (h2 : len ≤ 10000) (h3 : bytes ≤ 1000) : apOk len 1 n bytes = true := by
  unfold apOk limit47
  refine decide_eq_true ⟨h1, ?_, by omega⟩
  have : (len + 1) * bytes ≤ 10001 * 1000 := Nat.mul_le_mul (by omega) h3
  omega
structure ArgOk (g : GramD) : Prop where
  left : ∀ p ∈ g.prods, i64ok p.left
  role : ∀ p ∈ g.prods, i64ok p.role
  sym : ∀ p ∈ g.prods, ∀ s ∈ p.right, SymOk s
  foll : ∀ f ∈ g.follow, u64ok f.a ∧ u64ok f.b ∧ u64ok f.c ∧ u64ok f.d
  forb : ∀ f ∈ g.forbid, i64ok f.at_
theorem gram_ok (h : ArgOk g) (hs : Small g) : GramOk g :=
  ⟨hs.1, by have := hs.2.1; omega, by have := hs.2.2.1; omega, by have := hs.2.2.2.1; omega, fun p hp => ⟨h.left p hp, h.sym p hp, hs.2.2.2.2 p hp, h.role p hp⟩, h.foll, h.forb⟩
end
end Go.Proofs.Try
namespace Go.Proofs.Try
set_option linter.unusedSimpArgs false
set_option linter.unusedVariables false
open Go Go.Vs
mutual
def sz : TreeD → Nat
  | .mk _ _ ks => 1 + szs ks
def szs : List TreeD → Nat
  | [] => 0
  | t :: ts => sz t + szs ts
end
theorem sz_eq : ∀ t : TreeD, sz t = 1 + szs t.kids
  | .mk _ _ _ => by simp only [sz, TreeD.kids]
theorem szs_mem {t : TreeD} : ∀ {ts : List TreeD}, t ∈ ts → sz t ≤ szs ts
  | [], h => by simp at h
  | u :: ts, h => by
    simp only [szs]
    rcases List.mem_cons.1 h with rfl | h
    · omega
    · have := szs_mem h; omega
theorem szs_app : ∀ (a b : List TreeD), szs (a ++ b) = szs a + szs b
  | [], b => by simp [szs]
  | t :: a, b => by simp only [List.cons_append, szs, szs_app a b]; omega
theorem szs_len : ∀ (a : List TreeD), a.length ≤ szs a
  | [] => by simp
  | t :: a => by have := szs_len a; have := sz_eq t; simp only [List.length_cons, szs]; omega
theorem kid_lt {t x : TreeD} {i : Nat} (h : t.kids[i]? = some x) : sz x < sz t := by
  have := szs_mem (List.mem_of_getElem? h)
  have := sz_eq t
  omega
inductive TreeOk : TreeD → Prop
  | mk {p b : Int} {ks : List TreeD} (hb : 0 ≤ b ∧ b ≤ 255) (hk : ∀ k ∈ ks, TreeOk k) : TreeOk (.mk p b ks)
theorem TreeOk.byte {t : TreeD} (h : TreeOk t) : 0 ≤ t.byte ∧ t.byte ≤ 255 := by cases h with | mk hb hk => exact hb
theorem TreeOk.kid {t x : TreeD} {i : Nat} (h : TreeOk t) (hx : t.kids[i]? = some x) : TreeOk x := by cases h with | mk hb hk => exact hk x (List.mem_of_getElem? hx)
theorem q19 : ∀ (N : Nat) (t : TreeD) (most : Int), sz t < N → 0 ≤ most ∧ most ≤ 5000 → ∃ v, F19_2 N t most = some v ∧ 1 ≤ v ∧ v ≤ most + 1 ∧ (v ≤ most → v = sz t)
  | 0, _, _, h, _ => by omega
  | N + 1, t, most, h, hm => by
    show ∃ v, F19_2_b (F19_2 N) t most = some v ∧ _
    have key : ∀ (k i : Nat) (v : Int), i + k = t.kids.length → i < 6000 → 1 ≤ v ∧ v ≤ most + 1 → (v ≤ most → v = ((1 + szs (t.kids.take i) : Nat) : Int)) →
        ∃ v', runL (fun s => L19_0_2 (F19_2 N) most t s.1 s.2) (v, (i : Int)) = some (.k0 v') ∧ 1 ≤ v' ∧ v' ≤ most + 1 ∧ (v' ≤ most → v' = sz t) := by
      intro k
      induction k with
      | zero =>
        intro i v hi _ hv he
        obtain rfl : i = t.kids.length := by omega
        rw [List.take_length] at he
        exact ⟨v, runL_done (by simp [L19_0_2]), hv.1, hv.2, fun h => by rw [he h, sz_eq]⟩
      | succ k ih =>
        intro i v hi h6 hv he
        have hx : t.kids[i]? = some t.kids[i] := List.getElem?_eq_getElem (by omega)
        generalize t.kids[i] = x at hx
        by_cases hle : v ≤ most
        · have hxs := kid_lt hx
          obtain ⟨w, w1, w2, w3, w4⟩ := q19 N x (most - v) (by omega) (by omega)
          have e1 : IntKind.wrap .i64 (most - v) = most - v := w_id (by omega)
          have e2 : IntKind.wrap .i64 (v + w) = v + w := w_id (by omega)
          have hv0 := he hle
          have hit := szs_len (t.kids.take i)
          rw [List.length_take] at hit
          rw [runL_next (s' := (v + w, ((i + 1 : Nat) : Int))) (by
            simp only [L19_0_2, getI_nat, hx, Option.bind_some, decide_eq_true (show (i : Int) < (t.kids.length : Int) by omega), decide_eq_true hle, cond_true, e1, w1, e2, w_S (show i < 4611686018427387904 by omega)])]
          refine ih (i + 1) (v + w) (by omega) (by omega) (by omega) (fun h => ?_)
          rw [w4 (by omega), hv0, List.take_add_one, hx]
          simp only [Option.toList_some, szs_app, szs]
          omega
        · refine ⟨v, runL_done ?_, hv.1, hv.2, fun h => absurd h hle⟩
          simp only [L19_0_2, decide_eq_true (show (i : Int) < (t.kids.length : Int) by omega), decide_eq_false hle, cond_true, cond_false]
    obtain ⟨v, h1, h2⟩ := key t.kids.length 0 1 (by omega) (by omega) (by omega) (by simp [szs])
    have e0 : ((0 : Nat) : Int) = 0 := rfl
    rw [e0] at h1
    refine ⟨v, ?_, h2⟩
    unfold F19_2_b
    rw [h1]
    rfl
def szA (a : AtD) : Nat := 1 + szs a.kids
def tot : List AtD → Nat
  | [] => 0
  | a :: l => szA a + tot l
theorem tot_app : ∀ (a b : List AtD), tot (a ++ b) = tot a + tot b
  | [], b => by simp [tot]
  | t :: a, b => by simp only [List.cons_append, tot, tot_app a b]; omega
theorem tot_len : ∀ (a : List AtD), a.length ≤ tot a
  | [] => by simp
  | t :: a => by have := tot_len a; simp only [List.length_cons, tot, szA]; omega
def mkAt (n : Int) (x : TreeD) : AtD := ⟨x.prod, x.byte, x.kids, n⟩
theorem tot_map (n : Int) : ∀ (l : List TreeD), tot (l.map (mkAt n)) = szs l
  | [] => rfl
  | x :: l => by simp only [List.map_cons, tot, tot_map n l, szs, szA, mkAt, sz_eq x]
theorem splice_take {α : Type} {l : List α} {n : Nat} {y : α} (h : n + 1 ≤ l.length) : (splice l n [y]).take (n + 1) = l.take n ++ [y] ∧ (splice l n [y]).length = l.length := by
  unfold splice
  refine ⟨?_, by simp; omega⟩
  have : (l.take n ++ [y]).length = n + 1 := by simp; omega
  rw [← this, List.take_left]
theorem l46_0 {a : AtD} (hn : 1 ≤ a.n ∧ a.n ≤ 5000) : ∀ (k i gen len : Nat) (l : List AtD), i + k = a.kids.length → a.kids.length < 10000 → len ≤ l.length → len + k ≤ 10000 →
    ∃ g' len' l', runL (fun s => L46_0_3 a (a.kids.length : Int) s.1 s.2.1 s.2.2.1 s.2.2.2) (gen, len, (i : Int), l) = some (.k0 g' len' l') ∧ len' ≤ l'.length ∧ l'.take len' = l.take len ++ (a.kids.drop i).map (mkAt (a.n + 1))
  | 0, i, gen, len, l, hi, _, hl, _ => by
    obtain rfl : i = a.kids.length := by omega
    exact ⟨gen, len, l, runL_done (by simp [L46_0_3]), hl, by simp⟩
  | k + 1, i, gen, len, l, hi, h6, hl, hb => by
    have hx : a.kids[i]? = some a.kids[i] := List.getElem?_eq_getElem (by omega)
    have hd : a.kids.drop i = a.kids[i] :: a.kids.drop (i + 1) := (List.drop_eq_getElem_cons (by omega))
    generalize a.kids[i] = x at hx hd
    have e1 : IntKind.wrap .i64 (a.n + 1) = a.n + 1 := w_id (by omega)
    have hap : apOk len 1 l.length 48 = true := ap_ok hl (by omega) (by omega)
    rw [hd]
    by_cases hc : len + 1 ≤ l.length
    · obtain ⟨s1, s2⟩ := splice_take (y := mkAt (a.n + 1) x) hc
      rw [runL_next (s' := (gen, len + 1, ((i + 1 : Nat) : Int), splice l len [mkAt (a.n + 1) x])) (by
        simp only [L46_0_3, getI_nat, hx, Option.bind_some, decide_eq_true (show (i : Int) < (a.kids.length : Int) by omega), cond_true, hap, decide_eq_true hc, e1, w_S (show i < 4611686018427387904 by omega), mkAt])]
      obtain ⟨g', len', l', r1, r2, r3⟩ := l46_0 hn k (i + 1) gen (len + 1) (splice l len [mkAt (a.n + 1) x]) (by omega) (by omega) (by omega) (by omega)
      exact ⟨g', len', l', r1, r2, by rw [r3, s1]; simp⟩
    · have hll : len = l.length := by omega
      rw [runL_next (s' := (gen + 1, len + 1, ((i + 1 : Nat) : Int), l.take len ++ [mkAt (a.n + 1) x])) (by
        simp only [L46_0_3, getI_nat, hx, Option.bind_some, decide_eq_true (show (i : Int) < (a.kids.length : Int) by omega), cond_true, hap, decide_eq_false hc, cond_false, e1, w_S (show i < 4611686018427387904 by omega), mkAt])]
      obtain ⟨g', len', l', r1, r2, r3⟩ := l46_0 hn k (i + 1) (gen + 1) (len + 1) (l.take len ++ [mkAt (a.n + 1) x]) (by omega) (by omega) (by simp; omega) (by omega)
      refine ⟨g', len', l', r1, r2, ?_⟩
      have : (l.take len ++ [mkAt (a.n + 1) x]).take (len + 1) = l.take len ++ [mkAt (a.n + 1) x] := List.take_of_length_le (by simp; omega)
      rw [r3, this]
      simp
theorem l46_1 : ∀ (m : Nat) (v : Int) (gen len : Nat) (l : List AtD), tot (l.take len) ≤ m → m ≤ 5000 → len ≤ l.length → v ≤ 5000 → (∀ a ∈ l.take len, 1 ≤ a.n ∧ a.n + szA a ≤ 5001) →
    ∃ v' g' l', runL (fun s => L46_1 s.1 s.2.1 s.2.2.1 s.2.2.2) (v, gen, len, l) = some (.k0 v' g' l') ∧ v' ≤ 5000 := by
  intro m
  induction m with
  | zero =>
    intro v gen len l ht _ hl hv _
    have h0 := tot_len (l.take len)
    rw [List.length_take] at h0
    obtain rfl : len = 0 := by omega
    exact ⟨v, gen, l, runL_done rfl, hv⟩
  | succ m ih =>
    intro v gen len l ht h5 hl hv ha
    cases len with
    | zero => exact ⟨v, gen, l, runL_done rfl, hv⟩
    | succ len =>
      have hx : l[len]? = some l[len] := List.getElem?_eq_getElem (by omega)
      have htk : l.take (len + 1) = l.take len ++ [l[len]] := by rw [List.take_add_one, hx]; rfl
      generalize l[len] = x at hx htk
      rw [htk] at ht ha
      have hxa := ha x (by simp)
      rw [tot_app] at ht
      simp only [tot, Nat.add_zero] at ht
      have e1 : IntKind.wrap .i64 ((((len + 1 : Nat)) : Int) - 1) = (len : Int) := by rw [w_id (by have := tot_len (l.take len); rw [List.length_take] at this; omega)]; omega
      have hlt := tot_len (l.take len)
      rw [List.length_take] at hlt
      have hsz : szA x = 1 + szs x.kids := rfl
      have hkl := szs_len x.kids
      obtain ⟨g', len', l', r1, r2, r3⟩ := l46_0 (a := x) (by omega) x.kids.length 0 gen len l (by omega) (by omega) (by omega) (by omega)
      have e0 : ((0 : Nat) : Int) = 0 := rfl
      rw [e0] at r1
      rw [List.drop_zero] at r3
      have hix : ixN (len + 1) (len : Int) = some len := by rw [ixN_nat, if_pos (by omega)]
      have hsl : slOk (len : Int) (len + 1) l.length = true := decide_eq_true ⟨by omega, by omega, by omega⟩
      rw [runL_next (s' := ((if v < x.n then x.n else v), g', len', l')) (by
        simp only [L46_1, decide_eq_true (show (((len + 1 : Nat) : Int) > 0) by omega), decide_eq_true (show v ≤ 16384 by omega), cond_true, e1, hix, Option.bind_some, hx, hsl, Int.toNat_natCast, r1])]
      refine ih _ g' len' l' ?_ (by omega) r2 (by split <;> omega) (fun a haa => ?_)
      · rw [r3, tot_app, tot_map]; omega
      · rw [r3] at haa
        rcases List.mem_append.1 haa with h | h
        · exact ha a (by simp [h])
        · obtain ⟨y, hy, rfl⟩ := List.mem_map.1 h
          have h1 := szs_mem hy
          have h2 := sz_eq y
          have : szA (mkAt (x.n + 1) y) = sz y := by simp only [szA, mkAt, h2]
          rw [this]
          simp only [mkAt]
          omega
theorem q46 {t : TreeD} (h : sz t ≤ 5000) : ∃ d, F46 t = some d ∧ d ≤ 5000 := by
  have hs := sz_eq t
  obtain ⟨v, g', l', r1, r2⟩ := l46_1 (sz t) 0 0 1 [⟨t.prod, t.byte, t.kids, 1⟩] (by simp only [List.take, tot, szA]; omega) h (by simp) (by omega) (by
    intro a ha
    simp only [List.take, List.mem_cons, List.not_mem_nil, or_false] at ha
    subst ha
    simp only [szA]
    omega)
  exact ⟨v, by unfold F46; rw [r1]; rfl, r2⟩
theorem q51 : ∀ (N : Nat) (t : TreeD) (n : Int), sz t < N → (sz t : Int) ≤ n ∧ n ≤ 16384 → F51_2 N t n = some false
  | 0, _, _, h, _ => by omega
  | N + 1, t, n, h, hn => by
    show F51_2_b (F51_2 N) t n = some false
    have hs := sz_eq t
    have hl := szs_len t.kids
    have key := loop_list (step := fun s => L51_0_2 (F51_2 N) n t s) (l := t.kids) (fun _ _ => true) (bad := E_L51_0_2.k0) (fin := .k1) (fun i x hx => by
      have hi : i < t.kids.length := (List.getElem?_eq_some_iff.1 hx).1
      have hk := kid_lt hx
      have hm := szs_mem (List.mem_of_getElem? hx)
      have e1 : IntKind.wrap .i64 (n - 1) = n - 1 := w_id (by omega)
      simp only [L51_0_2, getI_nat, hx, Option.bind_some, decide_eq_true (show (i : Int) < (t.kids.length : Int) by omega), cond_true, e1, q51 N x (n - 1) (by omega) (by omega), cond_false, w_S (show i < 4611686018427387904 by omega)]) (by simp [L51_0_2])
    have ht : allF (fun (_ : Nat) (_ : TreeD) => true) 0 t.kids = true := (allF_iff _ _).2 (fun _ _ _ => rfl)
    rw [ht] at key
    unfold F51_2_b
    rw [decide_eq_false (show ¬ n < 1 by omega)]
    simp only [cond_false, key, cond_true, Option.bind_some]
mutual
def yb : TreeD → List Int
  | .mk p b ks => if p < 0 then [b] else ybs ks
def ybs : List TreeD → List Int
  | [] => []
  | t :: ts => yb t ++ ybs ts
end
theorem yb_eq : ∀ t : TreeD, yb t = if t.prod < 0 then [t.byte] else ybs t.kids
  | .mk _ _ _ => by simp only [yb]; rfl
mutual
theorem yb_len : ∀ (t : TreeD), (yb t).length ≤ sz t
  | .mk p b ks => by
    have := ybs_len ks
    simp only [yb, sz]
    split
    · simp
    · omega
theorem ybs_len : ∀ (ts : List TreeD), (ybs ts).length ≤ szs ts
  | [] => by simp [ybs]
  | t :: ts => by
    have := yb_len t
    have := ybs_len ts
    simp only [ybs, szs, List.length_append]
    omega
end
theorem q48 {t : TreeD} {gen len : Nat} {l : List Int} {b : Bool} (hl : len ≤ l.length) (hb : len ≤ 10000) : ∃ g' l', F48_4 t gen l b len = some (.k0 g' l' true) ∧ len + 1 ≤ l'.length ∧ l'.take (len + 1) = l.take len ++ [t.byte] := by
  have hap : apOk len 1 l.length 1 = true := ap_ok hl hb (by omega)
  have h69 : F69_4 b = some true := by cases b <;> rfl
  unfold F48_4
  rw [h69]
  simp only [Option.bind_some, hap, cond_true]
  by_cases hc : len + 1 ≤ l.length
  · obtain ⟨s1, s2⟩ := splice_take (y := t.byte) hc
    rw [decide_eq_true hc]
    exact ⟨_, _, rfl, by omega, s1⟩
  · rw [decide_eq_false hc]
    refine ⟨_, _, rfl, by simp; omega, ?_⟩
    exact List.take_of_length_le (by simp; omega)
theorem q47 : ∀ (N : Nat) (t t0 : TreeD) (gen : Nat) (l : List Int) (b : Bool) (len : Nat), sz t < N → len ≤ l.length → len + sz t ≤ 10000 →
    ∃ g' l' b' len', F47_4 N t t0 gen l b len = some (.k0 g' l' b' len') ∧ len' = len + (yb t).length ∧ len' ≤ l'.length ∧ l'.take len' = l.take len ++ yb t
  | 0, _, _, _, _, _, _, h, _, _ => by omega
  | N + 1, t, t0, gen, l, b, len, h, hl, hb => by
    show ∃ g' l' b' len', F47_4_b (F47_4 N) t t0 gen l b len = some (.k0 g' l' b' len') ∧ _
    have hs := sz_eq t
    unfold F47_4_b
    rw [yb_eq t]
    by_cases hp : t.prod < 0
    · obtain ⟨g', l', r1, r2, r3⟩ := q48 (t := t) (gen := gen) (b := b) hl (show len ≤ 10000 by omega)
      rw [decide_eq_true hp, if_pos hp]
      simp only [cond_true, r1, Option.bind_some]
      exact ⟨_, _, _, _, rfl, rfl, r2, r3⟩
    · rw [decide_eq_false hp, if_neg hp]
      simp only [cond_false]
      have hkl := szs_len t.kids
      have key : ∀ (k i gen : Nat) (l : List Int) (b : Bool) (len : Nat), i + k = t.kids.length → len ≤ l.length → len + szs (t.kids.drop i) ≤ 10000 →
          ∃ g' l' b' len', runL (fun s => L47_0_4 (F47_4 N) t (t.kids.length : Int) t0 s.1 s.2.1 s.2.2.1 s.2.2.2.1 s.2.2.2.2) ((i : Int), gen, l, b, len) = some (.k0 g' l' b' len') ∧ len' = len + (ybs (t.kids.drop i)).length ∧ len' ≤ l'.length ∧ l'.take len' = l.take len ++ ybs (t.kids.drop i) := by
        intro k
        induction k with
        | zero =>
          intro i gen l b len hi hl _
          obtain rfl : i = t.kids.length := by omega
          rw [List.drop_length]
          exact ⟨gen, l, b, len, runL_done (by simp [L47_0_4]), by simp [ybs], hl, by simp [ybs]⟩
        | succ k ih =>
          intro i gen l b len hi hl hb
          have hx : t.kids[i]? = some t.kids[i] := List.getElem?_eq_getElem (by omega)
          have hd : t.kids.drop i = t.kids[i] :: t.kids.drop (i + 1) := (List.drop_eq_getElem_cons (by omega))
          generalize t.kids[i] = x at hx hd
          rw [hd] at hb ⊢
          simp only [szs] at hb
          have hk := kid_lt hx
          obtain ⟨g1, l1, b1, len1, r1, r2, r3, r4⟩ := q47 N x t0 gen l b len (by omega) hl (by omega)
          have hyl := yb_len x
          obtain ⟨g2, l2, b2, len2, u1, u2, u3, u4⟩ := ih (i + 1) g1 l1 b1 len1 (by omega) r3 (by omega)
          refine ⟨g2, l2, b2, len2, ?_, ?_, u3, ?_⟩
          · rw [runL_next (s' := (((i + 1 : Nat) : Int), g1, l1, b1, len1)) (by
              simp only [L47_0_4, getI_nat, hx, Option.bind_some, decide_eq_true (show (i : Int) < (t.kids.length : Int) by omega), cond_true, r1, w_S (show i < 4611686018427387904 by omega)])]
            exact u1
          · simp only [ybs, List.length_append]; omega
          · rw [u4, r4]; simp only [ybs, List.append_assoc]
      obtain ⟨g', l', b', len', r1, r2, r3, r4⟩ := key t.kids.length 0 gen l b len (by omega) hl (by rw [List.drop_zero]; omega)
      rw [List.drop_zero] at r2 r4
      have e0 : ((0 : Nat) : Int) = 0 := rfl
      rw [e0] at r1
      rw [r1]
      exact ⟨g', l', b', len', rfl, r2, r3, r4⟩
theorem bstr_size (l : List Int) : (bstr l).size = l.length := by
  show ((l.map fun n => UInt8.ofNat n.toNat).toArray).size = _
  simp
theorem bstr_app (a b : List Int) : bstr a ++ bstr b = bstr (a ++ b) := by
  apply ByteArray.ext
  apply Array.ext'
  simp [bstr]
theorem q20 {N : Nat} {t : TreeD} (hN : sz t < N) (h : sz t ≤ 5000) : F20 N t = some (.k0 (bstr (yb t)) 0) := by
  obtain ⟨d, d1, d2⟩ := q46 h
  obtain ⟨g', l', b', len', r1, r2, r3, r4⟩ := q47 N t t 0 [] false 0 hN (by simp) (by omega)
  have hyl := yb_len t
  unfold F20
  rw [d1]
  simp only [Option.bind_some, decide_eq_false (show ¬ d > 16384 by omega), cond_false, r1]
  simp only [List.take_nil, List.nil_append] at r4
  unfold F49_2
  by_cases h0 : 0 < len'
  · have hu : usOk len' l'.length = true := decide_eq_true ⟨r3, by omega⟩
    rw [decide_eq_true h0, hu, r4]
    rfl
  · obtain rfl : len' = 0 := by omega
    rw [decide_eq_false h0]
    have : yb t = [] := List.eq_nil_of_length_eq_zero (by omega)
    rw [this]
    rfl
theorem q23 : ∀ (N : Nat) (t : TreeD), sz t < N → sz t ≤ 5000 → F23 N t = some (bstr (yb t))
  | 0, _, h, _ => by omega
  | N + 1, t, h, hb => by
    show F23_b (F23 N) t = some (bstr (yb t))
    have hs := sz_eq t
    have hkl := szs_len t.kids
    unfold F23_b
    rw [yb_eq t]
    by_cases hp : t.prod < 0
    · rw [decide_eq_true hp, if_pos hp]; rfl
    · rw [decide_eq_false hp, if_neg hp]
      simp only [cond_false]
      have key : ∀ (k i : Nat) (acc : List Int), i + k = t.kids.length → acc.length + szs (t.kids.drop i) ≤ 5000 →
          runL (fun s => L23_0 (F23 N) t s.1 s.2) (bstr acc, (i : Int)) = some (.k0 (bstr (acc ++ ybs (t.kids.drop i)))) := by
        intro k
        induction k with
        | zero =>
          intro i acc hi _
          obtain rfl : i = t.kids.length := by omega
          rw [List.drop_length]
          simp only [ybs, List.append_nil]
          exact runL_done (by simp [L23_0])
        | succ k ih =>
          intro i acc hi hb
          have hx : t.kids[i]? = some t.kids[i] := List.getElem?_eq_getElem (by omega)
          have hd : t.kids.drop i = t.kids[i] :: t.kids.drop (i + 1) := (List.drop_eq_getElem_cons (by omega))
          generalize t.kids[i] = x at hx hd
          rw [hd] at hb ⊢
          simp only [szs] at hb
          have hk := kid_lt hx
          have hyl := yb_len x
          have hsz : decide ((bstr acc).size + (bstr (yb x)).size ≤ 9223372036854775807) = true := by rw [bstr_size, bstr_size]; exact decide_eq_true (by omega)
          rw [runL_next (s' := (bstr (acc ++ yb x), ((i + 1 : Nat) : Int))) (by
            simp only [L23_0, getI_nat, hx, Option.bind_some, decide_eq_true (show (i : Int) < (t.kids.length : Int) by omega), cond_true, q23 N x (by omega) (by omega), hsz, bstr_app, w_S (show i < 4611686018427387904 by omega)])]
          rw [ih (i + 1) (acc ++ yb x) (by omega) (by rw [List.length_append]; omega)]
          simp only [ybs, List.append_assoc]
      have k0 := key t.kids.length 0 [] (by omega) (by rw [List.drop_zero]; simp; omega)
      rw [List.drop_zero, List.nil_append] at k0
      have e0 : ((0 : Nat) : Int) = 0 := rfl
      rw [e0] at k0
      have k1 : runL (fun s => L23_0 (F23 N) t s.1 s.2) ((⟨([] : List UInt8).toArray⟩ : ByteArray), 0) = some (.k0 (bstr (ybs t.kids))) := k0
      rw [k1]
      rfl
theorem byte_facts : ∀ m : Nat, m < 256 → Int.fdiv (m : Int) (2 ^ (min (Int.toNat 6) (IntKind.bits .u8))) = ((m / 64 : Nat) : Int) ∧
    (IntKind.wrap .u8 ((BitVec.ofInt (IntKind.bits .u8) (m : Int) &&& BitVec.ofInt (IntKind.bits .u8) 63).toNat : Int)) = ((m % 64 : Nat) : Int) ∧ IntKind.wrap .u8 (Int.tdiv (m : Int) 64) = ((m / 64 : Nat) : Int) ∧ Int.tmod (m : Int) 64 = ((m % 64 : Nat) : Int) := by decide +kernel
theorem bit1 {x : Int} (h : 0 ≤ x ∧ x ≤ 18446744073709551615) : (IntKind.wrap .u64 ((BitVec.ofInt (IntKind.bits .u64) x &&& BitVec.ofInt (IntKind.bits .u64) 1).toNat : Int)) = Int.tmod x 2 := by
  obtain ⟨n, rfl⟩ : ∃ n : Nat, x = (n : Int) := ⟨x.toNat, by omega⟩
  rw [show IntKind.bits .u64 = 64 from rfl, IntKind.wrap_u64, Int.tmod_eq_emod_of_nonneg (by omega)]
  have e1 : (BitVec.ofInt 64 (n : Int)).toNat = n := by rw [BitVec.toNat_ofInt]; omega
  have e2 : (BitVec.ofInt 64 (1 : Int)).toNat = 1 := by decide
  rw [BitVec.toNat_and, e1, e2, Nat.and_one_is_mod]
  omega
theorem shr_b {w : Int} (k : Nat) (h : 0 ≤ w ∧ w ≤ 18446744073709551615) : 0 ≤ Int.fdiv w (2 ^ k) ∧ Int.fdiv w (2 ^ k) ≤ 18446744073709551615 := by
  have hp : (0 : Int) < 2 ^ k := Int.pow_pos (by omega)
  rw [Int.fdiv_eq_ediv_of_nonneg _ (by omega)]
  refine ⟨Int.ediv_nonneg h.1 (by omega), ?_⟩
  have := Int.ediv_le_self (2 ^ k) h.1
  omega
theorem q70 {s : SymD} {t : TreeD} (hs : SymOk s) (ht : 0 ≤ t.byte ∧ t.byte ≤ 255) : ∃ c, F70 s t = some c ∧ F71 s t = some c := by
  obtain ⟨m, hm⟩ : ∃ m : Nat, t.byte = (m : Int) := ⟨t.byte.toNat, by omega⟩
  obtain ⟨f1, f2, f3, f4⟩ := byte_facts m (by omega)
  have hneg : decide (((m % 64 : Nat) : Int) < 0) = false := decide_eq_false (by omega)
  unfold F70 F71
  rw [hm, f1, f2, f3, f4]
  simp only [hneg, cond_false]
  rw [bit1 (shr_b _ hs.a), bit1 (shr_b _ hs.b), bit1 (shr_b _ hs.c), bit1 (shr_b _ hs.d)]
  have hq : m / 64 = 0 ∨ m / 64 = 1 ∨ m / 64 = 2 ∨ m / 64 = 3 := by omega
  rcases hq with e | e | e | e <;> rw [e] <;> exact ⟨_, rfl, rfl⟩
section
variable {g : GramD}
theorem q50 (hg : GramOk g) : ∀ (N : Nat) (s : SymD) (t : TreeD), SymOk s → TreeOk t → sz t < N → ∃ b, F50 N g s t = some b ∧ F52 N g s t = some b
  | 0, _, _, _, _, h => by omega
  | N + 1, s, t, hs, ht, h => by
    show ∃ b, F50_b (F50 N) g s t = some b ∧ F52_b (F52 N) g s t = some b
    unfold F50_b F52_b
    obtain ⟨c, c1, c2⟩ := q70 hs ht.byte
    cases s.kind == 0 with
    | true =>
      simp only [cond_true]
      cases t.prod == (-1) with
      | false => exact ⟨false, rfl, rfl⟩
      | true =>
        simp only [cond_true]
        cases (t.kids.length : Int) == 0 with
        | false => exact ⟨false, rfl, rfl⟩
        | true => simp only [cond_true, c1, c2, Option.bind_some]; exact ⟨c, rfl, rfl⟩
    | false =>
      simp only [cond_false]
      by_cases h1 : t.prod < 0
      · rw [decide_eq_true h1]; exact ⟨false, rfl, rfl⟩
      rw [decide_eq_false h1]
      simp only [cond_false]
      by_cases h2 : t.prod ≥ (g.prods.length : Int)
      · rw [decide_eq_true h2]; exact ⟨false, rfl, rfl⟩
      rw [decide_eq_false h2]
      simp only [cond_false]
      cases t.byte != 0 with
      | true => exact ⟨false, rfl, rfl⟩
      | false =>
        simp only [cond_false]
        have hp : g.prods[t.prod.toNat]? = some (g.prods[t.prod.toNat]'(by omega)) := List.getElem?_eq_getElem _
        have hmem := List.mem_of_getElem? hp
        generalize g.prods[t.prod.toNat]'(by omega) = p at hp hmem
        have hgi : getI g.prods t.prod = some p := getI_some.2 ⟨by omega, hp⟩
        have hpo := hg.prod p hmem
        simp only [hgi, Option.bind_some]
        cases hl : p.left != s.sort with
        | true =>
          simp only [cond_true]
          cases p.role == 11 <;> exact ⟨false, rfl, rfl⟩
        | false =>
          simp only [cond_false]
          cases p.role == 11 with
          | true => exact ⟨false, rfl, rfl⟩
          | false =>
            simp only [cond_false]
            by_cases hlen : t.kids.length = p.right.length
            rotate_left
            · rw [bneT (a := (t.kids.length : Int)) (b := (p.right.length : Int)) (by omega), bneT (a := (p.right.length : Int)) (b := (t.kids.length : Int)) (by omega)]
              exact ⟨false, rfl, rfl⟩
            have hb1 : ((t.kids.length : Int) != (p.right.length : Int)) = false := by rw [hlen]; simp
            have hb2 : ((p.right.length : Int) != (t.kids.length : Int)) = false := by rw [hlen]; simp
            rw [hb1, hb2]
            simp only [cond_false]
            have hlen40 := hpo.len
            have key : ∀ (k i : Nat), i + k = t.kids.length → ∃ b, runL (fun s => L50_0 (F50 N) t (t.kids.length : Int) g p s) (i : Int) = some (bif b then .k1 else .k0) ∧ runL (fun s => L52_0 (F52 N) g t p s) (i : Int) = some (bif b then .k1 else .k0) := by
              intro k
              induction k with
              | zero =>
                intro i hi
                obtain rfl : i = t.kids.length := by omega
                exact ⟨true, runL_done (by simp [L50_0]), runL_done (by simp [L52_0])⟩
              | succ k ih =>
                intro i hi
                have hx : t.kids[i]? = some t.kids[i] := List.getElem?_eq_getElem (by omega)
                have hy : p.right[i]? = some (p.right[i]'(by omega)) := List.getElem?_eq_getElem _
                have hym := List.mem_of_getElem? hy
                generalize t.kids[i] = x at hx
                generalize p.right[i]'(by omega) = y at hy hym
                have hk := kid_lt hx
                obtain ⟨b, b1, b2⟩ := q50 hg N y x (hpo.right y hym) (ht.kid hx) (by omega)
                have s1 : L50_0 (F50 N) t (t.kids.length : Int) g p (i : Int) = some (bif b then .inr ((i + 1 : Nat) : Int) else .inl .k0) := by
                  simp only [L50_0, getI_nat, hx, hy, Option.bind_some, decide_eq_true (show (i : Int) < (t.kids.length : Int) by omega), cond_true, b1, w_S (show i < 4611686018427387904 by omega)]
                  cases b <;> rfl
                have s2 : L52_0 (F52 N) g t p (i : Int) = some (bif b then .inr ((i + 1 : Nat) : Int) else .inl .k0) := by
                  simp only [L52_0, getI_nat, hx, hy, Option.bind_some, decide_eq_true (show (i : Int) < (t.kids.length : Int) by omega), cond_true, b2, w_S (show i < 4611686018427387904 by omega)]
                  cases b <;> rfl
                cases b with
                | false => exact ⟨false, runL_done s1, runL_done s2⟩
                | true =>
                  obtain ⟨c, c1, c2⟩ := ih (i + 1) (by omega)
                  exact ⟨c, by rw [runL_next s1, c1], by rw [runL_next s2, c2]⟩
            obtain ⟨b, b1, b2⟩ := key t.kids.length 0 (by omega)
            have e0 : ((0 : Nat) : Int) = 0 := rfl
            rw [e0] at b1 b2
            rw [b1, b2]
            cases b with
            | true => exact ⟨true, rfl, rfl⟩
            | false => exact ⟨false, rfl, rfl⟩
theorem q21 (hg : GramOk g) {N : Nat} {t : TreeD} (ht : TreeOk t) (hN : sz t < N) (h : sz t ≤ 5000) : ∃ e, F21 N g t = some e ∧ F22 N g t = some e := by
  obtain ⟨d, d1, d2⟩ := q46 h
  unfold F21 F22
  rw [q29 hg, q12 hg]
  simp only [Option.bind_some]
  cases chkN g != 0 with
  | true => exact ⟨160, rfl, rfl⟩
  | false =>
    simp only [cond_false, d1, Option.bind_some, decide_eq_false (show ¬ d > 16384 by omega), q51 N t 16384 hN (by omega)]
    by_cases h1 : t.prod < 0
    · rw [decide_eq_true h1]; exact ⟨163, rfl, rfl⟩
    rw [decide_eq_false h1]
    simp only [cond_false]
    by_cases h2 : t.prod ≥ (g.prods.length : Int)
    · rw [decide_eq_true h2]; exact ⟨163, rfl, rfl⟩
    rw [decide_eq_false h2]
    simp only [cond_false]
    have hp : g.prods[t.prod.toNat]? = some (g.prods[t.prod.toNat]'(by omega)) := List.getElem?_eq_getElem _
    have hmem := List.mem_of_getElem? hp
    generalize g.prods[t.prod.toNat]'(by omega) = p at hp hmem
    have hgi : getI g.prods t.prod = some p := getI_some.2 ⟨by omega, hp⟩
    obtain ⟨b, b1, b2⟩ := q50 hg N ⟨1, 0, 0, 0, 0, p.left⟩ t ⟨by simp [i64ok], by simp [u64ok], by simp [u64ok], by simp [u64ok], by simp [u64ok], (hg.prod p hmem).left⟩ ht hN
    simp only [hgi, Option.bind_some, b1, b2]
    cases b with
    | true => exact ⟨0, rfl, rfl⟩
    | false => exact ⟨163, rfl, rfl⟩
theorem law4 (h : ArgOk g) {t : TreeD} (ht : TreeOk t) {N : Nat} (hN : sz t < N) : F4 N g t = some true := by
  unfold F4
  rcases q9 g with hv | ⟨hv, hs⟩
  · rw [hv]; rfl
  have hg := gram_ok h hs
  obtain ⟨v, v1, v2, v3, v4⟩ := q19 N t 5000 hN (by omega)
  rw [hv]
  simp only [Option.bind_some, cond_false, v1]
  by_cases hb : v > 5000
  · rw [decide_eq_true hb]; rfl
  · have hsz : sz t ≤ 5000 := by have := v4 (by omega); omega
    obtain ⟨e, e1, e2⟩ := q21 hg ht hN hsz
    rw [decide_eq_false hb]
    simp only [cond_false, q20 hN hsz, Option.bind_some, e1, e2, beq_self_eq_true, cond_true, q23 N t hN hsz, F10]
end
end Go.Proofs.Try
namespace Go.Proofs.Try
set_option linter.unusedSimpArgs false
set_option linter.unusedVariables false
open Go Go.Vs Go.RowKit Go.ChangeShapes Go.ChangeAt
theorem table {W : World} (h : laidMetH prog [] W) : ∀ n xs, prg.gl n = some xs → n < W.heap.size ∧ PRs (fun c => c < W.heap.size) W n 0 xs := by
  intro n xs hx
  cases hx
theorem kids : Kids prog (· < prog.types.size) := kids_rows (by kernel_rfl) (by kernel_rfl)
theorem full : ∀ t e, t < prog.types.size → prog.underlying t = some (.slice e) → 0 < prog.cellsOf e := slices_full_of prog (by kernel_rfl)
theorem own : ownKnob prog.godebug = none := by kernel_rfl
noncomputable def laidWorld (os : Os) : World := World.holding prog os ⟨#[], #[], []⟩
end Go.Proofs.Try
namespace Go.Proofs.Try
set_option linter.unusedSimpArgs false
set_option linter.unusedVariables false
open Go Go.Vs
theorem rows_of {α : Type} (e : α → List PV) (Q : α → Prop) : ∀ {rows : List (List PV)}, (∀ r ∈ rows, ∃ v, r = e v ∧ Q v) → ∃ l : List α, rows = l.map e ∧ ∀ v ∈ l, Q v
  | [], _ => ⟨[], rfl, by simp⟩
  | r :: rows, h => by
    obtain ⟨l, hl, hq⟩ := rows_of e Q (rows := rows) (fun q hq => h q (List.mem_cons_of_mem _ hq))
    obtain ⟨v, hv, hqv⟩ := h r (List.mem_cons_self ..)
    refine ⟨v :: l, by rw [hv, hl]; rfl, ?_⟩
    intro z hz
    rcases List.mem_cons.1 hz with rfl | hz
    · exact hqv
    · exact hq z hz
theorem i64_ok {n : Int} (h : IntKind.i64.min ≤ n ∧ n ≤ IntKind.i64.max) : i64ok n := h
theorem u64_ok {n : Int} (h : IntKind.u64.min ≤ n ∧ n ≤ IntKind.u64.max) : u64ok n := h
theorem str_row {r : List PV} (h : FitL [.str] r) : ∃ s, r = eStr s ∧ True := by
  match r, h with
  | [x], h =>
    simp only [FitL, Fit] at h
    obtain ⟨⟨s, rfl, _⟩, _⟩ := h
    exact ⟨s, rfl, trivial⟩
  | [], h => simp [FitL] at h
  | _ :: _ :: _, h => simp [FitL] at h
theorem sym_row {r : List PV} (h : FitL [.int .i64, .int .u64, .int .u64, .int .u64, .int .u64, .int .i64] r) : ∃ s, r = eSym s ∧ SymOk s := by
  match r, h with
  | [x0, x1, x2, x3, x4, x5], h =>
    simp only [FitL, Fit] at h
    obtain ⟨⟨n0, rfl, b0⟩, ⟨n1, rfl, b1⟩, ⟨n2, rfl, b2⟩, ⟨n3, rfl, b3⟩, ⟨n4, rfl, b4⟩, ⟨n5, rfl, b5⟩, _⟩ := h
    exact ⟨⟨n0, n1, n2, n3, n4, n5⟩, rfl, ⟨i64_ok b0, u64_ok b1, u64_ok b2, u64_ok b3, u64_ok b4, i64_ok b5⟩⟩
  | [], h => simp [FitL] at h
  | [_], h => simp [FitL] at h
  | [_, _], h => simp [FitL] at h
  | [_, _, _], h => simp [FitL] at h
  | [_, _, _, _], h => simp [FitL] at h
  | [_, _, _, _, _], h => simp [FitL] at h
  | _ :: _ :: _ :: _ :: _ :: _ :: _ :: _, h => simp [FitL] at h
theorem prod_row {r : List PV} (h : FitL [.int .i64, .sl 6 [.int .i64, .int .u64, .int .u64, .int .u64, .int .u64, .int .i64], .str, .int .i64, .bool, .bool, .int .i64] r) :
    ∃ p, r = eProd p ∧ (i64ok p.left ∧ i64ok p.role ∧ ∀ s ∈ p.right, SymOk s) := by
  match r, h with
  | [x0, x1, x2, x3, x4, x5, x6], h =>
    simp only [FitL, Fit] at h
    obtain ⟨⟨n0, rfl, b0⟩, ⟨rows, rfl, _, hrows⟩, ⟨c, rfl, _⟩, ⟨n3, rfl, b3⟩, ⟨p4, rfl⟩, ⟨p5, rfl⟩, ⟨n6, rfl, b6⟩, _⟩ := h
    obtain ⟨l, rfl, hl⟩ := rows_of eSym SymOk (fun r hr => sym_row (hrows r hr))
    exact ⟨⟨n0, l, c, n3, p4, p5, n6⟩, rfl, i64_ok b0, i64_ok b3, hl⟩
  | [], h => simp [FitL] at h
  | [_], h => simp [FitL] at h
  | [_, _], h => simp [FitL] at h
  | [_, _, _], h => simp [FitL] at h
  | [_, _, _, _], h => simp [FitL] at h
  | [_, _, _, _, _], h => simp [FitL] at h
  | [_, _, _, _, _, _], h => simp [FitL] at h
  | _ :: _ :: _ :: _ :: _ :: _ :: _ :: _ :: _, h => simp [FitL] at h
theorem forb_row {r : List PV} (h : FitL [.int .i64, .int .i64, .int .i64] r) : ∃ f, r = eForb f ∧ i64ok f.at_ := by
  match r, h with
  | [x0, x1, x2], h =>
    simp only [FitL, Fit] at h
    obtain ⟨⟨n0, rfl, b0⟩, ⟨n1, rfl, b1⟩, ⟨n2, rfl, b2⟩, _⟩ := h
    exact ⟨⟨n0, n1, n2⟩, rfl, i64_ok b1⟩
  | [], h => simp [FitL] at h
  | [_], h => simp [FitL] at h
  | [_, _], h => simp [FitL] at h
  | _ :: _ :: _ :: _ :: _, h => simp [FitL] at h
theorem foll_row {r : List PV} (h : FitL [.int .i64, .int .u64, .int .u64, .int .u64, .int .u64] r) : ∃ f, r = eFoll f ∧ (u64ok f.a ∧ u64ok f.b ∧ u64ok f.c ∧ u64ok f.d) := by
  match r, h with
  | [x0, x1, x2, x3, x4], h =>
    simp only [FitL, Fit] at h
    obtain ⟨⟨n0, rfl, b0⟩, ⟨n1, rfl, b1⟩, ⟨n2, rfl, b2⟩, ⟨n3, rfl, b3⟩, ⟨n4, rfl, b4⟩, _⟩ := h
    exact ⟨⟨n0, n1, n2, n3, n4⟩, rfl, u64_ok b1, u64_ok b2, u64_ok b3, u64_ok b4⟩
  | [], h => simp [FitL] at h
  | [_], h => simp [FitL] at h
  | [_, _], h => simp [FitL] at h
  | [_, _, _], h => simp [FitL] at h
  | [_, _, _, _], h => simp [FitL] at h
  | _ :: _ :: _ :: _ :: _ :: _ :: _, h => simp [FitL] at h
def shG : List Sh := [.sl 1 [.str], .sl 7 [.int .i64, .sl 6 [.int .i64, .int .u64, .int .u64, .int .u64, .int .u64, .int .i64], .str, .int .i64, .bool, .bool, .int .i64], .int .i64, .sl 3 [.int .i64, .int .i64, .int .i64], .sl 5 [.int .i64, .int .u64, .int .u64, .int .u64, .int .u64]]
theorem gram_of {xs : List PV} (h : FitL shG xs) : ∃ g : GramD, xs = eGram g ∧ ArgOk g := by
  unfold shG at h
  match xs, h with
  | [x0, x1, x2, x3, x4], h =>
    simp only [FitL] at h
    obtain ⟨h0, h1, h2, h3, h4, _⟩ := h
    simp only [Fit] at h0 h1 h2 h3 h4
    obtain ⟨r0, rfl, _, q0⟩ := h0
    obtain ⟨r1, rfl, _, q1⟩ := h1
    obtain ⟨n2, rfl, b2⟩ := h2
    obtain ⟨r3, rfl, _, q3⟩ := h3
    obtain ⟨r4, rfl, _, q4⟩ := h4
    obtain ⟨l0, rfl, _⟩ := rows_of eStr (fun _ => True) (fun r hr => str_row (q0 r hr))
    obtain ⟨l1, rfl, a1⟩ := rows_of eProd (fun p => i64ok p.left ∧ i64ok p.role ∧ ∀ s ∈ p.right, SymOk s) (fun r hr => prod_row (q1 r hr))
    obtain ⟨l3, rfl, a3⟩ := rows_of eForb (fun f => i64ok f.at_) (fun r hr => forb_row (q3 r hr))
    obtain ⟨l4, rfl, a4⟩ := rows_of eFoll (fun f => u64ok f.a ∧ u64ok f.b ∧ u64ok f.c ∧ u64ok f.d) (fun r hr => foll_row (q4 r hr))
    exact ⟨⟨l0, l1, n2, l3, l4⟩, rfl, ⟨fun p hp => (a1 p hp).1, fun p hp => (a1 p hp).2.1, fun p hp => (a1 p hp).2.2, a4, a3⟩⟩
  | [], h => simp [FitL] at h
  | [_], h => simp [FitL] at h
  | [_, _], h => simp [FitL] at h
  | [_, _, _], h => simp [FitL] at h
  | [_, _, _, _], h => simp [FitL] at h
  | _ :: _ :: _ :: _ :: _ :: _ :: _, h => simp [FitL] at h
theorem sh27 : shOfT prog 40 27 = some shG := by kernel_rfl
theorem ag27 : aggT prog 27 = some true := by kernel_rfl
set_option maxRecDepth 100000 in
theorem arg27 {a : AV} (h : ∃ ks xs, shOfT prog 40 27 = some ks ∧ FitL ks xs ∧ a = argA prog 27 xs) : ∃ g : GramD, a = .agg ((eGram g).map .p) ∧ ArgOk g := by
  obtain ⟨ks, xs, hk, hf, e⟩ := h
  have h2 := Option.some.inj (sh27.symm.trans hk)
  rw [← h2] at hf
  obtain ⟨g, e2, hg⟩ := gram_of hf
  refine ⟨g, ?_, hg⟩
  rw [e, e2]
  simp only [argA, ag27]
set_option maxRecDepth 100000 in
set_option maxRecDepth 100000 in
noncomputable def tys : List TypeId := clos prog 200 [27, 51] []
theorem st51 : stT prog 51 = some [3, 5, 49] := by kernel_rfl
theorem in3 : inT prog 3 = some .i64 := by kernel_rfl
theorem in5 : inT prog 5 = some .u8 := by kernel_rfl
theorem sl49 : slT prog 49 = some (51, 3) := by kernel_rfl
theorem tree_of : ∀ (N n : Nat) (xs : List PV), n < N → FitT prog n 51 xs → ∃ t, xs = cT t ∧ TreeOk t
  | 0, _, _, h, _ => by omega
  | N + 1, n, xs, h, hx => by
    obtain ⟨m, rfl, a, b, rfl, h1, c, d, rfl, h2, e, f, rfl, h3, rfl⟩ := fitT_st st51 hx
    obtain ⟨p, rfl, _⟩ := fitT_in in3 h1
    obtain ⟨by_, rfl, hb1, hb2⟩ := fitT_in in5 h2
    obtain ⟨m', rows, rfl, rfl, _, hr⟩ := fitT_sl sl49 h3
    obtain ⟨l, rfl, hl⟩ := rows_ofT (e := cT) (Q := TreeOk) (fun r hrr => tree_of N m' r (by omega) (hr r hrr))
    refine ⟨.mk p by_ l, ?_, .mk ⟨hb1, hb2⟩ hl⟩
    show _ = [PV.val (.int .i64 p), PV.val (.int .u8 by_), PV.lst 3 (eTrees l)]
    rw [tr_map]
    rfl
theorem ag51 : aggT prog 51 = some true := by kernel_rfl
set_option maxRecDepth 100000 in
theorem arg51 {a : AV} (h : ∃ n xs, FitT prog n 51 xs ∧ a = argA prog 51 xs) : ∃ t : TreeD, a = .agg ((cT t).map .p) ∧ TreeOk t := by
  obtain ⟨n, xs, hf, e⟩ := h
  obtain ⟨t, e2, ht⟩ := tree_of (n + 1) n xs (by omega) hf
  refine ⟨t, ?_, ht⟩
  rw [e, e2]
  simp only [argA, ag51]
theorem trees (g : GramD) (t : TreeD) (h : ArgOk g) (ht : TreeOk t) : CP prg 4 [.agg ((eGram g).map .p), .agg ((cT t).map .p)] [] = some (vb true) :=
  (F4_ok (sz t + 1) g t (law4 h ht (by omega))).cp rfl []
end Go.Proofs.Try
