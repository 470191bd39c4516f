/- Operations whose order is open: what may change places. -/
import Derived.Test.YtbichljebmhmnaaDoorV15
namespace Go.Vs
set_option linter.unusedSimpArgs false
set_option linter.unusedVariables false
open Go Go.RowKit

def Opd.uses : Opd → List Nat
  | .t n => [n]
  | _ => []
def usesO : Option Opd → List Nat
  | some x => x.uses
  | none => []

def Ins.uses : Ins → List Nat
  | .mv x => x.uses
  | .nilrow _ _ => []
  | .pick c a b => c.uses ++ a.uses ++ b.uses
  | .alloc _ _ => []
  | .box _ x => x.uses
  | .build _ ps => ps.flatMap fun p => p.2.2.uses
  | .buildS _ _ _ _ ps => ps.flatMap fun p => p.2.uses
  | .load _ _ x => x.uses
  | .store _ a v => a.uses ++ v.uses
  | .nilChk x => x.uses
  | .bin _ x y => x.uses ++ y.uses
  | .eqA _ _ _ x y => x.uses ++ y.uses
  | .eqN _ x => x.uses
  | .un _ x => x.uses
  | .convI _ x => x.uses
  | .convS x => x.uses
  | .convB x => x.uses
  | .mkB _ x => x.uses
  | .mkfn _ cs => cs.flatMap Opd.uses
  | .makeS _ _ _ _ l c => l.uses ++ c.uses
  | .sliceS x l h => x.uses ++ usesO l ++ usesO h
  | .slice _ x l h => x.uses ++ usesO l ++ usesO h
  | .fieldA _ x => x.uses
  | .field _ _ _ x => x.uses
  | .indexA _ _ x i => x.uses ++ i.uses
  | .indexS x i => x.uses ++ i.uses
  | .index _ _ _ x i => x.uses ++ i.uses
  | .extract x _ => x.uses
  | .len x => x.uses
  | .lenS x => x.uses
  | .append _ _ _ _ x y => x.uses ++ y.uses
  | .eqP _ x y => x.uses ++ y.uses
  | .cvU x => x.uses
  | .cvP _ x => x.uses
  | .ixb x y => x.uses ++ y.uses
  | .slData x => x.uses
  | .uStr _ x n => x.uses ++ n.uses
  | .min2 _ x y => x.uses ++ y.uses
  | .call _ f as => f.uses ++ as.flatMap Opd.uses

def IOp.uses (o : IOp) : List Nat := o.ins.uses ++ (match o.guard with | some (t, _) => [t] | none => [])

/-- 0: no block is looked at; 1: blocks are read; 2: blocks are made; 3: blocks are written; 4: a call that leaves the blocks. -/
def Ins.cls : Ins → Nat
  | .load _ _ _ => 1
  | .slice _ _ _ _ => 1
  | .convB _ => 1
  | .cvU _ => 3
  | .cvP _ _ => 3
  | .slData _ => 1
  | .uStr _ _ _ => 3
  | .nilrow _ _ => 2
  | .alloc _ _ => 2
  | .box _ _ => 2
  | .buildS _ _ _ _ _ => 2
  | .mkB _ _ => 2
  | .makeS _ _ _ _ _ _ => 2
  | .store _ _ _ => 3
  | .append _ _ _ _ _ _ => 3
  | .call true _ _ => 3
  | .call false _ _ => 4
  | _ => 0

def AV.lt (n : Nat) : AV → Prop
  | .ptr b _ => b < n
  | .rp b _ _ _ _ => b < n
  | .sl b _ _ _ _ => b < n
  | _ => True

theorem VR_lt {g : G} {w : World} {x : AV} {v : Value} (h : VR g w x v) : x.lt g.N := by
  cases x <;> simp only [AV.lt] <;> simp only [VR] at h
  · exact h.1
  · exact h.1
  · exact h.1

def okC : Opd → Bool
  | .c (.p _) => true
  | .c (.fn _ _) => true
  | .c _ => false
  | _ => true

theorem opd_okC (x : Operand) : okC (opd x) = true := by cases x <;> rfl

/-- What an operation yields, guard and all. -/
def actO (E : Env) (o : IOp) (f : List AV) (h : List AB) : Option (AV × List AB) :=
  match wantedA f o.guard with
  | none => none
  | some false => some (ud, h)
  | some true => stepI E o.ins ⟨f, h⟩

theorem stepO_act {E : Env} {o : IOp} {s : St} : stepO E o s = (actO E o s.f s.h).map fun r => ⟨putA s.f o.dst r.1, r.2⟩ := by
  unfold stepO actO
  cases hw : wantedA s.f o.guard with
  | none => rfl
  | some b => cases b <;> rfl

section
variable {E : Env} {f f' : List AV} {gl : Nat → Option (List PV)}

theorem ev_congr {x : Opd} (h : ∀ t ∈ x.uses, getT f t = getT f' t) : x.ev f gl = x.ev f' gl := by
  cases x with
  | t n => exact h n (by simp [Opd.uses])
  | c a => rfl
  | g n => rfl

theorem idxO_congr {d : Nat} {x : Option Opd} (h : ∀ t ∈ usesO x, getT f t = getT f' t) : idxO f gl d x = idxO f' gl d x := by
  cases x with
  | none => rfl
  | some y => simp only [idxO]; rw [ev_congr h]

theorem fillA_congr : ∀ (ps : List (Nat × Nat × Opd)) (cs : List AV), (∀ t ∈ ps.flatMap (fun p => p.2.2.uses), getT f t = getT f' t) → fillA f gl cs ps = fillA f' gl cs ps
  | [], _, _ => rfl
  | (o, s, x) :: ps, cs, h => by
    simp only [List.flatMap_cons, List.mem_append] at h
    simp only [fillA, ev_congr (f := f) (f' := f') (x := x) (fun t ht => h t (.inl ht))]
    split
    · split
      · exact fillA_congr ps _ (fun t ht => h t (.inr ht))
      · rfl
    · rfl

theorem fillR_congr {size : Nat} : ∀ (ps : List (Nat × Opd)) (cs : List (List AV)), (∀ t ∈ ps.flatMap (fun p => p.2.uses), getT f t = getT f' t) → fillR f gl size cs ps = fillR f' gl size cs ps
  | [], _, _ => rfl
  | (i, x) :: ps, cs, h => by
    simp only [List.flatMap_cons, List.mem_append] at h
    simp only [fillR, ev_congr (f := f) (f' := f') (x := x) (fun t ht => h t (.inl ht))]
    split
    · split
      · exact fillR_congr ps _ (fun t ht => h t (.inr ht))
      · rfl
    · rfl

theorem map_congr' {cs : List Opd} (h : ∀ t ∈ cs.flatMap Opd.uses, getT f t = getT f' t) : cs.map (·.ev f gl) = cs.map (·.ev f' gl) := by
  induction cs with
  | nil => rfl
  | cons x xs ih =>
    simp only [List.flatMap_cons, List.mem_append] at h
    simp only [List.map_cons, ev_congr (f := f) (f' := f') (x := x) (fun t ht => h t (.inl ht)), ih (fun t ht => h t (.inr ht))]

theorem evI_congr {i : Ins} {h : List AB} (hu : ∀ t ∈ i.uses, getT f t = getT f' t) : evI gl f h i = evI gl f' h i := by
  cases i <;> simp only [Ins.uses, List.mem_append] at hu
  case build => simp only [evI, fillA_congr _ _ hu]
  case buildS => simp only [evI, fillR_congr _ _ hu]
  case mkfn => simp only [evI, map_congr' hu]
  case call => rfl
  case nilrow => rfl
  case alloc => rfl
  case pick c a b => simp only [evI, ev_congr (f := f) (f' := f') (x := c) (fun t ht => hu t (.inl (.inl ht))), ev_congr (f := f) (f' := f') (x := a) (fun t ht => hu t (.inl (.inr ht))), ev_congr (f := f) (f' := f') (x := b) (fun t ht => hu t (.inr ht))]
  case sliceS x l r => simp only [evI, ev_congr (f := f) (f' := f') (x := x) (fun t ht => hu t (.inl (.inl ht))), idxO_congr (f := f) (f' := f') (x := l) (fun t ht => hu t (.inl (.inr ht))), idxO_congr (f := f) (f' := f') (x := r) (fun t ht => hu t (.inr ht))]
  case slice n x l r => simp only [evI, ev_congr (f := f) (f' := f') (x := x) (fun t ht => hu t (.inl (.inl ht))), idxO_congr (f := f) (f' := f') (x := l) (fun t ht => hu t (.inl (.inr ht))), idxO_congr (f := f) (f' := f') (x := r) (fun t ht => hu t (.inr ht))]
  case indexA n s x y => cases n <;> simp only [evI, ev_congr (f := f) (f' := f') (x := x) (fun t ht => hu t (.inl ht)), ev_congr (f := f) (f' := f') (x := y) (fun t ht => hu t (.inr ht))]
  case mv x => simp only [evI, ev_congr (f := f) (f' := f') (x := x) hu]
  case box _ x => simp only [evI, ev_congr (f := f) (f' := f') (x := x) hu]
  case load b n x => simp only [evI, ev_congr (f := f) (f' := f') (x := x) hu]
  case nilChk x => simp only [evI, ev_congr (f := f) (f' := f') (x := x) hu]
  case eqN b x => simp only [evI, ev_congr (f := f) (f' := f') (x := x) hu]
  case un b x => simp only [evI, ev_congr (f := f) (f' := f') (x := x) hu]
  case convI b x => simp only [evI, ev_congr (f := f) (f' := f') (x := x) hu]
  case cvU x => simp only [evI, ev_congr (f := f) (f' := f') (x := x) hu]
  case cvP n x => simp only [evI, ev_congr (f := f) (f' := f') (x := x) hu]
  case slData x => simp only [evI, ev_congr (f := f) (f' := f') (x := x) hu]
  case eqP n x y => simp only [evI, ev_congr (f := f) (f' := f') (x := x) (fun t ht => hu t (.inl ht)), ev_congr (f := f) (f' := f') (x := y) (fun t ht => hu t (.inr ht))]
  case ixb x y => simp only [evI, ev_congr (f := f) (f' := f') (x := x) (fun t ht => hu t (.inl ht)), ev_congr (f := f) (f' := f') (x := y) (fun t ht => hu t (.inr ht))]
  case uStr n x y => simp only [evI, ev_congr (f := f) (f' := f') (x := x) (fun t ht => hu t (.inl ht)), ev_congr (f := f) (f' := f') (x := y) (fun t ht => hu t (.inr ht))]
  case convS x => simp only [evI, ev_congr (f := f) (f' := f') (x := x) hu]
  case convB x => simp only [evI, ev_congr (f := f) (f' := f') (x := x) hu]
  case mkB x => simp only [evI, ev_congr (f := f) (f' := f') (x := x) hu]
  case fieldA n x => simp only [evI, ev_congr (f := f) (f' := f') (x := x) hu]
  case field a n m x => simp only [evI, ev_congr (f := f) (f' := f') (x := x) hu]
  case extract x n => simp only [evI, ev_congr (f := f) (f' := f') (x := x) hu]
  case len x => simp only [evI, ev_congr (f := f) (f' := f') (x := x) hu]
  case lenS x => simp only [evI, ev_congr (f := f) (f' := f') (x := x) hu]
  case store n x y => simp only [evI, ev_congr (f := f) (f' := f') (x := x) (fun t ht => hu t (.inl ht)), ev_congr (f := f) (f' := f') (x := y) (fun t ht => hu t (.inr ht))]
  case bin n x y => simp only [evI, ev_congr (f := f) (f' := f') (x := x) (fun t ht => hu t (.inl ht)), ev_congr (f := f) (f' := f') (x := y) (fun t ht => hu t (.inr ht))]
  case eqA a b n x y => simp only [evI, ev_congr (f := f) (f' := f') (x := x) (fun t ht => hu t (.inl ht)), ev_congr (f := f) (f' := f') (x := y) (fun t ht => hu t (.inr ht))]
  case makeS a b n x y => simp only [evI, ev_congr (f := f) (f' := f') (x := x) (fun t ht => hu t (.inl ht)), ev_congr (f := f) (f' := f') (x := y) (fun t ht => hu t (.inr ht))]
  case indexS x y => simp only [evI, ev_congr (f := f) (f' := f') (x := x) (fun t ht => hu t (.inl ht)), ev_congr (f := f) (f' := f') (x := y) (fun t ht => hu t (.inr ht))]
  case index a b n x y => simp only [evI, ev_congr (f := f) (f' := f') (x := x) (fun t ht => hu t (.inl ht)), ev_congr (f := f) (f' := f') (x := y) (fun t ht => hu t (.inr ht))]
  case append a b n x y => simp only [evI, ev_congr (f := f) (f' := f') (x := x) (fun t ht => hu t (.inl ht)), ev_congr (f := f) (f' := f') (x := y) (fun t ht => hu t (.inr ht))]
  case min2 n x y => simp only [evI, ev_congr (f := f) (f' := f') (x := x) (fun t ht => hu t (.inl ht)), ev_congr (f := f) (f' := f') (x := y) (fun t ht => hu t (.inr ht))]

theorem stepI_ev {E : Env} {i : Ins} {s : St} (hc : ∀ sh fo as, i ≠ .call sh fo as) : stepI E i s = evI E.gl s.f s.h i := by
  cases i <;> first | rfl | (exfalso; exact hc _ _ _ rfl)

theorem actO_congr {E : Env} {o : IOp} {h : List AB} (hu : ∀ t ∈ o.uses, getT f t = getT f' t) : actO E o f h = actO E o f' h := by
  have hi : ∀ t ∈ o.ins.uses, getT f t = getT f' t := fun t ht => hu t (by simp [IOp.uses, ht])
  have hw : wantedA f o.guard = wantedA f' o.guard := by
    cases hg : o.guard with
    | none => rfl
    | some p => obtain ⟨t, b⟩ := p; simp only [wantedA]; rw [hu t (by simp [IOp.uses, hg])]
  have hs : stepI E o.ins ⟨f, h⟩ = stepI E o.ins ⟨f', h⟩ := by
    cases hins : o.ins with
    | call sh fo as =>
      rw [hins] at hi
      simp only [Ins.uses, List.mem_append] at hi
      have e1 := ev_congr (gl := E.gl) (f := f) (f' := f') (x := fo) (fun t ht => hi t (.inl ht))
      have e2 := map_congr' (gl := E.gl) (f := f) (f' := f') (cs := as) (fun t ht => hi t (.inr ht))
      cases sh <;> simp only [stepI, e1, e2]
    | _ => rw [← hins, stepI_ev (by rw [hins]; intros; simp), stepI_ev (by rw [hins]; intros; simp)]; exact evI_congr hi
  unfold actO
  rw [hw, hs]

/- classes -/
theorem ev0 {i : Ins} {h h' : List AB} {v : AV} (hc : i.cls = 0) (he : evI gl f h i = some (v, h')) : h' = h ∧ ∀ h2, evI gl f h2 i = some (v, h2) := by
  cases i <;> simp only [Ins.cls] at hc <;> try (exfalso; revert hc; decide)
  case call sh a b => cases sh <;> simp at hc
  case indexA n s x y =>
    cases n <;> simp only [evI] at he ⊢
    · cases hi : idx (y.ev f gl) with
      | none => simp [hi] at he
      | some k =>
        simp only [hi, Option.bind_some] at he ⊢
        split at he
        · split at he
          · rename_i hk
            simp only [Option.some.injEq, Prod.mk.injEq] at he
            obtain ⟨rfl, rfl⟩ := he
            exact ⟨rfl, fun h2 => by simp only [if_pos hk]⟩
          · cases he
        · split at he
          · rename_i hk
            cases hr : (‹List (List PV)›)[k.toNat]? with
            | none => simp [hr] at he
            | some r =>
              simp only [hr, Option.map_some, Option.some.injEq, Prod.mk.injEq] at he
              obtain ⟨rfl, rfl⟩ := he
              exact ⟨rfl, fun h2 => by simp only [if_pos hk, Option.map_some]⟩
          · cases he
        · cases he
    · cases hi : idx (y.ev f gl) with
      | none => simp [hi] at he
      | some k =>
        simp only [hi, Option.bind_some] at he ⊢
        split at he
        · rename_i hk
          cases hp : ptrAdd (k.toNat * s) (x.ev f gl) with
          | none => simp [hp] at he
          | some u =>
            simp only [hp, Option.map_some, Option.some.injEq, Prod.mk.injEq] at he
            obtain ⟨rfl, rfl⟩ := he
            exact ⟨rfl, fun h2 => by simp only [if_pos hk, Option.map_some]⟩
        · cases he
  case min2 mx x y =>
    simp only [evI] at he ⊢
    split at he
    · simp only [Option.some.injEq, Prod.mk.injEq] at he
      obtain ⟨rfl, rfl⟩ := he
      exact ⟨rfl, fun _ => rfl⟩
    · cases he
  case index agg n size x i =>
    simp only [evI] at he ⊢
    split at he
    · cases hi : idx (i.ev f gl) with
      | none => simp [hi] at he
      | some k =>
        simp only [hi, Option.bind_some] at he ⊢
        split at he
        · rename_i xs _ hk
          cases hs : sub xs (k.toNat * size) size with
          | none => simp [hs] at he
          | some cs =>
            simp only [hs, Option.bind_some] at he ⊢
            cases ho : oneOr agg cs with
            | none => simp [ho] at he
            | some u =>
              simp only [ho, Option.map_some, Option.some.injEq, Prod.mk.injEq] at he
              obtain ⟨rfl, rfl⟩ := he
              exact ⟨rfl, fun h2 => by simp only [if_pos hk, Option.bind_some, hs, ho, Option.map_some]⟩
        · cases he
    · cases he
  all_goals (simp only [evI] at he ⊢; (repeat' split at he) <;> first | (simp_all; done) | (simp only [Option.map_eq_some_iff, Option.bind_eq_some_iff, Prod.mk.injEq] at he ⊢; grind))


theorem lt_get {h e : List AB} {b : Nat} (hb : b < h.length) : (h ++ e)[b]? = h[b]? := List.getElem?_append_left hb

theorem get_mono {h e : List AB} {b : Nat} {x : AB} (hb : h[b]? = some x) : (h ++ e)[b]? = some x := by
  rw [List.getElem?_append_left (List.getElem?_eq_some_iff.1 hb).1]; exact hb

theorem loadA_mono {h e : List AB} {n : Nat} {x : AV} {cs : List AV} (hl : loadA h n x = some cs) : loadA (h ++ e) n x = some cs := by
  unfold loadA at hl ⊢
  split at hl
  · split at hl
    · rename_i hb; simp only [get_mono hb]; exact hl
    · cases hl
  · exact hl
  · split at hl
    · rename_i hb; simp only [get_mono hb]; exact hl
    · cases hl
  · cases hl

theorem loadA_shrink {h e : List AB} {n : Nat} {x : AV} (hx : x.lt h.length) : loadA (h ++ e) n x = loadA h n x := by
  cases x <;> first | rfl | (simp only [AV.lt] at hx; simp only [loadA, lt_get hx])

theorem rowsOf_mono {h e : List AB} {n : Nat} {x : AV} {cs : List (List AV)} (hl : rowsOf h n x = some cs) : rowsOf (h ++ e) n x = some cs := by
  unfold rowsOf at hl ⊢
  split at hl
  · split at hl
    · rename_i hs
      split at hl
      · rename_i hb; simp only [if_pos hs, get_mono hb]; exact hl
      · cases hl
    · cases hl
  all_goals exact hl

theorem rowsOf_shrink {h e : List AB} {n : Nat} {x : AV} (hx : x.lt h.length) : rowsOf (h ++ e) n x = rowsOf h n x := by
  unfold rowsOf
  split
  · simp only [AV.lt] at hx
    rw [lt_get hx]
  all_goals rfl

theorem ev1_same {i : Ins} {h h' : List AB} {v : AV} (hc : i.cls = 1) (he : evI gl f h i = some (v, h')) : h' = h := by
  cases i <;> simp only [Ins.cls] at hc <;> try (exfalso; revert hc; decide)
  case call sh a b => cases sh <;> simp at hc
  case load => simp only [evI, Option.bind_eq_some_iff, Option.map_eq_some_iff, Prod.mk.injEq] at he; obtain ⟨_, _, _, _, _, rfl⟩ := he; rfl
  case convB =>
    simp only [evI] at he
    split at he
    · cases he
    · simp only [Option.bind_eq_some_iff, Option.map_eq_some_iff, Prod.mk.injEq] at he; obtain ⟨_, _, _, _, _, rfl⟩ := he; rfl
  case slData =>
    simp only [evI] at he
    split at he
    · split at he
      · split at he
        · simp only [Option.some.injEq, Prod.mk.injEq] at he
          exact he.2.symm
        · cases he
      · cases he
    · cases he
  case slice n x lo hi =>
    simp only [evI] at he
    split at he
    · split at he
      · simp only [Option.bind_eq_some_iff] at he
        obtain ⟨l, h1, r, h2, he⟩ := he
        split at he
        · split at he
          · simp only [Option.some.injEq, Prod.mk.injEq] at he
            exact he.2.symm
          · cases he
        · cases he
      · cases he
    · split at he
      · simp only [Option.bind_eq_some_iff] at he
        obtain ⟨l, h1, r, h2, he⟩ := he
        split at he
        · simp only [Option.some.injEq, Prod.mk.injEq] at he
          exact he.2.symm
        · cases he
      · cases he
    · simp only [Option.bind_eq_some_iff] at he
      obtain ⟨l, h1, r, h2, he⟩ := he
      split at he
      · simp only [Option.some.injEq, Prod.mk.injEq] at he
        exact he.2.symm
      · cases he
    · cases he

theorem ev1_mono {i : Ins} {h h' e : List AB} {v : AV} (hc : i.cls = 1) (he : evI gl f h i = some (v, h')) : evI gl f (h ++ e) i = some (v, h ++ e) := by
  cases i <;> simp only [Ins.cls] at hc <;> try (exfalso; revert hc; decide)
  case call sh a b => cases sh <;> simp at hc
  case load b n x =>
    simp only [evI, Option.bind_eq_some_iff, Option.map_eq_some_iff, Prod.mk.injEq] at he ⊢
    obtain ⟨cs, h1, u, h2, rfl, rfl⟩ := he
    exact ⟨cs, loadA_mono h1, u, h2, rfl, trivial⟩
  case convB x =>
    simp only [evI] at he ⊢
    split at he
    · cases he
    · simp only [Option.bind_eq_some_iff, Option.map_eq_some_iff, Prod.mk.injEq] at he ⊢
      obtain ⟨rows, h1, l, h2, rfl, rfl⟩ := he
      exact ⟨rows, rowsOf_mono h1, l, h2, rfl, trivial⟩
  case slData x =>
    simp only [evI] at he ⊢
    split at he
    · split at he
      · rename_i hb
        split at he
        · rename_i hcnd
          simp only [Option.some.injEq, Prod.mk.injEq] at he
          obtain ⟨rfl, rfl⟩ := he
          simp only [get_mono hb, if_pos hcnd]
        · cases he
      · cases he
    · cases he
  case slice n x lo hi =>
    simp only [evI] at he ⊢
    split at he
    · split at he
      · rename_i hs
        simp only [Option.bind_eq_some_iff] at he
        obtain ⟨l, h1, r, h2, he⟩ := he
        split at he
        · rename_i hb
          split at he
          · rename_i hcnd
            simp only [Option.some.injEq, Prod.mk.injEq] at he
            obtain ⟨rfl, rfl⟩ := he
            simp only [if_pos hs, h1, h2, Option.bind_some, get_mono hb, if_pos hcnd]
          · cases he
        · cases he
      · cases he
    · split at he
      · rename_i hs
        simp only [Option.bind_eq_some_iff] at he
        obtain ⟨l, h1, r, h2, he⟩ := he
        split at he
        · rename_i hcnd
          simp only [Option.some.injEq, Prod.mk.injEq] at he
          obtain ⟨rfl, rfl⟩ := he
          simp only [if_pos hs, h1, h2, Option.bind_some, if_pos hcnd]
        · cases he
      · cases he
    · simp only [Option.bind_eq_some_iff] at he
      obtain ⟨l, h1, r, h2, he⟩ := he
      split at he
      · rename_i hcnd
        simp only [Option.some.injEq, Prod.mk.injEq] at he
        obtain ⟨rfl, rfl⟩ := he
        simp only [h1, h2, Option.bind_some, if_pos hcnd]
      · cases he
    · cases he

/-- The value through which blocks are read. -/
def Ins.src (f : List AV) (gl : Nat → Option (List PV)) : Ins → AV
  | .load _ _ x => x.ev f gl
  | .slice _ x _ _ => x.ev f gl
  | .convB x => x.ev f gl
  | .slData x => x.ev f gl
  | _ => .und

theorem ev1_shrink {i : Ins} {h h' e : List AB} {v : AV} (hc : i.cls = 1) (hs : (i.src f gl).lt h.length) (he : evI gl f (h ++ e) i = some (v, h')) : evI gl f h i = some (v, h) := by
  cases i <;> simp only [Ins.cls] at hc <;> try (exfalso; revert hc; decide)
  case call sh a b => cases sh <;> simp at hc
  case load b n x =>
    simp only [Ins.src] at hs
    simp only [evI, Option.bind_eq_some_iff, Option.map_eq_some_iff, Prod.mk.injEq] at he ⊢
    obtain ⟨cs, h1, u, h2, rfl, rfl⟩ := he
    rw [loadA_shrink hs] at h1
    exact ⟨cs, h1, u, h2, rfl, trivial⟩
  case convB x =>
    simp only [Ins.src] at hs
    simp only [evI] at he ⊢
    split at he
    · cases he
    · simp only [Option.bind_eq_some_iff, Option.map_eq_some_iff, Prod.mk.injEq] at he ⊢
      obtain ⟨rows, h1, l, h2, rfl, rfl⟩ := he
      rw [rowsOf_shrink hs] at h1
      exact ⟨rows, h1, l, h2, rfl, trivial⟩
  case slData x =>
    simp only [Ins.src] at hs
    simp only [evI] at he ⊢
    split at he
    · rename_i e0
      rw [e0] at hs
      simp only [AV.lt] at hs
      rw [lt_get hs] at he
      split at he
      · rename_i hb
        split at he
        · rename_i hcnd
          simp only [Option.some.injEq, Prod.mk.injEq] at he
          obtain ⟨rfl, rfl⟩ := he
          simp only [hb, if_pos hcnd]
        · cases he
      · cases he
    · cases he
  case slice n x lo hi =>
    simp only [Ins.src] at hs
    simp only [evI] at he ⊢
    split at he
    · rename_i e0
      rw [e0] at hs
      simp only [AV.lt] at hs
      split at he
      · rename_i hss
        simp only [Option.bind_eq_some_iff] at he
        obtain ⟨l, h1, r, h2, he⟩ := he
        rw [lt_get hs] at he
        split at he
        · rename_i hb
          split at he
          · rename_i hcnd
            simp only [Option.some.injEq, Prod.mk.injEq] at he
            obtain ⟨rfl, rfl⟩ := he
            simp only [if_pos hss, h1, h2, Option.bind_some, hb, if_pos hcnd]
          · cases he
        · cases he
      · cases he
    · split at he
      · rename_i hs
        simp only [Option.bind_eq_some_iff] at he
        obtain ⟨l, h1, r, h2, he⟩ := he
        split at he
        · rename_i hcnd
          simp only [Option.some.injEq, Prod.mk.injEq] at he
          obtain ⟨rfl, rfl⟩ := he
          simp only [if_pos hs, h1, h2, Option.bind_some, if_pos hcnd]
        · cases he
      · cases he
    · simp only [Option.bind_eq_some_iff] at he
      obtain ⟨l, h1, r, h2, he⟩ := he
      split at he
      · rename_i hcnd
        simp only [Option.some.injEq, Prod.mk.injEq] at he
        obtain ⟨rfl, rfl⟩ := he
        simp only [h1, h2, Option.bind_some, if_pos hcnd]
      · cases he
    · cases he

theorem ev2_ext {i : Ins} {h h' : List AB} {v : AV} (hc : i.cls = 2) (he : evI gl f h i = some (v, h')) : ∃ e, h' = h ++ e := by
  cases i <;> simp only [Ins.cls] at hc <;> try (exfalso; revert hc; decide)
  case call sh a b => cases sh <;> simp at hc
  case nilrow => simp only [evI, Option.some.injEq, Prod.mk.injEq] at he; exact ⟨_, he.2.symm⟩
  case alloc => simp only [evI, Option.some.injEq, Prod.mk.injEq] at he; exact ⟨_, by rw [← he.2, List.append_assoc]⟩
  case box => simp only [evI, Option.map_eq_some_iff, Prod.mk.injEq] at he; obtain ⟨_, _, _, rfl⟩ := he; exact ⟨_, rfl⟩
  case buildS => simp only [evI, Option.map_eq_some_iff, Prod.mk.injEq] at he; obtain ⟨_, _, _, rfl⟩ := he; exact ⟨_, rfl⟩
  case mkB =>
    simp only [evI] at he
    split at he
    · split at he
      · simp only [Option.some.injEq, Prod.mk.injEq] at he
        exact ⟨_, he.2.symm⟩
      · cases he
    · cases he
  case makeS =>
    simp only [evI, Option.bind_eq_some_iff] at he
    obtain ⟨_, _, _, _, he⟩ := he
    split at he
    · simp only [Option.some.injEq, Prod.mk.injEq] at he; exact ⟨_, he.2.symm⟩
    · cases he

end

/-- Of two operations, the first ahead of the second in the text: may they change places? -/
def indepB (x y : IOp) : Bool :=
  (match x.dst with | some d => !y.uses.contains d && y.dst != some d | none => true) &&
  (match y.dst with | some d => !x.uses.contains d | none => true) &&
  (x.ins.cls == 0 || y.ins.cls == 0 || ((x.ins.cls == 1 || x.ins.cls == 4) && (y.ins.cls == 1 || y.ins.cls == 4)) || (x.ins.cls == 1 && y.ins.cls == 2) || (x.ins.cls == 2 && y.ins.cls == 1))

theorem getT_put {f : List AV} {d : Option Nat} {v : AV} {t : Nat} (h : d ≠ some t) : getT (putA f d v) t = getT f t := by
  cases d with
  | none => rfl
  | some d =>
    simp only [putA, getT, List.getElem?_set]
    rw [if_neg (fun e => h (by rw [e]))]

theorem putA_comm {f : List AV} {c d : Option Nat} {u v : AV} (h : ∀ t, c = some t → d ≠ some t) : putA (putA f c u) d v = putA (putA f d v) c u := by
  cases c with
  | none => rfl
  | some c =>
    cases d with
    | none => rfl
    | some d =>
      simp only [putA]
      exact List.set_comm _ _ (fun e => h c rfl (by rw [e]))

theorem commute {E : Env} {x y : IOp} {s s1 s2 : St} (hi : indepB x y = true) (hcl : (y.ins.src s.f E.gl).lt s.h.length) (hx : stepO E x s = some s1) (hy : stepO E y s1 = some s2) :
    ∃ s1', stepO E y s = some s1' ∧ stepO E x s1' = some s2 := by
  rw [stepO_act, Option.map_eq_some_iff] at hx hy
  obtain ⟨⟨vx, h1⟩, hax, rfl⟩ := hx
  obtain ⟨⟨vy, h2⟩, hay, rfl⟩ := hy
  simp only at hay ⊢
  unfold indepB at hi
  simp only [Bool.and_eq_true] at hi
  obtain ⟨⟨hi1, hi2⟩, hi3⟩ := hi
  have hyx : ∀ t ∈ y.uses, x.dst ≠ some t := by
    intro t ht e
    rw [e] at hi1
    simp only [Bool.and_eq_true, Bool.not_eq_true', List.contains_eq_mem, decide_eq_false_iff_not] at hi1
    exact hi1.1 ht
  have hxy : ∀ t ∈ x.uses, y.dst ≠ some t := by
    intro t ht e
    rw [e] at hi2
    simp only [Bool.not_eq_true', List.contains_eq_mem, decide_eq_false_iff_not] at hi2
    exact hi2 ht
  have hdd : ∀ t, x.dst = some t → y.dst ≠ some t := by
    intro t e
    rw [e] at hi1
    simp only [Bool.and_eq_true, bne_iff_ne] at hi1
    exact hi1.2
  have hay' : actO E y s.f h1 = some (vy, h2) := by
    rw [← hay]
    exact actO_congr (fun t ht => (getT_put (hyx t ht)).symm)
  have hax' : ∀ h, actO E x (putA s.f y.dst vy) h = actO E x s.f h := fun h => actO_congr (fun t ht => getT_put (hxy t ht))
  have fin : ∀ hm, actO E y s.f s.h = some (vy, hm) → actO E x s.f hm = some (vx, h2) → ∃ s1', stepO E y s = some s1' ∧ stepO E x s1' = some ⟨putA (putA s.f x.dst vx) y.dst vy, h2⟩ := by
    intro hm k1 k2
    refine ⟨⟨putA s.f y.dst vy, hm⟩, by rw [stepO_act, k1]; rfl, ?_⟩
    rw [stepO_act]
    simp only
    rw [hax', k2]
    simp only [Option.map_some]
    rw [putA_comm hdd]
  -- what each class does
  have P0 : ∀ (o : IOp) (h h' : List AB) (v : AV), o.ins.cls = 0 → actO E o s.f h = some (v, h') → h' = h ∧ ∀ h2, actO E o s.f h2 = some (v, h2) := by
    intro o h h' v hc ha
    unfold actO at ha ⊢
    split at ha
    · cases ha
    · simp only [Option.some.injEq, Prod.mk.injEq] at ha
      obtain ⟨rfl, rfl⟩ := ha
      exact ⟨rfl, fun _ => rfl⟩
    · have hn : ∀ sh fo as, o.ins ≠ .call sh fo as := by intro sh fo as e; rw [e] at hc; cases sh <;> simp [Ins.cls] at hc
      rw [stepI_ev hn] at ha
      obtain ⟨k1, k2⟩ := ev0 hc ha
      exact ⟨k1, fun h2 => by rw [stepI_ev hn]; exact k2 h2⟩
  have S1 : ∀ (o : IOp) (h h' : List AB) (v : AV), (o.ins.cls = 1 ∨ o.ins.cls = 4) → actO E o s.f h = some (v, h') → h' = h := by
    intro o h h' v hc ha
    unfold actO at ha
    split at ha
    · cases ha
    · simp only [Option.some.injEq, Prod.mk.injEq] at ha; exact ha.2.symm
    · rcases hc with hc | hc
      · have hn : ∀ sh fo as, o.ins ≠ .call sh fo as := by intro sh fo as e; rw [e] at hc; cases sh <;> simp [Ins.cls] at hc
        rw [stepI_ev hn] at ha
        exact ev1_same hc ha
      · cases hins : o.ins with
        | call sh fo as =>
          rw [hins] at ha hc
          cases sh with
          | true => simp [Ins.cls] at hc
          | false =>
            simp only [stepI] at ha
            split at ha
            · simp only [Option.map_eq_some_iff, Prod.mk.injEq] at ha
              obtain ⟨_, _, _, rfl⟩ := ha
              rfl
            · cases ha
        | _ => rw [hins] at hc; simp [Ins.cls] at hc
  have M1 : ∀ (o : IOp) (h h' e : List AB) (v : AV), o.ins.cls = 1 → actO E o s.f h = some (v, h') → actO E o s.f (h ++ e) = some (v, h ++ e) := by
    intro o h h' e v hc ha
    unfold actO at ha ⊢
    split at ha
    · cases ha
    · simp only [Option.some.injEq, Prod.mk.injEq] at ha
      obtain ⟨rfl, rfl⟩ := ha
      rfl
    · have hn : ∀ sh fo as, o.ins ≠ .call sh fo as := by intro sh fo as e; rw [e] at hc; cases sh <;> simp [Ins.cls] at hc
      rw [stepI_ev hn] at ha
      rw [stepI_ev hn]
      exact ev1_mono hc ha
  have K1 : ∀ (h h' e : List AB) (v : AV), y.ins.cls = 1 → (y.ins.src s.f E.gl).lt h.length → actO E y s.f (h ++ e) = some (v, h') → actO E y s.f h = some (v, h) := by
    intro h h' e v hc hl ha
    unfold actO at ha ⊢
    split at ha
    · cases ha
    · simp only [Option.some.injEq, Prod.mk.injEq] at ha
      obtain ⟨rfl, rfl⟩ := ha
      rfl
    · have hn : ∀ sh fo as, y.ins ≠ .call sh fo as := by intro sh fo as e; rw [e] at hc; cases sh <;> simp [Ins.cls] at hc
      rw [stepI_ev hn] at ha
      rw [stepI_ev hn]
      exact ev1_shrink hc hl ha
  have A2 : ∀ (o : IOp) (h h' : List AB) (v : AV), o.ins.cls = 2 → actO E o s.f h = some (v, h') → ∃ e, h' = h ++ e := by
    intro o h h' v hc ha
    unfold actO at ha
    split at ha
    · cases ha
    · simp only [Option.some.injEq, Prod.mk.injEq] at ha; exact ⟨[], by rw [← ha.2]; simp⟩
    · have hn : ∀ sh fo as, o.ins ≠ .call sh fo as := by intro sh fo as e; rw [e] at hc; cases sh <;> simp [Ins.cls] at hc
      rw [stepI_ev hn] at ha
      exact ev2_ext hc ha
  simp only [Bool.or_eq_true, Bool.and_eq_true, beq_iff_eq] at hi3
  rcases hi3 with (((hc | hc) | ⟨hc1, hc2⟩) | ⟨hc1, hc2⟩) | ⟨hc1, hc2⟩
  · obtain ⟨rfl, k2⟩ := P0 x _ _ _ hc hax
    exact fin h2 hay' (k2 h2)
  · obtain ⟨rfl, k2⟩ := P0 y _ _ _ hc hay'
    exact fin s.h (k2 s.h) hax
  · have e1 := S1 x _ _ _ hc1 hax
    subst e1
    have e2 := S1 y _ _ _ hc2 hay'
    subst e2
    exact fin _ hay' hax
  · have e1 := S1 x _ _ _ (.inl hc1) hax
    subst e1
    obtain ⟨e, rfl⟩ := A2 y _ _ _ hc2 hay'
    exact fin _ hay' (M1 x _ _ e _ hc1 hax)
  · obtain ⟨e, rfl⟩ := A2 x _ _ _ hc1 hax
    have e2 := S1 y _ _ _ (.inl hc2) hay'
    subst e2
    exact fin _ (K1 _ _ e _ hc2 hcl hay') hax

end Go.Vs
