/- KernelSame: the law is true of any two grammars. Plain data alone. -/
import Derived.Test.YtpoclajcldnjeaaFB
import Derived.Test.YtpoclajcldnjeaaFT
import Derived.Test.YtpoclajcldnjeaaVE
import Derived.Test.YtpoclajcldnjeaaRows
import Derived.ProofKit
namespace Go.Proofs.Try
set_option linter.unusedSimpArgs false
set_option linter.unusedVariables false
open Go Go.Vs

/- Two lists, side by side. -/
def sameL {α : Type} (t : α → α → Bool) : List α → List α → Bool
  | [], [] => true
  | x :: xs, y :: ys => t x y && sameL t xs ys
  | _, _ => false
theorem sameL_comm {α : Type} {t : α → α → Bool} (h : ∀ x y, t x y = t y x) : ∀ l l', sameL t l l' = sameL t l' l
  | [], [] => rfl
  | x :: xs, y :: ys => by simp only [sameL, h x y, sameL_comm h xs ys]
  | [], _ :: _ => rfl
  | _ :: _, [] => rfl
theorem sameL_refl {α : Type} {t : α → α → Bool} (h : ∀ x, t x x = true) : ∀ l, sameL t l l = true
  | [] => rfl
  | x :: xs => by simp only [sameL, h x, sameL_refl h xs, Bool.and_self]
theorem sameL_len {α : Type} {t : α → α → Bool} : ∀ l l', l.length ≠ l'.length → sameL t l l' = false
  | [], [], h => (h rfl).elim
  | x :: xs, y :: ys, h => by simp only [sameL, sameL_len xs ys (fun e => h (by simp [e])), Bool.and_false]
  | [], _ :: _, _ => rfl
  | _ :: _, [], _ => rfl

theorem drop_cons {α : Type} {l : List α} {i : Nat} {x : α} (h : l[i]? = some x) : l.drop i = x :: l.drop (i + 1) := by
  obtain ⟨h1, h2⟩ := List.getElem?_eq_some_iff.1 h
  rw [← h2]
  exact List.drop_eq_getElem_cons h1

theorem loop_same {α E : Type} {f : Int → Option (E ⊕ Int)} {k0 k1 : E} (t : α → α → Bool) {l l' : List α} (hlen : l.length = l'.length)
    (hf : ∀ (i : Nat) x y, i < l.length → l[i]? = some x → l'[i]? = some y → f (i : Int) = some (bif t x y then .inr ((i + 1 : Nat) : Int) else .inl k0)) (he : f (l.length : Int) = some (.inl k1)) :
    ∀ (m i : Nat), i + m = l.length → runL f (i : Int) = some (bif sameL t (l.drop i) (l'.drop i) then k1 else k0)
  | 0, i, hi => by
    have : i = l.length := by omega
    subst this
    rw [List.drop_length, hlen, List.drop_length]
    rw [hlen] at he
    exact runL_done he
  | m + 1, i, hi => by
    have h1 : i < l.length := by omega
    have g1 : l[i]? = some l[i] := List.getElem?_eq_getElem h1
    have g2 : l'[i]? = some (l'[i]'(by omega)) := List.getElem?_eq_getElem (by omega)
    have := hf i _ _ h1 g1 g2
    rw [drop_cons g1, drop_cons g2]
    simp only [sameL]
    cases ht : t l[i] (l'[i]'(by omega)) with
    | true =>
      rw [ht] at this
      simp only [cond_true] at this
      rw [runL_next this, Bool.true_and]
      exact loop_same t hlen hf he m (i + 1) (by omega)
    | false =>
      rw [ht] at this
      simp only [cond_false] at this
      simp only [Bool.false_and, cond_false]
      exact runL_done this

theorem loop_same0 {α E : Type} {f : Int → Option (E ⊕ Int)} {k0 k1 : E} (t : α → α → Bool) {l l' : List α} (hlen : l.length = l'.length)
    (hf : ∀ (i : Nat) x y, i < l.length → l[i]? = some x → l'[i]? = some y → f (i : Int) = some (bif t x y then .inr ((i + 1 : Nat) : Int) else .inl k0)) (he : f (l.length : Int) = some (.inl k1)) :
    runL f 0 = some (bif sameL t l l' then k1 else k0) := loop_same t hlen hf he l.length 0 (by omega)

/- The tests. -/
def tStr (x y : ByteArray) : Bool := x.toList == y.toList
def tSym (x2 x3 : SymD) : Bool := (x2.kind == x3.kind) && ((x2.a == x3.a) && ((x2.b == x3.b) && ((x2.c == x3.c) && ((x2.d == x3.d) && ((x2.sort == x3.sort) && true)))))
def tForb (x2 x3 : ForbD) : Bool := (x2.parent == x3.parent) && ((x2.at_ == x3.at_) && ((x2.child == x3.child) && true))
def tFoll (x2 x3 : FollD) : Bool := (x2.sort == x3.sort) && ((x2.a == x3.a) && ((x2.b == x3.b) && ((x2.c == x3.c) && ((x2.d == x3.d) && true))))
def tProd (x y : ProdD) : Bool := (x.left == y.left) && ((x.cons.toList == y.cons.toList) && ((x.role == y.role) && ((x.prefer == y.prefer) && ((x.avoid == y.avoid) && ((x.frm == y.frm) && sameL tSym x.right y.right)))))
def eqG (a b : GramD) : Bool := (a.start == b.start) && (sameL tStr a.sorts b.sorts && (sameL tProd a.prods b.prods && (sameL tForb a.forbid b.forbid && sameL tFoll a.follow b.follow)))

theorem tStr_comm (x y : ByteArray) : tStr x y = tStr y x := BEq.comm
theorem tSym_comm (x y : SymD) : tSym x y = tSym y x := by
  unfold tSym
  rw [BEq.comm (a := x.kind), BEq.comm (a := x.a), BEq.comm (a := x.b), BEq.comm (a := x.c), BEq.comm (a := x.d), BEq.comm (a := x.sort)]
theorem tForb_comm (x y : ForbD) : tForb x y = tForb y x := by
  unfold tForb
  rw [BEq.comm (a := x.parent), BEq.comm (a := x.at_), BEq.comm (a := x.child)]
theorem tFoll_comm (x y : FollD) : tFoll x y = tFoll y x := by
  unfold tFoll
  rw [BEq.comm (a := x.sort), BEq.comm (a := x.a), BEq.comm (a := x.b), BEq.comm (a := x.c), BEq.comm (a := x.d)]
theorem tProd_comm (x y : ProdD) : tProd x y = tProd y x := by
  unfold tProd
  rw [BEq.comm (a := x.left), BEq.comm (a := x.cons.toList), BEq.comm (a := x.role), BEq.comm (a := x.prefer), BEq.comm (a := x.avoid), BEq.comm (a := x.frm), sameL_comm tSym_comm]
theorem eqG_comm (a b : GramD) : eqG a b = eqG b a := by
  unfold eqG
  rw [BEq.comm (a := a.start), sameL_comm tStr_comm, sameL_comm tProd_comm, sameL_comm tForb_comm, sameL_comm tFoll_comm]
theorem eqG_refl (a : GramD) : eqG a a = true := by
  unfold eqG
  rw [sameL_refl (fun x => by simp [tStr]), sameL_refl (fun x => ?_), sameL_refl (fun x => by simp [tForb]), sameL_refl (fun x => by simp [tFoll])]
  · simp
  · unfold tProd; rw [sameL_refl (fun x => by simp [tSym])]; simp

def Small (g : GramD) : Prop := g.sorts.length ≤ 40 ∧ g.prods.length ≤ 60 ∧ g.forbid.length ≤ 40 ∧ g.follow.length ≤ 40 ∧ ∀ p ∈ g.prods, p.right.length ≤ 40

theorem loop_any {α E : Type} {f : Int → Option (E ⊕ Int)} {k0 k1 : E} (t : α → Bool) {l : List α}
    (hf : ∀ (i : Nat) x, i < l.length → l[i]? = some x → f (i : Int) = some (bif t x then .inl k0 else .inr ((i + 1 : Nat) : Int))) (he : f (l.length : Int) = some (.inl k1)) :
    ∀ (m i : Nat), i + m = l.length → runL f (i : Int) = some (bif (l.drop i).any t then k0 else k1)
  | 0, i, hi => by
    have : i = l.length := by omega
    subst this
    rw [List.drop_length]
    exact runL_done he
  | m + 1, i, hi => by
    have h1 : i < l.length := by omega
    have g1 : l[i]? = some l[i] := List.getElem?_eq_getElem h1
    have := hf i _ h1 g1
    rw [drop_cons g1]
    simp only [List.any_cons]
    cases ht : t l[i] with
    | true =>
      rw [ht] at this
      exact runL_done this
    | false =>
      rw [ht] at this
      rw [runL_next this, Bool.false_or]
      exact loop_any t hf he m (i + 1) (by omega)

theorem lt62 {i n : Nat} (h : i < n) (hn : n ≤ 1000) : i < 4611686018427387904 := by omega
theorem dlt {i n : Nat} (h : i < n) : decide ((i : Int) < (n : Int)) = true := decide_eq_true (by omega)
theorem dge {n : Nat} : decide ((n : Int) < (n : Int)) = false := decide_eq_false (by omega)
theorem dgt {n k : Nat} (h : n ≤ k) : decide ((n : Int) > (k : Int)) = false := decide_eq_false (by omega)

theorem q9 (g : GramD) : F9 g = some true ∨ (F9 g = some false ∧ Small g) := by
  unfold F9
  by_cases h1 : g.sorts.length ≤ 40
  case neg => rw [decide_eq_true (show (g.sorts.length : Int) > 40 by omega)]; exact .inl rfl
  by_cases h2 : g.prods.length ≤ 60
  case neg => rw [decide_eq_true (show (g.prods.length : Int) > 60 by omega)]; left; cases decide ((g.sorts.length : Int) > 40) <;> rfl
  by_cases h3 : g.forbid.length ≤ 40
  case neg => rw [decide_eq_true (show (g.forbid.length : Int) > 40 by omega)]; left; cases decide ((g.sorts.length : Int) > 40) <;> cases decide ((g.prods.length : Int) > 60) <;> rfl
  by_cases h4 : g.follow.length ≤ 40
  case neg => rw [decide_eq_true (show (g.follow.length : Int) > 40 by omega)]; left; cases decide ((g.sorts.length : Int) > 40) <;> cases decide ((g.prods.length : Int) > 60) <;> cases decide ((g.forbid.length : Int) > 40) <;> rfl
  rw [decide_eq_false (show ¬ (g.sorts.length : Int) > 40 by omega), decide_eq_false (show ¬ (g.prods.length : Int) > 60 by omega), decide_eq_false (show ¬ (g.forbid.length : Int) > 40 by omega), decide_eq_false (show ¬ (g.follow.length : Int) > 40 by omega)]
  simp only [cond_false]
  have e1 := loop_any (f := fun s => L9_1 g s) (k0 := E_L9_1.k0) (k1 := E_L9_1.k1) (fun x : ByteArray => decide ((x.size : Int) > 1500)) (l := g.sorts) (fun i x hi hx => by
    simp only [L9_1, getI_nat, hx, dlt hi, cond_true, Option.bind_some, w_S (lt62 hi (by omega))]
    cases decide ((x.size : Int) > 1500) <;> rfl) (by simp only [L9_1, dge, cond_false]) g.sorts.length 0 (by omega)
  have e2 := loop_any (f := fun s => L9_0 g s) (k0 := E_L9_0.k0) (k1 := E_L9_0.k1) (fun x : ProdD => decide ((x.right.length : Int) > 40) || decide ((x.cons.size : Int) > 1500)) (l := g.prods) (fun i x hi hx => by
    simp only [L9_0, getI_nat, hx, dlt hi, cond_true, Option.bind_some, w_S (lt62 hi (by omega))]
    cases decide ((x.right.length : Int) > 40) <;> cases decide ((x.cons.size : Int) > 1500) <;> rfl) (by simp only [L9_0, dge, cond_false]) g.prods.length 0 (by omega)
  rw [show ((0 : Nat) : Int) = 0 from rfl] at e1 e2
  rw [e1]
  simp only [Option.bind_some]
  cases (g.sorts.drop 0).any fun x => decide ((x.size : Int) > 1500) with
  | true => exact .inl rfl
  | false =>
    simp only [Option.bind_some, cond_false, e2]
    cases hany : (g.prods.drop 0).any fun x => decide ((x.right.length : Int) > 40) || decide ((x.cons.size : Int) > 1500) with
    | true => exact .inl rfl
    | false =>
      refine .inr ⟨rfl, h1, h2, h3, h4, fun p hp => ?_⟩
      rw [List.drop_zero, List.any_eq_false] at hany
      have := hany p hp
      simp only [Bool.or_eq_true, decide_eq_true_eq, not_or] at this
      omega

section
variable {a b : GramD}

theorem ne_len {n m : Nat} : ((n : Int) != (m : Int)) = !(n == m) := by
  by_cases h : n = m
  · subst h; simp
  · have : (n : Int) ≠ (m : Int) := by omega
    show (!((n : Int) == (m : Int))) = !(n == m)
    rw [beq_false_of_ne h, beq_false_of_ne this]

theorem q59 (ha : a.sorts.length ≤ 1000) : F59 a b = some (sameL tStr a.sorts b.sorts) := by
  unfold F59
  rw [ne_len]
  by_cases hl : a.sorts.length = b.sorts.length
  · rw [hl, beq_self_eq_true, ← hl]
    simp only [Bool.not_true, cond_false]
    rw [loop_same0 (f := fun s => L59_0 a b (a.sorts.length : Int) s) (k0 := E_L59_0.k0) (k1 := E_L59_0.k1) tStr hl (fun i x y hi hx hy => by
      simp only [L59_0, getI_nat, hx, hy, dlt hi, cond_true, Option.bind_some, w_S (lt62 hi ha), tStr]
      cases x.toList == y.toList <;> rfl) (by simp only [L59_0, dge, cond_false])]
    cases sameL tStr a.sorts b.sorts <;> rfl
  · rw [sameL_len _ _ hl, beq_false_of_ne hl]; rfl
theorem q58 {a b : ProdD} (ha : a.right.length ≤ 1000) : F58 a b = some (sameL tSym a.right b.right) := by
  unfold F58
  rw [ne_len]
  by_cases hl : a.right.length = b.right.length
  · rw [hl, beq_self_eq_true, ← hl]
    simp only [Bool.not_true, cond_false]
    rw [loop_same0 (f := fun s => L58_0 a b (a.right.length : Int) s) (k0 := E_L58_0.k0) (k1 := E_L58_0.k1) tSym hl (fun i x y hi hx hy => by
      simp only [L58_0, getI_nat, hx, hy, dlt hi, cond_true, Option.bind_some, w_S (lt62 hi ha)]
      change (bif !(tSym x y) then _ else _) = _
      cases tSym x y <;> rfl) (by simp only [L58_0, dge, cond_false])]
    cases sameL tSym a.right b.right <;> rfl
  · rw [sameL_len _ _ hl, beq_false_of_ne hl]; rfl
theorem q61 (ha : a.forbid.length ≤ 1000) : F61 a b = some (sameL tForb a.forbid b.forbid) := by
  unfold F61
  rw [ne_len]
  by_cases hl : a.forbid.length = b.forbid.length
  · rw [hl, beq_self_eq_true, ← hl]
    simp only [Bool.not_true, cond_false]
    rw [loop_same0 (f := fun s => L61_0 a b (a.forbid.length : Int) s) (k0 := E_L61_0.k0) (k1 := E_L61_0.k1) tForb hl (fun i x y hi hx hy => by
      simp only [L61_0, getI_nat, hx, hy, dlt hi, cond_true, Option.bind_some, w_S (lt62 hi ha)]
      change (bif !(tForb x y) then _ else _) = _
      cases tForb x y <;> rfl) (by simp only [L61_0, dge, cond_false])]
    cases sameL tForb a.forbid b.forbid <;> rfl
  · rw [sameL_len _ _ hl, beq_false_of_ne hl]; rfl
theorem q62 (ha : a.follow.length ≤ 1000) : F62 a b = some (sameL tFoll a.follow b.follow) := by
  unfold F62
  rw [ne_len]
  by_cases hl : a.follow.length = b.follow.length
  · rw [hl, beq_self_eq_true, ← hl]
    simp only [Bool.not_true, cond_false]
    rw [loop_same0 (f := fun s => L62_0 a b (a.follow.length : Int) s) (k0 := E_L62_0.k0) (k1 := E_L62_0.k1) tFoll hl (fun i x y hi hx hy => by
      simp only [L62_0, getI_nat, hx, hy, dlt hi, cond_true, Option.bind_some, w_S (lt62 hi ha)]
      change (bif !(tFoll x y) then _ else _) = _
      cases tFoll x y <;> rfl) (by simp only [L62_0, dge, cond_false])]
    cases sameL tFoll a.follow b.follow <;> rfl
  · rw [sameL_len _ _ hl, beq_false_of_ne hl]; rfl
theorem q57 {x y : ProdD} (ha : x.right.length ≤ 1000) : F57 x y = some (tProd x y) := by
  unfold F57 tProd
  rw [q58 ha]
  cases x.left == y.left <;> cases x.cons.toList == y.cons.toList <;> cases x.role == y.role <;> cases x.prefer == y.prefer <;> cases x.avoid == y.avoid <;> cases x.frm == y.frm <;> rfl
theorem q60 (ha : a.prods.length ≤ 1000) (hr : ∀ p ∈ a.prods, p.right.length ≤ 1000) : F60 a b = some (sameL tProd a.prods b.prods) := by
  unfold F60
  rw [ne_len]
  by_cases hl : a.prods.length = b.prods.length
  · rw [hl, beq_self_eq_true, ← hl]
    simp only [Bool.not_true, cond_false]
    rw [loop_same0 (f := fun s => L60_0 b a (a.prods.length : Int) s) (k0 := E_L60_0.k0) (k1 := E_L60_0.k1) tProd hl (fun i x y hi hx hy => by
      simp only [L60_0, getI_nat, hx, hy, dlt hi, cond_true, Option.bind_some, w_S (lt62 hi ha), q57 (hr x (List.mem_of_getElem? hx))]
      cases tProd x y <;> rfl) (by simp only [L60_0, dge, cond_false])]
    cases sameL tProd a.prods b.prods <;> rfl
  · rw [sameL_len _ _ hl, beq_false_of_ne hl]; rfl
theorem q29 (ha : Small a) : F29 a b = some (eqG a b) := by
  obtain ⟨h1, h2, h3, h4, h5⟩ := ha
  unfold F29 eqG
  rw [q59 (by omega), q60 (by omega) (fun p hp => by have := h5 p hp; omega), q61 (by omega), q62 (by omega)]
  simp only [Option.bind_some]
  cases a.start == b.start <;> cases sameL tStr a.sorts b.sorts <;> cases sameL tProd a.prods b.prods <;> cases sameL tForb a.forbid b.forbid <;> rfl

theorem q18_4 (hl : a.sorts.length = b.sorts.length) (ha : a.sorts.length ≤ 1000) : runL (fun s => L18_4 a b s) 0 = some (bif sameL tStr a.sorts b.sorts then E_L18_4.k1 else .k0) :=
  loop_same0 (f := fun s => L18_4 a b s) (k0 := E_L18_4.k0) (k1 := E_L18_4.k1) tStr hl (fun i x y hi hx hy => by
    simp only [L18_4, getI_nat, hx, hy, dlt hi, cond_true, Option.bind_some, w_S (lt62 hi ha), tStr]
    cases x.toList == y.toList <;> rfl) (by simp only [L18_4, dge, cond_false])
theorem q18_2 {x y : ProdD} (hl : x.right.length = y.right.length) (ha : x.right.length ≤ 1000) : runL (fun s => L18_2_2 x y s) 0 = some (bif sameL tSym x.right y.right then E_L18_2_2.k1 else .k0) :=
  loop_same0 (f := fun s => L18_2_2 x y s) (k0 := E_L18_2_2.k0) (k1 := E_L18_2_2.k1) tSym hl (fun i x y hi hx hy => by
    simp only [L18_2_2, getI_nat, hx, hy, dlt hi, cond_true, Option.bind_some, w_S (lt62 hi ha)]
    change (bif !(tSym x y) then _ else _) = _
    cases tSym x y <;> rfl) (by simp only [L18_2_2, dge, cond_false])
theorem q18_1 (hl : a.forbid.length = b.forbid.length) (ha : a.forbid.length ≤ 1000) : runL (fun s => L18_1 a b s) 0 = some (bif sameL tForb a.forbid b.forbid then E_L18_1.k1 else .k0) :=
  loop_same0 (f := fun s => L18_1 a b s) (k0 := E_L18_1.k0) (k1 := E_L18_1.k1) tForb hl (fun i x y hi hx hy => by
    simp only [L18_1, getI_nat, hx, hy, dlt hi, cond_true, Option.bind_some, w_S (lt62 hi ha)]
    change (bif !(tForb x y) then _ else _) = _
    cases tForb x y <;> rfl) (by simp only [L18_1, dge, cond_false])
theorem q18_0 (hl : a.follow.length = b.follow.length) (ha : a.follow.length ≤ 1000) : runL (fun s => L18_0 a b s) 0 = some (bif sameL tFoll a.follow b.follow then E_L18_0.k1 else .k0) :=
  loop_same0 (f := fun s => L18_0 a b s) (k0 := E_L18_0.k0) (k1 := E_L18_0.k1) tFoll hl (fun i x y hi hx hy => by
    simp only [L18_0, getI_nat, hx, hy, dlt hi, cond_true, Option.bind_some, w_S (lt62 hi ha)]
    change (bif !(tFoll x y) then _ else _) = _
    cases tFoll x y <;> rfl) (by simp only [L18_0, dge, cond_false])
theorem q18_3 (hl : a.prods.length = b.prods.length) (ha : a.prods.length ≤ 1000) (hr : ∀ p ∈ a.prods, p.right.length ≤ 1000) : runL (fun s => L18_3 a b s) 0 = some (bif sameL tProd a.prods b.prods then E_L18_3.k1 else .k0) :=
  loop_same0 (f := fun s => L18_3 a b s) (k0 := E_L18_3.k0) (k1 := E_L18_3.k1) tProd hl (fun i x y hi hx hy => by
    have hxr := hr x (List.mem_of_getElem? hx)
    simp only [L18_3, getI_nat, hx, hy, dlt hi, cond_true, Option.bind_some, w_S (lt62 hi ha), bne, tProd, Bool.and_true]
    by_cases hl2 : x.right.length = y.right.length
    · have e : ((x.right.length : Int) == (y.right.length : Int)) = true := by rw [hl2]; exact beq_self_eq_true _
      rw [q18_2 hl2 hxr, e]
      cases x.left == y.left <;> cases x.cons.toList == y.cons.toList <;> cases x.role == y.role <;> cases x.prefer == y.prefer <;> cases x.avoid == y.avoid <;> cases x.frm == y.frm <;> first | rfl | (cases sameL tSym x.right y.right <;> rfl)
    · have e : ((x.right.length : Int) == (y.right.length : Int)) = false := beq_false_of_ne (by omega)
      rw [sameL_len _ _ hl2, e]
      cases x.left == y.left <;> cases x.cons.toList == y.cons.toList <;> cases x.role == y.role <;> cases x.prefer == y.prefer <;> cases x.avoid == y.avoid <;> cases x.frm == y.frm <;> rfl) (by simp only [L18_3, dge, cond_false])

theorem q18 (ha : Small a) : F18 a b = some (eqG a b) := by
  obtain ⟨h1, h2, h3, h4, h5⟩ := ha
  unfold F18 eqG
  rw [ne_len, ne_len, ne_len, ne_len]
  simp only [bne]
  by_cases l1 : a.sorts.length = b.sorts.length
  case neg => rw [sameL_len a.sorts b.sorts l1, beq_false_of_ne l1]; cases a.start == b.start <;> rfl
  by_cases l2 : a.prods.length = b.prods.length
  case neg => rw [sameL_len a.prods b.prods l2, beq_false_of_ne l2]; cases a.start == b.start <;> cases a.sorts.length == b.sorts.length <;> cases sameL tStr a.sorts b.sorts <;> rfl
  by_cases l3 : a.forbid.length = b.forbid.length
  case neg => rw [sameL_len a.forbid b.forbid l3, beq_false_of_ne l3]; cases a.start == b.start <;> cases a.sorts.length == b.sorts.length <;> cases sameL tStr a.sorts b.sorts <;> cases a.prods.length == b.prods.length <;> cases sameL tProd a.prods b.prods <;> rfl
  by_cases l4 : a.follow.length = b.follow.length
  case neg => rw [sameL_len a.follow b.follow l4, beq_false_of_ne l4]; cases a.start == b.start <;> cases a.sorts.length == b.sorts.length <;> cases sameL tStr a.sorts b.sorts <;> cases a.prods.length == b.prods.length <;> cases sameL tProd a.prods b.prods <;> cases a.forbid.length == b.forbid.length <;> cases sameL tForb a.forbid b.forbid <;> rfl
  rw [q18_4 l1 (by omega), q18_3 l2 (by omega) (fun p hp => by have := h5 p hp; omega), q18_1 l3 (by omega), q18_0 l4 (by omega), l1, l2, l3, l4]
  simp only [beq_self_eq_true]
  cases a.start == b.start <;> cases sameL tStr a.sorts b.sorts <;> cases sameL tProd a.prods b.prods <;> cases sameL tForb a.forbid b.forbid <;> cases sameL tFoll a.follow b.follow <;> rfl

theorem nil_ok {k b : Nat} (hk : k ≤ 1000) (hb : b ≤ 1000) : nilOk k b = true := by
  refine decide_eq_true ?_
  have : k * b ≤ 1000 * 1000 := Nat.mul_le_mul hk hb
  unfold limit47
  omega
theorem q11_0 (ha : a.prods.length ≤ 1000) (hr : ∀ p ∈ a.prods, p.right.length ≤ 1000) : ∀ (m i : Nat), i + m = a.prods.length → runL (fun s => L11_0 a a.prods.length s.1 s.2) ((i : Int), a.prods) = some (.k0 a.prods)
  | 0, i, hi => by
    have : i = a.prods.length := by omega
    subst this
    exact runL_done (by simp only [L11_0, dge, cond_false])
  | m + 1, i, hi => by
    have h1 : i < a.prods.length := by omega
    have g1 : a.prods[i]? = some a.prods[i] := List.getElem?_eq_getElem h1
    have hn := nil_ok (b := 48) (hr _ (List.mem_of_getElem? g1)) (by omega)
    have e : a.prods.set i ⟨a.prods[i].left, a.prods[i].right, a.prods[i].cons, a.prods[i].role, a.prods[i].prefer, a.prods[i].avoid, a.prods[i].frm⟩ = a.prods := List.set_getElem_self h1
    have : (fun s : Int × List ProdD => L11_0 a a.prods.length s.1 s.2) ((i : Int), a.prods) = some (.inr (((i + 1 : Nat) : Int), a.prods)) := by
      simp only [L11_0, getI_nat, g1, dlt h1, cond_true, Option.bind_some, w_S (lt62 h1 ha), hn, ixN_nat, if_pos h1, e]
    rw [runL_next this]
    exact q11_0 ha hr m (i + 1) (by omega)
theorem q11 (ha : Small a) : F11 a = some (.k0 a.sorts a.prods a.start a.forbid a.follow) := by
  obtain ⟨h1, h2, h3, h4, h5⟩ := ha
  have := q11_0 (a := a) (by omega) (fun p hp => by have := h5 p hp; omega) a.prods.length 0 (by omega)
  unfold F11
  rw [nil_ok (by omega) (by omega), nil_ok (by omega) (by omega), nil_ok (by omega) (by omega), nil_ok (by omega) (by omega)]
  simp only [cond_true]
  rw [show ((0 : Int), a.prods) = (((0 : Nat) : Int), a.prods) from rfl, this]
  simp only [Option.bind_some, Nat.le_refl, decide_true, cond_true, List.take_length]

theorem law8 (a b : GramD) : F8 a b = some true := by
  unfold F8
  rcases q9 a with e | ⟨e, ha⟩
  · rw [e]; rfl
  rcases q9 b with e2 | ⟨e2, hb⟩
  · rw [e, e2]; rfl
  rw [e, e2, q29 ha, q18 ha, q29 hb, eqG_comm b a, q11 ha]
  simp only [Option.bind_some, beq_self_eq_true, Bool.and_self, cond_true, cond_false]
  rw [q29 ha, show (⟨a.sorts, a.prods, a.start, a.forbid, a.follow⟩ : GramD) = a from rfl, eqG_refl]
  rfl
end
end Go.Proofs.Try
namespace Go.Proofs.Try
set_option linter.unusedSimpArgs false
set_option linter.unusedVariables false
open Go Go.Vs Go.RowKit Go.ChangeShapes Go.ChangeAt

theorem table {W : World} (h : laidMetH prog [] W) : ∀ n xs, prg.gl n = some xs → n < W.heap.size ∧ PRs (fun c => c < W.heap.size) W n 0 xs := by
  intro n xs hx
  cases hx
theorem kids : Kids prog (· < prog.types.size) := kids_rows (by kernel_rfl) (by kernel_rfl)
theorem full : ∀ t e, t < prog.types.size → prog.underlying t = some (.slice e) → 0 < prog.cellsOf e := slices_full_of prog (by kernel_rfl)
theorem own : ownKnob prog.godebug = none := by kernel_rfl
/-- A world for the witnesses. -/
noncomputable def laidWorld (os : Os) : World := World.holding prog os ⟨#[], #[], []⟩
end Go.Proofs.Try
namespace Go.Proofs.Try
set_option linter.unusedSimpArgs false
set_option linter.unusedVariables false
open Go Go.Vs
theorem rows_of {α : Type} (e : α → List PV) (Q : α → Prop) : ∀ {rows : List (List PV)}, (∀ r ∈ rows, ∃ v, r = e v ∧ Q v) → ∃ l : List α, rows = l.map e ∧ ∀ v ∈ l, Q v
  | [], _ => ⟨[], rfl, by simp⟩
  | r :: rows, h => by
    obtain ⟨l, hl, hq⟩ := rows_of e Q (rows := rows) (fun q hq => h q (List.mem_cons_of_mem _ hq))
    obtain ⟨v, hv, hqv⟩ := h r (List.mem_cons_self ..)
    refine ⟨v :: l, by rw [hv, hl]; rfl, ?_⟩
    intro z hz
    rcases List.mem_cons.1 hz with rfl | hz
    · exact hqv
    · exact hq z hz
theorem str_row {r : List PV} (h : FitL [.str] r) : ∃ s, r = eStr s ∧ True := by
  match r, h with
  | [x], h =>
    simp only [FitL, Fit] at h
    obtain ⟨⟨s, rfl, _⟩, _⟩ := h
    exact ⟨s, rfl, trivial⟩
  | [], h => simp [FitL] at h
  | _ :: _ :: _, h => simp [FitL] at h
theorem sym_row {r : List PV} (h : FitL [.int .i64, .int .u64, .int .u64, .int .u64, .int .u64, .int .i64] r) : ∃ s, r = eSym s ∧ True := by
  match r, h with
  | [x0, x1, x2, x3, x4, x5], h =>
    simp only [FitL, Fit] at h
    obtain ⟨⟨n0, rfl, b0⟩, ⟨n1, rfl, b1⟩, ⟨n2, rfl, b2⟩, ⟨n3, rfl, b3⟩, ⟨n4, rfl, b4⟩, ⟨n5, rfl, b5⟩, _⟩ := h
    exact ⟨⟨n0, n1, n2, n3, n4, n5⟩, rfl, trivial⟩
  | [], h => simp [FitL] at h
  | [_], h => simp [FitL] at h
  | [_, _], h => simp [FitL] at h
  | [_, _, _], h => simp [FitL] at h
  | [_, _, _, _], h => simp [FitL] at h
  | [_, _, _, _, _], h => simp [FitL] at h
  | _ :: _ :: _ :: _ :: _ :: _ :: _ :: _, h => simp [FitL] at h
theorem prod_row {r : List PV} (h : FitL [.int .i64, .sl 6 [.int .i64, .int .u64, .int .u64, .int .u64, .int .u64, .int .i64], .str, .int .i64, .bool, .bool, .int .i64] r) :
    ∃ p, r = eProd p ∧ True := by
  match r, h with
  | [x0, x1, x2, x3, x4, x5, x6], h =>
    simp only [FitL, Fit] at h
    obtain ⟨⟨n0, rfl, b0⟩, ⟨rows, rfl, _, hrows⟩, ⟨c, rfl, _⟩, ⟨n3, rfl, b3⟩, ⟨p4, rfl⟩, ⟨p5, rfl⟩, ⟨n6, rfl, b6⟩, _⟩ := h
    obtain ⟨l, rfl, hl⟩ := rows_of eSym (fun _ => True) (fun r hr => sym_row (hrows r hr))
    exact ⟨⟨n0, l, c, n3, p4, p5, n6⟩, rfl, trivial⟩
  | [], h => simp [FitL] at h
  | [_], h => simp [FitL] at h
  | [_, _], h => simp [FitL] at h
  | [_, _, _], h => simp [FitL] at h
  | [_, _, _, _], h => simp [FitL] at h
  | [_, _, _, _, _], h => simp [FitL] at h
  | [_, _, _, _, _, _], h => simp [FitL] at h
  | _ :: _ :: _ :: _ :: _ :: _ :: _ :: _ :: _, h => simp [FitL] at h
theorem forb_row {r : List PV} (h : FitL [.int .i64, .int .i64, .int .i64] r) : ∃ f, r = eForb f ∧ True := by
  match r, h with
  | [x0, x1, x2], h =>
    simp only [FitL, Fit] at h
    obtain ⟨⟨n0, rfl, b0⟩, ⟨n1, rfl, b1⟩, ⟨n2, rfl, b2⟩, _⟩ := h
    exact ⟨⟨n0, n1, n2⟩, rfl, trivial⟩
  | [], h => simp [FitL] at h
  | [_], h => simp [FitL] at h
  | [_, _], h => simp [FitL] at h
  | _ :: _ :: _ :: _ :: _, h => simp [FitL] at h
theorem foll_row {r : List PV} (h : FitL [.int .i64, .int .u64, .int .u64, .int .u64, .int .u64] r) : ∃ f, r = eFoll f ∧ True := by
  match r, h with
  | [x0, x1, x2, x3, x4], h =>
    simp only [FitL, Fit] at h
    obtain ⟨⟨n0, rfl, b0⟩, ⟨n1, rfl, b1⟩, ⟨n2, rfl, b2⟩, ⟨n3, rfl, b3⟩, ⟨n4, rfl, b4⟩, _⟩ := h
    exact ⟨⟨n0, n1, n2, n3, n4⟩, rfl, trivial⟩
  | [], h => simp [FitL] at h
  | [_], h => simp [FitL] at h
  | [_, _], h => simp [FitL] at h
  | [_, _, _], h => simp [FitL] at h
  | [_, _, _, _], h => simp [FitL] at h
  | _ :: _ :: _ :: _ :: _ :: _ :: _, h => simp [FitL] at h
def shG : List Sh := [.sl 1 [.str], .sl 7 [.int .i64, .sl 6 [.int .i64, .int .u64, .int .u64, .int .u64, .int .u64, .int .i64], .str, .int .i64, .bool, .bool, .int .i64], .int .i64, .sl 3 [.int .i64, .int .i64, .int .i64], .sl 5 [.int .i64, .int .u64, .int .u64, .int .u64, .int .u64]]
theorem gram_of {xs : List PV} (h : FitL shG xs) : ∃ g : GramD, xs = eGram g := by
  unfold shG at h
  match xs, h with
  | [x0, x1, x2, x3, x4], h =>
    simp only [FitL] at h
    obtain ⟨h0, h1, h2, h3, h4, _⟩ := h
    simp only [Fit] at h0 h1 h2 h3 h4
    obtain ⟨r0, rfl, _, q0⟩ := h0
    obtain ⟨r1, rfl, _, q1⟩ := h1
    obtain ⟨n2, rfl, b2⟩ := h2
    obtain ⟨r3, rfl, _, q3⟩ := h3
    obtain ⟨r4, rfl, _, q4⟩ := h4
    obtain ⟨l0, rfl, _⟩ := rows_of eStr (fun _ => True) (fun r hr => str_row (q0 r hr))
    obtain ⟨l1, rfl, a1⟩ := rows_of eProd (fun _ => True) (fun r hr => prod_row (q1 r hr))
    obtain ⟨l3, rfl, a3⟩ := rows_of eForb (fun _ => True) (fun r hr => forb_row (q3 r hr))
    obtain ⟨l4, rfl, a4⟩ := rows_of eFoll (fun _ => True) (fun r hr => foll_row (q4 r hr))
    exact ⟨⟨l0, l1, n2, l3, l4⟩, rfl⟩
  | [], h => simp [FitL] at h
  | [_], h => simp [FitL] at h
  | [_, _], h => simp [FitL] at h
  | [_, _, _], h => simp [FitL] at h
  | [_, _, _, _], h => simp [FitL] at h
  | _ :: _ :: _ :: _ :: _ :: _ :: _, h => simp [FitL] at h
theorem sh27 : shOfT prog 40 27 = some shG := by kernel_rfl
theorem ag27 : aggT prog 27 = some true := by kernel_rfl
set_option maxRecDepth 100000 in
theorem arg27 {a : AV} (h : ∃ ks xs, shOfT prog 40 27 = some ks ∧ FitL ks xs ∧ a = argA prog 27 xs) : ∃ g : GramD, a = .agg ((eGram g).map .p) := by
  obtain ⟨ks, xs, hk, hf, e⟩ := h
  have h2 := Option.some.inj (sh27.symm.trans hk)
  rw [← h2] at hf
  obtain ⟨g, e2⟩ := gram_of hf
  refine ⟨g, ?_⟩
  rw [e, e2]
  simp only [argA, ag27]
theorem same (a b : GramD) : CP prg 8 [.agg ((eGram a).map .p), .agg ((eGram b).map .p)] [] = some (vb true) :=
  (F8_ok a b (law8 a b)).cp rfl []
end Go.Proofs.Try
