/- Resolve: which scope graphs may be. Plain data alone. -/
import Derived.Test.YthlndaofdgpjfaaH3
import Derived.Test.YthlndaofdgpjfaaVE
open Option renaming bind_some → bsm
open List renaming getElem?_eq_some_iff → gei
namespace Go.Proofs.Try
set_option linter.unusedSimpArgs false
set_option linter.unusedVariables false
open Go Go.Vs
def scOk (i : Nat) (x : ScopeD) : Bool := (bif i == 0 then x.par == -1 else (decide (0 ≤ x.par) && decide (x.par < (i : Int)))) && (decide (0 ≤ x.frm) && decide (x.frm ≤ x.til))
def nmOk (n : Nat) (l : List NameD) (i : Nat) (x : NameD) : Bool :=
 decide (0 ≤ x.scp) && (decide (x.scp < (n : Int)) && (decide (0 ≤ x.frm) && (decide (x.frm ≤ x.til) && (match i with | 0 => true | j + 1 => match l[j]? with | some y => decide (y.frm ≤ x.frm) | none => true))))
def okG (a : ScopesD) : Bool := !(a.all.isEmpty) && (allF scOk 0 a.all && (allF (nmOk a.all.length a.decl) 0 a.decl && allF (nmOk a.all.length a.uses) 0 a.uses))
structure Few (a : ScopesD) : Prop where
 all : a.all.length ≤ 1000
 decl : a.decl.length ≤ 1000
 uses : a.uses.length ≤ 1000
theorem dlt (a b : Int) : decide (a < b) = !decide (b ≤ a) := by rw [← decide_not]; exact decide_eq_decide.2 (by omega)
theorem dgt (a b : Int) : decide (a > b) = !decide (a ≤ b) := by rw [← decide_not]; exact decide_eq_decide.2 (by omega)
theorem dge (a b : Int) : decide (a ≥ b) = !decide (a < b) := by rw [← decide_not]; exact decide_eq_decide.2 (by omega)
theorem wS1 {i : Nat} (h : i < 4611686018427387904) : IntKind.wrap .i64 (((i + 1 : Nat) : Int) - 1) = (i : Int) := by rw [w_id (by omega)]; omega
theorem nb (x : Int) : (x != -1) = !(x == -1) := rfl
theorem l19 (a : ScopesD) (h : Few a) : runL (fun s => L19_0 a (a.all.length : Int) s) 0 = some (bif allF scOk 0 a.all then .k1 else .k0) := by
 have hl := h.all
 refine loop_list (step := fun s => L19_0 a (a.all.length : Int) s) (l := a.all) scOk (bad := E_L19_0.k0) (fin := .k1) (fun i x hx => ?_) (by simp only [L19_0, decide_eq_false (show ¬ (a.all.length : Int) < (a.all.length : Int) by omega), cond_false])
 have hi : i < a.all.length := (gei.1 hx).1
 simp only [L19_0, getI_nat, hx, bsm, decide_eq_true (show (i : Int) < (a.all.length : Int) by omega), cond_true, w_S (show i < 4611686018427387904 by omega)]
 match i with
 | 0 =>
  simp only [show (((0 : Nat) : Int) == 0) = true from rfl, show decide (((0 : Nat) : Int) > 0) = false from rfl, cond_true, cond_false, scOk, show ((0 : Nat) == 0) = true from rfl, dgt x.frm x.til, nb, dlt x.frm 0]
  cases x.par == -1 <;> cases decide (0 ≤ x.frm) <;> cases decide (x.frm ≤ x.til) <;> rfl
 | j + 1 =>
  have e1 : (((j + 1 : Nat) : Int) == 0) = false := by simpa using (by omega : ¬ ((j + 1 : Nat) : Int) = 0)
  have e2 : decide (((j + 1 : Nat) : Int) > 0) = true := decide_eq_true (by omega)
  simp only [e1, e2, cond_true, cond_false, scOk, show ((j + 1 : Nat) == 0) = false from rfl, dgt x.frm x.til, dge x.par ((j + 1 : Nat) : Int), dlt x.frm 0, dlt x.par 0]
  cases decide (0 ≤ x.par) <;> cases decide (x.par < ((j + 1 : Nat) : Int)) <;> cases decide (0 ≤ x.frm) <;> cases decide (x.frm ≤ x.til) <;> rfl
theorem prev {l : List NameD} {j : Nat} {x : NameD} (h : l[j + 1]? = some x) : ∃ y, l[j]? = some y := by
 have := (gei.1 h).1
 exact ⟨_, List.getElem?_eq_getElem (by omega)⟩
theorem l31 (a : ScopesD) (h : Few a) : runL (fun s => L31_0 a (a.all.length : Int) (a.decl.length : Int) s) 0 = some (bif allF (nmOk a.all.length a.decl) 0 a.decl then .k1 else .k0) := by
 have hl := h.decl
 refine loop_list (step := fun s => L31_0 a (a.all.length : Int) (a.decl.length : Int) s) (l := a.decl) (nmOk a.all.length a.decl) (bad := E_L31_0.k0) (fin := .k1) (fun i x hx => ?_) (by simp only [L31_0, decide_eq_false (show ¬ (a.decl.length : Int) < (a.decl.length : Int) by omega), cond_false])
 have hi : i < a.decl.length := (gei.1 hx).1
 simp only [L31_0, getI_nat, hx, bsm, decide_eq_true (show (i : Int) < (a.decl.length : Int) by omega), cond_true, w_S (show i < 4611686018427387904 by omega), dlt x.scp 0, dge x.scp (a.all.length : Int), dlt x.frm 0, dgt x.frm x.til]
 match i, hx, hi with
 | 0, hx, _ =>
  simp only [show decide (((0 : Nat) : Int) > 0) = false from rfl, nmOk]
  cases decide (0 ≤ x.scp) <;> cases decide (x.scp < (a.all.length : Int)) <;> cases decide (0 ≤ x.frm) <;> cases decide (x.frm ≤ x.til) <;> rfl
 | j + 1, hx, hi =>
  obtain ⟨y, hy⟩ := prev hx
  simp only [decide_eq_true (show ((j + 1 : Nat) : Int) > 0 by omega), wS1 (show j < 4611686018427387904 by omega), getI_nat, hy, bsm, nmOk, dgt y.frm x.frm]
  cases decide (0 ≤ x.scp) <;> cases decide (x.scp < (a.all.length : Int)) <;> cases decide (0 ≤ x.frm) <;> cases decide (x.frm ≤ x.til) <;> cases decide (y.frm ≤ x.frm) <;> rfl
theorem l31_2 (a : ScopesD) (h : Few a) : runL (fun s => L31_0_2 a (a.all.length : Int) (a.uses.length : Int) s) 0 = some (bif allF (nmOk a.all.length a.uses) 0 a.uses then .k1 else .k0) := by
 have hl := h.uses
 refine loop_list (step := fun s => L31_0_2 a (a.all.length : Int) (a.uses.length : Int) s) (l := a.uses) (nmOk a.all.length a.uses) (bad := E_L31_0_2.k0) (fin := .k1) (fun i x hx => ?_) (by simp only [L31_0_2, decide_eq_false (show ¬ (a.uses.length : Int) < (a.uses.length : Int) by omega), cond_false])
 have hi : i < a.uses.length := (gei.1 hx).1
 simp only [L31_0_2, getI_nat, hx, bsm, decide_eq_true (show (i : Int) < (a.uses.length : Int) by omega), cond_true, w_S (show i < 4611686018427387904 by omega), dlt x.scp 0, dge x.scp (a.all.length : Int), dlt x.frm 0, dgt x.frm x.til]
 match i, hx, hi with
 | 0, hx, _ =>
  simp only [show decide (((0 : Nat) : Int) > 0) = false from rfl, nmOk]
  cases decide (0 ≤ x.scp) <;> cases decide (x.scp < (a.all.length : Int)) <;> cases decide (0 ≤ x.frm) <;> cases decide (x.frm ≤ x.til) <;> rfl
 | j + 1, hx, hi =>
  obtain ⟨y, hy⟩ := prev hx
  simp only [decide_eq_true (show ((j + 1 : Nat) : Int) > 0 by omega), wS1 (show j < 4611686018427387904 by omega), getI_nat, hy, bsm, nmOk, dgt y.frm x.frm]
  cases decide (0 ≤ x.scp) <;> cases decide (x.scp < (a.all.length : Int)) <;> cases decide (0 ≤ x.frm) <;> cases decide (x.frm ≤ x.til) <;> cases decide (y.frm ≤ x.frm) <;> rfl
theorem len0 (a : ScopesD) : ((a.all.length : Int) == 0) = a.all.isEmpty := by
 cases a.all with
 | nil => rfl
 | cons x l => simp; omega
theorem q19 (a : ScopesD) (h : Few a) : F19 a = some (bif okG a then 0 else 2) := by
 unfold F19 F31 F31_2 okG
 rw [l19 a h, l31 a h, l31_2 a h, len0]
 cases a.all.isEmpty <;> cases allF scOk 0 a.all <;> cases allF (nmOk a.all.length a.decl) 0 a.decl <;> cases allF (nmOk a.all.length a.uses) 0 a.uses <;> rfl
theorem l22 (a : ScopesD) (h : Few a) : runL (fun s => L22_0 a (a.all.length : Int) s) 0 = some (bif allF (nmOk a.all.length a.decl) 0 a.decl then .k1 else .k0) := by
 have hl := h.decl
 refine loop_list (step := fun s => L22_0 a (a.all.length : Int) s) (l := a.decl) (nmOk a.all.length a.decl) (bad := E_L22_0.k0) (fin := .k1) (fun i x hx => ?_) (by simp only [L22_0, decide_eq_false (show ¬ (a.decl.length : Int) < (a.decl.length : Int) by omega), cond_false])
 have hi : i < a.decl.length := (gei.1 hx).1
 simp only [L22_0, getI_nat, hx, bsm, decide_eq_true (show (i : Int) < (a.decl.length : Int) by omega), cond_true, w_S (show i < 4611686018427387904 by omega), dlt x.scp 0, dge x.scp (a.all.length : Int), dlt x.frm 0, dlt x.til x.frm]
 match i, hx, hi with
 | 0, hx, _ =>
  simp only [show decide (((0 : Nat) : Int) > 0) = false from rfl, nmOk]
  cases decide (0 ≤ x.scp) <;> cases decide (x.scp < (a.all.length : Int)) <;> cases decide (0 ≤ x.frm) <;> cases decide (x.frm ≤ x.til) <;> rfl
 | j + 1, hx, hi =>
  obtain ⟨y, hy⟩ := prev hx
  simp only [decide_eq_true (show ((j + 1 : Nat) : Int) > 0 by omega), wS1 (show j < 4611686018427387904 by omega), getI_nat, hy, bsm, nmOk, dlt x.frm y.frm]
  cases decide (0 ≤ x.scp) <;> cases decide (x.scp < (a.all.length : Int)) <;> cases decide (0 ≤ x.frm) <;> cases decide (x.frm ≤ x.til) <;> cases decide (y.frm ≤ x.frm) <;> rfl
theorem l22_2 (a : ScopesD) (h : Few a) : runL (fun s => L22_0_2 a (a.all.length : Int) s) 0 = some (bif allF (nmOk a.all.length a.uses) 0 a.uses then .k1 else .k0) := by
 have hl := h.uses
 refine loop_list (step := fun s => L22_0_2 a (a.all.length : Int) s) (l := a.uses) (nmOk a.all.length a.uses) (bad := E_L22_0_2.k0) (fin := .k1) (fun i x hx => ?_) (by simp only [L22_0_2, decide_eq_false (show ¬ (a.uses.length : Int) < (a.uses.length : Int) by omega), cond_false])
 have hi : i < a.uses.length := (gei.1 hx).1
 simp only [L22_0_2, getI_nat, hx, bsm, decide_eq_true (show (i : Int) < (a.uses.length : Int) by omega), cond_true, w_S (show i < 4611686018427387904 by omega), dlt x.scp 0, dge x.scp (a.all.length : Int), dlt x.frm 0, dlt x.til x.frm]
 match i, hx, hi with
 | 0, hx, _ =>
  simp only [show decide (((0 : Nat) : Int) > 0) = false from rfl, nmOk]
  cases decide (0 ≤ x.scp) <;> cases decide (x.scp < (a.all.length : Int)) <;> cases decide (0 ≤ x.frm) <;> cases decide (x.frm ≤ x.til) <;> rfl
 | j + 1, hx, hi =>
  obtain ⟨y, hy⟩ := prev hx
  simp only [decide_eq_true (show ((j + 1 : Nat) : Int) > 0 by omega), wS1 (show j < 4611686018427387904 by omega), getI_nat, hy, bsm, nmOk, dlt x.frm y.frm]
  cases decide (0 ≤ x.scp) <;> cases decide (x.scp < (a.all.length : Int)) <;> cases decide (0 ≤ x.frm) <;> cases decide (x.frm ≤ x.til) <;> cases decide (y.frm ≤ x.frm) <;> rfl
def scOk2 (i : Nat) (x : ScopeD) : Bool := (bif i == 0 then true else (decide (0 ≤ x.par) && decide (x.par < (i : Int)))) && (decide (0 ≤ x.frm) && decide (x.frm ≤ x.til))
theorem l10 (a : ScopesD) (h : Few a) : runL (fun s => L10_0 a s) 0 = some (bif allF scOk2 0 a.all then .k1 else .k0) := by
 have hl := h.all
 refine loop_list (step := fun s => L10_0 a s) (l := a.all) scOk2 (bad := E_L10_0.k0) (fin := .k1) (fun i x hx => ?_) (by simp only [L10_0, decide_eq_false (show ¬ (a.all.length : Int) < (a.all.length : Int) by omega), cond_false])
 have hi : i < a.all.length := (gei.1 hx).1
 simp only [L10_0, getI_nat, hx, bsm, decide_eq_true (show (i : Int) < (a.all.length : Int) by omega), cond_true, w_S (show i < 4611686018427387904 by omega)]
 match i with
 | 0 =>
  simp only [show decide (((0 : Nat) : Int) > 0) = false from rfl, cond_true, cond_false, scOk2, show ((0 : Nat) == 0) = true from rfl, dlt x.til x.frm, dlt x.frm 0]
  cases decide (0 ≤ x.frm) <;> cases decide (x.frm ≤ x.til) <;> rfl
 | j + 1 =>
  have e2 : decide (((j + 1 : Nat) : Int) > 0) = true := decide_eq_true (by omega)
  simp only [e2, cond_true, cond_false, scOk2, show ((j + 1 : Nat) == 0) = false from rfl, dlt x.til x.frm, dge x.par ((j + 1 : Nat) : Int), dlt x.frm 0, dlt x.par 0]
  cases decide (0 ≤ x.par) <;> cases decide (x.par < ((j + 1 : Nat) : Int)) <;> cases decide (0 ≤ x.frm) <;> cases decide (x.frm ≤ x.til) <;> rfl
theorem allF_congr {α : Type} {p q : Nat → α → Bool} : ∀ (l : List α) (i : Nat), (∀ k x, l[k]? = some x → p (i + k) x = q (i + k) x) → allF p i l = allF q i l
 | [], _, _ => rfl
 | x :: l, i, h => by
  simp only [allF]
  have e1 : p i x = q i x := h 0 x rfl
  have e2 : allF p (i + 1) l = allF q (i + 1) l := allF_congr l (i + 1) (fun k y hy => by
   have := h (k + 1) y (by simpa using hy)
   rwa [show i + (k + 1) = i + 1 + k by omega] at this)
  rw [e1, e2]
theorem q10 (a : ScopesD) (h : Few a) : F10 a = some (okG a) := by
 unfold F10 F22 F22_2 okG
 rw [l10 a h, l22 a h, l22_2 a h, len0]
 cases hl : a.all with
 | nil => rfl
 | cons x l =>
  have e : allF scOk 0 (x :: l) = ((x.par == -1) && allF scOk2 0 (x :: l)) := by
   simp only [allF]
   have e2 : allF scOk 1 l = allF scOk2 1 l := allF_congr l 1 (fun k y _ => by
    unfold scOk scOk2
    rw [show (1 + k == 0) = false from beq_false_of_ne (by omega)]
    rfl)
   rw [Nat.zero_add, e2]
   unfold scOk scOk2
   cases x.par == -1 <;> rfl
  have e0 : getI (x :: l) 0 = some x := rfl
  rw [e, e0]
  simp only [List.isEmpty_cons, cond_false, bsm, nb]
  cases x.par == -1 <;> cases allF scOk2 0 (x :: l) <;> cases allF (nmOk (x :: l).length a.decl) 0 a.decl <;> cases allF (nmOk (x :: l).length a.uses) 0 a.uses <;> rfl
def hit (n : Int) (x : NameD) : Bool := decide (x.frm ≤ n) && decide (n < x.til)
def First (n : Int) (l : List NameD) (j : Nat) : Prop := (∃ x, l[j]? = some x ∧ hit n x = true) ∧ ∀ m y, m < j → l[m]? = some y → hit n y = false
theorem First.eq {n : Int} {l : List NameD} {i j : Nat} (h : First n l i) (k : First n l j) : i = j := by
 obtain ⟨⟨x, h1, h2⟩, h3⟩ := h
 obtain ⟨⟨y, k1, k2⟩, k3⟩ := k
 rcases Nat.lt_trichotomy i j with c | c | c
 ·rw [k3 i x c h1] at h2; cases h2
 ·exact c
 ·rw [h3 j y c k1] at k2; cases k2
theorem First.no {n : Int} {l : List NameD} {i : Nat} (h : First n l i) (k : ∀ x ∈ l, hit n x = false) : False := by
 obtain ⟨⟨x, h1, h2⟩, _⟩ := h
 rw [k x (List.mem_of_getElem? h1)] at h2
 cases h2
theorem first_loop {E : Type} {step : Int → Option (E ⊕ Int)} {l : List NameD} {n : Int} (bad : Nat → E) {fin : E}
  (h : ∀ (i : Nat) (x : NameD), l[i]? = some x → step (i : Int) = some (bif hit n x then .inl (bad i) else .inr ((i + 1 : Nat) : Int))) (hend : step (l.length : Int) = some (.inl fin)) :
  ((∀ x ∈ l, hit n x = false) ∧ runL step 0 = some fin) ∨ ∃ j, First n l j ∧ runL step 0 = some (bad j) := by
 rcases loop_find0 (step := step) (l := l) (fun x => !hit n x) (fun j _ => bad j) (fin := fin) (fun i x hx => by rw [h i x hx]; cases hit n x <;> rfl) hend with ⟨h1, h2⟩ | ⟨j, x, h1, h2, h3, h4⟩
 ·exact .inl ⟨fun x hx => by simpa using h1 x hx, h2⟩
 ·exact .inr ⟨j, ⟨⟨x, h1, by simpa using h2⟩, fun m y hm hy => by simpa using h3 m y hm hy⟩, h4⟩
theorem q20 (x : NameD) (n : Int) : F20 x n = some (hit n x) := by
 unfold F20 hit
 cases decide (x.frm ≤ n) <;> rfl
theorem q21 (a : ScopesD) (n : Int) (h : Few a) : ((∀ x ∈ a.decl, hit n x = false) ∧ F21 a n = some (-1)) ∨ ∃ j : Nat, First n a.decl j ∧ F21 a n = some (j : Int) := by
 have hl := h.decl
 unfold F21
 rcases first_loop (step := fun s => L21_0 a n (a.decl.length : Int) s) (l := a.decl) (n := n) (fun j => E_L21_0.k0 (j : Int)) (fin := .k1) (fun i x hx => by
  have hi := (gei.1 hx).1
  simp only [L21_0, getI_nat, hx, bsm, decide_eq_true (show (i : Int) < (a.decl.length : Int) by omega), cond_true, w_S (show i < 4611686018427387904 by omega), q20]
  cases hit n x <;> rfl) (by simp only [L21_0, decide_eq_false (show ¬ (a.decl.length : Int) < (a.decl.length : Int) by omega), cond_false]) with ⟨h1, h2⟩ | ⟨j, h1, h2⟩
 ·rw [h2]; exact .inl ⟨h1, rfl⟩
 ·rw [h2]; exact .inr ⟨j, h1, rfl⟩
theorem q21_2 (a : ScopesD) (n : Int) (h : Few a) : ((∀ x ∈ a.uses, hit n x = false) ∧ F21_2 a n = some (-1)) ∨ ∃ j : Nat, First n a.uses j ∧ F21_2 a n = some (j : Int) := by
 have hl := h.uses
 unfold F21_2
 rcases first_loop (step := fun s => L21_0_2 a n (a.uses.length : Int) s) (l := a.uses) (n := n) (fun j => E_L21_0_2.k0 (j : Int)) (fin := .k1) (fun i x hx => by
  have hi := (gei.1 hx).1
  simp only [L21_0_2, getI_nat, hx, bsm, decide_eq_true (show (i : Int) < (a.uses.length : Int) by omega), cond_true, w_S (show i < 4611686018427387904 by omega), q20]
  cases hit n x <;> rfl) (by simp only [L21_0_2, decide_eq_false (show ¬ (a.uses.length : Int) < (a.uses.length : Int) by omega), cond_false]) with ⟨h1, h2⟩ | ⟨j, h1, h2⟩
 ·rw [h2]; exact .inl ⟨h1, rfl⟩
 ·rw [h2]; exact .inr ⟨j, h1, rfl⟩
theorem l3_1 (a : ScopesD) (n d u e : Int) (h : Few a) : ((∀ x ∈ a.decl, hit n x = false) ∧ runL (fun s => L3_1 n a d u e s) 0 = some .k1) ∨
  ∃ j : Nat, First n a.decl j ∧ runL (fun s => L3_1 n a d u e s) 0 = some (.k0 (d == (j : Int) && (u == -1 && e == 0))) := by
 have hl := h.decl
 refine first_loop (step := fun s => L3_1 n a d u e s) (l := a.decl) (n := n) (fun j => E_L3_1.k0 (d == (j : Int) && (u == -1 && e == 0))) (fin := .k1) (fun i x hx => ?_) (by simp only [L3_1, decide_eq_false (show ¬ (a.decl.length : Int) < (a.decl.length : Int) by omega), cond_false])
 have hi := (gei.1 hx).1
 simp only [L3_1, getI_nat, hx, bsm, decide_eq_true (show (i : Int) < (a.decl.length : Int) by omega), cond_true, w_S (show i < 4611686018427387904 by omega), F8, hit]
 cases decide (x.frm ≤ n) <;> cases decide (n < x.til) <;> cases d == (i : Int) <;> cases u == -1 <;> cases e == 0 <;> rfl
theorem l3_0 (a : ScopesD) (n d u e : Int) (h : Few a) : ((∀ x ∈ a.uses, hit n x = false) ∧ runL (fun s => L3_0 n a d u e s) 0 = some .k1) ∨
  ∃ j : Nat, First n a.uses j ∧ runL (fun s => L3_0 n a d u e s) 0 = some (.k0 (d == -1 && (u == (j : Int) && e == 0))) := by
 have hl := h.uses
 refine first_loop (step := fun s => L3_0 n a d u e s) (l := a.uses) (n := n) (fun j => E_L3_0.k0 (d == -1 && (u == (j : Int) && e == 0))) (fin := .k1) (fun i x hx => ?_) (by simp only [L3_0, decide_eq_false (show ¬ (a.uses.length : Int) < (a.uses.length : Int) by omega), cond_false])
 have hi := (gei.1 hx).1
 simp only [L3_0, getI_nat, hx, bsm, decide_eq_true (show (i : Int) < (a.uses.length : Int) by omega), cond_true, w_S (show i < 4611686018427387904 by omega), F8, hit]
 cases decide (x.frm ≤ n) <;> cases decide (n < x.til) <;> cases d == -1 <;> cases u == (i : Int) <;> cases e == 0 <;> rfl
theorem q7 (a : ScopesD) : ∃ v, F7 a = some v ∧ (v = true → Few a) := by
 unfold F7
 by_cases h1 : (a.all.length : Int) ≤ 60
 ·by_cases h2 : (a.decl.length : Int) ≤ 60
  ·rw [decide_eq_true h1, decide_eq_true h2]
   exact ⟨_, rfl, fun h3 => ⟨by omega, by omega, by have := of_decide_eq_true h3; omega⟩⟩
  ·rw [decide_eq_true h1, decide_eq_false h2]; exact ⟨_, rfl, fun h => by cases h⟩
 ·rw [decide_eq_false h1]; exact ⟨_, rfl, fun h => by cases h⟩
theorem law3 (a : ScopesD) (n : Int) : F3 a n = some true := by
 obtain ⟨v, h1, h2⟩ := q7 a
 unfold F3
 rw [h1]
 simp only [bsm]
 cases v with
 | false => rfl
 | true =>
 have hf := h2 rfl
 unfold F9
 rw [q19 a hf, q10 a hf]
 simp only [bsm, cond_true]
 cases okG a with
 | false => rfl
 | true =>
 simp only [cond_true, show ((0 : Int) != 0) = false from rfl, cond_false]
 by_cases hn : n < 0
 ·rw [decide_eq_true hn]; rfl
 rw [decide_eq_false hn]
 simp only [cond_false]
 rcases q21 a n hf with ⟨d1, d2⟩ | ⟨j, d1, d2⟩
 ·rw [d2]
  simp only [bsm, show decide ((-1 : Int) ≥ 0) = false from rfl, cond_false]
  rcases q21_2 a n hf with ⟨u1, u2⟩ | ⟨i, u1, u2⟩
  ·rw [u2]
   simp only [bsm, show decide ((-1 : Int) ≥ 0) = false from rfl, cond_false]
   rcases l3_1 a n 0 0 5 hf with ⟨_, e1⟩ | ⟨j, k, _⟩
   ·rw [e1]
    simp only [bsm]
    rcases l3_0 a n 0 0 5 hf with ⟨_, e2⟩ | ⟨j, k, _⟩
    ·rw [e2]; rfl
    ·exact (k.no u1).elim
   ·exact (k.no d1).elim
  ·rw [u2]
   simp only [bsm, decide_eq_true (show (i : Int) ≥ 0 by omega), cond_true]
   rcases l3_1 a n (-1) (i : Int) 0 hf with ⟨_, e1⟩ | ⟨j, k, _⟩
   ·rw [e1]
    simp only [bsm]
    rcases l3_0 a n (-1) (i : Int) 0 hf with ⟨k, _⟩ | ⟨j, k, e2⟩
    ·exact (u1.no k).elim
    ·rw [e2]
     obtain rfl := u1.eq k
     simp
   ·exact (k.no d1).elim
 ·obtain ⟨v, hv⟩ : ∃ v, F21_2 a n = some v := by
   rcases q21_2 a n hf with ⟨_, h⟩ | ⟨_, _, h⟩ <;> exact ⟨_, h⟩
  rw [d2, hv]
  simp only [bsm, decide_eq_true (show (j : Int) ≥ 0 by omega), cond_true]
  rcases l3_1 a n (j : Int) (-1) 0 hf with ⟨k, _⟩ | ⟨i, k, e1⟩
  ·exact (d1.no k).elim
  ·rw [e1]
   obtain rfl := d1.eq k
   simp
end Go.Proofs.Try
