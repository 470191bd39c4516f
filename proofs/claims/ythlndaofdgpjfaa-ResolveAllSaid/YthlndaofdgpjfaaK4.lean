/- Resolve: which scope graphs may be. Plain data alone. -/
import Derived.Test.YthlndaofdgpjfaaH4
import Derived.Test.YthlndaofdgpjfaaVE
open Option renaming bind_some → bsm
open Bool renaming and_eq_true → aet
open List renaming getElem?_eq_some_iff → gei, getElem?_eq_getElem → geg, take_length → tkl
namespace Go.Proofs.Try
set_option linter.unusedSimpArgs false
set_option linter.unusedVariables false
open Go Go.Vs
def scOk (i : Nat) (x : ScopeD) : Bool := (bif i == 0 then x.par == -1 else (decide (0 ≤ x.par) && decide (x.par < (i : Int)))) && (decide (0 ≤ x.frm) && decide (x.frm ≤ x.til))
def nmOk (n : Nat) (l : List NameD) (i : Nat) (x : NameD) : Bool :=
 decide (0 ≤ x.scp) && (decide (x.scp < (n : Int)) && (decide (0 ≤ x.frm) && (decide (x.frm ≤ x.til) && (match i with | 0 => true | j + 1 => match l[j]? with | some y => decide (y.frm ≤ x.frm) | none => true))))
def okG (a : ScopesD) : Bool := !(a.all.isEmpty) && (allF scOk 0 a.all && (allF (nmOk a.all.length a.decl) 0 a.decl && allF (nmOk a.all.length a.uses) 0 a.uses))
structure Few (a : ScopesD) : Prop where
 all : a.all.length ≤ 1000
 decl : a.decl.length ≤ 1000
 uses : a.uses.length ≤ 1000
theorem dlt (a b : Int) : decide (a < b) = !decide (b ≤ a) := by rw [← decide_not]; exact decide_eq_decide.2 (by omega)
theorem dgt (a b : Int) : decide (a > b) = !decide (a ≤ b) := by rw [← decide_not]; exact decide_eq_decide.2 (by omega)
theorem dge (a b : Int) : decide (a ≥ b) = !decide (a < b) := by rw [← decide_not]; exact decide_eq_decide.2 (by omega)
theorem wS1 {i : Nat} (h : i < 4611686018427387904) : IntKind.wrap .i64 (((i + 1 : Nat) : Int) - 1) = (i : Int) := by rw [w_id (by omega)]; omega
theorem nb (x : Int) : (x != -1) = !(x == -1) := rfl
theorem l19 (a : ScopesD) (h : Few a) : runL (fun s => L19_0 a (a.all.length : Int) s) 0 = some (bif allF scOk 0 a.all then .k1 else .k0) := by
 have hl := h.all
 refine loop_list (step := fun s => L19_0 a (a.all.length : Int) s) (l := a.all) scOk (bad := E_L19_0.k0) (fin := .k1) (fun i x hx => ?_) (by simp only [L19_0, decide_eq_false (show ¬ (a.all.length : Int) < (a.all.length : Int) by omega), cond_false])
 have hi : i < a.all.length := (gei.1 hx).1
 simp only [L19_0, getI_nat, hx, bsm, decide_eq_true (show (i : Int) < (a.all.length : Int) by omega), cond_true, w_S (show i < 4611686018427387904 by omega)]
 match i with
 | 0 =>
  simp only [show (((0 : Nat) : Int) == 0) = true from rfl, show decide (((0 : Nat) : Int) > 0) = false from rfl, cond_true, cond_false, scOk, show ((0 : Nat) == 0) = true from rfl, dgt x.frm x.til, nb, dlt x.frm 0]
  cases x.par == -1 <;> cases decide (0 ≤ x.frm) <;> cases decide (x.frm ≤ x.til) <;> rfl
 | j + 1 =>
  have e1 : (((j + 1 : Nat) : Int) == 0) = false := by simpa using (by omega : ¬ ((j + 1 : Nat) : Int) = 0)
  have e2 : decide (((j + 1 : Nat) : Int) > 0) = true := decide_eq_true (by omega)
  simp only [e1, e2, cond_true, cond_false, scOk, show ((j + 1 : Nat) == 0) = false from rfl, dgt x.frm x.til, dge x.par ((j + 1 : Nat) : Int), dlt x.frm 0, dlt x.par 0]
  cases decide (0 ≤ x.par) <;> cases decide (x.par < ((j + 1 : Nat) : Int)) <;> cases decide (0 ≤ x.frm) <;> cases decide (x.frm ≤ x.til) <;> rfl
theorem prev {l : List NameD} {j : Nat} {x : NameD} (h : l[j + 1]? = some x) : ∃ y, l[j]? = some y := by
 have := (gei.1 h).1
 exact ⟨_, geg (by omega)⟩
theorem l31 (a : ScopesD) (h : Few a) : runL (fun s => L31_0 a (a.all.length : Int) (a.decl.length : Int) s) 0 = some (bif allF (nmOk a.all.length a.decl) 0 a.decl then .k1 else .k0) := by
 have hl := h.decl
 refine loop_list (step := fun s => L31_0 a (a.all.length : Int) (a.decl.length : Int) s) (l := a.decl) (nmOk a.all.length a.decl) (bad := E_L31_0.k0) (fin := .k1) (fun i x hx => ?_) (by simp only [L31_0, decide_eq_false (show ¬ (a.decl.length : Int) < (a.decl.length : Int) by omega), cond_false])
 have hi : i < a.decl.length := (gei.1 hx).1
 simp only [L31_0, getI_nat, hx, bsm, decide_eq_true (show (i : Int) < (a.decl.length : Int) by omega), cond_true, w_S (show i < 4611686018427387904 by omega), dlt x.scp 0, dge x.scp (a.all.length : Int), dlt x.frm 0, dgt x.frm x.til]
 match i, hx, hi with
 | 0, hx, _ =>
  simp only [show decide (((0 : Nat) : Int) > 0) = false from rfl, nmOk]
  cases decide (0 ≤ x.scp) <;> cases decide (x.scp < (a.all.length : Int)) <;> cases decide (0 ≤ x.frm) <;> cases decide (x.frm ≤ x.til) <;> rfl
 | j + 1, hx, hi =>
  obtain ⟨y, hy⟩ := prev hx
  simp only [decide_eq_true (show ((j + 1 : Nat) : Int) > 0 by omega), wS1 (show j < 4611686018427387904 by omega), getI_nat, hy, bsm, nmOk, dgt y.frm x.frm]
  cases decide (0 ≤ x.scp) <;> cases decide (x.scp < (a.all.length : Int)) <;> cases decide (0 ≤ x.frm) <;> cases decide (x.frm ≤ x.til) <;> cases decide (y.frm ≤ x.frm) <;> rfl
theorem l31_2 (a : ScopesD) (h : Few a) : runL (fun s => L31_0_2 a (a.all.length : Int) (a.uses.length : Int) s) 0 = some (bif allF (nmOk a.all.length a.uses) 0 a.uses then .k1 else .k0) := by
 have hl := h.uses
 refine loop_list (step := fun s => L31_0_2 a (a.all.length : Int) (a.uses.length : Int) s) (l := a.uses) (nmOk a.all.length a.uses) (bad := E_L31_0_2.k0) (fin := .k1) (fun i x hx => ?_) (by simp only [L31_0_2, decide_eq_false (show ¬ (a.uses.length : Int) < (a.uses.length : Int) by omega), cond_false])
 have hi : i < a.uses.length := (gei.1 hx).1
 simp only [L31_0_2, getI_nat, hx, bsm, decide_eq_true (show (i : Int) < (a.uses.length : Int) by omega), cond_true, w_S (show i < 4611686018427387904 by omega), dlt x.scp 0, dge x.scp (a.all.length : Int), dlt x.frm 0, dgt x.frm x.til]
 match i, hx, hi with
 | 0, hx, _ =>
  simp only [show decide (((0 : Nat) : Int) > 0) = false from rfl, nmOk]
  cases decide (0 ≤ x.scp) <;> cases decide (x.scp < (a.all.length : Int)) <;> cases decide (0 ≤ x.frm) <;> cases decide (x.frm ≤ x.til) <;> rfl
 | j + 1, hx, hi =>
  obtain ⟨y, hy⟩ := prev hx
  simp only [decide_eq_true (show ((j + 1 : Nat) : Int) > 0 by omega), wS1 (show j < 4611686018427387904 by omega), getI_nat, hy, bsm, nmOk, dgt y.frm x.frm]
  cases decide (0 ≤ x.scp) <;> cases decide (x.scp < (a.all.length : Int)) <;> cases decide (0 ≤ x.frm) <;> cases decide (x.frm ≤ x.til) <;> cases decide (y.frm ≤ x.frm) <;> rfl
theorem len0 (a : ScopesD) : ((a.all.length : Int) == 0) = a.all.isEmpty := by
 cases a.all with
 | nil => rfl
 | cons x l => simp; omega
theorem q19 (a : ScopesD) (h : Few a) : F19 a = some (bif okG a then 0 else 2) := by
 unfold F19 F31 F31_2 okG
 rw [l19 a h, l31 a h, l31_2 a h, len0]
 cases a.all.isEmpty <;> cases allF scOk 0 a.all <;> cases allF (nmOk a.all.length a.decl) 0 a.decl <;> cases allF (nmOk a.all.length a.uses) 0 a.uses <;> rfl
theorem l22 (a : ScopesD) (h : Few a) : runL (fun s => L22_0 a (a.all.length : Int) s) 0 = some (bif allF (nmOk a.all.length a.decl) 0 a.decl then .k1 else .k0) := by
 have hl := h.decl
 refine loop_list (step := fun s => L22_0 a (a.all.length : Int) s) (l := a.decl) (nmOk a.all.length a.decl) (bad := E_L22_0.k0) (fin := .k1) (fun i x hx => ?_) (by simp only [L22_0, decide_eq_false (show ¬ (a.decl.length : Int) < (a.decl.length : Int) by omega), cond_false])
 have hi : i < a.decl.length := (gei.1 hx).1
 simp only [L22_0, getI_nat, hx, bsm, decide_eq_true (show (i : Int) < (a.decl.length : Int) by omega), cond_true, w_S (show i < 4611686018427387904 by omega), dlt x.scp 0, dge x.scp (a.all.length : Int), dlt x.frm 0, dlt x.til x.frm]
 match i, hx, hi with
 | 0, hx, _ =>
  simp only [show decide (((0 : Nat) : Int) > 0) = false from rfl, nmOk]
  cases decide (0 ≤ x.scp) <;> cases decide (x.scp < (a.all.length : Int)) <;> cases decide (0 ≤ x.frm) <;> cases decide (x.frm ≤ x.til) <;> rfl
 | j + 1, hx, hi =>
  obtain ⟨y, hy⟩ := prev hx
  simp only [decide_eq_true (show ((j + 1 : Nat) : Int) > 0 by omega), wS1 (show j < 4611686018427387904 by omega), getI_nat, hy, bsm, nmOk, dlt x.frm y.frm]
  cases decide (0 ≤ x.scp) <;> cases decide (x.scp < (a.all.length : Int)) <;> cases decide (0 ≤ x.frm) <;> cases decide (x.frm ≤ x.til) <;> cases decide (y.frm ≤ x.frm) <;> rfl
theorem l22_2 (a : ScopesD) (h : Few a) : runL (fun s => L22_0_2 a (a.all.length : Int) s) 0 = some (bif allF (nmOk a.all.length a.uses) 0 a.uses then .k1 else .k0) := by
 have hl := h.uses
 refine loop_list (step := fun s => L22_0_2 a (a.all.length : Int) s) (l := a.uses) (nmOk a.all.length a.uses) (bad := E_L22_0_2.k0) (fin := .k1) (fun i x hx => ?_) (by simp only [L22_0_2, decide_eq_false (show ¬ (a.uses.length : Int) < (a.uses.length : Int) by omega), cond_false])
 have hi : i < a.uses.length := (gei.1 hx).1
 simp only [L22_0_2, getI_nat, hx, bsm, decide_eq_true (show (i : Int) < (a.uses.length : Int) by omega), cond_true, w_S (show i < 4611686018427387904 by omega), dlt x.scp 0, dge x.scp (a.all.length : Int), dlt x.frm 0, dlt x.til x.frm]
 match i, hx, hi with
 | 0, hx, _ =>
  simp only [show decide (((0 : Nat) : Int) > 0) = false from rfl, nmOk]
  cases decide (0 ≤ x.scp) <;> cases decide (x.scp < (a.all.length : Int)) <;> cases decide (0 ≤ x.frm) <;> cases decide (x.frm ≤ x.til) <;> rfl
 | j + 1, hx, hi =>
  obtain ⟨y, hy⟩ := prev hx
  simp only [decide_eq_true (show ((j + 1 : Nat) : Int) > 0 by omega), wS1 (show j < 4611686018427387904 by omega), getI_nat, hy, bsm, nmOk, dlt x.frm y.frm]
  cases decide (0 ≤ x.scp) <;> cases decide (x.scp < (a.all.length : Int)) <;> cases decide (0 ≤ x.frm) <;> cases decide (x.frm ≤ x.til) <;> cases decide (y.frm ≤ x.frm) <;> rfl
def scOk2 (i : Nat) (x : ScopeD) : Bool := (bif i == 0 then true else (decide (0 ≤ x.par) && decide (x.par < (i : Int)))) && (decide (0 ≤ x.frm) && decide (x.frm ≤ x.til))
theorem l10 (a : ScopesD) (h : Few a) : runL (fun s => L10_0 a s) 0 = some (bif allF scOk2 0 a.all then .k1 else .k0) := by
 have hl := h.all
 refine loop_list (step := fun s => L10_0 a s) (l := a.all) scOk2 (bad := E_L10_0.k0) (fin := .k1) (fun i x hx => ?_) (by simp only [L10_0, decide_eq_false (show ¬ (a.all.length : Int) < (a.all.length : Int) by omega), cond_false])
 have hi : i < a.all.length := (gei.1 hx).1
 simp only [L10_0, getI_nat, hx, bsm, decide_eq_true (show (i : Int) < (a.all.length : Int) by omega), cond_true, w_S (show i < 4611686018427387904 by omega)]
 match i with
 | 0 =>
  simp only [show decide (((0 : Nat) : Int) > 0) = false from rfl, cond_true, cond_false, scOk2, show ((0 : Nat) == 0) = true from rfl, dlt x.til x.frm, dlt x.frm 0]
  cases decide (0 ≤ x.frm) <;> cases decide (x.frm ≤ x.til) <;> rfl
 | j + 1 =>
  have e2 : decide (((j + 1 : Nat) : Int) > 0) = true := decide_eq_true (by omega)
  simp only [e2, cond_true, cond_false, scOk2, show ((j + 1 : Nat) == 0) = false from rfl, dlt x.til x.frm, dge x.par ((j + 1 : Nat) : Int), dlt x.frm 0, dlt x.par 0]
  cases decide (0 ≤ x.par) <;> cases decide (x.par < ((j + 1 : Nat) : Int)) <;> cases decide (0 ≤ x.frm) <;> cases decide (x.frm ≤ x.til) <;> rfl
theorem allF_congr {α : Type} {p q : Nat → α → Bool} : ∀ (l : List α) (i : Nat), (∀ k x, l[k]? = some x → p (i + k) x = q (i + k) x) → allF p i l = allF q i l
 | [], _, _ => rfl
 | x :: l, i, h => by
  simp only [allF]
  have e1 : p i x = q i x := h 0 x rfl
  have e2 : allF p (i + 1) l = allF q (i + 1) l := allF_congr l (i + 1) (fun k y hy => by
   have := h (k + 1) y (by simpa using hy)
   rwa [show i + (k + 1) = i + 1 + k by omega] at this)
  rw [e1, e2]
theorem q10 (a : ScopesD) (h : Few a) : F10 a = some (okG a) := by
 unfold F10 F22 F22_2 okG
 rw [l10 a h, l22 a h, l22_2 a h, len0]
 cases hl : a.all with
 | nil => rfl
 | cons x l =>
  have e : allF scOk 0 (x :: l) = ((x.par == -1) && allF scOk2 0 (x :: l)) := by
   simp only [allF]
   have e2 : allF scOk 1 l = allF scOk2 1 l := allF_congr l 1 (fun k y _ => by
    unfold scOk scOk2
    rw [show (1 + k == 0) = false from beq_false_of_ne (by omega)]
    rfl)
   rw [Nat.zero_add, e2]
   unfold scOk scOk2
   cases x.par == -1 <;> rfl
  have e0 : getI (x :: l) 0 = some x := rfl
  rw [e, e0]
  simp only [List.isEmpty_cons, cond_false, bsm, nb]
  cases x.par == -1 <;> cases allF scOk2 0 (x :: l) <;> cases allF (nmOk (x :: l).length a.decl) 0 a.decl <;> cases allF (nmOk (x :: l).length a.uses) 0 a.uses <;> rfl
def hitP (v : Int) (u x : NameD) : Bool := x.scp == v && (x.spc.toList == u.spc.toList && x.txt.toList == u.txt.toList)
def inds (p : NameD → Bool) : List NameD → Nat → List Int
 | [], _ => []
 | x :: l, i => (bif p x then [(i : Int)] else []) ++ inds p l (i + 1)
theorem hitP_key (v : Int) (u x : NameD) : hitP v u x = decide ((v, u.spc, u.txt) = keyN x) := by
 unfold hitP keyN
 rw [bytes_list, bytes_list]
 have e : ((v, u.spc, u.txt) = (x.scp, x.spc, x.txt)) ↔ (x.scp = v ∧ x.spc = u.spc ∧ x.txt = u.txt) := by
  simp only [Prod.mk.injEq]
  exact ⟨fun ⟨p, q, r⟩ => ⟨p.symm, q.symm, r.symm⟩, fun ⟨p, q, r⟩ => ⟨p.symm, q.symm, r.symm⟩⟩
 rw [decide_eq_decide.2 e, Bool.decide_and, Bool.decide_and]
 rfl
theorem found_get (v : Int) (u : NameD) : ∀ (l : List NameD) (j : Nat) (pl : List (Key × List Int)), mget ([] : List Int) (foundL l j pl) (v, u.spc, u.txt) = mget [] pl (v, u.spc, u.txt) ++ inds (hitP v u) l j
 | [], j, pl => by simp [foundL, inds]
 | x :: l, j, pl => by
  unfold foundL inds
  rw [found_get v u l (j + 1) _, hitP_key]
  unfold fput
  rw [mget_mput]
  by_cases h : (v, u.spc, u.txt) = keyN x
  ·rw [if_pos h, ← h, decide_eq_true rfl, cond_true, List.append_assoc]
  ·rw [if_neg h, decide_eq_false h, cond_false, List.nil_append]
theorem inds_len (p : NameD → Bool) : ∀ (l : List NameD) (i : Nat), (inds p l i).length ≤ l.length
 | [], _ => Nat.le_refl _
 | x :: l, i => by
  have := inds_len p l (i + 1)
  unfold inds
  cases p x <;> simp <;> omega
theorem inds_ge (p : NameD → Bool) : ∀ (l : List NameD) (i : Nat), ∀ k ∈ inds p l i, (i : Int) ≤ k
 | [], _, k, h => by simp [inds] at h
 | x :: l, i, k, h => by
  unfold inds at h
  rcases List.mem_append.1 h with h | h
  ·cases hp : p x <;> rw [hp] at h <;> simp at h
   omega
  ·have := inds_ge p l (i + 1) k h
   omega
theorem inds_once (p : NameD → Bool) (n : Int) (f : Int → Int) : ∀ (l : List NameD) (i : Nat), ((inds p l i).filter (fun k => k == n)) = bif (inds p l i).any (fun k => k == n) then [n] else []
 | [], _ => rfl
 | x :: l, i => by
  have ih := inds_once p n f l (i + 1)
  unfold inds
  cases p x with
  | false => rw [cond_false, List.nil_append]; exact ih
  | true =>
   rw [cond_true]
   simp only [List.singleton_append, List.filter_cons, List.any_cons]
   by_cases h : (i : Int) = n
   ·have hno : (inds p l (i + 1)).any (fun k => k == n) = false := by
     rw [List.any_eq_false]
     intro k hk
     have := inds_ge p l (i + 1) k hk
     have : k ≠ n := by omega
     simp [this]
    rw [ih, hno, h]
    simp
   ·rw [beq_false_of_ne h, ih]
    simp
inductive Mean (a : ScopesD) (u : NameD) : Int → List Int → Prop
 | none {v : Int} : v < 0 → Mean a u v []
 | here {v : Int} : 0 ≤ v → inds (hitP v u) a.decl 0 ≠ [] → Mean a u v (inds (hitP v u) a.decl 0)
 | up {v : Int} {x : ScopeD} {l : List Int} : 0 ≤ v → inds (hitP v u) a.decl 0 = [] → getI a.all v = some x → Mean a u x.par l → Mean a u v l
theorem Mean.inds {a : ScopesD} {u : NameD} {v : Int} {l : List Int} (h : Mean a u v l) : l = [] ∨ ∃ w, l = inds (hitP w u) a.decl 0 ∧ l ≠ [] := by
 induction h with
 | none _ => exact .inl rfl
 | here _ h => exact .inr ⟨_, rfl, h⟩
 | up _ _ _ _ ih => exact ih
theorem Mean.len {a : ScopesD} {u : NameD} {v : Int} {l : List Int} (h : Mean a u v l) : l.length ≤ a.decl.length := by
 rcases h.inds with rfl | ⟨w, e, _⟩
 ·simp
 ·rw [e]; exact inds_len _ _ _
theorem Mean.once {a : ScopesD} {u : NameD} {v : Int} {l : List Int} (h : Mean a u v l) (n : Int) : l.filter (fun k => k == n) = bif l.any (fun k => k == n) then [n] else [] := by
 rcases h.inds with rfl | ⟨w, e, _⟩
 ·rfl
 ·rw [e]; exact inds_once _ n id _ _
theorem okG_all {a : ScopesD} (h : okG a = true) : allF scOk 0 a.all = true := by
 unfold okG at h
 simp only [aet] at h
 exact h.2.1
theorem okG_uses {a : ScopesD} (h : okG a = true) : allF (nmOk a.all.length a.uses) 0 a.uses = true := by
 unfold okG at h
 simp only [aet] at h
 exact h.2.2.2
theorem nmOk_scp {n : Nat} {l : List NameD} {i : Nat} {x : NameD} (h : nmOk n l i x = true) : 0 ≤ x.scp ∧ x.scp < (n : Int) := by
 unfold nmOk at h
 simp only [aet, decide_eq_true_eq] at h
 exact ⟨h.1, h.2.1⟩
theorem par_lt {a : ScopesD} (h : okG a = true) {i : Nat} {x : ScopeD} (hx : a.all[i]? = some x) : x.par < (i : Int) := by
 have := (allF_iff a.all 0).1 (okG_all h) i x hx
 rw [Nat.zero_add] at this
 unfold scOk at this
 simp only [aet] at this
 have h1 := this.1
 by_cases h0 : i = 0
 ·subst h0
  simp at h1
  omega
 ·rw [beq_false_of_ne h0, cond_false] at h1
  simp only [aet, decide_eq_true_eq] at h1
  exact h1.2
theorem mean_tot {a : ScopesD} (h : okG a = true) (u : NameD) : ∀ (n : Nat) (v : Int), v < (n : Int) → v < (a.all.length : Int) → ∃ l, Mean a u v l
 | 0, v, h1, _ => ⟨[], .none (by omega)⟩
 | n + 1, v, h1, h2 => by
  by_cases h0 : v < 0
  ·exact ⟨[], .none h0⟩
  ·by_cases hi : inds (hitP v u) a.decl 0 = []
   ·obtain ⟨i, rfl⟩ : ∃ i : Nat, v = (i : Int) := ⟨v.toNat, by omega⟩
    have hx : a.all[i]? = some (a.all[i]'(by omega)) := geg _
    generalize a.all[i]'(by omega) = x at hx
    have hp := par_lt h hx
    obtain ⟨l, hl⟩ := mean_tot h u n x.par (by omega) (by omega)
    exact ⟨l, .up (by omega) hi (by rw [getI_nat]; exact hx) hl⟩
   ·exact ⟨_, .here (by omega) hi⟩
theorem mean_use {a : ScopesD} (h : okG a = true) {i : Nat} {u : NameD} (hu : a.uses[i]? = some u) : ∃ l, Mean a u u.scp l := by
 have := nmOk_scp ((allF_iff a.uses 0).1 (okG_uses h) i u hu)
 exact mean_tot h u a.all.length u.scp this.2 this.2
theorem clOk_small {n : Nat} (h : n ≤ 1000) : clOk n 8 = true := decide_eq_true ⟨by unfold limit47; omega, by unfold limit47; omega⟩
theorem apS {n b : Nat} (h : n ≤ 1000) (hb : b ≤ 100) : apOk n 1 n b = true := by
 refine decide_eq_true ⟨Nat.le_refl _, ?_, by unfold limit47; omega⟩
 have := Nat.mul_le_mul (show n + 1 ≤ 1001 by omega) hb
 unfold limit47
 omega
theorem no_room (n : Nat) : decide (n + 1 ≤ n) = false := decide_eq_false (by omega)
theorem put_end {α : Type} (l : List α) (x : α) : l.take l.length ++ [x] = l ++ [x] := by rw [tkl]
theorem l34 {a : ScopesD} (hf : Few a) {u : NameD} {v : Int} {l : List Int} (h : Mean a u v l) :
  (l = [] ∧ ∃ w, runL (fun s => L34_0_3 a (foundL a.decl 0 []) u s) v = some (.k1 w)) ∨ (l ≠ [] ∧ ∃ w, runL (fun s => L34_0_3 a (foundL a.decl 0 []) u s) v = some (.k0 (gnz l) l.length w l)) := by
 have hg : ∀ v, mget ([] : List Int) (foundL a.decl 0 []) (v, u.spc, u.txt) = inds (hitP v u) a.decl 0 := fun v => by rw [found_get]; rfl
 induction h with
 | @none v h =>
  refine .inl ⟨rfl, v, runL_done ?_⟩
  simp only [L34_0_3, decide_eq_false (show ¬ v ≥ 0 by omega), cond_false]
 | @here v h0 hi =>
  refine .inr ⟨hi, v, runL_done ?_⟩
  have hl := inds_len (hitP v u) a.decl 0
  have hd := hf.decl
  have hn : (inds (hitP v u) a.decl 0).length ≠ 0 := fun h => hi (List.length_eq_zero_iff.1 h)
  simp only [L34_0_3, Y25_0_5, hg, decide_eq_true (show v ≥ 0 from h0), decide_eq_true (show ((inds (hitP v u) a.decl 0).length : Int) > 0 by omega), cond_true, clOk_small (show (inds (hitP v u) a.decl 0).length ≤ 1000 by omega), bsm]
 | @up v x l h0 hi hx hm ih =>
  have hs : L34_0_3 a (foundL a.decl 0 []) u v = some (.inr x.par) := by
   simp only [L34_0_3, Y25_0_5, hg, hi, decide_eq_true (show v ≥ 0 from h0), List.length_nil, show decide (((0 : Nat) : Int) > 0) = false from rfl, cond_true, cond_false, bsm, hx]
  rcases ih with ⟨h1, w, h2⟩ | ⟨h1, w, h2⟩
  ·exact .inl ⟨h1, w, by rw [runL_next hs]; exact h2⟩
  ·exact .inr ⟨h1, w, by rw [runL_next hs]; exact h2⟩
theorem q24 {a : ScopesD} (hf : Few a) {u : NameD} {l : List Int} (h : Mean a u u.scp l) :
  (l = [] ∧ ∃ w, F24_3 u a (foundL a.decl 0 []) = some (.k1 w)) ∨ (l ≠ [] ∧ ∃ w, F24_3 u a (foundL a.decl 0 []) = some (.k0 (gnz l) l.length w l)) := by
 unfold F24_3 F25_3
 rcases l34 hf h with ⟨h1, w, h2⟩ | ⟨h1, w, h2⟩
 ·refine .inl ⟨h1, w, ?_⟩
  rw [runL_done (e := .k1 w) (by
   show L25_1_3 u a (foundL a.decl 0 []) = _
   unfold L25_1_3 F28_3 F34_3
   simp only [bsm]
   rw [show (⟨a.all, a.decl, a.uses⟩ : ScopesD) = a from rfl, h2]
   rfl)]
  rfl
 ·refine .inr ⟨h1, w, ?_⟩
  rw [runL_done (e := .k0 (gnz l) l.length w l) (by
   show L25_1_3 u a (foundL a.decl 0 []) = _
   unfold L25_1_3 F28_3 F34_3
   simp only [bsm]
   rw [show (⟨a.all, a.decl, a.uses⟩ : ScopesD) = a from rfl, h2]
   rfl)]
  rfl
theorem l15_0 {a : ScopesD} (hf : Few a) (u : NameD) (v : Int) : ∃ g, runL (fun s => L15_0_2 u a v s.1 s.2.1 s.2.2.1 s.2.2.2) (0, 0, 0, []) = some (.k0 g (inds (hitP v u) a.decl 0).length (inds (hitP v u) a.decl 0)) := by
 have hd := hf.decl
 obtain ⟨⟨g, row⟩, h1, h2, h3⟩ := loop_inv0 (step := fun s => L15_0_2 u a v s.1 s.2.1 s.2.2.1 s.2.2.2) (l := a.decl) (fun i (b : Nat × List Int) => (b.1, b.2.length, (i : Int), b.2)) (fun b => E_L15_0_2.k0 b.1 b.2.length b.2)
  (fun i b => b.2 ++ inds (hitP v u) (a.decl.drop i) i = inds (hitP v u) a.decl 0 ∧ b.2.length ≤ i) (fun i x b hx hb => by
   have hi : i < a.decl.length := (gei.1 hx).1
   have hdr : a.decl.drop i = x :: a.decl.drop (i + 1) := by rw [List.drop_eq_getElem_cons hi, (gei.1 hx).2]
   obtain ⟨b1, b2⟩ := hb
   rw [hdr, show inds (hitP v u) (x :: a.decl.drop (i + 1)) i = (bif hitP v u x then [(i : Int)] else []) ++ inds (hitP v u) (a.decl.drop (i + 1)) (i + 1) from rfl] at b1
   rw [← List.append_assoc] at b1
   refine ⟨(bif hitP v u x then b.1 + 1 else b.1, b.2 ++ (bif hitP v u x then [(i : Int)] else [])), ?_, b1, by cases hitP v u x <;> simp <;> omega⟩
   simp only [L15_0_2, getI_nat, hx, bsm, decide_eq_true (show (i : Int) < (a.decl.length : Int) by omega), cond_true, w_S (show i < 4611686018427387904 by omega), apS (show b.2.length ≤ 1000 by omega) (show 8 ≤ 100 by omega), no_room, cond_false, put_end, hitP]
   cases x.scp == v <;> cases x.spc.toList == u.spc.toList <;> cases x.txt.toList == u.txt.toList <;> simp)
  (fun b hb => by simp only [L15_0_2, decide_eq_false (show ¬ (a.decl.length : Int) < (a.decl.length : Int) by omega), cond_false]) (a := (0, [])) ⟨by simp, by simp⟩
 rw [List.drop_length] at h2
 have h2 : row = inds (hitP v u) a.decl 0 := by rw [← h2]; simp [inds]
 refine ⟨g, ?_⟩
 rw [← h2]
 exact h1
theorem l15 {a : ScopesD} (hf : Few a) {u : NameD} {v : Int} {l : List Int} (h : Mean a u v l) : (l = [] ∧ runL (fun s => L15_1 u a s) v = some .k1) ∨ (l ≠ [] ∧ ∃ g, runL (fun s => L15_1 u a s) v = some (.k0 g l.length l)) := by
 induction h with
 | @none v h =>
  refine .inl ⟨rfl, runL_done ?_⟩
  simp only [L15_1, decide_eq_false (show ¬ v ≥ 0 by omega), cond_false]
 | @here v h0 hi =>
  obtain ⟨g, hg⟩ := l15_0 hf u v
  refine .inr ⟨hi, g, runL_done ?_⟩
  have hn : (inds (hitP v u) a.decl 0).length ≠ 0 := fun h => hi (List.length_eq_zero_iff.1 h)
  simp only [L15_1, hg, decide_eq_true (show v ≥ 0 from h0), decide_eq_true (show (((inds (hitP v u) a.decl 0).length : Nat) : Int) > 0 by omega), cond_true, bsm]
 | @up v x l h0 hi hx hm ih =>
  obtain ⟨g, hg⟩ := l15_0 hf u v
  rw [hi] at hg
  have hs : L15_1 u a v = some (.inr x.par) := by
   simp only [L15_1, hg, decide_eq_true (show v ≥ 0 from h0), List.length_nil, show decide (((0 : Nat) : Int) > 0) = false from rfl, cond_true, cond_false, bsm, hx]
  rcases ih with ⟨h1, h2⟩ | ⟨h1, w, h2⟩
  ·exact .inl ⟨h1, by rw [runL_next hs]; exact h2⟩
  ·exact .inr ⟨h1, w, by rw [runL_next hs]; exact h2⟩
theorem q15 {a : ScopesD} (hf : Few a) {u : NameD} {l : List Int} (h : Mean a u u.scp l) : F15 a u = some l := by
 unfold F15
 rcases l15 hf h with ⟨h1, h2⟩ | ⟨h1, g, h2⟩
 ·rw [h2, h1]; rfl
 ·rw [h2]
  simp only [bsm, decide_eq_true (Nat.le_refl l.length), cond_true, tkl]
structure Means (a : ScopesD) (ls : List Ints) : Prop where
 len : ls.length = a.uses.length
 at_ : ∀ (i : Nat) (u : NameD) (l : List Int), a.uses[i]? = some u → ls[i]? = some l → Mean a u u.scp l
theorem l11 {a : ScopesD} (hf : Few a) (hk : okG a = true) : ∃ g ls, runL (fun s => L11_0 a (a.uses.length : Int) (foundL a.decl 0 []) s.1 s.2.1 s.2.2.1 s.2.2.2) (0, 0, 0, []) = some (.k0 g ls.length ls) ∧ Means a ls := by
 have hd := hf.uses
 obtain ⟨⟨g, ls⟩, h1, h2, h3⟩ := loop_inv0 (step := fun s => L11_0 a (a.uses.length : Int) (foundL a.decl 0 []) s.1 s.2.1 s.2.2.1 s.2.2.2) (l := a.uses) (fun i (b : Nat × List Ints) => (b.1, b.2.length, (i : Int), b.2)) (fun b => E_L11_0.k0 b.1 b.2.length b.2)
  (fun i b => b.2.length = i ∧ ∀ (j : Nat) (u : NameD) (l : List Int), a.uses[j]? = some u → b.2[j]? = some l → Mean a u u.scp l) (fun i x b hx hb => by
   have hi : i < a.uses.length := (gei.1 hx).1
   obtain ⟨b1, b2⟩ := hb
   obtain ⟨l, hl⟩ := mean_use hk hx
   refine ⟨(b.1 + 1, b.2 ++ [l]), ?_, by simp [b1], fun j u m hu hm => ?_⟩
   ·simp only [L11_0, getI_nat, hx, bsm, decide_eq_true (show (i : Int) < (a.uses.length : Int) by omega), cond_true, w_S (show i < 4611686018427387904 by omega)]
    rcases q24 hf hl with ⟨e1, w, e2⟩ | ⟨e1, w, e2⟩
    ·rw [e2, e1]
     simp only [bsm, apS (show b.2.length ≤ 1000 by omega) (show 24 ≤ 100 by omega), no_room, cond_true, cond_false, put_end]
     simp
    ·rw [e2]
     simp only [bsm, apS (show b.2.length ≤ 1000 by omega) (show 24 ≤ 100 by omega), no_room, cond_true, cond_false, put_end, decide_eq_true (Nat.le_refl l.length), tkl]
     simp
   ·rw [List.getElem?_append] at hm
    split at hm
    ·exact b2 j u m hu hm
    ·rename_i hlt
     have hj : j < i + 1 := by
      have := (gei.1 hm).1
      simp at this
      omega
     obtain rfl : j = i := by omega
     rw [b1, Nat.sub_self] at hm
     rw [hx] at hu
     cases hu
     simp at hm
     rw [← hm]
     exact hl)
  (fun b hb => by simp only [L11_0, decide_eq_false (show ¬ (a.uses.length : Int) < (a.uses.length : Int) by omega), cond_false]) (a := (0, [])) ⟨by simp, by simp⟩
 exact ⟨g, ls, h1, h2, h3⟩
theorem q11_bad {a : ScopesD} (hf : Few a) (hk : okG a = false) : F11 a = some (.k0 [] 2) := by
 unfold F11
 rw [q19 a hf, hk]
 rfl
theorem q11 {a : ScopesD} (hf : Few a) (hk : okG a = true) : ∃ ls, F11 a = some (.k0 ls 0) ∧ Means a ls := by
 obtain ⟨g, ls, h1, h2⟩ := l11 hf hk
 have hd := hf.decl
 refine ⟨ls, ?_, h2⟩
 unfold F11
 rw [q19 a hf, hk]
 simp only [bsm, cond_true, show ((0 : Int) != 0) = false from rfl, cond_false, decide_eq_true (show a.decl.length ≤ 1000000 by omega), h1, decide_eq_true (Nat.le_refl ls.length), tkl]
theorem l14 (l : List Int) (h : l.length ≤ 1000) : runL (fun s => L14_0 l l s) 0 = some .k1 := by
 have := loop_list (step := fun s => L14_0 l l s) (l := l) (fun _ _ => true) (bad := E_L14_0.k0) (fin := .k1) (fun i x hx => by
  have hi : i < l.length := (gei.1 hx).1
  simp only [L14_0, getI_nat, hx, bsm, decide_eq_true (show (i : Int) < (l.length : Int) by omega), cond_true, w_S (show i < 4611686018427387904 by omega)]
  simp) (by simp only [L14_0, decide_eq_false (show ¬ (l.length : Int) < (l.length : Int) by omega), cond_false])
 rw [this, (allF_iff l 0).2 (fun _ _ _ => rfl)]
 rfl
theorem q14 (l : List Int) (h : l.length ≤ 1000) : F14 l l = some true := by
 unfold F14
 rw [l14 l h]
 simp
theorem q26 (l : List Int) (n : Int) (h : l.length ≤ 1000) : F26 l n = some (l.any (fun k => k == n)) := by
 unfold F26 F33
 rcases loop_find0 (step := fun s => L33_0 l n (l.length : Int) s) (l := l) (fun k => !(k == n)) (fun j _ => E_L33_0.k0 (j : Int)) (fin := .k1) (fun i x hx => by
  have hi : i < l.length := (gei.1 hx).1
  simp only [L33_0, getI_nat, hx, bsm, decide_eq_true (show (i : Int) < (l.length : Int) by omega), cond_true, w_S (show i < 4611686018427387904 by omega)]
  rw [show (n == x) = (x == n) from by rw [Bool.eq_iff_iff, beq_iff_eq, beq_iff_eq]; exact eq_comm]
  cases x == n <;> rfl) (by simp only [L33_0, decide_eq_false (show ¬ (l.length : Int) < (l.length : Int) by omega), cond_false]) with ⟨h1, h2⟩ | ⟨j, x, h1, h2, h3, h4⟩
 ·rw [h2]
  have : l.any (fun k => k == n) = false := by
   rw [List.any_eq_false]
   intro x hx
   have := h1 x hx
   simpa using this
  rw [this]
  rfl
 ·rw [h4]
  have : l.any (fun k => k == n) = true := List.any_eq_true.2 ⟨x, List.mem_of_getElem? h1, by simpa using h2⟩
  rw [this]
  simp only [bsm, decide_eq_true (show (j : Int) ≥ 0 by omega)]
def usr (n : Int) : List Ints → Nat → List Int
 | [], _ => []
 | l :: ls, i => (bif l.any (fun k => k == n) then [(i : Int)] else []) ++ usr n ls (i + 1)
theorem usr_len (n : Int) : ∀ (ls : List Ints) (i : Nat), (usr n ls i).length ≤ ls.length
 | [], _ => Nat.le_refl _
 | l :: ls, i => by
  have := usr_len n ls (i + 1)
  unfold usr
  cases List.any l (fun k => k == n) <;> simp <;> omega
theorem Means.short {a : ScopesD} {ls : List Ints} (h : Means a ls) (hf : Few a) {i : Nat} {l : List Int} (hl : ls[i]? = some l) : l.length ≤ 1000 := by
 have hi : i < ls.length := (gei.1 hl).1
 have hu : a.uses[i]? = some (a.uses[i]'(by rw [← h.len]; exact hi)) := geg _
 have := (h.at_ i _ l hu hl).len
 have := hf.decl
 omega
theorem l13 {a : ScopesD} (hf : Few a) {ls : List Ints} (hm : Means a ls) (n : Int) : ∃ g, runL (fun s => L13_0 n ls (ls.length : Int) s.1 s.2.1 s.2.2.1 s.2.2.2) (0, 0, 0, []) = some (.k0 g (usr n ls 0).length (usr n ls 0)) := by
 have hd := hf.uses
 have hlen := hm.len
 obtain ⟨⟨g, row⟩, h1, h2, h3⟩ := loop_inv0 (step := fun s => L13_0 n ls (ls.length : Int) s.1 s.2.1 s.2.2.1 s.2.2.2) (l := ls) (fun i (b : Nat × List Int) => (b.1, b.2.length, (i : Int), b.2)) (fun b => E_L13_0.k0 b.1 b.2.length b.2)
  (fun i b => b.2 ++ usr n (ls.drop i) i = usr n ls 0 ∧ b.2.length ≤ i) (fun i x b hx hb => by
   have hi : i < ls.length := (gei.1 hx).1
   have hdr : ls.drop i = x :: ls.drop (i + 1) := by rw [List.drop_eq_getElem_cons hi, (gei.1 hx).2]
   obtain ⟨b1, b2⟩ := hb
   rw [hdr, show usr n (x :: ls.drop (i + 1)) i = (bif x.any (fun k => k == n) then [(i : Int)] else []) ++ usr n (ls.drop (i + 1)) (i + 1) from rfl] at b1
   rw [← List.append_assoc] at b1
   refine ⟨(bif x.any (fun k => k == n) then b.1 + 1 else b.1, b.2 ++ (bif x.any (fun k => k == n) then [(i : Int)] else [])), ?_, b1, by cases x.any (fun k => k == n) <;> simp <;> omega⟩
   simp only [L13_0, getI_nat, hx, bsm, decide_eq_true (show (i : Int) < (ls.length : Int) by omega), cond_true, w_S (show i < 4611686018427387904 by omega), apS (show b.2.length ≤ 1000 by omega) (show 8 ≤ 100 by omega), no_room, cond_false, put_end, q26 x n (hm.short hf hx)]
   cases x.any (fun k => k == n) <;> simp)
  (fun b hb => by simp only [L13_0, decide_eq_false (show ¬ (ls.length : Int) < (ls.length : Int) by omega), cond_false]) (a := (0, [])) ⟨by simp, by simp⟩
 rw [List.drop_length] at h2
 have h2 : row = usr n ls 0 := by rw [← h2]; simp [usr]
 refine ⟨g, ?_⟩
 rw [← h2]
 exact h1
theorem l4_0 {ls : List Ints} {l : List Int} {i : Nat} (hl : ls[i]? = some l) (hs : l.length ≤ 1000) (n : Int) (g : Nat) (row : List Int) (hr : row.length ≤ 1000) (h1 : l.filter (fun k => k == n) = bif l.any (fun k => k == n) then [n] else []) (hrow : row.length + (l.filter (fun k => k == n)).length ≤ 1000) :
  ∃ g', runL (fun s => L4_0_3 n ls (i : Int) s.1 s.2.1 s.2.2.1 s.2.2.2) (g, row.length, 0, row) = some (.k0 g' (row ++ bif l.any (fun k => k == n) then [(i : Int)] else []).length (row ++ bif l.any (fun k => k == n) then [(i : Int)] else [])) := by
 obtain ⟨⟨g', row'⟩, q1, q2⟩ := loop_inv0 (step := fun s => L4_0_3 n ls (i : Int) s.1 s.2.1 s.2.2.1 s.2.2.2) (l := l) (fun j (b : Nat × List Int) => (b.1, b.2.length, (j : Int), b.2)) (fun b => E_L4_0_3.k0 b.1 b.2.length b.2)
  (fun j b => b.2 ++ ((l.drop j).filter (fun k => k == n)).map (fun _ => (i : Int)) = row ++ (l.filter (fun k => k == n)).map (fun _ => (i : Int))) (fun j x b hx hb => by
   have hj : j < l.length := (gei.1 hx).1
   have hdr : l.drop j = x :: l.drop (j + 1) := by rw [List.drop_eq_getElem_cons hj, (gei.1 hx).2]
   have hb : b.2 ++ ((l.drop j).filter (fun k => k == n)).map (fun _ => (i : Int)) = row ++ (l.filter (fun k => k == n)).map (fun _ => (i : Int)) := hb
   have hlb : b.2.length ≤ 1000 := by
    have := congrArg List.length hb
    simp only [List.length_append, List.length_map] at this
    omega
   rw [hdr, List.filter_cons] at hb
   simp only [L4_0_3, getI_nat, hl, hx, bsm, decide_eq_true (show (j : Int) < (l.length : Int) by omega), cond_true, w_S (show j < 4611686018427387904 by omega), apS hlb (show 8 ≤ 100 by omega), no_room, cond_false, put_end]
   cases hxn : x == n with
   | true =>
    rw [hxn] at hb
    refine ⟨(b.1 + 1, b.2 ++ [(i : Int)]), by simp, ?_⟩
    rw [← hb]
    simp
   | false =>
    rw [hxn] at hb
    refine ⟨(b.1, b.2), by simp, ?_⟩
    rw [← hb]
    simp)
  (fun b hb => by simp only [L4_0_3, getI_nat, hl, bsm, decide_eq_false (show ¬ (l.length : Int) < (l.length : Int) by omega), cond_false]) (a := (g, row)) (by simp)
 refine ⟨g', ?_⟩
 have q2 : row' ++ ((l.drop l.length).filter (fun k => k == n)).map (fun _ => (i : Int)) = row ++ (l.filter (fun k => k == n)).map (fun _ => (i : Int)) := q2
 rw [List.drop_length, h1] at q2
 have q2 : row' = row ++ bif l.any (fun k => k == n) then [(i : Int)] else [] := by
  rw [show row' = row' ++ (([] : List Int).filter (fun k => k == n)).map (fun _ => (i : Int)) from by simp, q2]
  cases l.any (fun k => k == n) <;> rfl
 rw [← q2]
 exact q1
theorem l4_1 {a : ScopesD} (hf : Few a) {ls : List Ints} (hm : Means a ls) (n : Int) : ∃ g, runL (fun s => L4_1 n a ls s.1 s.2.1 s.2.2.1 s.2.2.2) (0, 0, 0, []) = some (.k1 g (usr n ls 0).length (usr n ls 0)) := by
 have hd := hf.uses
 have hlen := hm.len
 obtain ⟨⟨g, row⟩, h1, h2, h3⟩ := loop_inv0 (step := fun s => L4_1 n a ls s.1 s.2.1 s.2.2.1 s.2.2.2) (l := ls) (fun i (b : Nat × List Int) => (b.1, b.2.length, (i : Int), b.2)) (fun b => E_L4_1.k1 b.1 b.2.length b.2)
  (fun i b => b.2 ++ usr n (ls.drop i) i = usr n ls 0 ∧ b.2.length ≤ i) (fun i x b hx hb => by
   have hi : i < ls.length := (gei.1 hx).1
   have hdr : ls.drop i = x :: ls.drop (i + 1) := by rw [List.drop_eq_getElem_cons hi, (gei.1 hx).2]
   obtain ⟨b1, b2⟩ := hb
   rw [hdr, show usr n (x :: ls.drop (i + 1)) i = (bif x.any (fun k => k == n) then [(i : Int)] else []) ++ usr n (ls.drop (i + 1)) (i + 1) from rfl] at b1
   rw [← List.append_assoc] at b1
   have hu : a.uses[i]? = some (a.uses[i]'(by omega)) := geg _
   generalize a.uses[i]'(by omega) = u at hu
   have hmu := hm.at_ i u x hu hx
   have h1 := hmu.once n
   obtain ⟨g', hg⟩ := l4_0 hx (hm.short hf hx) n b.1 b.2 (by omega) h1 (by rw [h1]; cases x.any (fun k => k == n) <;> simp <;> omega)
   refine ⟨(g', b.2 ++ (bif x.any (fun k => k == n) then [(i : Int)] else [])), ?_, b1, by cases x.any (fun k => k == n) <;> simp <;> omega⟩
   simp only [L4_1, getI_nat, hx, hu, bsm, decide_eq_true (show (i : Int) < (ls.length : Int) by omega), cond_true, w_S (show i < 4611686018427387904 by omega), q15 hf hmu, q14 x (hm.short hf hx), hg])
  (fun b hb => by simp only [L4_1, decide_eq_false (show ¬ (ls.length : Int) < (ls.length : Int) by omega), cond_false]) (a := (0, [])) ⟨by simp, by simp⟩
 rw [List.drop_length] at h2
 have h2 : row = usr n ls 0 := by rw [← h2]; simp [usr]
 refine ⟨g, ?_⟩
 rw [← h2]
 exact h1
theorem q7 (a : ScopesD) : ∃ v, F7 a = some v ∧ (v = true → Few a) := by
 unfold F7
 by_cases h1 : (a.all.length : Int) ≤ 60
 ·by_cases h2 : (a.decl.length : Int) ≤ 60
  ·rw [decide_eq_true h1, decide_eq_true h2]
   exact ⟨_, rfl, fun h3 => ⟨by omega, by omega, by have := of_decide_eq_true h3; omega⟩⟩
  ·rw [decide_eq_true h1, decide_eq_false h2]; exact ⟨_, rfl, fun h => by cases h⟩
 ·rw [decide_eq_false h1]; exact ⟨_, rfl, fun h => by cases h⟩
theorem law4 (a : ScopesD) (n : Int) : F4 a n = some true := by
 obtain ⟨v, h1, h2⟩ := q7 a
 unfold F4
 rw [h1]
 simp only [bsm]
 cases v with
 | false => rfl
 | true =>
 have hf := h2 rfl
 rw [q10 a hf]
 unfold F12 F13
 cases hk : okG a with
 | false =>
  rw [q11_bad hf hk]
  rfl
 | true =>
 obtain ⟨ls, e1, hm⟩ := q11 hf hk
 obtain ⟨g1, e2⟩ := l13 hf hm n
 obtain ⟨g2, e3⟩ := l4_1 hf hm n
 have hd := hf.uses
 have hlen := hm.len
 have hul := usr_len n ls 0
 rw [hlen] at e2
 rw [e1]
 simp only [bsm, cond_true, show ((0 : Int) != 0) = false from rfl, cond_false, e2, e3, hlen, decide_eq_true (Nat.le_refl (usr n ls 0).length), tkl, bne_self_eq_false]
 by_cases c1 : n < 0
 ·simp only [decide_eq_true c1, cond_true]
  rfl
 simp only [decide_eq_false c1, cond_false]
 have q14u := q14 (usr n ls 0) (by omega)
 by_cases c2 : n ≥ (a.uses.length : Int)
 ·simp only [decide_eq_true c2, cond_true, bsm]
  by_cases c3 : n ≥ (a.decl.length : Int)
  ·simp only [decide_eq_true c3, cond_true]; rfl
  ·simp only [decide_eq_false c3, cond_false, bsm, q14u]; rfl
 ·simp only [decide_eq_false c2, cond_false]
  obtain ⟨i, rfl⟩ : ∃ i : Nat, n = (i : Int) := ⟨n.toNat, by omega⟩
  have hl : ls[i]? = some (ls[i]'(by omega)) := geg _
  generalize ls[i]'(by omega) = l at hl
  simp only [getI_nat, hl, bsm, q14 l (hm.short hf hl), cond_true]
  by_cases c3 : (i : Int) ≥ (a.decl.length : Int)
  ·simp only [decide_eq_true c3, cond_true]; rfl
  ·simp only [decide_eq_false c3, cond_false, bsm, q14u]; rfl
end Go.Proofs.Try
