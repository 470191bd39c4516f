/- Resolve: which scope graphs may be. Plain data alone. -/
import Derived.Test.YthlndaofdgpjfaaH6
import Derived.Test.YthlndaofdgpjfaaVE
import Derived.Test.YthlndaofdgpjfaaVF
open Option renaming bind_some → bsm
open List renaming getElem?_eq_some_iff → gei, getElem?_eq_getElem → geg, length_append → lap, take_length → tkl
namespace Go.Proofs.Try
set_option linter.unusedSimpArgs false
set_option linter.unusedVariables false
open Go Go.Vs
def scOk (i : Nat) (x : ScopeD) : Bool := (bif i == 0 then x.par == -1 else (decide (0 ≤ x.par) && decide (x.par < (i : Int)))) && (decide (0 ≤ x.frm) && decide (x.frm ≤ x.til))
def nmOk (n : Nat) (l : List NameD) (i : Nat) (x : NameD) : Bool :=
 decide (0 ≤ x.scp) && (decide (x.scp < (n : Int)) && (decide (0 ≤ x.frm) && (decide (x.frm ≤ x.til) && (match i with | 0 => true | j + 1 => match l[j]? with | some y => decide (y.frm ≤ x.frm) | none => true))))
def okG (a : ScopesD) : Bool := !(a.all.isEmpty) && (allF scOk 0 a.all && (allF (nmOk a.all.length a.decl) 0 a.decl && allF (nmOk a.all.length a.uses) 0 a.uses))
structure Few (a : ScopesD) : Prop where
 all : a.all.length ≤ 1000
 decl : a.decl.length ≤ 1000
 uses : a.uses.length ≤ 1000
theorem dlt (a b : Int) : decide (a < b) = !decide (b ≤ a) := by rw [← decide_not]; exact decide_eq_decide.2 (by omega)
theorem dgt (a b : Int) : decide (a > b) = !decide (a ≤ b) := by rw [← decide_not]; exact decide_eq_decide.2 (by omega)
theorem dge (a b : Int) : decide (a ≥ b) = !decide (a < b) := by rw [← decide_not]; exact decide_eq_decide.2 (by omega)
theorem wS1 {i : Nat} (h : i < 4611686018427387904) : IntKind.wrap .i64 (((i + 1 : Nat) : Int) - 1) = (i : Int) := by rw [w_id (by omega)]; omega
theorem nb (x : Int) : (x != -1) = !(x == -1) := rfl
theorem l19 (a : ScopesD) (h : Few a) : runL (fun s => L19_0 a (a.all.length : Int) s) 0 = some (bif allF scOk 0 a.all then .k1 else .k0) := by
 have hl := h.all
 refine loop_list (step := fun s => L19_0 a (a.all.length : Int) s) (l := a.all) scOk (bad := E_L19_0.k0) (fin := .k1) (fun i x hx => ?_) (by simp only [L19_0, decide_eq_false (show ¬ (a.all.length : Int) < (a.all.length : Int) by omega), cond_false])
 have hi : i < a.all.length := (gei.1 hx).1
 simp only [L19_0, getI_nat, hx, bsm, decide_eq_true (show (i : Int) < (a.all.length : Int) by omega), cond_true, w_S (show i < 4611686018427387904 by omega)]
 match i with
 | 0 =>
  simp only [show (((0 : Nat) : Int) == 0) = true from rfl, show decide (((0 : Nat) : Int) > 0) = false from rfl, cond_true, cond_false, scOk, show ((0 : Nat) == 0) = true from rfl, dgt x.frm x.til, nb, dlt x.frm 0]
  cases x.par == -1 <;> cases decide (0 ≤ x.frm) <;> cases decide (x.frm ≤ x.til) <;> rfl
 | j + 1 =>
  have e1 : (((j + 1 : Nat) : Int) == 0) = false := by simpa using (by omega : ¬ ((j + 1 : Nat) : Int) = 0)
  have e2 : decide (((j + 1 : Nat) : Int) > 0) = true := decide_eq_true (by omega)
  simp only [e1, e2, cond_true, cond_false, scOk, show ((j + 1 : Nat) == 0) = false from rfl, dgt x.frm x.til, dge x.par ((j + 1 : Nat) : Int), dlt x.frm 0, dlt x.par 0]
  cases decide (0 ≤ x.par) <;> cases decide (x.par < ((j + 1 : Nat) : Int)) <;> cases decide (0 ≤ x.frm) <;> cases decide (x.frm ≤ x.til) <;> rfl
theorem prev {l : List NameD} {j : Nat} {x : NameD} (h : l[j + 1]? = some x) : ∃ y, l[j]? = some y := by
 have := (gei.1 h).1
 exact ⟨_, geg (by omega)⟩
theorem l31 (a : ScopesD) (h : Few a) : runL (fun s => L31_0 a (a.all.length : Int) (a.decl.length : Int) s) 0 = some (bif allF (nmOk a.all.length a.decl) 0 a.decl then .k1 else .k0) := by
 have hl := h.decl
 refine loop_list (step := fun s => L31_0 a (a.all.length : Int) (a.decl.length : Int) s) (l := a.decl) (nmOk a.all.length a.decl) (bad := E_L31_0.k0) (fin := .k1) (fun i x hx => ?_) (by simp only [L31_0, decide_eq_false (show ¬ (a.decl.length : Int) < (a.decl.length : Int) by omega), cond_false])
 have hi : i < a.decl.length := (gei.1 hx).1
 simp only [L31_0, getI_nat, hx, bsm, decide_eq_true (show (i : Int) < (a.decl.length : Int) by omega), cond_true, w_S (show i < 4611686018427387904 by omega), dlt x.scp 0, dge x.scp (a.all.length : Int), dlt x.frm 0, dgt x.frm x.til]
 match i, hx, hi with
 | 0, hx, _ =>
  simp only [show decide (((0 : Nat) : Int) > 0) = false from rfl, nmOk]
  cases decide (0 ≤ x.scp) <;> cases decide (x.scp < (a.all.length : Int)) <;> cases decide (0 ≤ x.frm) <;> cases decide (x.frm ≤ x.til) <;> rfl
 | j + 1, hx, hi =>
  obtain ⟨y, hy⟩ := prev hx
  simp only [decide_eq_true (show ((j + 1 : Nat) : Int) > 0 by omega), wS1 (show j < 4611686018427387904 by omega), getI_nat, hy, bsm, nmOk, dgt y.frm x.frm]
  cases decide (0 ≤ x.scp) <;> cases decide (x.scp < (a.all.length : Int)) <;> cases decide (0 ≤ x.frm) <;> cases decide (x.frm ≤ x.til) <;> cases decide (y.frm ≤ x.frm) <;> rfl
theorem l31_2 (a : ScopesD) (h : Few a) : runL (fun s => L31_0_2 a (a.all.length : Int) (a.uses.length : Int) s) 0 = some (bif allF (nmOk a.all.length a.uses) 0 a.uses then .k1 else .k0) := by
 have hl := h.uses
 refine loop_list (step := fun s => L31_0_2 a (a.all.length : Int) (a.uses.length : Int) s) (l := a.uses) (nmOk a.all.length a.uses) (bad := E_L31_0_2.k0) (fin := .k1) (fun i x hx => ?_) (by simp only [L31_0_2, decide_eq_false (show ¬ (a.uses.length : Int) < (a.uses.length : Int) by omega), cond_false])
 have hi : i < a.uses.length := (gei.1 hx).1
 simp only [L31_0_2, getI_nat, hx, bsm, decide_eq_true (show (i : Int) < (a.uses.length : Int) by omega), cond_true, w_S (show i < 4611686018427387904 by omega), dlt x.scp 0, dge x.scp (a.all.length : Int), dlt x.frm 0, dgt x.frm x.til]
 match i, hx, hi with
 | 0, hx, _ =>
  simp only [show decide (((0 : Nat) : Int) > 0) = false from rfl, nmOk]
  cases decide (0 ≤ x.scp) <;> cases decide (x.scp < (a.all.length : Int)) <;> cases decide (0 ≤ x.frm) <;> cases decide (x.frm ≤ x.til) <;> rfl
 | j + 1, hx, hi =>
  obtain ⟨y, hy⟩ := prev hx
  simp only [decide_eq_true (show ((j + 1 : Nat) : Int) > 0 by omega), wS1 (show j < 4611686018427387904 by omega), getI_nat, hy, bsm, nmOk, dgt y.frm x.frm]
  cases decide (0 ≤ x.scp) <;> cases decide (x.scp < (a.all.length : Int)) <;> cases decide (0 ≤ x.frm) <;> cases decide (x.frm ≤ x.til) <;> cases decide (y.frm ≤ x.frm) <;> rfl
theorem len0 (a : ScopesD) : ((a.all.length : Int) == 0) = a.all.isEmpty := by
 cases a.all with
 | nil => rfl
 | cons x l => simp; omega
theorem q19 (a : ScopesD) (h : Few a) : F19 a = some (bif okG a then 0 else 2) := by
 unfold F19 F31 F31_2 okG
 rw [l19 a h, l31 a h, l31_2 a h, len0]
 cases a.all.isEmpty <;> cases allF scOk 0 a.all <;> cases allF (nmOk a.all.length a.decl) 0 a.decl <;> cases allF (nmOk a.all.length a.uses) 0 a.uses <;> rfl
theorem l22 (a : ScopesD) (h : Few a) : runL (fun s => L22_0 a (a.all.length : Int) s) 0 = some (bif allF (nmOk a.all.length a.decl) 0 a.decl then .k1 else .k0) := by
 have hl := h.decl
 refine loop_list (step := fun s => L22_0 a (a.all.length : Int) s) (l := a.decl) (nmOk a.all.length a.decl) (bad := E_L22_0.k0) (fin := .k1) (fun i x hx => ?_) (by simp only [L22_0, decide_eq_false (show ¬ (a.decl.length : Int) < (a.decl.length : Int) by omega), cond_false])
 have hi : i < a.decl.length := (gei.1 hx).1
 simp only [L22_0, getI_nat, hx, bsm, decide_eq_true (show (i : Int) < (a.decl.length : Int) by omega), cond_true, w_S (show i < 4611686018427387904 by omega), dlt x.scp 0, dge x.scp (a.all.length : Int), dlt x.frm 0, dlt x.til x.frm]
 match i, hx, hi with
 | 0, hx, _ =>
  simp only [show decide (((0 : Nat) : Int) > 0) = false from rfl, nmOk]
  cases decide (0 ≤ x.scp) <;> cases decide (x.scp < (a.all.length : Int)) <;> cases decide (0 ≤ x.frm) <;> cases decide (x.frm ≤ x.til) <;> rfl
 | j + 1, hx, hi =>
  obtain ⟨y, hy⟩ := prev hx
  simp only [decide_eq_true (show ((j + 1 : Nat) : Int) > 0 by omega), wS1 (show j < 4611686018427387904 by omega), getI_nat, hy, bsm, nmOk, dlt x.frm y.frm]
  cases decide (0 ≤ x.scp) <;> cases decide (x.scp < (a.all.length : Int)) <;> cases decide (0 ≤ x.frm) <;> cases decide (x.frm ≤ x.til) <;> cases decide (y.frm ≤ x.frm) <;> rfl
theorem l22_2 (a : ScopesD) (h : Few a) : runL (fun s => L22_0_2 a (a.all.length : Int) s) 0 = some (bif allF (nmOk a.all.length a.uses) 0 a.uses then .k1 else .k0) := by
 have hl := h.uses
 refine loop_list (step := fun s => L22_0_2 a (a.all.length : Int) s) (l := a.uses) (nmOk a.all.length a.uses) (bad := E_L22_0_2.k0) (fin := .k1) (fun i x hx => ?_) (by simp only [L22_0_2, decide_eq_false (show ¬ (a.uses.length : Int) < (a.uses.length : Int) by omega), cond_false])
 have hi : i < a.uses.length := (gei.1 hx).1
 simp only [L22_0_2, getI_nat, hx, bsm, decide_eq_true (show (i : Int) < (a.uses.length : Int) by omega), cond_true, w_S (show i < 4611686018427387904 by omega), dlt x.scp 0, dge x.scp (a.all.length : Int), dlt x.frm 0, dlt x.til x.frm]
 match i, hx, hi with
 | 0, hx, _ =>
  simp only [show decide (((0 : Nat) : Int) > 0) = false from rfl, nmOk]
  cases decide (0 ≤ x.scp) <;> cases decide (x.scp < (a.all.length : Int)) <;> cases decide (0 ≤ x.frm) <;> cases decide (x.frm ≤ x.til) <;> rfl
 | j + 1, hx, hi =>
  obtain ⟨y, hy⟩ := prev hx
  simp only [decide_eq_true (show ((j + 1 : Nat) : Int) > 0 by omega), wS1 (show j < 4611686018427387904 by omega), getI_nat, hy, bsm, nmOk, dlt x.frm y.frm]
  cases decide (0 ≤ x.scp) <;> cases decide (x.scp < (a.all.length : Int)) <;> cases decide (0 ≤ x.frm) <;> cases decide (x.frm ≤ x.til) <;> cases decide (y.frm ≤ x.frm) <;> rfl
def scOk2 (i : Nat) (x : ScopeD) : Bool := (bif i == 0 then true else (decide (0 ≤ x.par) && decide (x.par < (i : Int)))) && (decide (0 ≤ x.frm) && decide (x.frm ≤ x.til))
theorem l10 (a : ScopesD) (h : Few a) : runL (fun s => L10_0 a s) 0 = some (bif allF scOk2 0 a.all then .k1 else .k0) := by
 have hl := h.all
 refine loop_list (step := fun s => L10_0 a s) (l := a.all) scOk2 (bad := E_L10_0.k0) (fin := .k1) (fun i x hx => ?_) (by simp only [L10_0, decide_eq_false (show ¬ (a.all.length : Int) < (a.all.length : Int) by omega), cond_false])
 have hi : i < a.all.length := (gei.1 hx).1
 simp only [L10_0, getI_nat, hx, bsm, decide_eq_true (show (i : Int) < (a.all.length : Int) by omega), cond_true, w_S (show i < 4611686018427387904 by omega)]
 match i with
 | 0 =>
  simp only [show decide (((0 : Nat) : Int) > 0) = false from rfl, cond_true, cond_false, scOk2, show ((0 : Nat) == 0) = true from rfl, dlt x.til x.frm, dlt x.frm 0]
  cases decide (0 ≤ x.frm) <;> cases decide (x.frm ≤ x.til) <;> rfl
 | j + 1 =>
  have e2 : decide (((j + 1 : Nat) : Int) > 0) = true := decide_eq_true (by omega)
  simp only [e2, cond_true, cond_false, scOk2, show ((j + 1 : Nat) == 0) = false from rfl, dlt x.til x.frm, dge x.par ((j + 1 : Nat) : Int), dlt x.frm 0, dlt x.par 0]
  cases decide (0 ≤ x.par) <;> cases decide (x.par < ((j + 1 : Nat) : Int)) <;> cases decide (0 ≤ x.frm) <;> cases decide (x.frm ≤ x.til) <;> rfl
theorem allF_congr {α : Type} {p q : Nat → α → Bool} : ∀ (l : List α) (i : Nat), (∀ k x, l[k]? = some x → p (i + k) x = q (i + k) x) → allF p i l = allF q i l
 | [], _, _ => rfl
 | x :: l, i, h => by
  simp only [allF]
  have e1 : p i x = q i x := h 0 x rfl
  have e2 : allF p (i + 1) l = allF q (i + 1) l := allF_congr l (i + 1) (fun k y hy => by
   have := h (k + 1) y (by simpa using hy)
   rwa [show i + (k + 1) = i + 1 + k by omega] at this)
  rw [e1, e2]
theorem q10 (a : ScopesD) (h : Few a) : F10 a = some (okG a) := by
 unfold F10 F22 F22_2 okG
 rw [l10 a h, l22 a h, l22_2 a h, len0]
 cases hl : a.all with
 | nil => rfl
 | cons x l =>
  have e : allF scOk 0 (x :: l) = ((x.par == -1) && allF scOk2 0 (x :: l)) := by
   simp only [allF]
   have e2 : allF scOk 1 l = allF scOk2 1 l := allF_congr l 1 (fun k y _ => by
    unfold scOk scOk2
    rw [show (1 + k == 0) = false from beq_false_of_ne (by omega)]
    rfl)
   rw [Nat.zero_add, e2]
   unfold scOk scOk2
   cases x.par == -1 <;> rfl
  have e0 : getI (x :: l) 0 = some x := rfl
  rw [e, e0]
  simp only [List.isEmpty_cons, cond_false, bsm, nb]
  cases x.par == -1 <;> cases allF scOk2 0 (x :: l) <;> cases allF (nmOk (x :: l).length a.decl) 0 a.decl <;> cases allF (nmOk (x :: l).length a.uses) 0 a.uses <;> rfl
def hitP (v : Int) (u x : NameD) : Bool := x.scp == v && (x.spc.toList == u.spc.toList && x.txt.toList == u.txt.toList)
def inds (p : NameD → Bool) : List NameD → Nat → List Int
 | [], _ => []
 | x :: l, i => (bif p x then [(i : Int)] else []) ++ inds p l (i + 1)
theorem hitP_key (v : Int) (u x : NameD) : hitP v u x = decide ((v, u.spc, u.txt) = keyN x) := by
 unfold hitP keyN
 rw [bytes_list, bytes_list]
 have e : ((v, u.spc, u.txt) = (x.scp, x.spc, x.txt)) ↔ (x.scp = v ∧ x.spc = u.spc ∧ x.txt = u.txt) := by
  simp only [Prod.mk.injEq]
  exact ⟨fun ⟨p, q, r⟩ => ⟨p.symm, q.symm, r.symm⟩, fun ⟨p, q, r⟩ => ⟨p.symm, q.symm, r.symm⟩⟩
 rw [decide_eq_decide.2 e, Bool.decide_and, Bool.decide_and]
 rfl
theorem found_get (v : Int) (u : NameD) : ∀ (l : List NameD) (j : Nat) (pl : List (Key × List Int)), mget ([] : List Int) (foundL l j pl) (v, u.spc, u.txt) = mget [] pl (v, u.spc, u.txt) ++ inds (hitP v u) l j
 | [], j, pl => by simp [foundL, inds]
 | x :: l, j, pl => by
  unfold foundL inds
  rw [found_get v u l (j + 1) _, hitP_key]
  unfold fput
  rw [mget_mput]
  by_cases h : (v, u.spc, u.txt) = keyN x
  ·rw [if_pos h, ← h, decide_eq_true rfl, cond_true, List.append_assoc]
  ·rw [if_neg h, decide_eq_false h, cond_false, List.nil_append]
theorem inds_len (p : NameD → Bool) : ∀ (l : List NameD) (i : Nat), (inds p l i).length ≤ l.length
 | [], _ => Nat.le_refl _
 | x :: l, i => by
  have := inds_len p l (i + 1)
  unfold inds
  cases p x <;> simp <;> omega
inductive Mean (a : ScopesD) (u : NameD) : Int → List Int → Prop
 | none {v : Int} : v < 0 → Mean a u v []
 | here {v : Int} : 0 ≤ v → inds (hitP v u) a.decl 0 ≠ [] → Mean a u v (inds (hitP v u) a.decl 0)
 | up {v : Int} {x : ScopeD} {l : List Int} : 0 ≤ v → inds (hitP v u) a.decl 0 = [] → getI a.all v = some x → Mean a u x.par l → Mean a u v l
theorem Mean.inds {a : ScopesD} {u : NameD} {v : Int} {l : List Int} (h : Mean a u v l) : l = [] ∨ ∃ w, l = inds (hitP w u) a.decl 0 ∧ l ≠ [] := by
 induction h with
 | none _ => exact .inl rfl
 | here _ h => exact .inr ⟨_, rfl, h⟩
 | up _ _ _ _ ih => exact ih
theorem Mean.len {a : ScopesD} {u : NameD} {v : Int} {l : List Int} (h : Mean a u v l) : l.length ≤ a.decl.length := by
 rcases h.inds with rfl | ⟨w, e, _⟩
 ·simp
 ·rw [e]; exact inds_len _ _ _
theorem okG_all {a : ScopesD} (h : okG a = true) : allF scOk 0 a.all = true := by
 unfold okG at h
 simp only [Bool.and_eq_true] at h
 exact h.2.1
theorem par_lt {a : ScopesD} (h : okG a = true) {i : Nat} {x : ScopeD} (hx : a.all[i]? = some x) : x.par < (i : Int) := by
 have := (allF_iff a.all 0).1 (okG_all h) i x hx
 rw [Nat.zero_add] at this
 unfold scOk at this
 simp only [Bool.and_eq_true] at this
 have h1 := this.1
 by_cases h0 : i = 0
 ·subst h0
  simp at h1
  omega
 ·rw [beq_false_of_ne h0, cond_false] at h1
  simp only [Bool.and_eq_true, decide_eq_true_eq] at h1
  exact h1.2
theorem mean_tot {a : ScopesD} (h : okG a = true) (u : NameD) : ∀ (n : Nat) (v : Int), v < (n : Int) → v < (a.all.length : Int) → ∃ l, Mean a u v l
 | 0, v, h1, _ => ⟨[], .none (by omega)⟩
 | n + 1, v, h1, h2 => by
  by_cases h0 : v < 0
  ·exact ⟨[], .none h0⟩
  ·by_cases hi : inds (hitP v u) a.decl 0 = []
   ·obtain ⟨i, rfl⟩ : ∃ i : Nat, v = (i : Int) := ⟨v.toNat, by omega⟩
    have hx : a.all[i]? = some (a.all[i]'(by omega)) := geg _
    generalize a.all[i]'(by omega) = x at hx
    have hp := par_lt h hx
    obtain ⟨l, hl⟩ := mean_tot h u n x.par (by omega) (by omega)
    exact ⟨l, .up (by omega) hi (by rw [getI_nat]; exact hx) hl⟩
   ·exact ⟨_, .here (by omega) hi⟩
theorem clOk_small {n : Nat} (h : n ≤ 1000) : clOk n 8 = true := decide_eq_true ⟨by unfold limit47; omega, by unfold limit47; omega⟩
theorem apS {n b : Nat} (h : n ≤ 1000) (hb : b ≤ 100) : apOk n 1 n b = true := by
 refine decide_eq_true ⟨Nat.le_refl _, ?_, by unfold limit47; omega⟩
 have := Nat.mul_le_mul (show n + 1 ≤ 1001 by omega) hb
 unfold limit47
 omega
theorem no_room (n : Nat) : decide (n + 1 ≤ n) = false := decide_eq_false (by omega)
theorem put_end {α : Type} (l : List α) (x : α) : l.take l.length ++ [x] = l ++ [x] := by rw [tkl]
abbrev nm (p q : ByteArray) : NameD := ⟨0, p, q, 0, 0⟩
theorem l34 {a : ScopesD} (hf : Few a) {p q : ByteArray} {v : Int} {l : List Int} (h : Mean a (nm p q) v l) :
  (l = [] ∧ ∃ w, runL (fun s => L34_0 a (foundL a.decl 0 []) p q s) v = some (.k1 w)) ∨ (l ≠ [] ∧ ∃ w, runL (fun s => L34_0 a (foundL a.decl 0 []) p q s) v = some (.k0 (gnz l) l.length w l)) := by
 have hg : ∀ v, mget ([] : List Int) (foundL a.decl 0 []) (v, p, q) = inds (hitP v (nm p q)) a.decl 0 := fun v => by
  have := found_get v (nm p q) a.decl 0 []
  rw [show ((v, (nm p q).spc, (nm p q).txt) : Key) = (v, p, q) from rfl] at this
  rw [this]
  rfl
 induction h with
 | @none v h =>
  refine .inl ⟨rfl, v, runL_done ?_⟩
  simp only [L34_0, decide_eq_false (show ¬ v ≥ 0 by omega), cond_false]
 | @here v h0 hi =>
  refine .inr ⟨hi, v, runL_done ?_⟩
  have hl := inds_len (hitP v (nm p q)) a.decl 0
  have hd := hf.decl
  have hn : (inds (hitP v (nm p q)) a.decl 0).length ≠ 0 := fun h => hi (List.length_eq_zero_iff.1 h)
  simp only [L34_0, Y25_0_2, hg, decide_eq_true (show v ≥ 0 from h0), decide_eq_true (show ((inds (hitP v (nm p q)) a.decl 0).length : Int) > 0 by omega), cond_true, clOk_small (show (inds (hitP v (nm p q)) a.decl 0).length ≤ 1000 by omega), bsm]
 | @up v x l h0 hi hx hm ih =>
  have hs : L34_0 a (foundL a.decl 0 []) p q v = some (.inr x.par) := by
   simp only [L34_0, Y25_0_2, hg, hi, decide_eq_true (show v ≥ 0 from h0), List.length_nil, show decide (((0 : Nat) : Int) > 0) = false from rfl, cond_true, cond_false, bsm, hx]
  rcases ih with ⟨h1, w, h2⟩ | ⟨h1, w, h2⟩
  ·exact .inl ⟨h1, w, by rw [runL_next hs]; exact h2⟩
  ·exact .inr ⟨h1, w, by rw [runL_next hs]; exact h2⟩
theorem q25 {a : ScopesD} (hf : Few a) {p q : ByteArray} {n : Int} {l : List Int} (h : Mean a (nm p q) n l) :
  (l = [] ∧ ∃ w, F25 a n p q (foundL a.decl 0 []) = some (.k1 w)) ∨ (l ≠ [] ∧ ∃ w, F25 a n p q (foundL a.decl 0 []) = some (.k0 (gnz l) l.length w l)) := by
 unfold F25
 rcases l34 hf h with ⟨h1, w, h2⟩ | ⟨h1, w, h2⟩
 ·refine .inl ⟨h1, w, ?_⟩
  rw [runL_done (e := .k1 w) (by
   show L25_1 n a p q (foundL a.decl 0 []) = _
   unfold L25_1 F28 F34
   simp only [bsm]
   rw [show (⟨a.all, a.decl, a.uses⟩ : ScopesD) = a from rfl, h2]
   rfl)]
  rfl
 ·refine .inr ⟨h1, w, ?_⟩
  rw [runL_done (e := .k0 (gnz l) l.length w l) (by
   show L25_1 n a p q (foundL a.decl 0 []) = _
   unfold L25_1 F28 F34
   simp only [bsm]
   rw [show (⟨a.all, a.decl, a.uses⟩ : ScopesD) = a from rfl, h2]
   rfl)]
  rfl
theorem q27 {a : ScopesD} (hf : Few a) (n : Int) : F27 a n = some (bif okG a then (bif decide (n < 0) then 4 else (bif decide (n ≥ (a.all.length : Int)) then 4 else 0)) else 2) := by
 unfold F27
 rw [q19 a hf]
 cases okG a with
 | false => rfl
 | true =>
  simp only [bsm, cond_true, show ((0 : Int) != 0) = false from rfl, cond_false]
  cases decide (n < 0) <;> cases decide (n ≥ (a.all.length : Int)) <;> rfl
theorem q16 {a : ScopesD} (hf : Few a) (hk : okG a = true) {n : Int} (h0 : 0 ≤ n) (h1 : n < (a.all.length : Int)) {p q : ByteArray} {l : List Int} (h : Mean a (nm p q) n l) : F16 a n p q = some (.k0 l 0) := by
 unfold F16
 have hd := hf.decl
 rw [q27 hf, hk, decide_eq_false (show ¬ n < 0 by omega), decide_eq_false (show ¬ n ≥ (a.all.length : Int) by omega)]
 simp only [bsm, cond_true, cond_false, show ((0 : Int) != 0) = false from rfl, decide_eq_true (show a.decl.length ≤ 1000000 by omega)]
 rcases q25 hf h with ⟨e1, w, e2⟩ | ⟨e1, w, e2⟩
 ·rw [e2, e1]; rfl
 ·rw [e2]
  simp only [bsm, decide_eq_true (Nat.le_refl l.length), cond_true, tkl]
theorem l15_0A {a : ScopesD} (hf : Few a) (p q : ByteArray) (v : Int) : ∃ g, runL (fun s => L15_0 p q a v s.1 s.2.1 s.2.2.1 s.2.2.2) (0, 0, 0, []) = some (.k0 g (inds (hitP v (nm p q)) a.decl 0).length (inds (hitP v (nm p q)) a.decl 0)) := by
 have hd := hf.decl
 obtain ⟨⟨g, row⟩, h1, h2, h3⟩ := loop_inv0 (step := fun s => L15_0 p q a v s.1 s.2.1 s.2.2.1 s.2.2.2) (l := a.decl) (fun i (b : Nat × List Int) => (b.1, b.2.length, (i : Int), b.2)) (fun b => E_L15_0.k0 b.1 b.2.length b.2)
  (fun i b => b.2 ++ inds (hitP v (nm p q)) (a.decl.drop i) i = inds (hitP v (nm p q)) a.decl 0 ∧ b.2.length ≤ i) (fun i x b hx hb => by
   have hi : i < a.decl.length := (gei.1 hx).1
   have hdr : a.decl.drop i = x :: a.decl.drop (i + 1) := by rw [List.drop_eq_getElem_cons hi, (gei.1 hx).2]
   obtain ⟨b1, b2⟩ := hb
   rw [hdr, show inds (hitP v (nm p q)) (x :: a.decl.drop (i + 1)) i = (bif hitP v (nm p q) x then [(i : Int)] else []) ++ inds (hitP v (nm p q)) (a.decl.drop (i + 1)) (i + 1) from rfl] at b1
   rw [← List.append_assoc] at b1
   refine ⟨(bif hitP v (nm p q) x then b.1 + 1 else b.1, b.2 ++ (bif hitP v (nm p q) x then [(i : Int)] else [])), ?_, b1, by cases hitP v (nm p q) x <;> simp <;> omega⟩
   simp only [L15_0, getI_nat, hx, bsm, decide_eq_true (show (i : Int) < (a.decl.length : Int) by omega), cond_true, w_S (show i < 4611686018427387904 by omega), apS (show b.2.length ≤ 1000 by omega) (show 8 ≤ 100 by omega), no_room, cond_false, put_end, hitP]
   cases x.scp == v <;> cases x.spc.toList == p.toList <;> cases x.txt.toList == q.toList <;> simp)
  (fun b hb => by simp only [L15_0, decide_eq_false (show ¬ (a.decl.length : Int) < (a.decl.length : Int) by omega), cond_false]) (a := (0, [])) ⟨by simp, by simp⟩
 rw [List.drop_length] at h2
 have h2 : row = inds (hitP v (nm p q)) a.decl 0 := by rw [← h2]; simp [inds]
 refine ⟨g, ?_⟩
 rw [← h2]
 exact h1
theorem l15A {a : ScopesD} (hf : Few a) {p q : ByteArray} {v : Int} {l : List Int} (h : Mean a (nm p q) v l) : (l = [] ∧ runL (fun s => L15_1_2 p q a s) v = some .k1) ∨ (l ≠ [] ∧ ∃ g, runL (fun s => L15_1_2 p q a s) v = some (.k0 g l.length l)) := by
 induction h with
 | @none v h =>
  refine .inl ⟨rfl, runL_done ?_⟩
  simp only [L15_1_2, decide_eq_false (show ¬ v ≥ 0 by omega), cond_false]
 | @here v h0 hi =>
  obtain ⟨g, hg⟩ := l15_0A hf p q v
  refine .inr ⟨hi, g, runL_done ?_⟩
  have hn : (inds (hitP v (nm p q)) a.decl 0).length ≠ 0 := fun h => hi (List.length_eq_zero_iff.1 h)
  simp only [L15_1_2, hg, decide_eq_true (show v ≥ 0 from h0), decide_eq_true (show (((inds (hitP v (nm p q)) a.decl 0).length : Nat) : Int) > 0 by omega), cond_true, bsm]
 | @up v x l h0 hi hx hm ih =>
  obtain ⟨g, hg⟩ := l15_0A hf p q v
  rw [hi] at hg
  have hs : L15_1_2 p q a v = some (.inr x.par) := by
   simp only [L15_1_2, hg, decide_eq_true (show v ≥ 0 from h0), List.length_nil, show decide (((0 : Nat) : Int) > 0) = false from rfl, cond_true, cond_false, bsm, hx]
  rcases ih with ⟨h1, h2⟩ | ⟨h1, w, h2⟩
  ·exact .inl ⟨h1, by rw [runL_next hs]; exact h2⟩
  ·exact .inr ⟨h1, w, by rw [runL_next hs]; exact h2⟩
theorem q15A {a : ScopesD} (hf : Few a) {p q : ByteArray} {n : Int} {l : List Int} (h : Mean a (nm p q) n l) : F15_2 a n p q = some l := by
 unfold F15_2
 rcases l15A hf h with ⟨h1, h2⟩ | ⟨h1, g, h2⟩
 ·rw [h2, h1]; rfl
 ·rw [h2]
  simp only [bsm, decide_eq_true (Nat.le_refl l.length), cond_true, tkl]
theorem l15_0B {a : ScopesD} (hf : Few a) (p : ByteArray) (d : NameD) (v : Int) : ∃ g, runL (fun s => L15_0_3 p d a v s.1 s.2.1 s.2.2.1 s.2.2.2) (0, 0, 0, []) = some (.k0 g (inds (hitP v (nm p d.txt)) a.decl 0).length (inds (hitP v (nm p d.txt)) a.decl 0)) := by
 have hd := hf.decl
 obtain ⟨⟨g, row⟩, h1, h2, h3⟩ := loop_inv0 (step := fun s => L15_0_3 p d a v s.1 s.2.1 s.2.2.1 s.2.2.2) (l := a.decl) (fun i (b : Nat × List Int) => (b.1, b.2.length, (i : Int), b.2)) (fun b => E_L15_0_3.k0 b.1 b.2.length b.2)
  (fun i b => b.2 ++ inds (hitP v (nm p d.txt)) (a.decl.drop i) i = inds (hitP v (nm p d.txt)) a.decl 0 ∧ b.2.length ≤ i) (fun i x b hx hb => by
   have hi : i < a.decl.length := (gei.1 hx).1
   have hdr : a.decl.drop i = x :: a.decl.drop (i + 1) := by rw [List.drop_eq_getElem_cons hi, (gei.1 hx).2]
   obtain ⟨b1, b2⟩ := hb
   rw [hdr, show inds (hitP v (nm p d.txt)) (x :: a.decl.drop (i + 1)) i = (bif hitP v (nm p d.txt) x then [(i : Int)] else []) ++ inds (hitP v (nm p d.txt)) (a.decl.drop (i + 1)) (i + 1) from rfl] at b1
   rw [← List.append_assoc] at b1
   refine ⟨(bif hitP v (nm p d.txt) x then b.1 + 1 else b.1, b.2 ++ (bif hitP v (nm p d.txt) x then [(i : Int)] else [])), ?_, b1, by cases hitP v (nm p d.txt) x <;> simp <;> omega⟩
   simp only [L15_0_3, getI_nat, hx, bsm, decide_eq_true (show (i : Int) < (a.decl.length : Int) by omega), cond_true, w_S (show i < 4611686018427387904 by omega), apS (show b.2.length ≤ 1000 by omega) (show 8 ≤ 100 by omega), no_room, cond_false, put_end, hitP]
   cases x.scp == v <;> cases x.spc.toList == p.toList <;> cases x.txt.toList == d.txt.toList <;> simp)
  (fun b hb => by simp only [L15_0_3, decide_eq_false (show ¬ (a.decl.length : Int) < (a.decl.length : Int) by omega), cond_false]) (a := (0, [])) ⟨by simp, by simp⟩
 rw [List.drop_length] at h2
 have h2 : row = inds (hitP v (nm p d.txt)) a.decl 0 := by rw [← h2]; simp [inds]
 refine ⟨g, ?_⟩
 rw [← h2]
 exact h1
theorem l15B {a : ScopesD} (hf : Few a) {p : ByteArray} {d : NameD} {v : Int} {l : List Int} (h : Mean a (nm p d.txt) v l) : (l = [] ∧ runL (fun s => L15_1_3 p d a s) v = some .k1) ∨ (l ≠ [] ∧ ∃ g, runL (fun s => L15_1_3 p d a s) v = some (.k0 g l.length l)) := by
 induction h with
 | @none v h =>
  refine .inl ⟨rfl, runL_done ?_⟩
  simp only [L15_1_3, decide_eq_false (show ¬ v ≥ 0 by omega), cond_false]
 | @here v h0 hi =>
  obtain ⟨g, hg⟩ := l15_0B hf p d v
  refine .inr ⟨hi, g, runL_done ?_⟩
  have hn : (inds (hitP v (nm p d.txt)) a.decl 0).length ≠ 0 := fun h => hi (List.length_eq_zero_iff.1 h)
  simp only [L15_1_3, hg, decide_eq_true (show v ≥ 0 from h0), decide_eq_true (show (((inds (hitP v (nm p d.txt)) a.decl 0).length : Nat) : Int) > 0 by omega), cond_true, bsm]
 | @up v x l h0 hi hx hm ih =>
  obtain ⟨g, hg⟩ := l15_0B hf p d v
  rw [hi] at hg
  have hs : L15_1_3 p d a v = some (.inr x.par) := by
   simp only [L15_1_3, hg, decide_eq_true (show v ≥ 0 from h0), List.length_nil, show decide (((0 : Nat) : Int) > 0) = false from rfl, cond_true, cond_false, bsm, hx]
  rcases ih with ⟨h1, h2⟩ | ⟨h1, w, h2⟩
  ·exact .inl ⟨h1, by rw [runL_next hs]; exact h2⟩
  ·exact .inr ⟨h1, w, by rw [runL_next hs]; exact h2⟩
theorem q15B {a : ScopesD} (hf : Few a) {p : ByteArray} {d : NameD} {n : Int} {l : List Int} (h : Mean a (nm p d.txt) n l) : F15_3 a n p d = some l := by
 unfold F15_3
 rcases l15B hf h with ⟨h1, h2⟩ | ⟨h1, g, h2⟩
 ·rw [h2, h1]; rfl
 ·rw [h2]
  simp only [bsm, decide_eq_true (Nat.le_refl l.length), cond_true, tkl]
def txts (p : ByteArray) (v : Int) (l : List NameD) : List ByteArray := (l.filter fun x => x.scp == v && x.spc.toList == p.toList).map (·.txt)
inductive Vis (a : ScopesD) (p : ByteArray) : Int → List ByteArray → Prop
 | none {v : Int} : v < 0 → Vis a p v []
 | up {v : Int} {x : ScopeD} {l : List ByteArray} : 0 ≤ v → getI a.all v = some x → Vis a p x.par l → Vis a p v (txts p v a.decl ++ l)
theorem txts_cons (p : ByteArray) (v : Int) (x : NameD) (l : List NameD) : txts p v (x :: l) = (bif x.scp == v && x.spc.toList == p.toList then [x.txt] else []) ++ txts p v l := by
 unfold txts
 rw [List.filter_cons]
 cases x.scp == v && x.spc.toList == p.toList <;> rfl
theorem txts_len (p : ByteArray) (v : Int) (l : List NameD) : (txts p v l).length ≤ l.length := by
 unfold txts
 rw [List.length_map]
 exact List.length_filter_le _ _
theorem txts_mem {p t : ByteArray} {v : Int} : ∀ (l : List NameD) (i : Nat), inds (hitP v (nm p t)) l i ≠ [] ↔ t ∈ txts p v l
 | [], i => by simp [inds, txts]
 | x :: l, i => by
  have ih := txts_mem (p := p) (t := t) (v := v) l (i + 1)
  rw [txts_cons, List.mem_append, ← ih]
  show (bif hitP v (nm p t) x then [(i : Int)] else []) ++ inds (hitP v (nm p t)) l (i + 1) ≠ [] ↔ _
  have e : hitP v (nm p t) x = ((x.scp == v && x.spc.toList == p.toList) && x.txt.toList == t.toList) := by
   unfold hitP
   show (x.scp == v && (x.spc.toList == p.toList && x.txt.toList == t.toList)) = _
   rw [Bool.and_assoc]
  rw [e]
  cases x.scp == v && x.spc.toList == p.toList with
  | false => simp
  | true =>
   rw [Bool.true_and, bytes_list]
   by_cases h : x.txt = t
   ·simp [h]
   ·rw [decide_eq_false h]
    have : ¬ t = x.txt := fun e => h e.symm
    simp [this]
theorem vis_mean {a : ScopesD} {p : ByteArray} {v : Int} {l : List ByteArray} (h : Vis a p v l) : ∀ {t : ByteArray} {m : List Int}, Mean a (nm p t) v m → (m ≠ [] ↔ t ∈ l) := by
 induction h with
 | none h0 =>
  intro t m hm
  cases hm with
  | none _ => simp
  | here h1 _ => omega
  | up h1 _ _ _ => omega
 | up h0 hx hv ih =>
  intro t m hm
  rw [List.mem_append, ← txts_mem a.decl 0]
  cases hm with
  | none h1 => omega
  | here _ h1 => exact ⟨fun _ => .inl h1, fun _ => h1⟩
  | up _ h1 hx' hm' =>
   rw [hx] at hx'
   cases hx'
   rw [ih hm']
   exact ⟨fun h => .inr h, fun h => h.elim (fun h => absurd h1 h) id⟩
theorem vis_tot {a : ScopesD} (h : okG a = true) (p : ByteArray) : ∀ (n : Nat) (v : Int), v < (n : Int) → v < (a.all.length : Int) → ∃ l, Vis a p v l ∧ l.length ≤ n * a.decl.length
 | 0, v, h1, _ => ⟨[], .none (by omega), by simp⟩
 | n + 1, v, h1, h2 => by
  by_cases h0 : v < 0
  ·exact ⟨[], .none h0, by simp⟩
  ·obtain ⟨i, rfl⟩ : ∃ i : Nat, v = (i : Int) := ⟨v.toNat, by omega⟩
   have hx : a.all[i]? = some (a.all[i]'(by omega)) := geg _
   generalize a.all[i]'(by omega) = x at hx
   have hp := par_lt h hx
   obtain ⟨l, hl, hn⟩ := vis_tot h p n x.par (by omega) (by omega)
   refine ⟨_, .up (by omega) (by rw [getI_nat]; exact hx) hl, ?_⟩
   have := txts_len p (i : Int) a.decl
   rw [lap, Nat.succ_mul]
   omega
theorem apT {n k b : Nat} (h : n + k ≤ 100000) (hb : b ≤ 100) : apOk n k n b = true := by
 refine decide_eq_true ⟨Nat.le_refl _, ?_, by unfold limit47; omega⟩
 have := Nat.mul_le_mul (show n + k ≤ 100000 by omega) hb
 unfold limit47
 omega
theorem l17 {a : ScopesD} (hf : Few a) (p : ByteArray) (v : Int) (g : Nat) (row : List ByteArray) (hr : row.length ≤ 50000) :
  ∃ g', runL (fun s => L17_0_3 a p v (a.decl.length : Int) s.1 s.2.1 s.2.2.1 s.2.2.2) (0, g, row, row.length) = some (.k0 g' (row ++ txts p v a.decl) (row ++ txts p v a.decl).length) := by
 have hd := hf.decl
 obtain ⟨⟨g', row'⟩, h1, h2, h3⟩ := loop_inv0 (step := fun s => L17_0_3 a p v (a.decl.length : Int) s.1 s.2.1 s.2.2.1 s.2.2.2) (l := a.decl) (fun i (b : Nat × List ByteArray) => ((i : Int), b.1, b.2, b.2.length)) (fun b => E_L17_0_3.k0 b.1 b.2 b.2.length)
  (fun i b => b.2 ++ txts p v (a.decl.drop i) = row ++ txts p v a.decl ∧ b.2.length ≤ row.length + i) (fun i x b hx hb => by
   have hi : i < a.decl.length := (gei.1 hx).1
   have hdr : a.decl.drop i = x :: a.decl.drop (i + 1) := by rw [List.drop_eq_getElem_cons hi, (gei.1 hx).2]
   obtain ⟨b1, b2⟩ := hb
   rw [hdr, txts_cons, ← List.append_assoc] at b1
   refine ⟨(bif x.scp == v && x.spc.toList == p.toList then b.1 + 1 else b.1, b.2 ++ (bif x.scp == v && x.spc.toList == p.toList then [x.txt] else [])), ?_, b1, by cases x.scp == v && x.spc.toList == p.toList <;> simp <;> omega⟩
   simp only [L17_0_3, getI_nat, hx, bsm, decide_eq_true (show (i : Int) < (a.decl.length : Int) by omega), cond_true, w_S (show i < 4611686018427387904 by omega), apT (show b.2.length + 1 ≤ 100000 by omega) (show 16 ≤ 100 by omega), no_room, cond_false, put_end]
   cases x.scp == v <;> cases x.spc.toList == p.toList <;> simp)
  (fun b hb => by simp only [L17_0_3, decide_eq_false (show ¬ (a.decl.length : Int) < (a.decl.length : Int) by omega), cond_false]) (a := (g, row)) ⟨by simp, by simp⟩
 rw [List.drop_length] at h2
 have h2 : row' = row ++ txts p v a.decl := by rw [← h2]; simp [txts]
 refine ⟨g', ?_⟩
 rw [← h2]
 exact h1
theorem l34v {a : ScopesD} (hf : Few a) {p : ByteArray} {v : Int} {l : List ByteArray} (h : Vis a p v l) : ∀ (g : Nat) (row : List ByteArray), row.length + l.length ≤ 50000 →
  ∃ g' w, runL (fun s => L34_0_4 a a p s.1 s.2.1 s.2.2.1 s.2.2.2) (g, row, row.length, v) = some (.k0 g' (row ++ l) (row ++ l).length w) := by
 induction h with
 | @none v h0 =>
  intro g row hr
  refine ⟨g, v, ?_⟩
  rw [List.append_nil]
  refine runL_done ?_
  simp only [L34_0_4, decide_eq_false (show ¬ v ≥ 0 by omega), cond_false]
 | @up v x l h0 hx hv ih =>
  intro g row hr
  rw [lap] at hr
  obtain ⟨g1, hg⟩ := l17 hf p v g row (by omega)
  obtain ⟨g2, w, h2⟩ := ih g1 (row ++ txts p v a.decl) (by rw [lap]; omega)
  refine ⟨g2, w, ?_⟩
  rw [← List.append_assoc, ← h2]
  refine runL_next ?_
  simp only [L34_0_4, Y17_1_3, decide_eq_true (show v ≥ 0 from h0), cond_true, hg, bsm, hx]
theorem set_out (L : List ByteArray) : (cmpR (srtR L L.length) L.length).take (cmpN (srtR L L.length) L.length) = setB L ∧ cmpN (srtR L L.length) L.length ≤ (cmpR (srtR L L.length) L.length).length ∧ (srtR L L.length).length = L.length := by
 have e : srtR L L.length = srtB L := by unfold srtR; rw [tkl, List.drop_length, List.append_nil]
 rw [e]
 have e2 : (srtB L).take L.length = srtB L := List.take_of_length_le (Nat.le_of_eq (srtB_len L))
 have e3 : cmpN (srtB L) L.length = (cmpB (srtB L)).length := by unfold cmpN; rw [e2]
 have e4 : cmpR (srtB L) L.length = cmpB (srtB L) ++ (List.replicate (L.length - (cmpB (srtB L)).length) (toB []) ++ (srtB L).drop L.length) := by unfold cmpR; rw [e2, List.append_assoc]
 rw [e3, e4]
 exact ⟨List.take_left, by simp, srtB_len L⟩
theorem q17 {a : ScopesD} (hf : Few a) (hk : okG a = true) {n : Int} (h0 : 0 ≤ n) (h1 : n < (a.all.length : Int)) {p : ByteArray} {L : List ByteArray} (h : Vis a p n L) (hL : L.length ≤ 50000) : F17 a n p = some (.k0 (setB L) 0) := by
 unfold F17
 rw [q27 hf, hk, decide_eq_false (show ¬ n < 0 by omega), decide_eq_false (show ¬ n ≥ (a.all.length : Int) by omega)]
 simp only [bsm, cond_true, cond_false, show ((0 : Int) != 0) = false from rfl]
 unfold F28_4 F34_4
 simp only [bsm]
 rw [show (⟨a.all, a.decl, a.uses⟩ : ScopesD) = a from rfl]
 obtain ⟨g, w, e⟩ := l34v hf h 0 [] (by simpa using hL)
 rw [List.nil_append, List.length_nil] at e
 rw [e]
 obtain ⟨s1, s2, s3⟩ := set_out L
 simp only [bsm, F29_2, decide_eq_true (show L.length ≤ L.length ∧ L.length ≤ 1000000 from ⟨Nat.le_refl _, by omega⟩), cond_true, decide_eq_true (show L.length ≤ (srtR L L.length).length ∧ (srtR L L.length).length ≤ 1000000 by rw [s3]; exact ⟨Nat.le_refl _, by omega⟩), decide_eq_true s2, s1]
theorem q30 {a : ScopesD} (hf : Few a) : F30 [a.decl, a.uses] = some (a.decl ++ a.uses) := by
 have hd := hf.decl
 have hu := hf.uses
 have w1 : IntKind.wrap .i64 (0 + (a.decl.length : Int)) = (a.decl.length : Int) := by rw [w_id (by omega)]; omega
 have w2 : IntKind.wrap .i64 ((a.decl.length : Int) + (a.uses.length : Int)) = ((a.decl.length + a.uses.length : Nat) : Int) := by rw [w_id (by omega)]; omega
 have g0 : getI [a.decl, a.uses] 0 = some a.decl := rfl
 have g1 : getI [a.decl, a.uses] 1 = some a.uses := rfl
 have v1 : IntKind.wrap .i64 ((0 : Int) + 1) = 1 := by rw [w_id (by omega)]; rfl
 have v2 : IntKind.wrap .i64 ((1 : Int) + 1) = 2 := by rw [w_id (by omega)]; rfl
 have a1 : runL (fun s => L30_1 [a.decl, a.uses] (([a.decl, a.uses] : List Names).length : Int) s.1 s.2) (0, 0) = some (.k0 ((a.decl.length + a.uses.length : Nat) : Int)) := by
  rw [runL_next (s' := ((a.decl.length : Int), 1)) (by
   simp only [L30_1, g0, bsm, w1, v1, decide_eq_false (show ¬ (a.decl.length : Int) < 0 by omega), cond_false]
   rfl)]
  rw [runL_next (s' := (((a.decl.length + a.uses.length : Nat) : Int), 2)) (by
   simp only [L30_1, g1, bsm, w2, v2, decide_eq_false (show ¬ ((a.decl.length + a.uses.length : Nat) : Int) < 0 by omega), cond_false]
   rfl)]
  exact runL_done rfl
 have a2 : ∃ g, runL (fun s => L30_0 [a.decl, a.uses] (([a.decl, a.uses] : List Names).length : Int) s.1 s.2.1 s.2.2.1 s.2.2.2) (0, 0, 0, []) = some (.k0 g (a.decl.length + a.uses.length) (a.decl ++ a.uses)) := by
  have b1 : ∃ g, L30_0 [a.decl, a.uses] (([a.decl, a.uses] : List Names).length : Int) 0 0 0 [] = some (.inr (g, a.decl.length, 1, a.decl)) := by
   simp only [L30_0, g0, bsm, v1, show apOk 0 a.decl.length ([] : List NameD).length 56 = true from apT (n := 0) (by omega) (by omega), cond_true, Nat.zero_add]
   cases hD : decide (a.decl.length ≤ ([] : List NameD).length) with
   | true =>
    have : a.decl = [] := List.length_eq_zero_iff.1 (by have := of_decide_eq_true hD; simpa using this)
    rw [this]
    exact ⟨0, rfl⟩
   | false => exact ⟨0 + 1, rfl⟩
  obtain ⟨g, b1⟩ := b1
  have b2 : ∃ g', L30_0 [a.decl, a.uses] (([a.decl, a.uses] : List Names).length : Int) g a.decl.length 1 a.decl = some (.inr (g', a.decl.length + a.uses.length, 2, a.decl ++ a.uses)) := by
   simp only [L30_0, g1, bsm, v2, apT (show a.decl.length + a.uses.length ≤ 100000 by omega) (show 56 ≤ 100 by omega), cond_true, tkl]
   cases hD : decide (a.decl.length + a.uses.length ≤ a.decl.length) with
   | true =>
    have : a.uses = [] := List.length_eq_zero_iff.1 (by have := of_decide_eq_true hD; omega)
    rw [this]
    exact ⟨g, by simp [splice]⟩
   | false => exact ⟨g + 1, rfl⟩
  obtain ⟨g', b2⟩ := b2
  refine ⟨g', ?_⟩
  rw [runL_next (s' := (g, a.decl.length, 1, a.decl)) b1, runL_next (s' := (g', a.decl.length + a.uses.length, 2, a.decl ++ a.uses)) b2]
  exact runL_done rfl
 obtain ⟨g, a2⟩ := a2
 unfold F30
 rw [a1]
 simp only [bsm, decide_eq_true (show (0 : Int) ≤ ((a.decl.length + a.uses.length : Nat) : Int) ∧ ((a.decl.length + a.uses.length : Nat) : Int) ≤ 1000000 by omega), cond_true, a2]
 rw [decide_eq_true (show a.decl.length + a.uses.length ≤ (a.decl ++ a.uses).length by simp), cond_true, List.take_of_length_le (by simp)]
theorem l18 (l : List NameD) (hl : l.length ≤ 50000) : ∃ g, runL (fun s => L18_0 l (l.length : Int) s.1 s.2.1 s.2.2.1 s.2.2.2) (0, 0, 0, []) = some (.k0 g (l.map (·.spc)).length (l.map (·.spc))) := by
 obtain ⟨⟨g', row'⟩, h1, h2⟩ := loop_inv0 (step := fun s => L18_0 l (l.length : Int) s.1 s.2.1 s.2.2.1 s.2.2.2) (l := l) (fun i (b : Nat × List ByteArray) => (b.1, b.2.length, (i : Int), b.2)) (fun b => E_L18_0.k0 b.1 b.2.length b.2)
  (fun i b => b.2 = (l.take i).map (·.spc)) (fun i x b hx hb => by
   have hi : i < l.length := (gei.1 hx).1
   have hb : b.2 = (l.take i).map (·.spc) := hb
   have hbl : b.2.length ≤ 50000 := by rw [hb, List.length_map, List.length_take]; omega
   refine ⟨(b.1 + 1, b.2 ++ [x.spc]), ?_, ?_⟩
   ·simp only [L18_0, getI_nat, hx, bsm, decide_eq_true (show (i : Int) < (l.length : Int) by omega), cond_true, w_S (show i < 4611686018427387904 by omega), apT (show b.2.length + 1 ≤ 100000 by omega) (show 16 ≤ 100 by omega), no_room, cond_false, put_end]
    simp
   ·show b.2 ++ [x.spc] = (l.take (i + 1)).map (·.spc)
    rw [List.take_add_one, hx, hb]
    simp)
  (fun b hb => by simp only [L18_0, decide_eq_false (show ¬ (l.length : Int) < (l.length : Int) by omega), cond_false]) (a := (0, [])) (by simp)
 have h2 : row' = (l.take l.length).map (·.spc) := h2
 rw [tkl] at h2
 refine ⟨g', ?_⟩
 rw [← h2]
 exact h1
theorem q18 {a : ScopesD} (hf : Few a) (hk : okG a = true) : F18 a = some (.k0 (setB ((a.decl ++ a.uses).map (·.spc))) 0) := by
 have hd := hf.decl
 have hu := hf.uses
 obtain ⟨L, hL⟩ : ∃ L, L = (a.decl ++ a.uses).map (·.spc) := ⟨_, rfl⟩
 have hLl : L.length ≤ 2000 := by rw [hL, List.length_map, lap]; omega
 obtain ⟨g, e⟩ := l18 (a.decl ++ a.uses) (by rw [lap]; omega)
 unfold F18
 rw [q19 a hf, hk]
 simp only [bsm, cond_true, cond_false, show ((0 : Int) != 0) = false from rfl, q30 hf, e]
 rw [← hL]
 obtain ⟨s1, s2, s3⟩ := set_out L
 simp only [bsm, F29, decide_eq_true (show L.length ≤ L.length ∧ L.length ≤ 1000000 from ⟨Nat.le_refl _, by omega⟩), cond_true, decide_eq_true (show L.length ≤ (srtR L L.length).length ∧ (srtR L L.length).length ≤ 1000000 by rw [s3]; exact ⟨Nat.le_refl _, by omega⟩), decide_eq_true s2, s1]
theorem l14 (l : List Int) (h : l.length ≤ 1000) : runL (fun s => L14_0 l l s) 0 = some .k1 := by
 have := loop_list (step := fun s => L14_0 l l s) (l := l) (fun _ _ => true) (bad := E_L14_0.k0) (fin := .k1) (fun i x hx => by
  have hi : i < l.length := (gei.1 hx).1
  simp only [L14_0, getI_nat, hx, bsm, decide_eq_true (show (i : Int) < (l.length : Int) by omega), cond_true, w_S (show i < 4611686018427387904 by omega)]
  simp) (by simp only [L14_0, decide_eq_false (show ¬ (l.length : Int) < (l.length : Int) by omega), cond_false])
 rw [this, (allF_iff l 0).2 (fun _ _ _ => rfl)]
 rfl
theorem q14 (l : List Int) (h : l.length ≤ 1000) : F14 l l = some true := by
 unfold F14
 rw [l14 l h]
 simp
structure Few60 (a : ScopesD) : Prop where
 all : a.all.length ≤ 60
 decl : a.decl.length ≤ 60
 uses : a.uses.length ≤ 60
theorem Few60.few {a : ScopesD} (h : Few60 a) : Few a := ⟨by have := h.all; omega, by have := h.decl; omega, by have := h.uses; omega⟩
theorem q7 (a : ScopesD) : ∃ v, F7 a = some v ∧ (v = true → Few60 a) := by
 unfold F7
 by_cases h1 : (a.all.length : Int) ≤ 60
 ·by_cases h2 : (a.decl.length : Int) ≤ 60
  ·rw [decide_eq_true h1, decide_eq_true h2]
   exact ⟨_, rfl, fun h3 => ⟨by omega, by omega, by have := of_decide_eq_true h3; omega⟩⟩
  ·rw [decide_eq_true h1, decide_eq_false h2]; exact ⟨_, rfl, fun h => by cases h⟩
 ·rw [decide_eq_false h1]; exact ⟨_, rfl, fun h => by cases h⟩
theorem any_loop {E : Type} {step : Bool × Int → Option (E ⊕ (Bool × Int))} {l : List ByteArray} (f : ByteArray → Bool) {k : Bool → E}
  (h : ∀ (i : Nat) (x : ByteArray) (b : Bool), l[i]? = some x → step (b, (i : Int)) = some (.inr (b || f x, ((i + 1 : Nat) : Int)))) (hend : ∀ b, step (b, (l.length : Int)) = some (.inl (k b))) : runL step (false, 0) = some (k (l.any f)) := by
 obtain ⟨b, h1, h2⟩ := loop_inv0 (step := step) (l := l) (fun i (b : Bool) => (b, (i : Int))) (fun b => k b) (fun i b => b = (l.take i).any f) (fun i x b hx hb => by
  refine ⟨b || f x, h i x b hx, ?_⟩
  have hb : b = (l.take i).any f := hb
  rw [List.take_add_one, hx, hb]
  simp) (fun b _ => hend b) (a := false) (by simp)
 have h2 : b = (l.take l.length).any f := h2
 rw [tkl] at h2
 rw [← h2]
 exact h1
def memB (q : ByteArray) (l : List ByteArray) : Bool := l.any (fun x => x.toList == q.toList)
theorem memB_iff {q : ByteArray} {l : List ByteArray} : memB q l = true ↔ q ∈ l := by
 unfold memB
 rw [List.any_eq_true]
 constructor
 ·rintro ⟨x, hx, h⟩
  rw [bytes_list, decide_eq_true_eq] at h
  rw [← h]
  exact hx
 ·intro h
  exact ⟨q, h, by simp⟩
theorem len_pos (m : List Int) : ((m.length : Int) > 0) ↔ m ≠ [] := by
 cases m with
 | nil => simp
 | cons x m => simp
section
variable {a : ScopesD} {n : Int} {p : ByteArray} {L : List ByteArray}
theorem l6_4 (out : List ByteArray) (d : NameD) (ho : out.length ≤ 100000) : runL (fun s => L6_4_2 out d s.1 s.2) (false, 0) = some (.k0 (memB d.txt out)) := by
 unfold memB
 refine any_loop (step := fun s => L6_4_2 out d s.1 s.2) (l := out) (fun x => x.toList == d.txt.toList) (k := E_L6_4_2.k0) (fun i x b hx => ?_) (fun b => by simp only [L6_4_2, decide_eq_false (show ¬ (out.length : Int) < (out.length : Int) by omega), cond_false])
 have hi : i < out.length := (gei.1 hx).1
 simp only [L6_4_2, getI_nat, hx, bsm, decide_eq_true (show (i : Int) < (out.length : Int) by omega), cond_true, w_S (show i < 4611686018427387904 by omega)]
 cases b <;> cases x.toList == d.txt.toList <;> rfl
theorem l6_3 (sp : List ByteArray) (d : NameD) (ho : sp.length ≤ 100000) : runL (fun s => L6_3_2 sp d s.1 s.2) (false, 0) = some (.k0 (memB d.spc sp)) := by
 unfold memB
 refine any_loop (step := fun s => L6_3_2 sp d s.1 s.2) (l := sp) (fun x => x.toList == d.spc.toList) (k := E_L6_3_2.k0) (fun i x b hx => ?_) (fun b => by simp only [L6_3_2, decide_eq_false (show ¬ (sp.length : Int) < (sp.length : Int) by omega), cond_false])
 have hi : i < sp.length := (gei.1 hx).1
 simp only [L6_3_2, getI_nat, hx, bsm, decide_eq_true (show (i : Int) < (sp.length : Int) by omega), cond_true, w_S (show i < 4611686018427387904 by omega)]
 cases b <;> cases x.toList == d.spc.toList <;> rfl
theorem l6_1 (sp : List ByteArray) {j : Nat} {u : NameD} (hu : a.uses[j]? = some u) (ho : sp.length ≤ 100000) : runL (fun s => L6_1_2 a sp (j : Int) s.1 s.2) (false, 0) = some (.k0 (memB u.spc sp)) := by
 unfold memB
 refine any_loop (step := fun s => L6_1_2 a sp (j : Int) s.1 s.2) (l := sp) (fun x => x.toList == u.spc.toList) (k := E_L6_1_2.k0) (fun i x b hx => ?_) (fun b => by simp only [L6_1_2, decide_eq_false (show ¬ (sp.length : Int) < (sp.length : Int) by omega), cond_false])
 have hi : i < sp.length := (gei.1 hx).1
 simp only [L6_1_2, getI_nat, hx, hu, bsm, decide_eq_true (show (i : Int) < (sp.length : Int) by omega), cond_true, w_S (show i < 4611686018427387904 by omega)]
 cases b <;> cases x.toList == u.spc.toList <;> rfl
theorem l6_6 (hf : Few a) (hk : okG a = true) (h0 : 0 ≤ n) (h1 : n < (a.all.length : Int)) (hV : Vis a p n L) (hL : L.length ≤ 50000) (q : ByteArray) : runL (fun s => L6_6 a n p q (setB L) s.1 s.2) (false, 0) = some (.k1 (memB q (setB L))) := by
 have hs := setB_len L
 unfold memB
 refine any_loop (step := fun s => L6_6 a n p q (setB L) s.1 s.2) (l := setB L) (fun x => x.toList == q.toList) (k := E_L6_6.k1) (fun i x b hx => ?_) (fun b => by simp only [L6_6, decide_eq_false (show ¬ ((setB L).length : Int) < ((setB L).length : Int) by omega), cond_false])
 have hi : i < (setB L).length := (gei.1 hx).1
 obtain ⟨m, hm⟩ := mean_tot hk (nm p x) a.all.length n h1 h1
 have hne : m ≠ [] := (vis_mean hV hm).2 (mem_setB.1 (List.mem_of_getElem? hx))
 have hz : ((m.length : Int) == 0) = false := by
  cases m with
  | nil => exact absurd rfl hne
  | cons y m => simp; omega
 simp only [L6_6, getI_nat, hx, bsm, decide_eq_true (show (i : Int) < ((setB L).length : Int) by omega), cond_true, w_S (show i < 4611686018427387904 by omega), q16 hf hk h0 h1 hm, hz, cond_false]
 cases i with
 | zero =>
  simp only [show decide (((0 : Nat) : Int) > 0) = false from rfl, cond_false]
  cases b <;> cases x.toList == q.toList <;> rfl
 | succ j =>
  have hy : (setB L)[j]? = some ((setB L)[j]'(by omega)) := geg _
  generalize (setB L)[j]'(by omega) = y at hy
  simp only [decide_eq_true (show ((j + 1 : Nat) : Int) > 0 by omega), cond_true, wS1 (show j < 4611686018427387904 by omega), getI_nat, hy, bsm, setB_up L hy hx, Bool.not_true, cond_false]
  cases b <;> cases x.toList == q.toList <;> rfl
theorem l6_5 (hf : Few a) (hk : okG a = true) (h0 : 0 ≤ n) (h1 : n < (a.all.length : Int)) (hV : Vis a p n L) (hL : L.length ≤ 50000) {sp : List ByteArray} (hsp : ∀ d ∈ a.decl, d.spc ∈ sp) (hsl : sp.length ≤ 100000) : runL (fun s => L6_5 a n p (setB L) sp s) 0 = some .k1 := by
 have hs := setB_len L
 have hd := hf.decl
 have := loop_list (step := fun s => L6_5 a n p (setB L) sp s) (l := a.decl) (fun _ _ => true) (bad := E_L6_5.k0) (fin := .k1) (fun i d hx => by
  have hi : i < a.decl.length := (gei.1 hx).1
  obtain ⟨m, hm⟩ := mean_tot hk (nm p d.txt) a.all.length n h1 h1
  have e : decide ((m.length : Int) > 0) = memB d.txt (setB L) := by
   rw [Bool.eq_iff_iff, decide_eq_true_eq, len_pos, memB_iff]
   exact (vis_mean hV hm).trans mem_setB.symm
  simp only [L6_5, getI_nat, hx, bsm, decide_eq_true (show (i : Int) < (a.decl.length : Int) by omega), cond_true, w_S (show i < 4611686018427387904 by omega), l6_4 (setB L) d (by omega), q15B hf hm, e, beq_self_eq_true, Bool.and_true, Bool.not_true, cond_false, l6_3 sp d hsl, memB_iff.2 (hsp d (List.mem_of_getElem? hx))]) (by simp only [L6_5, decide_eq_false (show ¬ (a.decl.length : Int) < (a.decl.length : Int) by omega), cond_false])
 rw [this, (allF_iff a.decl 0).2 (fun _ _ _ => rfl)]
 rfl
theorem l6_2 (hf : Few a) {sp : List ByteArray} (hsp : ∀ d ∈ a.uses, d.spc ∈ sp) (hsl : sp.length ≤ 100000) : runL (fun s => L6_2 a sp s) 0 = some .k1 := by
 have hd := hf.uses
 have := loop_list (step := fun s => L6_2 a sp s) (l := a.uses) (fun _ _ => true) (bad := E_L6_2.k0) (fin := .k1) (fun i d hx => by
  have hi : i < a.uses.length := (gei.1 hx).1
  simp only [L6_2, bsm, decide_eq_true (show (i : Int) < (a.uses.length : Int) by omega), cond_true, w_S (show i < 4611686018427387904 by omega), l6_1 sp hx hsl, memB_iff.2 (hsp d (List.mem_of_getElem? hx))]) (by simp only [L6_2, decide_eq_false (show ¬ (a.uses.length : Int) < (a.uses.length : Int) by omega), cond_false])
 rw [this, (allF_iff a.uses 0).2 (fun _ _ _ => rfl)]
 rfl
theorem l6_0 (L : List ByteArray) (hL : L.length ≤ 50000) : runL (fun s => L6_0 (setB L) s) 1 = some .k1 := by
 have hs := setB_len L
 by_cases h0 : (setB L).length = 0
 ·refine runL_done ?_
  simp only [L6_0, h0, show decide ((1 : Int) < ((0 : Nat) : Int)) = false from rfl, cond_false]
 ·obtain ⟨b, h1, _⟩ := loop_inv (step := fun s => L6_0 (setB L) s) (l := setB L) (fun i (b : Unit) => (i : Int)) (fun b => E_L6_0.k1) (fun i b => 1 ≤ i) (fun i x b hx hb => by
   have hi : i < (setB L).length := (gei.1 hx).1
   have hb : 1 ≤ i := hb
   refine ⟨(), ?_, by show 1 ≤ i + 1; omega⟩
   obtain ⟨j, rfl⟩ : ∃ j, i = j + 1 := ⟨i - 1, by omega⟩
   have hy : (setB L)[j]? = some ((setB L)[j]'(by omega)) := geg _
   generalize (setB L)[j]'(by omega) = y at hy
   simp only [L6_0, decide_eq_true (show ((j + 1 : Nat) : Int) < ((setB L).length : Int) by omega), cond_true, wS1 (show j < 4611686018427387904 by omega), w_S (show j + 1 < 4611686018427387904 by omega), getI_nat, hx, hy, bsm, setB_up L hy hx, Bool.not_true, cond_false])
   (fun b hb => by simp only [L6_0, decide_eq_false (show ¬ ((setB L).length : Int) < ((setB L).length : Int) by omega), cond_false]) ((setB L).length - 1) 1 () (by omega) (Nat.le_refl 1)
  exact h1
end
theorem q16_no {a : ScopesD} (hf : Few a) {n e : Int} (he : F27 a n = some e) (h : e ≠ 0) (p q : ByteArray) : F16 a n p q = some (.k0 [] e) := by
 unfold F16
 rw [he]
 simp only [bsm, bne_iff_ne.2 h, cond_true]
theorem q17_no {a : ScopesD} (hf : Few a) {n e : Int} (he : F27 a n = some e) (h : e ≠ 0) (p : ByteArray) : F17 a n p = some (.k0 [] e) := by
 unfold F17
 rw [he]
 simp only [bsm, bne_iff_ne.2 h, cond_true]
theorem law6 (a : ScopesD) (n : Int) (p q : ByteArray) : F6 a n p q = some true := by
 obtain ⟨v, h1, h2⟩ := q7 a
 unfold F6
 rw [h1]
 simp only [bsm]
 cases v with
 | false => rfl
 | true =>
 have h60 := h2 rfl
 have hf := h60.few
 rw [q10 a hf]
 have e27 := q27 hf n
 cases hk : okG a with
 | false =>
  rw [hk] at e27
  have e27 : F27 a n = some 2 := e27
  rw [q16_no hf e27 (by decide), q17_no hf e27 (by decide)]
  unfold F18
  rw [q19 a hf, hk]
  rfl
 | true =>
 rw [hk] at e27
 rw [q18 hf hk]
 by_cases c1 : n < 0
 ·rw [decide_eq_true c1] at e27
  have e27 : F27 a n = some 4 := e27
  rw [q16_no hf e27 (by decide), q17_no hf e27 (by decide), decide_eq_true c1]
  rfl
 rw [decide_eq_false c1] at e27
 by_cases c2 : n ≥ (a.all.length : Int)
 ·rw [decide_eq_true c2] at e27
  have e27 : F27 a n = some 4 := e27
  rw [q16_no hf e27 (by decide), q17_no hf e27 (by decide), decide_eq_true c2, decide_eq_false c1]
  rfl
 have hn0 : 0 ≤ n := by omega
 have hn1 : n < (a.all.length : Int) := by omega
 obtain ⟨m, hm⟩ := mean_tot hk (nm p q) a.all.length n hn1 hn1
 obtain ⟨L, hV, hLl⟩ := vis_tot hk p a.all.length n hn1 hn1
 have hL : L.length ≤ 50000 := by
  have := Nat.mul_le_mul h60.all h60.decl
  omega
 have hml := hm.len
 have hd := h60.decl
 have hu := h60.uses
 obtain ⟨S, hS⟩ : ∃ S, S = (a.decl ++ a.uses).map (·.spc) := ⟨_, rfl⟩
 have hSl : S.length ≤ 50000 := by rw [hS, List.length_map, lap]; omega
 have hSs := setB_len S
 have e : (memB q (setB L) == decide ((m.length : Int) > 0)) = true := by
  rw [beq_iff_eq, Bool.eq_iff_iff, decide_eq_true_eq, len_pos, memB_iff]
  exact mem_setB.trans (vis_mean hV hm).symm
 rw [q16 hf hk hn0 hn1 hm, q17 hf hk hn0 hn1 hV hL, ← hS]
 simp only [bsm, decide_eq_false c1, decide_eq_false c2, cond_true, cond_false, q15A hf hm, q14 m (by omega), show ((0 : Int) != 0) = false from rfl, l6_6 hf hk hn0 hn1 hV hL q, e, Bool.and_true, Bool.not_true,
  l6_5 hf hk hn0 hn1 hV hL (sp := setB S) (fun d hd => mem_setB.2 (by rw [hS]; exact List.mem_map.2 ⟨d, List.mem_append.2 (.inl hd), rfl⟩)) (by omega), l6_2 hf (sp := setB S) (fun d hd => mem_setB.2 (by rw [hS]; exact List.mem_map.2 ⟨d, List.mem_append.2 (.inr hd), rfl⟩)) (by omega), l6_0 S hSl]
 rfl
end Go.Proofs.Try
