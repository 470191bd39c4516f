/- Resolve: which scope graphs may be. Plain data alone. -/
import Derived.Test.YthlndaofdgpjfaaH5
import Derived.Test.YthlndaofdgpjfaaVE
open Option renaming bind_some → bsm
open Bool renaming and_eq_true → aet
open List renaming getElem?_eq_some_iff → gei, getElem?_eq_getElem → geg, mem_of_getElem? → mog
namespace Go.Proofs.Try
set_option linter.unusedSimpArgs false
set_option linter.unusedVariables false
open Go Go.Vs
def scOk (i : Nat) (x : ScopeD) : Bool := (bif i == 0 then x.par == -1 else (decide (0 ≤ x.par) && decide (x.par < (i : Int)))) && (decide (0 ≤ x.frm) && decide (x.frm ≤ x.til))
def nmOk (n : Nat) (l : List NameD) (i : Nat) (x : NameD) : Bool :=
 decide (0 ≤ x.scp) && (decide (x.scp < (n : Int)) && (decide (0 ≤ x.frm) && (decide (x.frm ≤ x.til) && (match i with | 0 => true | j + 1 => match l[j]? with | some y => decide (y.frm ≤ x.frm) | none => true))))
def okG (a : ScopesD) : Bool := !(a.all.isEmpty) && (allF scOk 0 a.all && (allF (nmOk a.all.length a.decl) 0 a.decl && allF (nmOk a.all.length a.uses) 0 a.uses))
structure Few (a : ScopesD) : Prop where
 all : a.all.length ≤ 1000
 decl : a.decl.length ≤ 1000
 uses : a.uses.length ≤ 1000
theorem dlt (a b : Int) : decide (a < b) = !decide (b ≤ a) := by rw [← decide_not]; exact decide_eq_decide.2 (by omega)
theorem dgt (a b : Int) : decide (a > b) = !decide (a ≤ b) := by rw [← decide_not]; exact decide_eq_decide.2 (by omega)
theorem dge (a b : Int) : decide (a ≥ b) = !decide (a < b) := by rw [← decide_not]; exact decide_eq_decide.2 (by omega)
theorem wS1 {i : Nat} (h : i < 4611686018427387904) : IntKind.wrap .i64 (((i + 1 : Nat) : Int) - 1) = (i : Int) := by rw [w_id (by omega)]; omega
theorem nb (x : Int) : (x != -1) = !(x == -1) := rfl
theorem l19 (a : ScopesD) (h : Few a) : runL (fun s => L19_0 a (a.all.length : Int) s) 0 = some (bif allF scOk 0 a.all then .k1 else .k0) := by
 have hl := h.all
 refine loop_list (step := fun s => L19_0 a (a.all.length : Int) s) (l := a.all) scOk (bad := E_L19_0.k0) (fin := .k1) (fun i x hx => ?_) (by simp only [L19_0, decide_eq_false (show ¬ (a.all.length : Int) < (a.all.length : Int) by omega), cond_false])
 have hi : i < a.all.length := (gei.1 hx).1
 simp only [L19_0, getI_nat, hx, bsm, decide_eq_true (show (i : Int) < (a.all.length : Int) by omega), cond_true, w_S (show i < 4611686018427387904 by omega)]
 match i with
 | 0 =>
  simp only [show (((0 : Nat) : Int) == 0) = true from rfl, show decide (((0 : Nat) : Int) > 0) = false from rfl, cond_true, cond_false, scOk, show ((0 : Nat) == 0) = true from rfl, dgt x.frm x.til, nb, dlt x.frm 0]
  cases x.par == -1 <;> cases decide (0 ≤ x.frm) <;> cases decide (x.frm ≤ x.til) <;> rfl
 | j + 1 =>
  have e1 : (((j + 1 : Nat) : Int) == 0) = false := by simpa using (by omega : ¬ ((j + 1 : Nat) : Int) = 0)
  have e2 : decide (((j + 1 : Nat) : Int) > 0) = true := decide_eq_true (by omega)
  simp only [e1, e2, cond_true, cond_false, scOk, show ((j + 1 : Nat) == 0) = false from rfl, dgt x.frm x.til, dge x.par ((j + 1 : Nat) : Int), dlt x.frm 0, dlt x.par 0]
  cases decide (0 ≤ x.par) <;> cases decide (x.par < ((j + 1 : Nat) : Int)) <;> cases decide (0 ≤ x.frm) <;> cases decide (x.frm ≤ x.til) <;> rfl
theorem prev {l : List NameD} {j : Nat} {x : NameD} (h : l[j + 1]? = some x) : ∃ y, l[j]? = some y := by
 have := (gei.1 h).1
 exact ⟨_, geg (by omega)⟩
theorem l31 (a : ScopesD) (h : Few a) : runL (fun s => L31_0 a (a.all.length : Int) (a.decl.length : Int) s) 0 = some (bif allF (nmOk a.all.length a.decl) 0 a.decl then .k1 else .k0) := by
 have hl := h.decl
 refine loop_list (step := fun s => L31_0 a (a.all.length : Int) (a.decl.length : Int) s) (l := a.decl) (nmOk a.all.length a.decl) (bad := E_L31_0.k0) (fin := .k1) (fun i x hx => ?_) (by simp only [L31_0, decide_eq_false (show ¬ (a.decl.length : Int) < (a.decl.length : Int) by omega), cond_false])
 have hi : i < a.decl.length := (gei.1 hx).1
 simp only [L31_0, getI_nat, hx, bsm, decide_eq_true (show (i : Int) < (a.decl.length : Int) by omega), cond_true, w_S (show i < 4611686018427387904 by omega), dlt x.scp 0, dge x.scp (a.all.length : Int), dlt x.frm 0, dgt x.frm x.til]
 match i, hx, hi with
 | 0, hx, _ =>
  simp only [show decide (((0 : Nat) : Int) > 0) = false from rfl, nmOk]
  cases decide (0 ≤ x.scp) <;> cases decide (x.scp < (a.all.length : Int)) <;> cases decide (0 ≤ x.frm) <;> cases decide (x.frm ≤ x.til) <;> rfl
 | j + 1, hx, hi =>
  obtain ⟨y, hy⟩ := prev hx
  simp only [decide_eq_true (show ((j + 1 : Nat) : Int) > 0 by omega), wS1 (show j < 4611686018427387904 by omega), getI_nat, hy, bsm, nmOk, dgt y.frm x.frm]
  cases decide (0 ≤ x.scp) <;> cases decide (x.scp < (a.all.length : Int)) <;> cases decide (0 ≤ x.frm) <;> cases decide (x.frm ≤ x.til) <;> cases decide (y.frm ≤ x.frm) <;> rfl
theorem l31_2 (a : ScopesD) (h : Few a) : runL (fun s => L31_0_2 a (a.all.length : Int) (a.uses.length : Int) s) 0 = some (bif allF (nmOk a.all.length a.uses) 0 a.uses then .k1 else .k0) := by
 have hl := h.uses
 refine loop_list (step := fun s => L31_0_2 a (a.all.length : Int) (a.uses.length : Int) s) (l := a.uses) (nmOk a.all.length a.uses) (bad := E_L31_0_2.k0) (fin := .k1) (fun i x hx => ?_) (by simp only [L31_0_2, decide_eq_false (show ¬ (a.uses.length : Int) < (a.uses.length : Int) by omega), cond_false])
 have hi : i < a.uses.length := (gei.1 hx).1
 simp only [L31_0_2, getI_nat, hx, bsm, decide_eq_true (show (i : Int) < (a.uses.length : Int) by omega), cond_true, w_S (show i < 4611686018427387904 by omega), dlt x.scp 0, dge x.scp (a.all.length : Int), dlt x.frm 0, dgt x.frm x.til]
 match i, hx, hi with
 | 0, hx, _ =>
  simp only [show decide (((0 : Nat) : Int) > 0) = false from rfl, nmOk]
  cases decide (0 ≤ x.scp) <;> cases decide (x.scp < (a.all.length : Int)) <;> cases decide (0 ≤ x.frm) <;> cases decide (x.frm ≤ x.til) <;> rfl
 | j + 1, hx, hi =>
  obtain ⟨y, hy⟩ := prev hx
  simp only [decide_eq_true (show ((j + 1 : Nat) : Int) > 0 by omega), wS1 (show j < 4611686018427387904 by omega), getI_nat, hy, bsm, nmOk, dgt y.frm x.frm]
  cases decide (0 ≤ x.scp) <;> cases decide (x.scp < (a.all.length : Int)) <;> cases decide (0 ≤ x.frm) <;> cases decide (x.frm ≤ x.til) <;> cases decide (y.frm ≤ x.frm) <;> rfl
theorem len0 (a : ScopesD) : ((a.all.length : Int) == 0) = a.all.isEmpty := by
 cases a.all with
 | nil => rfl
 | cons x l => simp; omega
theorem q19 (a : ScopesD) (h : Few a) : F19 a = some (bif okG a then 0 else 2) := by
 unfold F19 F31 F31_2 okG
 rw [l19 a h, l31 a h, l31_2 a h, len0]
 cases a.all.isEmpty <;> cases allF scOk 0 a.all <;> cases allF (nmOk a.all.length a.decl) 0 a.decl <;> cases allF (nmOk a.all.length a.uses) 0 a.uses <;> rfl
theorem l22 (a : ScopesD) (h : Few a) : runL (fun s => L22_0 a (a.all.length : Int) s) 0 = some (bif allF (nmOk a.all.length a.decl) 0 a.decl then .k1 else .k0) := by
 have hl := h.decl
 refine loop_list (step := fun s => L22_0 a (a.all.length : Int) s) (l := a.decl) (nmOk a.all.length a.decl) (bad := E_L22_0.k0) (fin := .k1) (fun i x hx => ?_) (by simp only [L22_0, decide_eq_false (show ¬ (a.decl.length : Int) < (a.decl.length : Int) by omega), cond_false])
 have hi : i < a.decl.length := (gei.1 hx).1
 simp only [L22_0, getI_nat, hx, bsm, decide_eq_true (show (i : Int) < (a.decl.length : Int) by omega), cond_true, w_S (show i < 4611686018427387904 by omega), dlt x.scp 0, dge x.scp (a.all.length : Int), dlt x.frm 0, dlt x.til x.frm]
 match i, hx, hi with
 | 0, hx, _ =>
  simp only [show decide (((0 : Nat) : Int) > 0) = false from rfl, nmOk]
  cases decide (0 ≤ x.scp) <;> cases decide (x.scp < (a.all.length : Int)) <;> cases decide (0 ≤ x.frm) <;> cases decide (x.frm ≤ x.til) <;> rfl
 | j + 1, hx, hi =>
  obtain ⟨y, hy⟩ := prev hx
  simp only [decide_eq_true (show ((j + 1 : Nat) : Int) > 0 by omega), wS1 (show j < 4611686018427387904 by omega), getI_nat, hy, bsm, nmOk, dlt x.frm y.frm]
  cases decide (0 ≤ x.scp) <;> cases decide (x.scp < (a.all.length : Int)) <;> cases decide (0 ≤ x.frm) <;> cases decide (x.frm ≤ x.til) <;> cases decide (y.frm ≤ x.frm) <;> rfl
theorem l22_2 (a : ScopesD) (h : Few a) : runL (fun s => L22_0_2 a (a.all.length : Int) s) 0 = some (bif allF (nmOk a.all.length a.uses) 0 a.uses then .k1 else .k0) := by
 have hl := h.uses
 refine loop_list (step := fun s => L22_0_2 a (a.all.length : Int) s) (l := a.uses) (nmOk a.all.length a.uses) (bad := E_L22_0_2.k0) (fin := .k1) (fun i x hx => ?_) (by simp only [L22_0_2, decide_eq_false (show ¬ (a.uses.length : Int) < (a.uses.length : Int) by omega), cond_false])
 have hi : i < a.uses.length := (gei.1 hx).1
 simp only [L22_0_2, getI_nat, hx, bsm, decide_eq_true (show (i : Int) < (a.uses.length : Int) by omega), cond_true, w_S (show i < 4611686018427387904 by omega), dlt x.scp 0, dge x.scp (a.all.length : Int), dlt x.frm 0, dlt x.til x.frm]
 match i, hx, hi with
 | 0, hx, _ =>
  simp only [show decide (((0 : Nat) : Int) > 0) = false from rfl, nmOk]
  cases decide (0 ≤ x.scp) <;> cases decide (x.scp < (a.all.length : Int)) <;> cases decide (0 ≤ x.frm) <;> cases decide (x.frm ≤ x.til) <;> rfl
 | j + 1, hx, hi =>
  obtain ⟨y, hy⟩ := prev hx
  simp only [decide_eq_true (show ((j + 1 : Nat) : Int) > 0 by omega), wS1 (show j < 4611686018427387904 by omega), getI_nat, hy, bsm, nmOk, dlt x.frm y.frm]
  cases decide (0 ≤ x.scp) <;> cases decide (x.scp < (a.all.length : Int)) <;> cases decide (0 ≤ x.frm) <;> cases decide (x.frm ≤ x.til) <;> cases decide (y.frm ≤ x.frm) <;> rfl
def scOk2 (i : Nat) (x : ScopeD) : Bool := (bif i == 0 then true else (decide (0 ≤ x.par) && decide (x.par < (i : Int)))) && (decide (0 ≤ x.frm) && decide (x.frm ≤ x.til))
theorem l10 (a : ScopesD) (h : Few a) : runL (fun s => L10_0 a s) 0 = some (bif allF scOk2 0 a.all then .k1 else .k0) := by
 have hl := h.all
 refine loop_list (step := fun s => L10_0 a s) (l := a.all) scOk2 (bad := E_L10_0.k0) (fin := .k1) (fun i x hx => ?_) (by simp only [L10_0, decide_eq_false (show ¬ (a.all.length : Int) < (a.all.length : Int) by omega), cond_false])
 have hi : i < a.all.length := (gei.1 hx).1
 simp only [L10_0, getI_nat, hx, bsm, decide_eq_true (show (i : Int) < (a.all.length : Int) by omega), cond_true, w_S (show i < 4611686018427387904 by omega)]
 match i with
 | 0 =>
  simp only [show decide (((0 : Nat) : Int) > 0) = false from rfl, cond_true, cond_false, scOk2, show ((0 : Nat) == 0) = true from rfl, dlt x.til x.frm, dlt x.frm 0]
  cases decide (0 ≤ x.frm) <;> cases decide (x.frm ≤ x.til) <;> rfl
 | j + 1 =>
  have e2 : decide (((j + 1 : Nat) : Int) > 0) = true := decide_eq_true (by omega)
  simp only [e2, cond_true, cond_false, scOk2, show ((j + 1 : Nat) == 0) = false from rfl, dlt x.til x.frm, dge x.par ((j + 1 : Nat) : Int), dlt x.frm 0, dlt x.par 0]
  cases decide (0 ≤ x.par) <;> cases decide (x.par < ((j + 1 : Nat) : Int)) <;> cases decide (0 ≤ x.frm) <;> cases decide (x.frm ≤ x.til) <;> rfl
theorem allF_congr {α : Type} {p q : Nat → α → Bool} : ∀ (l : List α) (i : Nat), (∀ k x, l[k]? = some x → p (i + k) x = q (i + k) x) → allF p i l = allF q i l
 | [], _, _ => rfl
 | x :: l, i, h => by
  simp only [allF]
  have e1 : p i x = q i x := h 0 x rfl
  have e2 : allF p (i + 1) l = allF q (i + 1) l := allF_congr l (i + 1) (fun k y hy => by
   have := h (k + 1) y (by simpa using hy)
   rwa [show i + (k + 1) = i + 1 + k by omega] at this)
  rw [e1, e2]
theorem q10 (a : ScopesD) (h : Few a) : F10 a = some (okG a) := by
 unfold F10 F22 F22_2 okG
 rw [l10 a h, l22 a h, l22_2 a h, len0]
 cases hl : a.all with
 | nil => rfl
 | cons x l =>
  have e : allF scOk 0 (x :: l) = ((x.par == -1) && allF scOk2 0 (x :: l)) := by
   simp only [allF]
   have e2 : allF scOk 1 l = allF scOk2 1 l := allF_congr l 1 (fun k y _ => by
    unfold scOk scOk2
    rw [show (1 + k == 0) = false from beq_false_of_ne (by omega)]
    rfl)
   rw [Nat.zero_add, e2]
   unfold scOk scOk2
   cases x.par == -1 <;> rfl
  have e0 : getI (x :: l) 0 = some x := rfl
  rw [e, e0]
  simp only [List.isEmpty_cons, cond_false, bsm, nb]
  cases x.par == -1 <;> cases allF scOk2 0 (x :: l) <;> cases allF (nmOk (x :: l).length a.decl) 0 a.decl <;> cases allF (nmOk (x :: l).length a.uses) 0 a.uses <;> rfl
def hitP (v : Int) (u x : NameD) : Bool := x.scp == v && (x.spc.toList == u.spc.toList && x.txt.toList == u.txt.toList)
def inds (p : NameD → Bool) : List NameD → Nat → List Int
 | [], _ => []
 | x :: l, i => (bif p x then [(i : Int)] else []) ++ inds p l (i + 1)
theorem hitP_key (v : Int) (u x : NameD) : hitP v u x = decide ((v, u.spc, u.txt) = keyN x) := by
 unfold hitP keyN
 rw [bytes_list, bytes_list]
 have e : ((v, u.spc, u.txt) = (x.scp, x.spc, x.txt)) ↔ (x.scp = v ∧ x.spc = u.spc ∧ x.txt = u.txt) := by
  simp only [Prod.mk.injEq]
  exact ⟨fun ⟨p, q, r⟩ => ⟨p.symm, q.symm, r.symm⟩, fun ⟨p, q, r⟩ => ⟨p.symm, q.symm, r.symm⟩⟩
 rw [decide_eq_decide.2 e, Bool.decide_and, Bool.decide_and]
 rfl
theorem found_get (v : Int) (u : NameD) : ∀ (l : List NameD) (j : Nat) (pl : List (Key × List Int)), mget ([] : List Int) (foundL l j pl) (v, u.spc, u.txt) = mget [] pl (v, u.spc, u.txt) ++ inds (hitP v u) l j
 | [], j, pl => by simp [foundL, inds]
 | x :: l, j, pl => by
  unfold foundL inds
  rw [found_get v u l (j + 1) _, hitP_key]
  unfold fput
  rw [mget_mput]
  by_cases h : (v, u.spc, u.txt) = keyN x
  ·rw [if_pos h, ← h, decide_eq_true rfl, cond_true, List.append_assoc]
  ·rw [if_neg h, decide_eq_false h, cond_false, List.nil_append]
theorem inds_len (p : NameD → Bool) : ∀ (l : List NameD) (i : Nat), (inds p l i).length ≤ l.length
 | [], _ => Nat.le_refl _
 | x :: l, i => by
  have := inds_len p l (i + 1)
  unfold inds
  cases p x <;> simp <;> omega
inductive Mean (a : ScopesD) (u : NameD) : Int → List Int → Prop
 | none {v : Int} : v < 0 → Mean a u v []
 | here {v : Int} : 0 ≤ v → inds (hitP v u) a.decl 0 ≠ [] → Mean a u v (inds (hitP v u) a.decl 0)
 | up {v : Int} {x : ScopeD} {l : List Int} : 0 ≤ v → inds (hitP v u) a.decl 0 = [] → getI a.all v = some x → Mean a u x.par l → Mean a u v l
theorem Mean.inds {a : ScopesD} {u : NameD} {v : Int} {l : List Int} (h : Mean a u v l) : l = [] ∨ ∃ w, l = inds (hitP w u) a.decl 0 ∧ l ≠ [] := by
 induction h with
 | none _ => exact .inl rfl
 | here _ h => exact .inr ⟨_, rfl, h⟩
 | up _ _ _ _ ih => exact ih
theorem Mean.len {a : ScopesD} {u : NameD} {v : Int} {l : List Int} (h : Mean a u v l) : l.length ≤ a.decl.length := by
 rcases h.inds with rfl | ⟨w, e, _⟩
 ·simp
 ·rw [e]; exact inds_len _ _ _
theorem okG_all {a : ScopesD} (h : okG a = true) : allF scOk 0 a.all = true := by
 unfold okG at h
 simp only [aet] at h
 exact h.2.1
theorem okG_uses {a : ScopesD} (h : okG a = true) : allF (nmOk a.all.length a.uses) 0 a.uses = true := by
 unfold okG at h
 simp only [aet] at h
 exact h.2.2.2
theorem nmOk_scp {n : Nat} {l : List NameD} {i : Nat} {x : NameD} (h : nmOk n l i x = true) : 0 ≤ x.scp ∧ x.scp < (n : Int) := by
 unfold nmOk at h
 simp only [aet, decide_eq_true_eq] at h
 exact ⟨h.1, h.2.1⟩
theorem par_lt {a : ScopesD} (h : okG a = true) {i : Nat} {x : ScopeD} (hx : a.all[i]? = some x) : x.par < (i : Int) := by
 have := (allF_iff a.all 0).1 (okG_all h) i x hx
 rw [Nat.zero_add] at this
 unfold scOk at this
 simp only [aet] at this
 have h1 := this.1
 by_cases h0 : i = 0
 ·subst h0
  simp at h1
  omega
 ·rw [beq_false_of_ne h0, cond_false] at h1
  simp only [aet, decide_eq_true_eq] at h1
  exact h1.2
theorem mean_tot {a : ScopesD} (h : okG a = true) (u : NameD) : ∀ (n : Nat) (v : Int), v < (n : Int) → v < (a.all.length : Int) → ∃ l, Mean a u v l
 | 0, v, h1, _ => ⟨[], .none (by omega)⟩
 | n + 1, v, h1, h2 => by
  by_cases h0 : v < 0
  ·exact ⟨[], .none h0⟩
  ·by_cases hi : inds (hitP v u) a.decl 0 = []
   ·obtain ⟨i, rfl⟩ : ∃ i : Nat, v = (i : Int) := ⟨v.toNat, by omega⟩
    have hx : a.all[i]? = some (a.all[i]'(by omega)) := geg _
    generalize a.all[i]'(by omega) = x at hx
    have hp := par_lt h hx
    obtain ⟨l, hl⟩ := mean_tot h u n x.par (by omega) (by omega)
    exact ⟨l, .up (by omega) hi (by rw [getI_nat]; exact hx) hl⟩
   ·exact ⟨_, .here (by omega) hi⟩
theorem mean_use {a : ScopesD} (h : okG a = true) {i : Nat} {u : NameD} (hu : a.uses[i]? = some u) : ∃ l, Mean a u u.scp l := by
 have := nmOk_scp ((allF_iff a.uses 0).1 (okG_uses h) i u hu)
 exact mean_tot h u a.all.length u.scp this.2 this.2
theorem clOk_small {n : Nat} (h : n ≤ 1000) : clOk n 8 = true := decide_eq_true ⟨by unfold limit47; omega, by unfold limit47; omega⟩
theorem apS {n b : Nat} (h : n ≤ 1000) (hb : b ≤ 100) : apOk n 1 n b = true := by
 refine decide_eq_true ⟨Nat.le_refl _, ?_, by unfold limit47; omega⟩
 have := Nat.mul_le_mul (show n + 1 ≤ 1001 by omega) hb
 unfold limit47
 omega
theorem no_room (n : Nat) : decide (n + 1 ≤ n) = false := decide_eq_false (by omega)
theorem put_end {α : Type} (l : List α) (x : α) : l.take l.length ++ [x] = l ++ [x] := by rw [List.take_length]
theorem l34 {a : ScopesD} (hf : Few a) {u : NameD} {v : Int} {l : List Int} (h : Mean a u v l) :
  (l = [] ∧ ∃ w, runL (fun s => L34_0_3 a (foundL a.decl 0 []) u s) v = some (.k1 w)) ∨ (l ≠ [] ∧ ∃ w, runL (fun s => L34_0_3 a (foundL a.decl 0 []) u s) v = some (.k0 (gnz l) l.length w l)) := by
 have hg : ∀ v, mget ([] : List Int) (foundL a.decl 0 []) (v, u.spc, u.txt) = inds (hitP v u) a.decl 0 := fun v => by rw [found_get]; rfl
 induction h with
 | @none v h =>
  refine .inl ⟨rfl, v, runL_done ?_⟩
  simp only [L34_0_3, decide_eq_false (show ¬ v ≥ 0 by omega), cond_false]
 | @here v h0 hi =>
  refine .inr ⟨hi, v, runL_done ?_⟩
  have hl := inds_len (hitP v u) a.decl 0
  have hd := hf.decl
  have hn : (inds (hitP v u) a.decl 0).length ≠ 0 := fun h => hi (List.length_eq_zero_iff.1 h)
  simp only [L34_0_3, Y25_0_5, hg, decide_eq_true (show v ≥ 0 from h0), decide_eq_true (show ((inds (hitP v u) a.decl 0).length : Int) > 0 by omega), cond_true, clOk_small (show (inds (hitP v u) a.decl 0).length ≤ 1000 by omega), bsm]
 | @up v x l h0 hi hx hm ih =>
  have hs : L34_0_3 a (foundL a.decl 0 []) u v = some (.inr x.par) := by
   simp only [L34_0_3, Y25_0_5, hg, hi, decide_eq_true (show v ≥ 0 from h0), List.length_nil, show decide (((0 : Nat) : Int) > 0) = false from rfl, cond_true, cond_false, bsm, hx]
  rcases ih with ⟨h1, w, h2⟩ | ⟨h1, w, h2⟩
  ·exact .inl ⟨h1, w, by rw [runL_next hs]; exact h2⟩
  ·exact .inr ⟨h1, w, by rw [runL_next hs]; exact h2⟩
theorem q24 {a : ScopesD} (hf : Few a) {u : NameD} {l : List Int} (h : Mean a u u.scp l) :
  (l = [] ∧ ∃ w, F24_3 u a (foundL a.decl 0 []) = some (.k1 w)) ∨ (l ≠ [] ∧ ∃ w, F24_3 u a (foundL a.decl 0 []) = some (.k0 (gnz l) l.length w l)) := by
 unfold F24_3 F25_3
 rcases l34 hf h with ⟨h1, w, h2⟩ | ⟨h1, w, h2⟩
 ·refine .inl ⟨h1, w, ?_⟩
  rw [runL_done (e := .k1 w) (by
   show L25_1_3 u a (foundL a.decl 0 []) = _
   unfold L25_1_3 F28_3 F34_3
   simp only [bsm]
   rw [show (⟨a.all, a.decl, a.uses⟩ : ScopesD) = a from rfl, h2]
   rfl)]
  rfl
 ·refine .inr ⟨h1, w, ?_⟩
  rw [runL_done (e := .k0 (gnz l) l.length w l) (by
   show L25_1_3 u a (foundL a.decl 0 []) = _
   unfold L25_1_3 F28_3 F34_3
   simp only [bsm]
   rw [show (⟨a.all, a.decl, a.uses⟩ : ScopesD) = a from rfl, h2]
   rfl)]
  rfl
theorem l15_0 {a : ScopesD} (hf : Few a) (u : NameD) (v : Int) : ∃ g, runL (fun s => L15_0_2 u a v s.1 s.2.1 s.2.2.1 s.2.2.2) (0, 0, 0, []) = some (.k0 g (inds (hitP v u) a.decl 0).length (inds (hitP v u) a.decl 0)) := by
 have hd := hf.decl
 obtain ⟨⟨g, row⟩, h1, h2, h3⟩ := loop_inv0 (step := fun s => L15_0_2 u a v s.1 s.2.1 s.2.2.1 s.2.2.2) (l := a.decl) (fun i (b : Nat × List Int) => (b.1, b.2.length, (i : Int), b.2)) (fun b => E_L15_0_2.k0 b.1 b.2.length b.2)
  (fun i b => b.2 ++ inds (hitP v u) (a.decl.drop i) i = inds (hitP v u) a.decl 0 ∧ b.2.length ≤ i) (fun i x b hx hb => by
   have hi : i < a.decl.length := (gei.1 hx).1
   have hdr : a.decl.drop i = x :: a.decl.drop (i + 1) := by rw [List.drop_eq_getElem_cons hi, (gei.1 hx).2]
   obtain ⟨b1, b2⟩ := hb
   rw [hdr, show inds (hitP v u) (x :: a.decl.drop (i + 1)) i = (bif hitP v u x then [(i : Int)] else []) ++ inds (hitP v u) (a.decl.drop (i + 1)) (i + 1) from rfl] at b1
   rw [← List.append_assoc] at b1
   refine ⟨(bif hitP v u x then b.1 + 1 else b.1, b.2 ++ (bif hitP v u x then [(i : Int)] else [])), ?_, b1, by cases hitP v u x <;> simp <;> omega⟩
   simp only [L15_0_2, getI_nat, hx, bsm, decide_eq_true (show (i : Int) < (a.decl.length : Int) by omega), cond_true, w_S (show i < 4611686018427387904 by omega), apS (show b.2.length ≤ 1000 by omega) (show 8 ≤ 100 by omega), no_room, cond_false, put_end, hitP]
   cases x.scp == v <;> cases x.spc.toList == u.spc.toList <;> cases x.txt.toList == u.txt.toList <;> simp)
  (fun b hb => by simp only [L15_0_2, decide_eq_false (show ¬ (a.decl.length : Int) < (a.decl.length : Int) by omega), cond_false]) (a := (0, [])) ⟨by simp, by simp⟩
 rw [List.drop_length] at h2
 have h2 : row = inds (hitP v u) a.decl 0 := by rw [← h2]; simp [inds]
 refine ⟨g, ?_⟩
 rw [← h2]
 exact h1
theorem l15 {a : ScopesD} (hf : Few a) {u : NameD} {v : Int} {l : List Int} (h : Mean a u v l) : (l = [] ∧ runL (fun s => L15_1 u a s) v = some .k1) ∨ (l ≠ [] ∧ ∃ g, runL (fun s => L15_1 u a s) v = some (.k0 g l.length l)) := by
 induction h with
 | @none v h =>
  refine .inl ⟨rfl, runL_done ?_⟩
  simp only [L15_1, decide_eq_false (show ¬ v ≥ 0 by omega), cond_false]
 | @here v h0 hi =>
  obtain ⟨g, hg⟩ := l15_0 hf u v
  refine .inr ⟨hi, g, runL_done ?_⟩
  have hn : (inds (hitP v u) a.decl 0).length ≠ 0 := fun h => hi (List.length_eq_zero_iff.1 h)
  simp only [L15_1, hg, decide_eq_true (show v ≥ 0 from h0), decide_eq_true (show (((inds (hitP v u) a.decl 0).length : Nat) : Int) > 0 by omega), cond_true, bsm]
 | @up v x l h0 hi hx hm ih =>
  obtain ⟨g, hg⟩ := l15_0 hf u v
  rw [hi] at hg
  have hs : L15_1 u a v = some (.inr x.par) := by
   simp only [L15_1, hg, decide_eq_true (show v ≥ 0 from h0), List.length_nil, show decide (((0 : Nat) : Int) > 0) = false from rfl, cond_true, cond_false, bsm, hx]
  rcases ih with ⟨h1, h2⟩ | ⟨h1, w, h2⟩
  ·exact .inl ⟨h1, by rw [runL_next hs]; exact h2⟩
  ·exact .inr ⟨h1, w, by rw [runL_next hs]; exact h2⟩
theorem q15 {a : ScopesD} (hf : Few a) {u : NameD} {l : List Int} (h : Mean a u u.scp l) : F15 a u = some l := by
 unfold F15
 rcases l15 hf h with ⟨h1, h2⟩ | ⟨h1, g, h2⟩
 ·rw [h2, h1]; rfl
 ·rw [h2]
  simp only [bsm, decide_eq_true (Nat.le_refl l.length), cond_true, List.take_length]
structure Means (a : ScopesD) (ls : List Ints) : Prop where
 len : ls.length = a.uses.length
 at_ : ∀ (i : Nat) (u : NameD) (l : List Int), a.uses[i]? = some u → ls[i]? = some l → Mean a u u.scp l
theorem l11 {a : ScopesD} (hf : Few a) (hk : okG a = true) : ∃ g ls, runL (fun s => L11_0 a (a.uses.length : Int) (foundL a.decl 0 []) s.1 s.2.1 s.2.2.1 s.2.2.2) (0, 0, 0, []) = some (.k0 g ls.length ls) ∧ Means a ls := by
 have hd := hf.uses
 obtain ⟨⟨g, ls⟩, h1, h2, h3⟩ := loop_inv0 (step := fun s => L11_0 a (a.uses.length : Int) (foundL a.decl 0 []) s.1 s.2.1 s.2.2.1 s.2.2.2) (l := a.uses) (fun i (b : Nat × List Ints) => (b.1, b.2.length, (i : Int), b.2)) (fun b => E_L11_0.k0 b.1 b.2.length b.2)
  (fun i b => b.2.length = i ∧ ∀ (j : Nat) (u : NameD) (l : List Int), a.uses[j]? = some u → b.2[j]? = some l → Mean a u u.scp l) (fun i x b hx hb => by
   have hi : i < a.uses.length := (gei.1 hx).1
   obtain ⟨b1, b2⟩ := hb
   obtain ⟨l, hl⟩ := mean_use hk hx
   refine ⟨(b.1 + 1, b.2 ++ [l]), ?_, by simp [b1], fun j u m hu hm => ?_⟩
   ·simp only [L11_0, getI_nat, hx, bsm, decide_eq_true (show (i : Int) < (a.uses.length : Int) by omega), cond_true, w_S (show i < 4611686018427387904 by omega)]
    rcases q24 hf hl with ⟨e1, w, e2⟩ | ⟨e1, w, e2⟩
    ·rw [e2, e1]
     simp only [bsm, apS (show b.2.length ≤ 1000 by omega) (show 24 ≤ 100 by omega), no_room, cond_true, cond_false, put_end]
     simp
    ·rw [e2]
     simp only [bsm, apS (show b.2.length ≤ 1000 by omega) (show 24 ≤ 100 by omega), no_room, cond_true, cond_false, put_end, decide_eq_true (Nat.le_refl l.length), List.take_length]
     simp
   ·rw [List.getElem?_append] at hm
    split at hm
    ·exact b2 j u m hu hm
    ·rename_i hlt
     have hj : j < i + 1 := by
      have := (gei.1 hm).1
      simp at this
      omega
     obtain rfl : j = i := by omega
     rw [b1, Nat.sub_self] at hm
     rw [hx] at hu
     cases hu
     simp at hm
     rw [← hm]
     exact hl)
  (fun b hb => by simp only [L11_0, decide_eq_false (show ¬ (a.uses.length : Int) < (a.uses.length : Int) by omega), cond_false]) (a := (0, [])) ⟨by simp, by simp⟩
 exact ⟨g, ls, h1, h2, h3⟩
theorem q11 {a : ScopesD} (hf : Few a) (hk : okG a = true) : ∃ ls, F11 a = some (.k0 ls 0) ∧ Means a ls := by
 obtain ⟨g, ls, h1, h2⟩ := l11 hf hk
 have hd := hf.decl
 refine ⟨ls, ?_, h2⟩
 unfold F11
 rw [q19 a hf, hk]
 simp only [bsm, cond_true, show ((0 : Int) != 0) = false from rfl, cond_false, decide_eq_true (show a.decl.length ≤ 1000000 by omega), h1, decide_eq_true (Nat.le_refl ls.length), List.take_length]
theorem l14 (l : List Int) (h : l.length ≤ 1000) : runL (fun s => L14_0 l l s) 0 = some .k1 := by
 have := loop_list (step := fun s => L14_0 l l s) (l := l) (fun _ _ => true) (bad := E_L14_0.k0) (fin := .k1) (fun i x hx => by
  have hi : i < l.length := (gei.1 hx).1
  simp only [L14_0, getI_nat, hx, bsm, decide_eq_true (show (i : Int) < (l.length : Int) by omega), cond_true, w_S (show i < 4611686018427387904 by omega)]
  simp) (by simp only [L14_0, decide_eq_false (show ¬ (l.length : Int) < (l.length : Int) by omega), cond_false])
 rw [this, (allF_iff l 0).2 (fun _ _ _ => rfl)]
 rfl
theorem q14 (l : List Int) (h : l.length ≤ 1000) : F14 l l = some true := by
 unfold F14
 rw [l14 l h]
 simp
structure Few60 (a : ScopesD) : Prop where
 all : a.all.length ≤ 60
 decl : a.decl.length ≤ 60
 uses : a.uses.length ≤ 60
theorem Few60.few {a : ScopesD} (h : Few60 a) : Few a := ⟨by have := h.all; omega, by have := h.decl; omega, by have := h.uses; omega⟩
theorem q7 (a : ScopesD) : ∃ v, F7 a = some v ∧ (v = true → Few60 a) := by
 unfold F7
 by_cases h1 : (a.all.length : Int) ≤ 60
 ·by_cases h2 : (a.decl.length : Int) ≤ 60
  ·rw [decide_eq_true h1, decide_eq_true h2]
   exact ⟨_, rfl, fun h3 => ⟨by omega, by omega, by have := of_decide_eq_true h3; omega⟩⟩
  ·rw [decide_eq_true h1, decide_eq_false h2]; exact ⟨_, rfl, fun h => by cases h⟩
 ·rw [decide_eq_false h1]; exact ⟨_, rfl, fun h => by cases h⟩
theorem inds_app (p : NameD → Bool) (d : NameD) : ∀ (l : List NameD) (i : Nat), inds p (l ++ [d]) i = inds p l i ++ bif p d then [((i + l.length : Nat) : Int)] else []
 | [], i => by simp [inds]
 | x :: l, i => by
  have ih := inds_app p d l (i + 1)
  show (bif p x then [(i : Int)] else []) ++ inds p (l ++ [d]) (i + 1) = ((bif p x then [(i : Int)] else []) ++ inds p l (i + 1)) ++ _
  rw [ih, List.append_assoc, List.length_cons, show i + 1 + l.length = i + (l.length + 1) from by omega]
theorem inds_at (p : NameD → Bool) : ∀ (l : List NameD) (i : Nat), ∀ k ∈ inds p l i, ∃ (j : Nat) (x : NameD), k = ((i + j : Nat) : Int) ∧ l[j]? = some x ∧ p x = true
 | [], _, k, h => by simp [inds] at h
 | x :: l, i, k, h => by
  unfold inds at h
  rcases List.mem_append.1 h with h | h
  ·cases hp : p x <;> rw [hp] at h <;> simp at h
   exact ⟨0, x, by simpa using h, rfl, hp⟩
  ·obtain ⟨j, y, h1, h2, h3⟩ := inds_at p l (i + 1) k h
   exact ⟨j + 1, y, by rw [h1]; omega, by simpa using h2, h3⟩
theorem hitP_scp {v : Int} {u x : NameD} (h : hitP v u x = true) : x.scp = v := by
 unfold hitP at h
 simp only [aet, beq_iff_eq] at h
 exact h.1
theorem Mean.one {a : ScopesD} {u : NameD} {v : Int} {l m : List Int} (h : Mean a u v l) (k : Mean a u v m) : l = m := by
 induction h with
 | none h0 =>
  cases k with
  | none _ => rfl
  | here h1 _ => omega
  | up h1 _ _ _ => omega
 | here h0 hi =>
  cases k with
  | none h1 => omega
  | here _ _ => rfl
  | up _ h2 _ _ => exact absurd h2 hi
 | up h0 hi hx hm ih =>
  cases k with
  | none h1 => omega
  | here _ h2 => exact absurd hi h2
  | up _ _ hx' hm' =>
   rw [hx] at hx'
   cases hx'
   exact ih hm'
theorem mean_where {a : ScopesD} (hk : okG a = true) {u : NameD} {v : Int} {l : List Int} (h : Mean a u v l) : l = [] ∨ ∃ w, w ≤ v ∧ l = inds (hitP w u) a.decl 0 ∧ l ≠ [] := by
 induction h with
 | none _ => exact .inl rfl
 | here _ h => exact .inr ⟨_, Int.le_refl _, rfl, h⟩
 | @up v x l h0 hi hx hm ih =>
  rcases ih with h | ⟨w, h1, h2, h3⟩
  ·exact .inl h
  ·obtain ⟨i, rfl⟩ : ∃ i : Nat, v = (i : Int) := ⟨v.toNat, by omega⟩
   rw [getI_nat] at hx
   have := par_lt hk hx
   exact .inr ⟨w, by omega, h2, h3⟩
theorem mean_more {a : ScopesD} {u d : NameD} (hd : ∀ v, hitP v u d = false) {v : Int} {l : List Int} (h : Mean a u v l) : Mean ⟨a.all, a.decl ++ [d], a.uses⟩ u v l := by
 have e : ∀ v, inds (hitP v u) (a.decl ++ [d]) 0 = inds (hitP v u) a.decl 0 := fun v => by rw [inds_app, hd]; simp
 induction h with
 | none h => exact .none h
 | @here v h0 h =>
  rw [← e]
  exact .here h0 (by show inds (hitP v u) (a.decl ++ [d]) 0 ≠ []; rw [e]; exact h)
 | @up v x l h0 h hx _ ih => exact .up h0 (by show inds (hitP v u) (a.decl ++ [d]) 0 = []; rw [e]; exact h) hx ih
theorem allF_app {α : Type} {p : Nat → α → Bool} (d : α) : ∀ (l : List α) (i : Nat), allF p i (l ++ [d]) = (allF p i l && p (i + l.length) d)
 | [], i => by simp [allF]
 | x :: l, i => by
  simp only [List.cons_append, allF, allF_app d l (i + 1), List.length_cons, Bool.and_assoc]
  rw [show i + 1 + l.length = i + (l.length + 1) from by omega]
theorem ok_more {a : ScopesD} (hk : okG a = true) {d : NameD} (h0 : 0 ≤ d.scp) (h1 : d.scp < (a.all.length : Int)) (h2 : 0 ≤ d.frm) (h3 : d.frm ≤ d.til) (h4 : ∀ x ∈ a.decl, x.frm ≤ d.frm) : okG ⟨a.all, a.decl ++ [d], a.uses⟩ = true := by
 unfold okG at hk ⊢
 simp only [aet] at hk ⊢
 refine ⟨hk.1, hk.2.1, ?_, hk.2.2.2⟩
 rw [allF_app, aet]
 refine ⟨?_, ?_⟩
 ·rw [← hk.2.2.1]
  refine allF_congr a.decl 0 (fun k x hx => ?_)
  rw [Nat.zero_add]
  unfold nmOk
  cases k with
  | zero => rfl
  | succ j =>
   have hj := (gei.1 hx).1
   show (_ && (_ && (_ && (_ && (match (a.decl ++ [d])[j]? with | some y => decide (y.frm ≤ x.frm) | none => true))))) = (_ && (_ && (_ && (_ && (match a.decl[j]? with | some y => decide (y.frm ≤ x.frm) | none => true)))))
   rw [List.getElem?_append_left (show j < a.decl.length by omega)]
 ·rw [Nat.zero_add]
  unfold nmOk
  rw [decide_eq_true h0, decide_eq_true h1, decide_eq_true h2, decide_eq_true h3]
  cases hl : a.decl.length with
  | zero => rfl
  | succ j =>
   have hx : a.decl[j]? = some (a.decl[j]'(by omega)) := geg _
   generalize a.decl[j]'(by omega) = x at hx
   show (true && (true && (true && (true && (match (a.decl ++ [d])[j]? with | some y => decide (y.frm ≤ d.frm) | none => true))))) = true
   rw [List.getElem?_append_left (show j < a.decl.length by omega), hx]
   simp only [Bool.true_and]
   exact decide_eq_true (h4 x (mog hx))
theorem l5_1 {a : ScopesD} (hf : Few a) (v : Int) : ∃ b, runL (fun s => L5_1 a s.1 s.2) (v, 0) = some (.k0 b) ∧ v ≤ b ∧ ∀ x ∈ a.decl, x.frm ≤ b := by
 have hd := hf.decl
 obtain ⟨b, h1, h2, h3⟩ := loop_inv0 (step := fun s => L5_1 a s.1 s.2) (l := a.decl) (fun i (b : Int) => (b, (i : Int))) (fun b => E_L5_1.k0 b)
  (fun i b => v ≤ b ∧ ∀ (j : Nat) (x : NameD), j < i → a.decl[j]? = some x → x.frm ≤ b) (fun i x b hx hb => by
   have hi : i < a.decl.length := (gei.1 hx).1
   refine ⟨if b < x.frm then x.frm else b, ?_, ?_, ?_⟩
   ·simp only [L5_1, getI_nat, hx, bsm, decide_eq_true (show (i : Int) < (a.decl.length : Int) by omega), cond_true, w_S (show i < 4611686018427387904 by omega)]
   ·have := hb.1
    split <;> omega
   ·intro j y hj hy
    by_cases hji : j = i
    ·subst hji
     rw [hx] at hy
     cases hy
     split <;> omega
    ·have := hb.2 j y (by omega) hy
     split <;> omega)
  (fun b hb => by simp only [L5_1, decide_eq_false (show ¬ (a.decl.length : Int) < (a.decl.length : Int) by omega), cond_false]) (a := v) ⟨Int.le_refl _, fun j x h => by omega⟩
 refine ⟨b, h1, h2, fun x hx => ?_⟩
 obtain ⟨j, hj⟩ := List.getElem?_of_mem hx
 exact h3 j x (gei.1 hj).1 hj
theorem q12 {a : ScopesD} (hf : Few a) (hk : okG a = true) {i : Nat} {u : NameD} (hu : a.uses[i]? = some u) : ∃ l, F12 a (i : Int) = some (.k0 l 0) ∧ Mean a u u.scp l := by
 obtain ⟨ls, e1, hm⟩ := q11 hf hk
 have hi := (gei.1 hu).1
 have hlen := hm.len
 have hl : ls[i]? = some (ls[i]'(by omega)) := geg _
 generalize ls[i]'(by omega) = l at hl
 refine ⟨l, ?_, hm.at_ i u l hu hl⟩
 unfold F12
 rw [e1]
 simp only [bsm, show ((0 : Int) != 0) = false from rfl, cond_false, decide_eq_false (show ¬ (i : Int) < 0 by omega), decide_eq_false (show ¬ (i : Int) ≥ (ls.length : Int) by omega), getI_nat, hl]
theorem l5_0 {now : List Int} {x : NameD} {ds : List NameD} (hn : now.length ≤ 1000) (h : ∀ k ∈ now, ∃ (j : Nat) (y : NameD), k = (j : Int) ∧ ds[j]? = some y ∧ y.scp = x.scp) : runL (fun s => L5_0_2 now x ds s) 0 = some .k1 := by
 have := loop_list (step := fun s => L5_0_2 now x ds s) (l := now) (fun _ _ => true) (bad := E_L5_0_2.k0) (fin := .k1) (fun i k hk => by
  have hi : i < now.length := (gei.1 hk).1
  obtain ⟨j, y, rfl, h2, h3⟩ := h k (mog hk)
  have hj := (gei.1 h2).1
  simp only [L5_0_2, getI_nat, hk, bsm, decide_eq_true (show (i : Int) < (now.length : Int) by omega), cond_true, w_S (show i < 4611686018427387904 by omega), decide_eq_false (show ¬ (j : Int) < 0 by omega), decide_eq_false (show ¬ (j : Int) ≥ (ds.length : Int) by omega), cond_false, h2, h3, bne_self_eq_false]) (by simp only [L5_0_2, decide_eq_false (show ¬ (now.length : Int) < (now.length : Int) by omega), cond_false])
 rw [this, (allF_iff now 0).2 (fun _ _ _ => rfl)]
 rfl
theorem law5 (a : ScopesD) (n : Int) (s : ByteArray) : F5 a n s = some true := by
 obtain ⟨v, h1, h2⟩ := q7 a
 unfold F5
 rw [h1]
 simp only [bsm]
 cases v with
 | false => rfl
 | true =>
 have h60 := h2 rfl
 have hf := h60.few
 rw [q10 a hf]
 simp only [bsm, cond_true]
 cases hk : okG a with
 | false => rfl
 | true =>
 simp only [cond_true]
 by_cases c1 : n < 0
 ·rw [decide_eq_true c1]; rfl
 rw [decide_eq_false c1]
 by_cases c2 : n ≥ (a.uses.length : Int)
 ·rw [decide_eq_true c2]; rfl
 rw [decide_eq_false c2]
 simp only [cond_false]
 obtain ⟨i, rfl⟩ : ∃ i : Nat, n = (i : Int) := ⟨n.toNat, by omega⟩
 have hu : a.uses[i]? = some (a.uses[i]'(by omega)) := geg _
 generalize a.uses[i]'(by omega) = u at hu
 obtain ⟨was, e1, m1⟩ := q12 hf hk hu
 obtain ⟨b, e2, b1, b2⟩ := l5_1 hf u.frm
 have hd := h60.decl
 have hnm := (allF_iff a.uses 0).1 (okG_uses hk) i u hu
 have hsc := nmOk_scp hnm
 have hfr : 0 ≤ u.frm := by
  unfold nmOk at hnm
  simp only [aet, decide_eq_true_eq] at hnm
  exact hnm.2.2.1
 obtain ⟨d, hdd⟩ : ∃ d : NameD, d = ⟨u.scp, s, u.txt, b, b⟩ := ⟨_, rfl⟩
 have hkt : okG ⟨a.all, a.decl ++ [d], a.uses⟩ = true := ok_more hk (by rw [hdd]; exact hsc.1) (by rw [hdd]; exact hsc.2) (by rw [hdd]; show 0 ≤ b; omega) (by rw [hdd]; exact Int.le_refl _) (fun x hx => by rw [hdd]; exact b2 x hx)
 have hft : Few ⟨a.all, a.decl ++ [d], a.uses⟩ := ⟨hf.all, by simp; omega, hf.uses⟩
 obtain ⟨now, e3, m3⟩ := q12 hft hkt hu
 have hln := m3.len
 have hlw := m1.len
 simp only [List.length_append, List.length_singleton] at hln
 rw [e1]
 simp only [bsm, getI_nat, hu, e2, show nilOk a.decl.length 56 = true from decide_eq_true ⟨by unfold limit47; omega, by unfold limit47; omega⟩, apS (show a.decl.length ≤ 1000 by omega) (show 56 ≤ 100 by omega), no_room, cond_true, cond_false, put_end, ← hdd, decide_eq_true (show a.decl.length + 1 ≤ (a.decl ++ [d]).length by simp), List.take_of_length_le (show (a.decl ++ [d]).length ≤ a.decl.length + 1 by simp), e3, show ((0 : Int) != 0) = false from rfl, q15 hf m1, q14 was (by omega)]
 rw [bytes_list]
 by_cases hs : s = u.spc
 ·rw [decide_eq_true hs, Bool.not_true, cond_false]
  have hhit : hitP u.scp u d = true := by
   rw [hitP_key, hdd, hs]
   exact decide_eq_true rfl
  obtain ⟨w0, hw0⟩ : ∃ w0, w0 = inds (hitP u.scp u) a.decl 0 := ⟨_, rfl⟩
  have hnow : now = w0 ++ [(a.decl.length : Int)] := by
   have e : inds (hitP u.scp u) (a.decl ++ [d]) 0 = w0 ++ [(a.decl.length : Int)] := by rw [inds_app, hhit, hw0]; simp
   have : Mean ⟨a.all, a.decl ++ [d], a.uses⟩ u u.scp (inds (hitP u.scp u) (a.decl ++ [d]) 0) := .here hsc.1 (by rw [show inds (hitP u.scp u) (⟨a.all, a.decl ++ [d], a.uses⟩ : ScopesD).decl 0 = _ from e]; simp)
   rw [m3.one this, e]
  have hw0l : w0.length ≤ a.decl.length := by rw [hw0]; exact inds_len _ _ _
  have hwrap : IntKind.wrap .i64 ((now.length : Int) - 1) = (w0.length : Int) := by
   rw [hnow, w_id (by simp; omega)]
   simp
  have hlast : now[w0.length]? = some (a.decl.length : Int) := by rw [hnow]; simp
  have hloop : runL (fun s => L5_0_2 now u (a.decl ++ [d]) s) 0 = some .k1 := l5_0 (by omega) (fun k hk' => by
   have hk2 : k ∈ inds (hitP u.scp u) (a.decl ++ [d]) 0 := by
    rw [inds_app, hhit, ← hw0]
    rw [hnow] at hk'
    simpa using hk'
   obtain ⟨j, y, q1, q2, q3⟩ := inds_at _ _ _ k hk2
   exact ⟨j, y, by rw [q1, Nat.zero_add], q2, hitP_scp q3⟩)
  have hne : ((now.length : Int) == 0) = false := by
   rw [hnow]
   simp
   omega
  rw [hne, cond_false, hwrap, getI_nat, hlast]
  simp only [bsm, bne_self_eq_false, cond_false, hloop]
  rcases mean_where hk m1 with hw | ⟨w, q1, q2, q3⟩
  ·have hz : w0 = [] := by
    by_cases hz : w0 = []
    ·exact hz
    ·have := m1.one (.here hsc.1 (by rw [← hw0]; exact hz))
     rw [hw, ← hw0] at this
     exact absurd this.symm hz
   rw [hw, hnow, hz]
   rfl
  ·have hpos : was.length ≠ 0 := fun h => q3 (List.length_eq_zero_iff.1 h)
   have h0 : was[0]? = some (was[0]'(by omega)) := geg _
   generalize was[0]'(by omega) = k0 at h0
   obtain ⟨j, y, r1, r2, r3⟩ := inds_at (hitP w u) a.decl 0 k0 (by rw [← q2]; exact mog h0)
   rw [Nat.zero_add] at r1
   have r3 := hitP_scp r3
   rw [decide_eq_true (show (was.length : Int) > 0 by omega), cond_true, show getI was 0 = was[0]? from rfl, h0]
   simp only [bsm, r1, getI_nat, r2, r3]
   by_cases hws : w = u.scp
   ·rw [hws] at q2
    rw [hws, beq_self_eq_true, cond_true]
    have hww : was = w0 := by rw [q2, hw0]
    have : ((now.length : Int) == IntKind.wrap .i64 ((was.length : Int) + 1)) = true := by
     rw [w_id (by omega), hww, hnow]
     simp
    rw [this]
    rfl
   ·have hz : w0 = [] := by
     by_cases hz : w0 = []
     ·exact hz
     ·have := m1.one (.here hsc.1 (by rw [← hw0]; exact hz))
      exfalso
      obtain ⟨j', y', _, r2', r3'⟩ := inds_at (hitP u.scp u) a.decl 0 k0 (by rw [← this]; exact mog h0)
      rename_i t1
      rw [Nat.zero_add] at t1
      have : j = j' := by omega
      subst this
      rw [r2] at r2'
      cases r2'
      exact hws (r3.symm.trans (hitP_scp r3'))
    rw [beq_false_of_ne hws, cond_false, hnow, hz]
    rfl
 ·rw [decide_eq_false hs, Bool.not_false, cond_true]
  have hno : ∀ v, hitP v u d = false := fun v => by
   rw [hitP_key, hdd]
   refine decide_eq_false (fun h => hs ?_)
   simp only [keyN, Prod.mk.injEq] at h
   exact h.2.1.symm
  have := (mean_more hno m1).one m3
  rw [← this, q14 was (by omega)]
  rfl
end Go.Proofs.Try
