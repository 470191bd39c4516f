/- Sets together as the document has it, byte by byte: the union. -/
import Derived.Test.YtefidjmkfefilaaDoorK9
import Derived.Test.YtefidjmkfefilaaDoorVE
open Option renaming bind_some → bsm
open List renaming getElem?_eq_some_iff → gei, eq_nil_of_length_eq_zero → enz, getElem?_eq_getElem → geg, mem_of_getElem? → mog, take_of_length_le → tol, length_append → lap
namespace Go.Proofs.Tryd
set_option linter.unusedSimpArgs false
set_option linter.unusedVariables false
open Go Go.Vs
theorem has_z (c : Nat) : has zV c = false := by
 unfold has zV V4.get
 split <;> simp
def leV (a c : List V4) : Prop := a.length = c.length ∧ ∀ i b, has (atV a i) b = true → has (atV c i) b = true
theorem leV.refl (a : List V4) : leV a a := ⟨rfl, fun _ _ h => h⟩
theorem leV.trans {a b c : List V4} (h : leV a b) (k : leV b c) : leV a c := ⟨h.1.trans k.1, fun i x hx => k.2 i x (h.2 i x hx)⟩
theorem u_same {x y : V4} (h : ∀ b, has y b = true → has x b = true) : uV x y = x := by
 refine V_ext (fun b _ => ?_)
 rw [has_u]
 cases e1 : has x b <;> cases e2 : has y b <;> first | rfl | (have := h b e2; rw [e1] at this; cases this)
def cf (sh : List Int) (o : List V4) : List SymD → V4
 | [] => zV
 | s :: r => bif s.kind == 0 then v4 s else bif symS sh s == 0 then uV (atV o s.sort.toNat) (cf sh o r) else atV o s.sort.toNat
def liveP (sh : List Int) (p : ProdD) : Bool := (p.role != 11) && decide (0 ≤ sumS sh 0 p.right)
structure ClF (g : GramD) (sh : List Int) (c : List V4) : Prop where
 len : c.length = g.sorts.length
 cl : ∀ p ∈ g.prods, liveP sh p = true → ∀ b, has (cf sh c p.right) b = true → has (atV c p.left.toNat) b = true
theorem set_u {o : List V4} {l : Nat} {x : V4} (hl : l < o.length) (h : ∀ b, has x b = true → has (atV o l) b = true) : o.set l (uV (atV o l) x) = o := by
 rw [u_same h]
 exact set_at hl
theorem stF_fix {sh : List Int} (l : Nat) : ∀ (r : List SymD) (o : List V4), l < o.length → stF sh l o r = o → ∀ b, has (cf sh o r) b = true → has (atV o l) b = true
 | [], o, _, _, b, hb => by rw [cf, has_z] at hb; cases hb
 | s :: r, o, hl, h, b, hb => by
  simp only [stF] at h
  simp only [cf] at hb
  have key : ∀ x : V4, o.set l (uV (atV o l) x) = o → ∀ b, has x b = true → has (atV o l) b = true := by
   intro x hx b hb
   rw [← hx, at_set hl, if_pos rfl, has_u, hb, Bool.or_true]
  cases e : s.kind == 0
  ·rw [e] at h hb
   simp only [cond_false] at h hb
   cases e2 : symS sh s == 0
   ·rw [e2] at h hb
    exact key _ h b hb
   ·rw [e2] at h hb
    simp only [cond_true] at h hb
    have h1 : ∀ b, has (atV o s.sort.toNat) b = true → has (atV o l) b = true := by
     intro b hb
     have := stF_mono sh l r (o.set l (uV (atV o l) (atV o s.sort.toNat))) (b := b) (by simpa using hl) (by rw [at_set hl, if_pos rfl, has_u, hb, Bool.or_true])
     rw [h] at this
     exact this
    rw [set_u hl h1] at h
    rw [has_u, Bool.or_eq_true] at hb
    exact hb.elim (h1 b) (stF_fix l r o hl h b)
  ·rw [e] at h hb
   exact key _ h b hb
section
variable {g : GramD} {sh : List Int}
theorem first_closed (hv : GramV g) : ClF g sh (firstOf sh g) := by
 refine ⟨first_len sh g, fun p hp hl b hb => ?_⟩
 have h := first_upd sh g p hp
 have hpl := (hv.prod p hp).left
 unfold updF at h
 unfold liveP at hl
 rw [hl] at h
 exact stF_fix p.left.toNat p.right _ (by rw [first_len]; omega) h b hb
variable {n : Nat}
theorem map_at {o : List V4} (ho : o.length = n) {j : Nat} (hj : j < n) : (o.map sd)[j]? = some (sd (atV o j)) := by rw [List.getElem?_map, at_some (by omega)]; rfl
end
def bh (sh : List Int) (fi : List V4) : List SymD → V4 → V4
 | [], x => x
 | s :: r, x => bif s.kind == 0 then v4 s else bif symS sh s == 0 then uV (bh sh fi r x) (atV fi s.sort.toNat) else atV fi s.sort.toNat
def be (sh : List Int) : List SymD → Bool → Bool
 | [], b => b
 | s :: r, b => bif s.kind == 0 then false else bif symS sh s == 0 then be sh r b else false
def setE (E : List Bool) (i : Nat) (b : Bool) : List Bool := bif b then E.set i true else E
theorem setE_len (E : List Bool) (i : Nat) (b : Bool) : (setE E i b).length = E.length := by unfold setE; cases b <;> simp
theorem setE_grow (E : List Bool) (i : Nat) (b : Bool) : setE E i b = E ∨ cnt E < cnt (setE E i b) := by
 unfold setE
 cases b with
 | false => exact .inl rfl
 | true =>
  simp only [cond_true]
  cases h : E[i]? with
  | none => left; rw [List.set_eq_of_length_le (by rw [List.getElem?_eq_none_iff] at h; exact h)]
  | some v =>
   cases v with
   | true => exact .inl (set_same h)
   | false => exact .inr (set_cnt h)
theorem setE_up (E : List Bool) (i : Nat) (b : Bool) : leB E (setE E i b) := by
 unfold setE
 cases b with
 | false => exact leB.refl _
 | true => exact leB_set i
theorem setE_or {E : List Bool} {i : Nat} {e b : Bool} (h : E[i]? = some e) : E.set i (e || b) = setE E i b := by
 unfold setE
 cases e with
 | true => cases b with
  | true => rfl
  | false => exact set_same h
 | false => cases b with
  | true => rfl
  | false =>
   apply List.ext_getElem?
   intro j
   rw [List.getElem?_set]
   by_cases e : i = j
   ·subst e
    rw [if_pos rfl, if_pos (gei.1 h).1, cond_false, h]; rfl
   ·rw [if_neg e]; rfl
abbrev WS := List V4 × List Bool
def mmW (a : WS) : Nat := mmV a.1 + cnt a.2
def leW (a c : WS) : Prop := leV a.1 c.1 ∧ leB a.2 c.2
theorem mm_mono {a c : List V4} (h : leV a c) : mmV a ≤ mmV c := by
 have key : ∀ (a c : List V4), a.length = c.length → (∀ i, cntV (atV a i) ≤ cntV (atV c i)) → mmV a ≤ mmV c := by
  intro a
  induction a with
  | nil => intro c _ _; simp [mmV]
  | cons x a ih =>
   intro c hl hc
   cases c with
   | nil => simp at hl
   | cons y c =>
    have h0 := hc 0
    have h1 := ih c (by simpa using hl) (fun i => by have := hc (i + 1); simpa [atV] using this)
    simp only [mmV, List.map_cons, List.sum_cons] at h1 ⊢
    simp only [atV, List.getElem?_cons_zero, Option.getD_some] at h0
    omega
 refine key a c h.1 (fun i => ?_)
 unfold cntV
 refine cnt_mono ⟨by simp [blV], fun j hj => ?_⟩
 have hjl : j < 256 := by have := (gei.1 hj).1; simpa [blV] using this
 rw [bl_at _ hjl] at hj ⊢
 simp only [Option.some.injEq] at hj ⊢
 exact h.2 i j hj
theorem leW.mm {a c : WS} (h : leW a c) : mmW a ≤ mmW c := Nat.add_le_add (mm_mono h.1) (cnt_mono h.2)
theorem setV_up {o : List V4} (i : Nat) (y : V4) : leV o (o.set i (uV (atV o i) y)) := by
 by_cases h : i < o.length
 ·refine ⟨by simp, fun j b hb => ?_⟩
  rw [at_set h]
  split
  ·rename_i e; subst e; rw [has_u, hb]; rfl
  ·exact hb
 ·rw [List.set_eq_of_length_le (by omega)]; exact leV.refl o
def stepW (a : WS) (k : Nat) (x : V4) (b : Bool) : WS := (a.1.set k (uV (atV a.1 k) x), setE a.2 k b)
theorem stepW_grow (a : WS) (k : Nat) (x : V4) (b : Bool) : stepW a k x b = a ∨ mmW a < mmW (stepW a k x b) := by
 have h1 := mm_set a.1 k x
 have h2 := setE_grow a.2 k b
 unfold stepW mmW
 rcases h1 with h1 | h1
 ·rcases h2 with h2 | h2
  ·left; exact Prod.ext h1 h2
  ·right; simp only [h1]; omega
 ·right
  have := cnt_mono (setE_up a.2 k b)
  simp only
  omega
theorem stepW_up (a : WS) (k : Nat) (x : V4) (b : Bool) : leW a (stepW a k x b) := ⟨setV_up k x, setE_up _ _ _⟩
def stp (sh : List Int) (fi : List V4) (nx : V4) (la : Bool) : List SymD → WS → WS
 | [], a => a
 | s :: r, a => bif s.kind == 0 then stp sh fi nx la r a else stepW (stp sh fi nx la r a) s.sort.toNat (bh sh fi r nx) (be sh r la)
theorem stp_up (sh : List Int) (fi : List V4) (nx : V4) (la : Bool) : ∀ (r : List SymD) (a : WS), leW a (stp sh fi nx la r a)
 | [], a => ⟨leV.refl _, leB.refl _⟩
 | s :: r, a => by
  simp only [stp]
  have ih := stp_up sh fi nx la r a
  cases s.kind == 0
  ·have h := stepW_up (stp sh fi nx la r a) s.sort.toNat (bh sh fi r nx) (be sh r la)
   exact ⟨ih.1.trans h.1, ih.2.trans h.2⟩
  ·exact ih
theorem stp_len (sh : List Int) (fi : List V4) (nx : V4) (la : Bool) (r : List SymD) (a : WS) : (stp sh fi nx la r a).1.length = a.1.length ∧ (stp sh fi nx la r a).2.length = a.2.length :=
 ⟨(stp_up sh fi nx la r a).1.1.symm, (stp_up sh fi nx la r a).2.1.symm⟩
theorem stp_grow (sh : List Int) (fi : List V4) (nx : V4) (la : Bool) : ∀ (r : List SymD) (a : WS), stp sh fi nx la r a = a ∨ mmW a < mmW (stp sh fi nx la r a)
 | [], a => .inl rfl
 | s :: r, a => by
  simp only [stp]
  have ih := stp_grow sh fi nx la r a
  cases s.kind == 0
  ·simp only [cond_false]
   have h := stepW_grow (stp sh fi nx la r a) s.sort.toNat (bh sh fi r nx) (be sh r la)
   rcases h with h | h
   ·rw [h]; exact ih
   ·right
    have := (stp_up sh fi nx la r a).mm
    omega
  ·exact ih
theorem stp_flag (sh : List Int) (fi : List V4) (nx : V4) (la : Bool) (s : SymD) (r : List SymD) (a : WS) (hk : (s.kind == 0) = false) :
  decide (stp sh fi nx la (s :: r) a ≠ a) = (decide (stp sh fi nx la r a ≠ a) || decide (stepW (stp sh fi nx la r a) s.sort.toNat (bh sh fi r nx) (be sh r la) ≠ stp sh fi nx la r a)) := by
 have e : stp sh fi nx la (s :: r) a = stepW (stp sh fi nx la r a) s.sort.toNat (bh sh fi r nx) (be sh r la) := by simp only [stp, hk, cond_false]
 rw [e]
 by_cases h1 : stp sh fi nx la r a = a
 ·rw [h1]; simp
 ·have h2 := (stp_grow sh fi nx la r a).resolve_left h1
  have h3 := (stepW_up (stp sh fi nx la r a) s.sort.toNat (bh sh fi r nx) (be sh r la)).mm
  have : stepW (stp sh fi nx la r a) s.sort.toNat (bh sh fi r nx) (be sh r la) ≠ a := fun h => by rw [h] at h3; omega
  simp [h1, this]
section
variable {g : GramD} {n : Nat} {sh : List Int} {fi : List V4}
def updW (sh : List Int) (fi : List V4) (inn : List Bool) (a : WS) (p : ProdD) : WS :=
 bif liveP sh p && (inn[p.left.toNat]?).getD false then stp sh fi (atV a.1 p.left.toNat) ((a.2[p.left.toNat]?).getD false) p.right a else a
theorem updW_grow (inn : List Bool) (a : WS) (p : ProdD) : updW sh fi inn a p = a ∨ mmW a < mmW (updW sh fi inn a p) := by
 unfold updW
 cases liveP sh p && (inn[p.left.toNat]?).getD false
 ·exact .inl rfl
 ·exact stp_grow _ _ _ _ _ _
theorem updW_len (inn : List Bool) (a : WS) (p : ProdD) : (updW sh fi inn a p).1.length = a.1.length ∧ (updW sh fi inn a p).2.length = a.2.length := by
 unfold updW
 cases liveP sh p && (inn[p.left.toNat]?).getD false
 ·exact ⟨rfl, rfl⟩
 ·exact stp_len _ _ _ _ _ _
structure ClW (g : GramD) (sh : List Int) (fi : List V4) (inn : List Bool) (c : WS) : Prop where
 l1 : c.1.length = g.sorts.length
 l2 : c.2.length = g.sorts.length
 cl : ∀ p ∈ g.prods, liveP sh p = true → inn[p.left.toNat]? = some true → ∀ pre s r, p.right = pre ++ s :: r → s.kind = 1 →
  (∀ b, has (bh sh fi r (atV c.1 p.left.toNat)) b = true → has (atV c.1 s.sort.toNat) b = true) ∧ (be sh r ((c.2[p.left.toNat]?).getD false) = true → c.2[s.sort.toNat]? = some true)
theorem stp_rest {nx : V4} {la : Bool} : ∀ (r : List SymD) (a : WS), (∀ s ∈ r, (s.kind = 0 ∨ s.kind = 1) ∧ (s.kind = 1 → s.sort.toNat < a.1.length ∧ s.sort.toNat < a.2.length)) → stp sh fi nx la r a = a →
  ∀ pre s t, r = pre ++ s :: t → s.kind = 1 → (∀ b, has (bh sh fi t nx) b = true → has (atV a.1 s.sort.toNat) b = true) ∧ (be sh t la = true → a.2[s.sort.toNat]? = some true)
 | [], a, _, _, pre, s, t, e, _ => by simp at e
 | x :: r, a, hk, h, pre, s, t, e, k1 => by
  have hr : stp sh fi nx la r a = a := by
   rcases stp_grow sh fi nx la r a with h1 | h1
   ·exact h1
   ·exfalso
    simp only [stp] at h
    rcases (hk x (List.mem_cons_self ..)).1 with k0 | k1
    ·rw [k0] at h
     have h : stp sh fi nx la r a = a := h
     rw [h] at h1; omega
    ·rw [k1] at h
     have h : stepW (stp sh fi nx la r a) x.sort.toNat (bh sh fi r nx) (be sh r la) = a := h
     have := (stepW_up (stp sh fi nx la r a) x.sort.toNat (bh sh fi r nx) (be sh r la)).mm
     rw [h] at this; omega
  cases pre with
  | nil =>
   simp only [List.nil_append, List.cons.injEq] at e
   obtain ⟨rfl, rfl⟩ := e
   simp only [stp, k1, hr] at h
   have h : stepW a x.sort.toNat (bh sh fi r nx) (be sh r la) = a := h
   obtain ⟨l1, l2⟩ := (hk x (List.mem_cons_self ..)).2 k1
   have e1 : a.1.set x.sort.toNat (uV (atV a.1 x.sort.toNat) (bh sh fi r nx)) = a.1 := congrArg Prod.fst h
   have e2 : setE a.2 x.sort.toNat (be sh r la) = a.2 := congrArg Prod.snd h
   refine ⟨fun b hb => ?_, fun hb => ?_⟩
   ·rw [← e1, at_set l1, if_pos rfl, has_u, hb, Bool.or_true]
   ·rw [hb] at e2
    rw [← e2]
    exact set_get l2
  | cons y pre =>
   simp only [List.cons_append, List.cons.injEq] at e
   obtain ⟨rfl, rfl⟩ := e
   exact stp_rest (pre ++ s :: t) a (fun q hq => hk q (List.mem_cons_of_mem _ hq)) hr pre s t rfl k1
def swW (sh : List Int) (fi : List V4) (inn : List Bool) (g : GramD) (a : WS) : WS := g.prods.foldl (updW sh fi inn) a
theorem foldW_len (inn : List Bool) : ∀ (ps : List ProdD) (a : WS), (ps.foldl (updW sh fi inn) a).1.length = a.1.length ∧ (ps.foldl (updW sh fi inn) a).2.length = a.2.length
 | [], a => ⟨rfl, rfl⟩
 | p :: ps, a => by
  simp only [List.foldl_cons]
  obtain ⟨h1, h2⟩ := foldW_len inn ps (updW sh fi inn a p)
  obtain ⟨h3, h4⟩ := updW_len (sh := sh) (fi := fi) inn a p
  exact ⟨h1.trans h3, h2.trans h4⟩
def W0 (g : GramD) (b : Bool) : WS := (List.replicate g.sorts.length zV, setE (List.replicate g.sorts.length false) g.start.toNat b)
def LenW (g : GramD) (a : WS) : Prop := a.1.length = g.sorts.length ∧ a.2.length = g.sorts.length
theorem W0_len (b : Bool) : LenW g (W0 g b) := ⟨by simp [W0], by simp [W0, setE_len]⟩
def behindOf (sh : List Int) (fi : List V4) (inn : List Bool) (g : GramD) (b : Bool) : WS := itN (swW sh fi inn g) (257 * g.sorts.length) (W0 g b)
theorem mmW_le {a : WS} (h : LenW g a) : mmW a ≤ 257 * g.sorts.length := by
 have h1 := mm_le a.1
 have h2 := cnt_le a.2
 unfold mmW
 rw [h.1] at h1
 rw [h.2] at h2
 omega
theorem swW_len (inn : List Bool) (a : WS) (h : LenW g a) : LenW g (swW sh fi inn g a) := ⟨(foldW_len inn g.prods a).1.trans h.1, (foldW_len inn g.prods a).2.trans h.2⟩
theorem swW_mm (inn : List Bool) (a : WS) (h : swW sh fi inn g a ≠ a) : mmW a < mmW (swW sh fi inn g a) := (fold_grow mmW (updW_grow inn) g.prods a).resolve_left h
theorem behind_len (inn : List Bool) (b : Bool) : LenW g (behindOf sh fi inn g b) := itN_inv (Inv := LenW g) (fun a ha => swW_len inn a ha) _ _ (W0_len b)
theorem behind_fix (inn : List Bool) (b : Bool) : swW sh fi inn g (behindOf sh fi inn g b) = behindOf sh fi inn g b :=
 itN_fix mmW (257 * g.sorts.length) (LenW g) (fun a ha => swW_len inn a ha) (fun a _ h => swW_mm inn a h) (fun a ha => mmW_le ha) _ _ (W0_len b) (by omega)
theorem behind_closed (hv : GramV g) (inn : List Bool) (b : Bool) : ClW g sh fi inn (behindOf sh fi inn g b) := by
 have hlen := behind_len (g := g) (sh := sh) (fi := fi) inn b
 refine ⟨hlen.1, hlen.2, fun p hp hl hi pre s t e k1 => ?_⟩
 have h := fold_fix mmW (updW_grow (sh := sh) (fi := fi) inn) g.prods _ (behind_fix inn b) p hp
 unfold updW at h
 rw [hl, hi] at h
 refine stp_rest p.right _ (fun q hq => ⟨((hv.prod p hp).right q hq).k, fun k => ?_⟩) h pre s t e k1
 have := ((hv.prod p hp).right q hq).sort k
 rw [hlen.1, hlen.2]
 omega
theorem behind_ge (inn : List Bool) (b : Bool) : leW (W0 g b) (behindOf sh fi inn g b) := by
 unfold behindOf
 refine itN_inv (Inv := fun a => leW (W0 g b) a) (fun a ha => ?_) _ _ ⟨leV.refl _, leB.refl _⟩
 have : ∀ (ps : List ProdD) (a : WS), leW (W0 g b) a → leW (W0 g b) (ps.foldl (updW sh fi inn) a) := by
  intro ps
  induction ps with
  | nil => intro a h; exact h
  | cons p ps ih =>
   intro a h
   simp only [List.foldl_cons]
   refine ih _ ?_
   unfold updW
   cases liveP sh p && (inn[p.left.toNat]?).getD false
   ·exact h
   ·have := stp_up sh fi (atV a.1 p.left.toNat) ((a.2[p.left.toNat]?).getD false) p.right a
    exact ⟨h.1.trans this.1, h.2.trans this.2⟩
 exact this g.prods a ha
end
def stI (sh : List Int) (p : ProdD) (o : List Bool) (s : SymD) : List Bool := bif (s.kind == 1) && ((o[p.left.toNat]?).getD false && decide (0 ≤ sumS sh 0 p.right)) then o.set s.sort.toNat true else o
def updI (sh : List Int) (o : List Bool) (p : ProdD) : List Bool := bif p.role != 11 then p.right.foldl (stI sh p) o else o
def swI (sh : List Int) (g : GramD) (o : List Bool) : List Bool := g.prods.foldl (updI sh) o
def inOf (sh : List Int) (g : GramD) : List Bool := itN (swI sh g) g.sorts.length ((List.replicate g.sorts.length false).set g.start.toNat true)
section
variable {g : GramD} {n : Nat} {sh : List Int}
theorem stI_up (p : ProdD) (o : List Bool) (s : SymD) : leB o (stI sh p o s) := by
 unfold stI
 cases (s.kind == 1) && ((o[p.left.toNat]?).getD false && decide (0 ≤ sumS sh 0 p.right))
 ·exact leB.refl _
 ·exact leB_set _
theorem updI_up (p : ProdD) (o : List Bool) : leB o (updI sh o p) := by
 unfold updI
 cases p.role != 11
 ·exact leB.refl _
 ·exact fold_up (fun x a => stI_up p a x) p.right o
theorem grow_of {f : List Bool → List Bool} (h : ∀ o, leB o (f o)) (o : List Bool) : f o = o ∨ cnt o < cnt (f o) := by
 by_cases e : f o = o
 ·exact .inl e
 ·exact .inr ((leB_cnt (h o)).2 e)
theorem stI_grow (p : ProdD) (o : List Bool) (s : SymD) : stI sh p o s = o ∨ cnt o < cnt (stI sh p o s) := grow_of (f := fun o => stI sh p o s) (fun o => stI_up p o s) o
theorem updI_grow (o : List Bool) (p : ProdD) : updI sh o p = o ∨ cnt o < cnt (updI sh o p) := grow_of (f := fun o => updI sh o p) (fun o => updI_up p o) o
theorem updI_len (o : List Bool) (p : ProdD) : (updI sh o p).length = o.length := (updI_up p o).1.symm
theorem swI_up (o : List Bool) : leB o (swI sh g o) := fold_up (fun x a => updI_up x a) g.prods o
theorem swI_len (o : List Bool) : (swI sh g o).length = o.length := (swI_up o).1.symm
theorem in_len : (inOf sh g).length = g.sorts.length := itN_inv (Inv := fun a => a.length = g.sorts.length) (fun a ha => (swI_len a).trans ha) _ _ (by simp)
theorem swI_cnt (o : List Bool) (h : swI sh g o ≠ o) : cnt o < cnt (swI sh g o) := (leB_cnt (swI_up o)).2 h
theorem in_fix : swI sh g (inOf sh g) = inOf sh g :=
 itN_fix cnt g.sorts.length (fun a => a.length = g.sorts.length) (fun a ha => (swI_len a).trans ha) (fun a _ h => swI_cnt a h) (fun a ha => by have := cnt_le a; omega) _ _ (by simp) (by omega)
structure ClI (g : GramD) (sh : List Int) (c : List Bool) : Prop where
 len : c.length = g.sorts.length
 cl : ∀ p ∈ g.prods, liveP sh p = true → c[p.left.toNat]? = some true → ∀ s ∈ p.right, s.kind = 1 → c[s.sort.toNat]? = some true
theorem in_start (hv : GramV g) : (inOf sh g)[g.start.toNat]? = some true := by
 have hs := hv.start
 have : leB ((List.replicate g.sorts.length false).set g.start.toNat true) (inOf sh g) := by
  unfold inOf
  exact itN_inv (Inv := fun a => leB ((List.replicate g.sorts.length false).set g.start.toNat true) a) (fun a ha => ha.trans (swI_up a)) _ _ (leB.refl _)
 exact this.2 _ (set_get (by simp; omega))
theorem in_closed (hv : GramV g) : ClI g sh (inOf sh g) := by
 refine ⟨in_len, fun p hp hl hi s hs k1 => ?_⟩
 have h1 := fold_fixB (fun x a => updI_up (sh := sh) x a) g.prods _ in_fix p hp
 unfold liveP at hl
 rw [Bool.and_eq_true] at hl
 unfold updI at h1
 rw [hl.1, cond_true] at h1
 have h2 := fold_fixB (fun x a => stI_up (sh := sh) p a x) p.right _ h1 s hs
 unfold stI at h2
 rw [k1, hi, hl.2] at h2
 have h2 : (inOf sh g).set s.sort.toNat true = inOf sh g := h2
 rw [← h2]
 have := ((hv.prod p hp).right s hs).sort k1
 exact set_get (by rw [in_len]; omega)
theorem q77 (hs : ShOk n sh) {p : ProdD} (hp : ProdV n p) : F77 p sh = some (decide (0 ≤ sumS sh 0 p.right)) := by
 unfold F77
 rw [q48 hs hp.right (by have := hp.len; omega)]
 rfl
theorem q77_2 (hs : ShOk n sh) {p : ProdD} (hp : ProdV n p) : F77_2 p sh = some (decide (0 ≤ sumS sh 0 p.right)) := q77 hs hp
theorem l72 (hs : ShOk n sh) {p : ProdD} (hp : ProdV n p) : ∀ (k i : Nat) (b : Bool) (o : List Bool), i + k = p.right.length → o.length = n →
  runL (fun s => L72_0_2 p (p.right.length : Int) sh n s.1 s.2.1 s.2.2) (b, (i : Int), o) =
   some (.k0 ((p.right.drop i).foldl (fun (a : Bool × List Bool) x => (a.1 || decide (stI sh p a.2 x ≠ a.2), stI sh p a.2 x)) (b, o)).1 ((p.right.drop i).foldl (fun (a : Bool × List Bool) x => (a.1 || decide (stI sh p a.2 x ≠ a.2), stI sh p a.2 x)) (b, o)).2)
 | 0, i, b, o, hi, ho => by
  obtain rfl : i = p.right.length := by omega
  rw [List.drop_length]
  exact runL_done (by simp [L72_0_2])
 | k + 1, i, b, o, hi, ho => by
  have hlen := hp.len
  have hpl := hp.left
  have hx : p.right[i]? = some p.right[i] := geg (by omega)
  have hd : p.right.drop i = p.right[i] :: p.right.drop (i + 1) := (List.drop_eq_getElem_cons (by omega))
  generalize p.right[i] = s at hx hd
  have hv := hp.right s (mog hx)
  rw [hd]
  simp only [List.foldl_cons]
  have hstep : L72_0_2 p (p.right.length : Int) sh n b (i : Int) o = some (.inr (b || decide (stI sh p o s ≠ o), ((i + 1 : Nat) : Int), stI sh p o s)) := by
   have hix : ixN n p.left = some p.left.toNat := ixN_some.2 ⟨by omega, by omega⟩
   have hl : o[p.left.toNat]? = some (o[p.left.toNat]'(by omega)) := geg _
   generalize o[p.left.toNat]'(by omega) = u at hl
   simp only [L72_0_2, getI_nat, hx, bsm, decide_eq_true (show (i : Int) < (p.right.length : Int) by omega), cond_true, w_S (show i < 4611686018427387904 by omega)]
   unfold stI
   cases hk : s.kind == 1 with
   | false => simp
   | true =>
    have k1 := eq_of_beq hk
    have hq := hv.sort k1
    have hix2 : ixN n s.sort = some s.sort.toNat := ixN_some.2 ⟨by omega, by omega⟩
    have hl2 : o[s.sort.toNat]? = some (o[s.sort.toNat]'(by omega)) := geg _
    generalize o[s.sort.toNat]'(by omega) = u2 at hl2
    simp only [cond_true, hix, hl, bsm, Option.getD_some, Bool.true_and]
    cases u with
    | false => simp
    | true =>
     simp only [cond_true, q77 hs hp, bsm, Bool.true_and]
     cases decide (0 ≤ sumS sh 0 p.right) with
     | false => simp
     | true =>
      simp only [cond_true, hix2, hl2, bsm]
      cases u2 with
      | true => rw [set_same hl2]; simp
      | false =>
       have : o.set s.sort.toNat true ≠ o := fun e => by
        have := set_cnt hl2
        rw [e] at this; omega
       simp [this]
  rw [runL_next (step := fun s => L72_0_2 p (p.right.length : Int) sh n s.1 s.2.1 s.2.2) (s := (b, (i : Int), o)) hstep]
  exact l72 hs hp k (i + 1) _ _ (by omega) ((stI_up p o s).1.symm.trans ho)
theorem q72 (hs : ShOk n sh) {p : ProdD} (hp : ProdV n p) (hr : (p.role != 11) = true) {o : List Bool} (ho : o.length = n) : F72_2 p sh o n = some (.k0 (decide (updI sh o p ≠ o)) (updI sh o p)) := by
 have h := l72 hs hp p.right.length 0 false o (by omega) ho
 rw [List.drop_zero, foldG cnt (stI_grow p)] at h
 have e0 : ((0 : Nat) : Int) = 0 := rfl
 rw [e0] at h
 unfold F72_2
 rw [h]
 unfold updI
 rw [hr]
 simp only [bsm, Bool.false_or, cond_true]
theorem l46_10 (hv : GramV g) (hn : n = g.sorts.length) (hs : ShOk n sh) (h80 : g.prods.length ≤ 80) : ∀ (k i : Nat) (b : Bool) (o : List Bool), i + k = g.prods.length → o.length = n →
  runL (fun s => L46_0_10 g sh (g.prods.length : Int) n s.1 s.2.1 s.2.2) (b, (i : Int), o) =
   some (.k0 ((g.prods.drop i).foldl (fun (a : Bool × List Bool) x => (a.1 || decide (updI sh a.2 x ≠ a.2), updI sh a.2 x)) (b, o)).1 ((g.prods.drop i).foldl (fun (a : Bool × List Bool) x => (a.1 || decide (updI sh a.2 x ≠ a.2), updI sh a.2 x)) (b, o)).2)
 | 0, i, b, o, hi, ho => by
  obtain rfl : i = g.prods.length := by omega
  rw [List.drop_length]
  exact runL_done (by simp [L46_0_10])
 | k + 1, i, b, o, hi, ho => by
  have hx : g.prods[i]? = some g.prods[i] := geg (by omega)
  have hd : g.prods.drop i = g.prods[i] :: g.prods.drop (i + 1) := (List.drop_eq_getElem_cons (by omega))
  generalize hp : g.prods[i] = p at hx hd
  have hpv : ProdV n p := by rw [hn]; exact hv.prod p (mog hx)
  rw [hd]
  simp only [List.foldl_cons]
  have hstep : L46_0_10 g sh (g.prods.length : Int) n b (i : Int) o = some (.inr (b || decide (updI sh o p ≠ o), ((i + 1 : Nat) : Int), updI sh o p)) := by
   simp only [L46_0_10, getI_nat, hx, bsm, decide_eq_true (show (i : Int) < (g.prods.length : Int) by omega), cond_true, F54, w_S (show i < 4611686018427387904 by omega)]
   cases hr : p.role != 11 with
   | false => simp [updI, hr]
   | true =>
    simp only [cond_true, q72 hs hpv hr ho, bsm]
    cases decide (updI sh o p ≠ o) <;> simp
  rw [runL_next (step := fun s => L46_0_10 g sh (g.prods.length : Int) n s.1 s.2.1 s.2.2) (s := (b, (i : Int), o)) hstep]
  exact l46_10 hv hn hs h80 k (i + 1) _ _ (by omega) ((updI_len o p).trans ho)
theorem q53 (hg : GramOk g) (hv : GramV g) (hs : ShOk g.sorts.length sh) : F53_3 g sh = some (.k0 g.sorts.length (inOf sh g)) := by
 have h40 := hg.sorts
 have hst := hv.start
 have e0 : ((0 : Nat) : Int) = 0 := rfl
 have hloop : ∀ (k : Nat) (o : List Bool), o.length = g.sorts.length → g.sorts.length ≤ cnt o + k → runL (fun s => L46_1_6 g sh g.sorts.length s) o = some (.k0 (itN (swI sh g) k o)) := by
  intro k
  induction k with
  | zero =>
   intro o ho hk
   have h1 := l46_10 hv rfl hs hg.prods g.prods.length 0 false o (by omega) ho
   rw [List.drop_zero, foldG cnt updI_grow, e0] at h1
   have hfix : g.prods.foldl (updI sh) o = o := by
    by_cases e : g.prods.foldl (updI sh) o = o
    ·exact e
    ·have h2 := swI_cnt (g := g) (sh := sh) o e
     have h3 := cnt_le (swI sh g o)
     rw [swI_len, ho] at h3
     omega
   rw [hfix] at h1
   exact runL_done (by simp only [L46_1_6, h1, bsm]; simp [itN])
  | succ k ih =>
   intro o ho hk
   have h1 := l46_10 hv rfl hs hg.prods g.prods.length 0 false o (by omega) ho
   rw [List.drop_zero, foldG cnt updI_grow, e0] at h1
   by_cases e : g.prods.foldl (updI sh) o = o
   ·rw [itN_fixed (show swI sh g o = o from e)]
    rw [e] at h1
    exact runL_done (by simp only [L46_1_6, h1, bsm]; simp)
   ·have h2 := swI_cnt (g := g) (sh := sh) o e
    rw [decide_eq_true e, Bool.or_true] at h1
    rw [runL_next (step := fun s => L46_1_6 g sh g.sorts.length s) (s := o) (s' := swI sh g o) (by simp only [L46_1_6, h1, bsm, cond_true]; rfl)]
    exact ih _ ((swI_len o).trans ho) (by omega)
 have hl := hloop g.sorts.length ((List.replicate g.sorts.length false).set g.start.toNat true) (by simp) (by omega)
 have hix : ixN g.sorts.length g.start = some g.start.toNat := ixN_some.2 ⟨by omega, by omega⟩
 have hget : (List.replicate g.sorts.length false)[g.start.toNat]? = some false := by rw [List.getElem?_replicate, if_pos (by omega)]
 have h46 : F46_6 g sh ((List.replicate g.sorts.length false).set g.start.toNat true) g.sorts.length = some (inOf sh g) := by
  unfold F46_6
  have : runL (fun (_ : Unit) => L46_2_5 g sh ((List.replicate g.sorts.length false).set g.start.toNat true) g.sorts.length) () = some (.k0 (inOf sh g)) := runL_done (by simp only [L46_2_5, hl, bsm]; rfl)
  rw [this]
  rfl
 unfold F53_3
 simp only [mk1 h40, cond_true, Int.toNat_natCast, hix, hget, bsm, h46]
theorem back_loop {E S : Type} {step : S → Option (E ⊕ S)} (r : List SymD) (emb : Int → List SymD → S) (fin : List SymD → E)
  (h : ∀ (i : Nat) (s : SymD) (t : List SymD), r[i]? = some s → r.drop (i + 1) = t → step (emb (i : Int) t) = some (.inr (emb ((i : Int) - 1) (s :: t)))) (hend : step (emb (-1) r) = some (.inl (fin r))) :
  ∀ (k : Nat), k ≤ r.length → runL step (emb ((k : Int) - 1) (r.drop k)) = some (fin r)
 | 0, _ => by
  rw [List.drop_zero]
  exact runL_done hend
 | k + 1, hk => by
  have hx : r[k]? = some r[k] := geg (by omega)
  have hd : r.drop k = r[k] :: r.drop (k + 1) := (List.drop_eq_getElem_cons (by omega))
  have e : ((k + 1 : Nat) : Int) - 1 = (k : Int) := by omega
  rw [e, runL_next (h k _ _ hx rfl), ← hd]
  exact back_loop r emb fin h hend k (by omega)
end
section
variable {g : GramD} {n : Nat} {sh : List Int} {fi : List V4}
theorem stepW_ne {x : WS} {k : Nat} {y : V4} {b e : Bool} (h1 : k < x.1.length) (h2 : x.2[k]? = some e) : decide (stepW x k y b ≠ x) = (!decide (uV (atV x.1 k) y = atV x.1 k) || (b && !e)) := by
 by_cases q : uV (atV x.1 k) y = atV x.1 k
 ·have e1 : x.1.set k (uV (atV x.1 k) y) = x.1 := by rw [q]; exact set_at h1
  rw [decide_eq_true q]
  cases b with
  | false =>
   have : stepW x k y false = x := Prod.ext e1 rfl
   simp [this]
  | true =>
   cases e with
   | true =>
    have : stepW x k y true = x := Prod.ext e1 (set_same h2)
    simp [this]
   | false =>
    have : stepW x k y true ≠ x := fun h => by
     have h3 : x.2.set k true = x.2 := congrArg Prod.snd h
     have := set_cnt h2
     rw [h3] at this; omega
    simp [this]
 ·have : stepW x k y b ≠ x := fun h => q (by
   have h3 : x.1.set k (uV (atV x.1 k) y) = x.1 := congrArg Prod.fst h
   have h9 : atV (x.1.set k (uV (atV x.1 k) y)) k = atV x.1 k := by rw [h3]
   rw [at_set h1, if_pos rfl] at h9
   exact h9)
  simp [this, q]
theorem set_f {E : List Bool} {k : Nat} (h : E[k]? = some false) : E.set k false = E := by
 have := setE_or (b := false) h
 exact this
theorem l78_s (hs : ShOk n sh) (hf : fi.length = n) {p : ProdD} (hp : ProdV n p) (hok : ProdOk p) {i : Nat} {s : SymD} (hx : p.right[i]? = some s) (an la : Bool) (x : WS) (hl : x.1.length = n ∧ x.2.length = n) (nx : V4) :
  L78_0 (nulOf sh) (fi.map sd) n p an la (i : Int) (x.1.map sd) x.2 (sd nx).a (sd nx).b (sd nx).c (sd nx).d =
   some (.inr (bif s.kind == 0 then an else (an || decide (stepW x s.sort.toNat nx la ≠ x)), bif s.kind == 0 then false else bif symS sh s == 0 then la else false, (i : Int) - 1, (bif s.kind == 0 then x else stepW x s.sort.toNat nx la).1.map sd, (bif s.kind == 0 then x else stepW x s.sort.toNat nx la).2,
    (sd (bif s.kind == 0 then v4 s else bif symS sh s == 0 then uV nx (atV fi s.sort.toNat) else atV fi s.sort.toNat)).a, (sd (bif s.kind == 0 then v4 s else bif symS sh s == 0 then uV nx (atV fi s.sort.toNat) else atV fi s.sort.toNat)).b, (sd (bif s.kind == 0 then v4 s else bif symS sh s == 0 then uV nx (atV fi s.sort.toNat) else atV fi s.sort.toNat)).c, (sd (bif s.kind == 0 then v4 s else bif symS sh s == 0 then uV nx (atV fi s.sort.toNat) else atV fi s.sort.toNat)).d)) := by
 have hlen := hp.len
 have hi := (gei.1 hx).1
 have hmem := mog hx
 have hv := hp.right s hmem
 have hso := hok.right s hmem
 have e1 : IntKind.wrap .i64 ((i : Int) - 1) = (i : Int) - 1 := w_id (by omega)
 rcases hv.k with k0 | k1
 ·have := sd_sym hso
  simp only [L78_0, decide_eq_true (show (i : Int) ≥ 0 by omega), cond_true, getI_nat, hx, bsm, k0, beq_self_eq_true, e1, ← this]
 ·obtain ⟨q0, q1⟩ := hv.sort k1
  have h10 : ((1 : Int) == 0) = false := rfl
  have hk : s.sort.toNat < n := by omega
  have hix : ixN n s.sort = some s.sort.toNat := ixN_some.2 ⟨by omega, hk⟩
  have hO := map_at hl.1 hk
  have hE : x.2[s.sort.toNat]? = some (x.2[s.sort.toNat]'(by omega)) := geg _
  generalize x.2[s.sort.toNat]'(by omega) = e at hE
  have h76 : F76 [(⟨(sd (atV x.1 s.sort.toNat)).a, (sd (atV x.1 s.sort.toNat)).b, (sd (atV x.1 s.sort.toNat)).c, (sd (atV x.1 s.sort.toNat)).d⟩ : SetD), (⟨(sd nx).a, (sd nx).b, (sd nx).c, (sd nx).d⟩ : SetD)] = some (.k0 (sd (uV (atV x.1 s.sort.toNat) nx)).a (sd (uV (atV x.1 s.sort.toNat) nx)).b (sd (uV (atV x.1 s.sort.toNat) nx)).c (sd (uV (atV x.1 s.sort.toNat) nx)).d) := q76 _ _
  have h76b : F76 [(⟨(sd nx).a, (sd nx).b, (sd nx).c, (sd nx).d⟩ : SetD), (⟨(sd (atV fi s.sort.toNat)).a, (sd (atV fi s.sort.toNat)).b, (sd (atV fi s.sort.toNat)).c, (sd (atV fi s.sort.toNat)).d⟩ : SetD)] = some (.k0 (sd (uV nx (atV fi s.sort.toNat))).a (sd (uV nx (atV fi s.sort.toNat))).b (sd (uV nx (atV fi s.sort.toNat))).c (sd (uV nx (atV fi s.sort.toNat))).d) := q76 _ _
  have h55 := q55 hs hv k1
  have hfi : getI (fi.map sd) s.sort = some (sd (atV fi s.sort.toNat)) := getI_some.2 ⟨q0, map_at hf hk⟩
  have hq := eqS_sd (uV (atV x.1 s.sort.toNat) nx) (atV x.1 s.sort.toNat)
  unfold eqS at hq
  have hset : (x.1.map sd).set s.sort.toNat (⟨(sd (uV (atV x.1 s.sort.toNat) nx)).a, (sd (uV (atV x.1 s.sort.toNat) nx)).b, (sd (uV (atV x.1 s.sort.toNat) nx)).c, (sd (uV (atV x.1 s.sort.toNat) nx)).d⟩ : SetD) = (x.1.set s.sort.toNat (uV (atV x.1 s.sort.toNat) nx)).map sd := by rw [List.map_set]
  have hne := stepW_ne (y := nx) (b := la) (show s.sort.toNat < x.1.length by omega) hE
  rw [hne]
  simp only [L78_0, decide_eq_true (show (i : Int) ≥ 0 by omega), cond_true, getI_nat, hx, bsm, k1, h10, cond_false, hix, hO, h76, hE, h55, hfi, h76b, hq, hset, e1, stepW, setE]
  have t1 : e = true → x.2.set s.sort.toNat true = x.2 := fun h => set_same (by rw [hE, h])
  have t2 : e = false → x.2.set s.sort.toNat false = x.2 := fun h => set_f (by rw [hE, h])
  cases symS sh s == 0 <;> cases decide (uV (atV x.1 s.sort.toNat) nx = atV x.1 s.sort.toNat) <;> cases an <;> cases la <;> cases e <;> simp [t1, t2]
theorem l78 (hs : ShOk n sh) (hf : fi.length = n) {p : ProdD} (hp : ProdV n p) (hok : ProdOk p) (nx : V4) (la : Bool) (a : WS) (hl : a.1.length = n ∧ a.2.length = n) :
  runL (fun s => L78_0 (nulOf sh) (fi.map sd) n p s.1 s.2.1 s.2.2.1 s.2.2.2.1 s.2.2.2.2.1 s.2.2.2.2.2.1 s.2.2.2.2.2.2.1 s.2.2.2.2.2.2.2.1 s.2.2.2.2.2.2.2.2) (false, la, (p.right.length : Int) - 1, a.1.map sd, a.2, (sd nx).a, (sd nx).b, (sd nx).c, (sd nx).d) =
   some (.k0 (decide (stp sh fi nx la p.right a ≠ a)) ((stp sh fi nx la p.right a).1.map sd) (stp sh fi nx la p.right a).2 (sd (bh sh fi p.right nx)).a (sd (bh sh fi p.right nx)).b (sd (bh sh fi p.right nx)).c (sd (bh sh fi p.right nx)).d) := by
 have key := back_loop (step := fun s : Bool × Bool × Int × List SetD × List Bool × Int × Int × Int × Int => L78_0 (nulOf sh) (fi.map sd) n p s.1 s.2.1 s.2.2.1 s.2.2.2.1 s.2.2.2.2.1 s.2.2.2.2.2.1 s.2.2.2.2.2.2.1 s.2.2.2.2.2.2.2.1 s.2.2.2.2.2.2.2.2) p.right
  (fun i t => (decide (stp sh fi nx la t a ≠ a), be sh t la, i, (stp sh fi nx la t a).1.map sd, (stp sh fi nx la t a).2, (sd (bh sh fi t nx)).a, (sd (bh sh fi t nx)).b, (sd (bh sh fi t nx)).c, (sd (bh sh fi t nx)).d))
  (fun t => .k0 (decide (stp sh fi nx la t a ≠ a)) ((stp sh fi nx la t a).1.map sd) (stp sh fi nx la t a).2 (sd (bh sh fi t nx)).a (sd (bh sh fi t nx)).b (sd (bh sh fi t nx)).c (sd (bh sh fi t nx)).d)
  (fun i s t hx ht => by
   have hln := stp_len sh fi nx la t a
   have h := l78_s hs hf hp hok hx (decide (stp sh fi nx la t a ≠ a)) (be sh t la) (stp sh fi nx la t a) ⟨hln.1.trans hl.1, hln.2.trans hl.2⟩ (bh sh fi t nx)
   simp only
   rw [h]
   rcases (hp.right s (mog hx)).k with k0 | k1
   ·have hk : (s.kind == 0) = true := by rw [k0]; rfl
    simp only [hk, cond_true, stp, bh, be]
   ·have hk : (s.kind == 0) = false := by rw [k1]; rfl
    rw [stp_flag sh fi nx la s t a hk]
    simp only [hk, cond_false, stp, bh, be]) (by simp [L78_0]) p.right.length (Nat.le_refl _)
 rw [List.drop_length] at key
 simpa [stp, bh, be] using key
def end78 : R_F78 → List SetD × List Bool → Bool × List SetD × List Bool
 | .k0, x => (false, x)
 | .k1 b o e .., _ => (b, o, e)
 | .k2, x => (false, x)
theorem q78 (hs : ShOk n sh) (hf : fi.length = n) {p : ProdD} (hp : ProdV n p) (hok : ProdOk p) {inn : List Bool} (hin : inn.length = n) (hr : (p.role != 11) = true) (a : WS) (hl : a.1.length = n ∧ a.2.length = n) {st : Int} (hst : getI sh g.start = some st) (h0 : 0 ≤ st) :
  ∃ r, F78 p g sh (nulOf sh) (fi.map sd) inn n n (a.1.map sd) a.2 = some r ∧ end78 r (a.1.map sd, a.2) = (decide (updW sh fi inn a p ≠ a), (updW sh fi inn a p).1.map sd, (updW sh fi inn a p).2) := by
 have hlen := hp.len
 have hpl := hp.left
 have hix : ixN n p.left = some p.left.toNat := ixN_some.2 ⟨by omega, by omega⟩
 have hI : inn[p.left.toNat]? = some (inn[p.left.toNat]'(by omega)) := geg _
 generalize inn[p.left.toNat]'(by omega) = u at hI
 have hE : a.2[p.left.toNat]? = some (a.2[p.left.toNat]'(by omega)) := geg _
 generalize a.2[p.left.toNat]'(by omega) = e at hE
 have hO := map_at hl.1 (show p.left.toNat < n by omega)
 have ew : IntKind.wrap .i64 ((p.right.length : Int) - 1) = (p.right.length : Int) - 1 := w_id (by omega)
 unfold F78 updW liveP
 simp only [hix, hI, bsm, hr, Bool.true_and, Option.getD_some, hE]
 cases u with
 | false => exact ⟨.k2, rfl, by simp [end78]⟩
 | true =>
  simp only [cond_true, q77_2 hs hp, bsm, Bool.and_true]
  cases decide (0 ≤ sumS sh 0 p.right) with
  | false => exact ⟨.k0, rfl, by simp [end78]⟩
  | true =>
   simp only [cond_true, hst, bsm, decide_eq_false (show ¬ st < 0 by omega), cond_false, hO, ew]
   cases e with
   | true =>
    simp only [cond_true, l78 hs hf hp hok (atV a.1 p.left.toNat) true a hl, bsm]
    exact ⟨_, rfl, rfl⟩
   | false =>
    simp only [cond_false, l78 hs hf hp hok (atV a.1 p.left.toNat) false a hl, bsm]
    exact ⟨_, rfl, rfl⟩
theorem q78n (hs : ShOk n sh) {p : ProdD} (hp : ProdV n p) {inn : List Bool} (hin : inn.length = n) (x : List SetD) (y : List Bool) {nl : List Bool} {fs : List SetD} {st : Int} (hst : getI sh g.start = some st) (h0 : st < 0) :
  ∃ r, F78 p g sh nl fs inn n n x y = some r ∧ end78 r (x, y) = (false, x, y) := by
 have hpl := hp.left
 have hix : ixN n p.left = some p.left.toNat := ixN_some.2 ⟨by omega, by omega⟩
 have hI : inn[p.left.toNat]? = some (inn[p.left.toNat]'(by omega)) := geg _
 generalize inn[p.left.toNat]'(by omega) = u at hI
 unfold F78
 simp only [hix, hI, bsm]
 cases u with
 | false => exact ⟨.k2, rfl, rfl⟩
 | true =>
  simp only [cond_true, q77_2 hs hp, bsm]
  cases decide (0 ≤ sumS sh 0 p.right) with
  | false => exact ⟨.k0, rfl, rfl⟩
  | true =>
   simp only [cond_true, hst, bsm, decide_eq_true h0]
   exact ⟨.k0, rfl, rfl⟩
theorem l46_11 (hg : GramOk g) (hv : GramV g) (hn : n = g.sorts.length) (hs : ShOk n sh) (hf : fi.length = n) {inn : List Bool} (hin : inn.length = n) {st : Int} (hst : getI sh g.start = some st) (h0 : 0 ≤ st) : ∀ (k i : Nat) (b : Bool) (a : WS), i + k = g.prods.length → (a.1.length = n ∧ a.2.length = n) →
  runL (fun s => L46_0_11 g sh (nulOf sh) (g.prods.length : Int) (fi.map sd) inn n n s.1 s.2.1 s.2.2.1 s.2.2.2) (b, (i : Int), a.1.map sd, a.2) =
   some (.k0 ((g.prods.drop i).foldl (fun (c : Bool × WS) x => (c.1 || decide (updW sh fi inn c.2 x ≠ c.2), updW sh fi inn c.2 x)) (b, a)).1 (((g.prods.drop i).foldl (fun (c : Bool × WS) x => (c.1 || decide (updW sh fi inn c.2 x ≠ c.2), updW sh fi inn c.2 x)) (b, a)).2.1.map sd) ((g.prods.drop i).foldl (fun (c : Bool × WS) x => (c.1 || decide (updW sh fi inn c.2 x ≠ c.2), updW sh fi inn c.2 x)) (b, a)).2.2)
 | 0, i, b, a, hi, hl => by
  obtain rfl : i = g.prods.length := by omega
  rw [List.drop_length]
  exact runL_done (by simp [L46_0_11])
 | k + 1, i, b, a, hi, hl => by
  have hgp := hg.prods
  have hx : g.prods[i]? = some g.prods[i] := geg (by omega)
  have hd : g.prods.drop i = g.prods[i] :: g.prods.drop (i + 1) := (List.drop_eq_getElem_cons (by omega))
  generalize hp : g.prods[i] = p at hx hd
  have hmem : p ∈ g.prods := mog hx
  have hpv : ProdV n p := by rw [hn]; exact hv.prod p hmem
  rw [hd]
  simp only [List.foldl_cons]
  have hstep : L46_0_11 g sh (nulOf sh) (g.prods.length : Int) (fi.map sd) inn n n b (i : Int) (a.1.map sd) a.2 = some (.inr (b || decide (updW sh fi inn a p ≠ a), ((i + 1 : Nat) : Int), (updW sh fi inn a p).1.map sd, (updW sh fi inn a p).2)) := by
   simp only [L46_0_11, getI_nat, hx, bsm, decide_eq_true (show (i : Int) < (g.prods.length : Int) by omega), cond_true, F54, w_S (show i < 4611686018427387904 by omega)]
   cases hr : p.role != 11 with
   | false => simp [updW, liveP, hr]
   | true =>
    obtain ⟨r, h1, h2⟩ := q78 (g := g) hs hf hpv (hg.prod p hmem) hin hr a hl hst h0
    simp only [cond_true, h1, bsm]
    cases r with
    | k0 =>
     simp only [end78, Prod.mk.injEq] at h2
     rw [← h2.1, ← h2.2.1, ← h2.2.2]; simp
    | k1 x0 x1 x2 =>
     simp only [end78, Prod.mk.injEq] at h2
     rw [← h2.1, ← h2.2.1, ← h2.2.2]; cases x0 <;> simp
    | k2 =>
     simp only [end78, Prod.mk.injEq] at h2
     rw [← h2.1, ← h2.2.1, ← h2.2.2]; simp
  rw [runL_next (step := fun s => L46_0_11 g sh (nulOf sh) (g.prods.length : Int) (fi.map sd) inn n n s.1 s.2.1 s.2.2.1 s.2.2.2) (s := (b, (i : Int), a.1.map sd, a.2)) hstep]
  obtain ⟨u1, u2⟩ := updW_len (sh := sh) (fi := fi) inn a p
  exact l46_11 hg hv hn hs hf hin hst h0 k (i + 1) _ _ (by omega) ⟨u1.trans hl.1, u2.trans hl.2⟩
theorem l46_11n (hg : GramOk g) (hv : GramV g) (hn : n = g.sorts.length) (hs : ShOk n sh) {inn : List Bool} (hin : inn.length = n) {x : List SetD} {y : List Bool} {nl : List Bool} {fs : List SetD} {st : Int} (hst : getI sh g.start = some st) (h0 : st < 0) : ∀ (k i : Nat), i + k = g.prods.length →
  runL (fun s => L46_0_11 g sh nl (g.prods.length : Int) fs inn n n s.1 s.2.1 s.2.2.1 s.2.2.2) (false, (i : Int), x, y) = some (.k0 false x y)
 | 0, i, hi => by
  obtain rfl : i = g.prods.length := by omega
  exact runL_done (by simp [L46_0_11])
 | k + 1, i, hi => by
  have hgp := hg.prods
  have hx : g.prods[i]? = some g.prods[i] := geg (by omega)
  generalize hp : g.prods[i] = p at hx
  have hpv : ProdV n p := by rw [hn]; exact hv.prod p (mog hx)
  have hstep : L46_0_11 g sh nl (g.prods.length : Int) fs inn n n false (i : Int) x y = some (.inr (false, ((i + 1 : Nat) : Int), x, y)) := by
   simp only [L46_0_11, getI_nat, hx, bsm, decide_eq_true (show (i : Int) < (g.prods.length : Int) by omega), cond_true, F54, w_S (show i < 4611686018427387904 by omega)]
   cases hr : p.role != 11 with
   | false => rfl
   | true =>
    obtain ⟨r, h1, h2⟩ := q78n (g := g) (nl := nl) (fs := fs) hs hpv hin x y hst h0
    simp only [cond_true, h1, bsm]
    cases r with
    | k0 => rfl
    | k1 x0 x1 x2 =>
     simp only [end78, Prod.mk.injEq] at h2
     obtain ⟨rfl, rfl, rfl⟩ := h2
     rfl
    | k2 => rfl
  rw [runL_next (step := fun s => L46_0_11 g sh nl (g.prods.length : Int) fs inn n n s.1 s.2.1 s.2.2.1 s.2.2.2) (s := (false, (i : Int), x, y)) hstep]
  exact l46_11n hg hv hn hs hin hst h0 k (i + 1) (by omega)
def behindA (sh : List Int) (g : GramD) : WS := bif decide (0 ≤ shAt sh g.start) then behindOf sh (firstOf sh g) (inOf sh g) g true else W0 g false
theorem behA_len : LenW g (behindA sh g) := by
 unfold behindA
 cases decide (0 ≤ shAt sh g.start)
 ·exact W0_len false
 ·exact behind_len _ _
theorem start_get (hv : GramV g) (hs : ShOk g.sorts.length sh) : getI sh g.start = some (shAt sh g.start) := by
 have h1 := hv.start
 have h2 := hs.len
 have h3 : sh[g.start.toNat]? = some (sh[g.start.toNat]'(by omega)) := geg _
 refine getI_some.2 ⟨h1.1, ?_⟩
 unfold shAt
 rw [h3]; rfl
theorem q62 (hg : GramOk g) (hv : GramV g) (hs : ShOk g.sorts.length sh) : F62_2 g sh (nulOf sh) = some (.k0 ((behindA sh g).1.map sd) (behindA sh g).2) := by
 have h40 := hg.sorts
 have hst := hv.start
 have e0 : ((0 : Nat) : Int) = 0 := rfl
 have hgs := start_get hv hs
 have hix : ixN g.sorts.length g.start = some g.start.toNat := ixN_some.2 ⟨by omega, by omega⟩
 have hget : (List.replicate g.sorts.length false)[g.start.toNat]? = some false := by rw [List.getElem?_replicate, if_pos (by omega)]
 have hrep : (List.replicate g.sorts.length zV).map sd = List.replicate g.sorts.length (⟨0, 0, 0, 0⟩ : SetD) := by
  rw [List.map_replicate]; rfl
 have hfl := first_len sh g
 have h46 : F46_7 g sh (nulOf sh) ((firstOf sh g).map sd) (inOf sh g) g.sorts.length g.sorts.length (List.replicate g.sorts.length (⟨0, 0, 0, 0⟩ : SetD)) ((List.replicate g.sorts.length false).set g.start.toNat (decide (shAt sh g.start ≥ 0))) = some (.k0 ((behindA sh g).1.map sd) (behindA sh g).2) := by
  have hmain : runL (fun s => L46_1_7 g sh (nulOf sh) ((firstOf sh g).map sd) (inOf sh g) g.sorts.length g.sorts.length s.1 s.2) (List.replicate g.sorts.length (⟨0, 0, 0, 0⟩ : SetD), (List.replicate g.sorts.length false).set g.start.toNat (decide (shAt sh g.start ≥ 0))) = some (.k0 ((behindA sh g).1.map sd) (behindA sh g).2) := by
   unfold behindA
   by_cases h0 : 0 ≤ shAt sh g.start
   ·rw [decide_eq_true h0, ← hrep]
    have hloop : ∀ (k : Nat) (a : WS), LenW g a → 257 * g.sorts.length ≤ mmW a + k → runL (fun s => L46_1_7 g sh (nulOf sh) ((firstOf sh g).map sd) (inOf sh g) g.sorts.length g.sorts.length s.1 s.2) (a.1.map sd, a.2) = some (.k0 ((itN (swW sh (firstOf sh g) (inOf sh g) g) k a).1.map sd) (itN (swW sh (firstOf sh g) (inOf sh g) g) k a).2) := by
     intro k
     induction k with
     | zero =>
      intro a ha hk
      have h1 := l46_11 hg hv rfl hs hfl (in_len (g := g) (sh := sh)) hgs h0 g.prods.length 0 false a (by omega) ha
      rw [List.drop_zero, foldG mmW (updW_grow (sh := sh) (fi := firstOf sh g) (inOf sh g)), e0] at h1
      have hfix : g.prods.foldl (updW sh (firstOf sh g) (inOf sh g)) a = a := by
       by_cases e : g.prods.foldl (updW sh (firstOf sh g) (inOf sh g)) a = a
       ·exact e
       ·have h2 := swW_mm (g := g) (sh := sh) (fi := firstOf sh g) (inOf sh g) a e
        have h3 := mmW_le (swW_len (sh := sh) (fi := firstOf sh g) (inOf sh g) a ha)
        omega
      rw [hfix] at h1
      exact runL_done (by simp only [L46_1_7, h1, bsm]; simp [itN])
     | succ k ih =>
      intro a ha hk
      have h1 := l46_11 hg hv rfl hs hfl (in_len (g := g) (sh := sh)) hgs h0 g.prods.length 0 false a (by omega) ha
      rw [List.drop_zero, foldG mmW (updW_grow (sh := sh) (fi := firstOf sh g) (inOf sh g)), e0] at h1
      by_cases e : g.prods.foldl (updW sh (firstOf sh g) (inOf sh g)) a = a
      ·rw [itN_fixed (show swW sh (firstOf sh g) (inOf sh g) g a = a from e)]
       rw [e] at h1
       exact runL_done (by simp only [L46_1_7, h1, bsm]; simp)
      ·have h2 := swW_mm (g := g) (sh := sh) (fi := firstOf sh g) (inOf sh g) a e
       rw [decide_eq_true e, Bool.or_true] at h1
       rw [runL_next (step := fun s => L46_1_7 g sh (nulOf sh) ((firstOf sh g).map sd) (inOf sh g) g.sorts.length g.sorts.length s.1 s.2) (s := (a.1.map sd, a.2)) (s' := ((swW sh (firstOf sh g) (inOf sh g) g a).1.map sd, (swW sh (firstOf sh g) (inOf sh g) g a).2)) (by simp only [L46_1_7, h1, bsm, cond_true]; rfl)]
       exact ih _ (swW_len (inOf sh g) a ha) (by omega)
    exact hloop (257 * g.sorts.length) (W0 g true) (W0_len true) (by omega)
   ·rw [decide_eq_false h0, set_f hget]
    have h1 := l46_11n hg hv rfl hs (in_len (sh := sh)) (x := List.replicate g.sorts.length (⟨0, 0, 0, 0⟩ : SetD)) (y := List.replicate g.sorts.length false) (nl := nulOf sh) (fs := (firstOf sh g).map sd) hgs (by omega) g.prods.length 0 (by omega)
    rw [e0] at h1
    refine runL_done ?_
    simp only [L46_1_7, h1, bsm, cond_false, W0, hrep, setE]
  unfold F46_7
  have : runL (fun (_ : Unit) => L46_2_6 g sh (nulOf sh) ((firstOf sh g).map sd) (inOf sh g) g.sorts.length g.sorts.length (List.replicate g.sorts.length (⟨0, 0, 0, 0⟩ : SetD)) ((List.replicate g.sorts.length false).set g.start.toNat (decide (shAt sh g.start ≥ 0)))) () = some (.k0 ((behindA sh g).1.map sd) (behindA sh g).2) := runL_done (by simp only [L46_2_6, hmain, bsm])
  rw [this]
  rfl
 have hl := behA_len (g := g) (sh := sh)
 have hl1 : ((behindA sh g).1.map sd).length = g.sorts.length := by rw [List.length_map]; exact hl.1
 unfold F62_2
 rw [q61 hg hv hs, q53 hg hv hs]
 simp only [bsm, mk32 h40, mk1 h40, cond_true, hgs, Int.toNat_natCast, hix, hget, h46, hl1, hl.2, decide_eq_true (Nat.le_refl _)]
 rw [tol (by rw [hl1]; exact Nat.le_refl _), tol (by rw [hl.2]; exact Nat.le_refl _)]
end
mutual
def sz : TreeD → Nat
 | .mk _ _ ks => 1 + szs ks
def szs : List TreeD → Nat
 | [] => 0
 | t :: ts => sz t + szs ts
end
theorem sz_eq : ∀ t : TreeD, sz t = 1 + szs t.kids
 | .mk _ _ _ => by simp only [sz, TreeD.kids]
theorem szs_mem {t : TreeD} : ∀ {ts : List TreeD}, t ∈ ts → sz t ≤ szs ts
 | [], h => by simp at h
 | u :: ts, h => by
  simp only [szs]
  rcases List.mem_cons.1 h with rfl | h
  ·omega
  ·have := szs_mem h; omega
theorem szs_app : ∀ (a b : List TreeD), szs (a ++ b) = szs a + szs b
 | [], b => by simp [szs]
 | t :: a, b => by simp only [List.cons_append, szs, szs_app a b]; omega
theorem szs_len : ∀ (a : List TreeD), a.length ≤ szs a
 | [] => by simp
 | t :: a => by have := szs_len a; have := sz_eq t; simp only [List.length_cons, szs]; omega
theorem kid_lt {t x : TreeD} {i : Nat} (h : t.kids[i]? = some x) : sz x < sz t := by
 have := szs_mem (mog h)
 have := sz_eq t
 omega
inductive TreeOk : TreeD → Prop
 | mk {p b : Int} {ks : List TreeD} (hb : 0 ≤ b ∧ b ≤ 255) (hk : ∀ k ∈ ks, TreeOk k) : TreeOk (.mk p b ks)
theorem TreeOk.byte {t : TreeD} (h : TreeOk t) : 0 ≤ t.byte ∧ t.byte ≤ 255 := by cases h with | mk hb hk => exact hb
theorem TreeOk.kid {t x : TreeD} {i : Nat} (h : TreeOk t) (hx : t.kids[i]? = some x) : TreeOk x := by cases h with | mk hb hk => exact hk x (mog hx)
theorem q36 : ∀ (N : Nat) (t : TreeD) (most : Int), sz t < N → 0 ≤ most ∧ most ≤ 2000 → ∃ v, F36_2 N t most = some v ∧ 1 ≤ v ∧ v ≤ most + 1 ∧ (v ≤ most → v = sz t)
 | 0, _, _, h, _ => by omega
 | N + 1, t, most, h, hm => by
  show ∃ v, F36_2_b (F36_2 N) t most = some v ∧ _
  have key : ∀ (k i : Nat) (v : Int), i + k = t.kids.length → i < 6000 → 1 ≤ v ∧ v ≤ most + 1 → (v ≤ most → v = ((1 + szs (t.kids.take i) : Nat) : Int)) →
    ∃ v', runL (fun s => L36_0_2 (F36_2 N) most t s.1 s.2) (v, (i : Int)) = some (.k0 v') ∧ 1 ≤ v' ∧ v' ≤ most + 1 ∧ (v' ≤ most → v' = sz t) := by
   intro k
   induction k with
   | zero =>
    intro i v hi _ hv he
    obtain rfl : i = t.kids.length := by omega
    rw [List.take_length] at he
    exact ⟨v, runL_done (by simp [L36_0_2]), hv.1, hv.2, fun h => by rw [he h, sz_eq]⟩
   | succ k ih =>
    intro i v hi h6 hv he
    have hx : t.kids[i]? = some t.kids[i] := geg (by omega)
    generalize t.kids[i] = x at hx
    by_cases hle : v ≤ most
    ·have hxs := kid_lt hx
     obtain ⟨w, w1, w2, w3, w4⟩ := q36 N x (most - v) (by omega) (by omega)
     have e1 : IntKind.wrap .i64 (most - v) = most - v := w_id (by omega)
     have e2 : IntKind.wrap .i64 (v + w) = v + w := w_id (by omega)
     have hv0 := he hle
     have hit := szs_len (t.kids.take i)
     rw [List.length_take] at hit
     rw [runL_next (s' := (v + w, ((i + 1 : Nat) : Int))) (by
      simp only [L36_0_2, getI_nat, hx, bsm, decide_eq_true (show (i : Int) < (t.kids.length : Int) by omega), decide_eq_true hle, cond_true, e1, w1, e2, w_S (show i < 4611686018427387904 by omega)])]
     refine ih (i + 1) (v + w) (by omega) (by omega) (by omega) (fun h => ?_)
     rw [w4 (by omega), hv0, List.take_add_one, hx]
     simp only [Option.toList_some, szs_app, szs]
     omega
    ·refine ⟨v, runL_done ?_, hv.1, hv.2, fun h => absurd h hle⟩
     simp only [L36_0_2, decide_eq_true (show (i : Int) < (t.kids.length : Int) by omega), decide_eq_false hle, cond_true, cond_false]
  obtain ⟨v, h1, h2⟩ := key t.kids.length 0 1 (by omega) (by omega) (by omega) (by simp [szs])
  have e0 : ((0 : Nat) : Int) = 0 := rfl
  rw [e0] at h1
  refine ⟨v, ?_, h2⟩
  unfold F36_2_b
  rw [h1]
  rfl
theorem ap_ok {len n bytes : Nat} (h1 : len ≤ n) (h2 : len ≤ 100000) (h3 : bytes ≤ 1000) : apOk len 1 n bytes = true := by
 unfold apOk limit47
 refine decide_eq_true ⟨h1, ?_, by omega⟩
 have : (len + 1) * bytes ≤ 100001 * 1000 := Nat.mul_le_mul (by omega) h3
 omega
def szA (a : AtD) : Nat := 1 + szs a.kids
def totA : List AtD → Nat
 | [] => 0
 | a :: l => szA a + totA l
theorem totA_app : ∀ (a b : List AtD), totA (a ++ b) = totA a + totA b
 | [], b => by simp [totA]
 | t :: a, b => by simp only [List.cons_append, totA, totA_app a b]; omega
theorem totA_len : ∀ (a : List AtD), a.length ≤ totA a
 | [] => by simp
 | t :: a => by have := totA_len a; simp only [List.length_cons, totA, szA]; omega
def mkAt (n : Int) (x : TreeD) : AtD := ⟨x.prod, x.byte, x.kids, n⟩
theorem totA_map (n : Int) : ∀ (l : List TreeD), totA (l.map (mkAt n)) = szs l
 | [] => rfl
 | x :: l => by simp only [List.map_cons, totA, totA_map n l, szs, szA, mkAt, sz_eq x]
theorem splice_take {α : Type} {l : List α} {n : Nat} {y : α} (h : n + 1 ≤ l.length) : (splice l n [y]).take (n + 1) = l.take n ++ [y] ∧ (splice l n [y]).length = l.length := by
 unfold splice
 refine ⟨?_, by simp; omega⟩
 have : (l.take n ++ [y]).length = n + 1 := by simp; omega
 rw [← this, List.take_left]
theorem l64_0 {a : AtD} (hn : 1 ≤ a.n ∧ a.n ≤ 20000) : ∀ (k i gen len : Nat) (l : List AtD), i + k = a.kids.length → a.kids.length < 40000 → len ≤ l.length → len + k ≤ 40000 →
  ∃ g' len' l', runL (fun s => L64_0_3 a (a.kids.length : Int) s.1 s.2.1 s.2.2.1 s.2.2.2) (gen, len, (i : Int), l) = some (.k0 g' len' l') ∧ len' ≤ l'.length ∧ l'.take len' = l.take len ++ (a.kids.drop i).map (mkAt (a.n + 1))
 | 0, i, gen, len, l, hi, _, hl, _ => by
  obtain rfl : i = a.kids.length := by omega
  exact ⟨gen, len, l, runL_done (by simp [L64_0_3]), hl, by simp⟩
 | k + 1, i, gen, len, l, hi, h6, hl, hb => by
  have hx : a.kids[i]? = some a.kids[i] := geg (by omega)
  have hd : a.kids.drop i = a.kids[i] :: a.kids.drop (i + 1) := (List.drop_eq_getElem_cons (by omega))
  generalize a.kids[i] = x at hx hd
  have e1 : IntKind.wrap .i64 (a.n + 1) = a.n + 1 := w_id (by omega)
  have hap : apOk len 1 l.length 48 = true := ap_ok hl (by omega) (by omega)
  rw [hd]
  by_cases hc : len + 1 ≤ l.length
  ·obtain ⟨s1, s2⟩ := splice_take (y := mkAt (a.n + 1) x) hc
   rw [runL_next (s' := (gen, len + 1, ((i + 1 : Nat) : Int), splice l len [mkAt (a.n + 1) x])) (by
    simp only [L64_0_3, getI_nat, hx, bsm, decide_eq_true (show (i : Int) < (a.kids.length : Int) by omega), cond_true, hap, decide_eq_true hc, e1, w_S (show i < 4611686018427387904 by omega), mkAt])]
   obtain ⟨g', len', l', r1, r2, r3⟩ := l64_0 hn k (i + 1) gen (len + 1) (splice l len [mkAt (a.n + 1) x]) (by omega) (by omega) (by omega) (by omega)
   exact ⟨g', len', l', r1, r2, by rw [r3, s1]; simp⟩
  ·have hll : len = l.length := by omega
   rw [runL_next (s' := (gen + 1, len + 1, ((i + 1 : Nat) : Int), l.take len ++ [mkAt (a.n + 1) x])) (by
    simp only [L64_0_3, getI_nat, hx, bsm, decide_eq_true (show (i : Int) < (a.kids.length : Int) by omega), cond_true, hap, decide_eq_false hc, cond_false, e1, w_S (show i < 4611686018427387904 by omega), mkAt])]
   obtain ⟨g', len', l', r1, r2, r3⟩ := l64_0 hn k (i + 1) (gen + 1) (len + 1) (l.take len ++ [mkAt (a.n + 1) x]) (by omega) (by omega) (by simp; omega) (by omega)
   refine ⟨g', len', l', r1, r2, ?_⟩
   have : (l.take len ++ [mkAt (a.n + 1) x]).take (len + 1) = l.take len ++ [mkAt (a.n + 1) x] := tol (by simp; omega)
   rw [r3, this]
   simp
theorem l64_1 : ∀ (m : Nat) (v : Int) (gen len : Nat) (l : List AtD), totA (l.take len) ≤ m → m ≤ 16384 → len ≤ l.length → v ≤ 16384 → (∀ a ∈ l.take len, 1 ≤ a.n ∧ a.n + szA a ≤ 16385) →
  ∃ v' g' l', runL (fun s => L64_1 s.1 s.2.1 s.2.2.1 s.2.2.2) (v, gen, len, l) = some (.k0 v' g' l') ∧ v' ≤ 16384 := by
 intro m
 induction m with
 | zero =>
  intro v gen len l ht _ hl hv _
  have h0 := totA_len (l.take len)
  rw [List.length_take] at h0
  obtain rfl : len = 0 := by omega
  exact ⟨v, gen, l, runL_done rfl, hv⟩
 | succ m ih =>
  intro v gen len l ht h5 hl hv ha
  cases len with
  | zero => exact ⟨v, gen, l, runL_done rfl, hv⟩
  | succ len =>
   have hx : l[len]? = some l[len] := geg (by omega)
   have htk : l.take (len + 1) = l.take len ++ [l[len]] := by rw [List.take_add_one, hx]; rfl
   generalize l[len] = x at hx htk
   rw [htk] at ht ha
   have hxa := ha x (by simp)
   rw [totA_app] at ht
   simp only [totA, Nat.add_zero] at ht
   have e1 : IntKind.wrap .i64 ((((len + 1 : Nat)) : Int) - 1) = (len : Int) := by rw [w_id (by have := totA_len (l.take len); rw [List.length_take] at this; omega)]; omega
   have hlt := totA_len (l.take len)
   rw [List.length_take] at hlt
   have hsz : szA x = 1 + szs x.kids := rfl
   have hkl := szs_len x.kids
   obtain ⟨g', len', l', r1, r2, r3⟩ := l64_0 (a := x) (by omega) x.kids.length 0 gen len l (by omega) (by omega) (by omega) (by omega)
   have e0 : ((0 : Nat) : Int) = 0 := rfl
   rw [e0] at r1
   rw [List.drop_zero] at r3
   have hix : ixN (len + 1) (len : Int) = some len := by rw [ixN_nat, if_pos (by omega)]
   have hsl : slOk (len : Int) (len + 1) l.length = true := decide_eq_true ⟨by omega, by omega, by omega⟩
   rw [runL_next (s' := ((if v < x.n then x.n else v), g', len', l')) (by
    simp only [L64_1, decide_eq_true (show (((len + 1 : Nat) : Int) > 0) by omega), decide_eq_true (show v ≤ 16384 by omega), cond_true, e1, hix, bsm, hx, hsl, Int.toNat_natCast, r1])]
   refine ih _ g' len' l' ?_ (by omega) r2 (by split <;> omega) (fun a haa => ?_)
   ·rw [r3, totA_app, totA_map]; omega
   ·rw [r3] at haa
    rcases List.mem_append.1 haa with h | h
    ·exact ha a (by simp [h])
    ·obtain ⟨y, hy, rfl⟩ := List.mem_map.1 h
     have h1 := szs_mem hy
     have h2 := sz_eq y
     have : szA (mkAt (x.n + 1) y) = sz y := by simp only [szA, mkAt, h2]
     rw [this]
     simp only [mkAt]
     omega
theorem q64 {t : TreeD} (h : sz t ≤ 16384) : ∃ d, F64 t = some d ∧ d ≤ 16384 := by
 have hs := sz_eq t
 obtain ⟨v, g', l', r1, r2⟩ := l64_1 (sz t) 0 0 1 [⟨t.prod, t.byte, t.kids, 1⟩] (by simp only [List.take, totA, szA]; omega) h (by simp) (by omega) (by
  intro a ha
  simp only [List.take, List.mem_cons, List.not_mem_nil, or_false] at ha
  subst ha
  simp only [szA]
  omega)
 exact ⟨v, by unfold F64; rw [r1]; rfl, r2⟩
mutual
def yb : TreeD → List Int
 | .mk p b ks => if p < 0 then [b] else ybs ks
def ybs : List TreeD → List Int
 | [] => []
 | t :: ts => yb t ++ ybs ts
end
theorem yb_eq : ∀ t : TreeD, yb t = if t.prod < 0 then [t.byte] else ybs t.kids
 | .mk _ _ _ => by simp only [yb]; rfl
mutual
theorem yb_len : ∀ (t : TreeD), (yb t).length ≤ sz t
 | .mk p b ks => by
  have := ybs_len ks
  simp only [yb, sz]
  split
  ·simp
  ·omega
theorem ybs_len : ∀ (ts : List TreeD), (ybs ts).length ≤ szs ts
 | [] => by simp [ybs]
 | t :: ts => by
  have := yb_len t
  have := ybs_len ts
  simp only [ybs, szs, lap]
  omega
end
theorem ybs_app : ∀ (a b : List TreeD), ybs (a ++ b) = ybs a ++ ybs b
 | [], b => rfl
 | t :: a, b => by simp only [List.cons_append, ybs, ybs_app a b, List.append_assoc]
theorem q67 {t : TreeD} {gen len : Nat} {l : List Int} {b : Bool} (hl : len ≤ l.length) (hb : len ≤ 40000) : ∃ g' l', F67_3 t gen l b len = some (.k0 g' l' true) ∧ len + 1 ≤ l'.length ∧ l'.take (len + 1) = l.take len ++ [t.byte] := by
 have hap : apOk len 1 l.length 1 = true := ap_ok hl (by omega) (by omega)
 have h81 : F81_3 b = some true := by cases b <;> rfl
 unfold F67_3
 rw [h81]
 simp only [bsm, hap, cond_true]
 by_cases hc : len + 1 ≤ l.length
 ·obtain ⟨s1, s2⟩ := splice_take (y := t.byte) hc
  rw [decide_eq_true hc]
  exact ⟨_, _, rfl, by omega, s1⟩
 ·rw [decide_eq_false hc]
  refine ⟨_, _, rfl, by simp; omega, ?_⟩
  exact tol (by simp; omega)
theorem q66 : ∀ (N : Nat) (t t0 : TreeD) (gen : Nat) (l : List Int) (b : Bool) (len : Nat), sz t < N → len ≤ l.length → len + sz t ≤ 40000 →
  ∃ g' l' b' len', F66_3 N t t0 gen l b len = some (.k0 g' l' b' len') ∧ len' = len + (yb t).length ∧ len' ≤ l'.length ∧ l'.take len' = l.take len ++ yb t
 | 0, _, _, _, _, _, _, h, _, _ => by omega
 | N + 1, t, t0, gen, l, b, len, h, hl, hb => by
  show ∃ g' l' b' len', F66_3_b (F66_3 N) t t0 gen l b len = some (.k0 g' l' b' len') ∧ _
  have hs := sz_eq t
  unfold F66_3_b
  rw [yb_eq t]
  by_cases hp : t.prod < 0
  ·obtain ⟨g', l', r1, r2, r3⟩ := q67 (t := t) (gen := gen) (b := b) hl (show len ≤ 40000 by omega)
   rw [decide_eq_true hp, if_pos hp]
   simp only [cond_true, r1, bsm]
   exact ⟨_, _, _, _, rfl, rfl, r2, r3⟩
  ·rw [decide_eq_false hp, if_neg hp]
   simp only [cond_false]
   have hkl := szs_len t.kids
   have key : ∀ (k i gen : Nat) (l : List Int) (b : Bool) (len : Nat), i + k = t.kids.length → len ≤ l.length → len + szs (t.kids.drop i) ≤ 40000 →
     ∃ g' l' b' len', runL (fun s => L66_0_3 (F66_3 N) t (t.kids.length : Int) t0 s.1 s.2.1 s.2.2.1 s.2.2.2.1 s.2.2.2.2) ((i : Int), gen, l, b, len) = some (.k0 g' l' b' len') ∧ len' = len + (ybs (t.kids.drop i)).length ∧ len' ≤ l'.length ∧ l'.take len' = l.take len ++ ybs (t.kids.drop i) := by
    intro k
    induction k with
    | zero =>
     intro i gen l b len hi hl _
     obtain rfl : i = t.kids.length := by omega
     rw [List.drop_length]
     exact ⟨gen, l, b, len, runL_done (by simp [L66_0_3]), by simp [ybs], hl, by simp [ybs]⟩
    | succ k ih =>
     intro i gen l b len hi hl hb
     have hx : t.kids[i]? = some t.kids[i] := geg (by omega)
     have hd : t.kids.drop i = t.kids[i] :: t.kids.drop (i + 1) := (List.drop_eq_getElem_cons (by omega))
     generalize t.kids[i] = x at hx hd
     rw [hd] at hb ⊢
     simp only [szs] at hb
     have hk := kid_lt hx
     obtain ⟨g1, l1, b1, len1, r1, r2, r3, r4⟩ := q66 N x t0 gen l b len (by omega) hl (by omega)
     have hyl := yb_len x
     obtain ⟨g2, l2, b2, len2, u1, u2, u3, u4⟩ := ih (i + 1) g1 l1 b1 len1 (by omega) r3 (by omega)
     refine ⟨g2, l2, b2, len2, ?_, ?_, u3, ?_⟩
     ·rw [runL_next (s' := (((i + 1 : Nat) : Int), g1, l1, b1, len1)) (by
       simp only [L66_0_3, getI_nat, hx, bsm, decide_eq_true (show (i : Int) < (t.kids.length : Int) by omega), cond_true, r1, w_S (show i < 4611686018427387904 by omega)])]
      exact u1
     ·simp only [ybs, lap]; omega
     ·rw [u4, r4]; simp only [ybs, List.append_assoc]
   obtain ⟨g', l', b', len', r1, r2, r3, r4⟩ := key t.kids.length 0 gen l b len (by omega) hl (by rw [List.drop_zero]; omega)
   rw [List.drop_zero] at r2 r4
   have e0 : ((0 : Nat) : Int) = 0 := rfl
   rw [e0] at r1
   rw [r1]
   exact ⟨g', l', b', len', rfl, r2, r3, r4⟩
theorem bstr_size (l : List Int) : (bstr l).size = l.length := by
 show ((l.map fun n => UInt8.ofNat n.toNat).toArray).size = _
 simp
theorem q38 {N : Nat} {t : TreeD} (hN : sz t < N) (h : sz t ≤ 16384) : F38 N t = some (.k0 (bstr (yb t)) 0) := by
 obtain ⟨d, d1, d2⟩ := q64 h
 obtain ⟨g', l', b', len', r1, r2, r3, r4⟩ := q66 N t t 0 [] false 0 hN (by simp) (by omega)
 have hyl := yb_len t
 unfold F38
 rw [d1]
 simp only [bsm, decide_eq_false (show ¬ d > 16384 by omega), cond_false, r1]
 simp only [List.take_nil, List.nil_append] at r4
 unfold F68
 by_cases h0 : 0 < len'
 ·have hu : usOk len' l'.length = true := decide_eq_true ⟨r3, by omega⟩
  rw [decide_eq_true h0, hu, r4]
  rfl
 ·obtain rfl : len' = 0 := by omega
  rw [decide_eq_false h0]
  have : yb t = [] := enz (by omega)
  rw [this]
  rfl
theorem byte_facts : ∀ m : Nat, m < 256 → Int.fdiv (m : Int) (2 ^ (min (Int.toNat 6) (IntKind.bits .u8))) = ((m / 64 : Nat) : Int) ∧
  (IntKind.wrap .u8 ((BitVec.ofInt (IntKind.bits .u8) (m : Int) &&& BitVec.ofInt (IntKind.bits .u8) 63).toNat : Int)) = ((m % 64 : Nat) : Int) ∧ IntKind.wrap .u8 (Int.tdiv (m : Int) 64) = ((m / 64 : Nat) : Int) ∧ Int.tmod (m : Int) 64 = ((m % 64 : Nat) : Int) := by decide +kernel
theorem bit1 {x : Int} (h : 0 ≤ x ∧ x ≤ 18446744073709551615) : (IntKind.wrap .u64 ((BitVec.ofInt (IntKind.bits .u64) x &&& BitVec.ofInt (IntKind.bits .u64) 1).toNat : Int)) = Int.tmod x 2 := by
 obtain ⟨n, rfl⟩ : ∃ n : Nat, x = (n : Int) := ⟨x.toNat, by omega⟩
 rw [show IntKind.bits .u64 = 64 from rfl, IntKind.wrap_u64, Int.tmod_eq_emod_of_nonneg (by omega)]
 have e1 : (BitVec.ofInt 64 (n : Int)).toNat = n := by rw [BitVec.toNat_ofInt]; omega
 have e2 : (BitVec.ofInt 64 (1 : Int)).toNat = 1 := by decide
 rw [BitVec.toNat_and, e1, e2, Nat.and_one_is_mod]
 omega
theorem shr_b {w : Int} (k : Nat) (h : 0 ≤ w ∧ w ≤ 18446744073709551615) : 0 ≤ Int.fdiv w (2 ^ k) ∧ Int.fdiv w (2 ^ k) ≤ 18446744073709551615 := by
 have hp : (0 : Int) < 2 ^ k := Int.pow_pos (by omega)
 rw [Int.fdiv_eq_ediv_of_nonneg _ (by omega)]
 refine ⟨Int.ediv_nonneg h.1 (by omega), ?_⟩
 have := Int.ediv_le_self (2 ^ k) h.1
 omega
theorem q80 {s : SymD} {t : TreeD} (hs : SymOk s) (ht : 0 ≤ t.byte ∧ t.byte ≤ 255) : F80 s.a s.b s.c s.d t = some (has (v4 s) t.byte.toNat) := by
 obtain ⟨m, hm⟩ : ∃ m : Nat, t.byte = (m : Int) := ⟨t.byte.toNat, by omega⟩
 have h31 := q31 (v4 s) (b := m) (by omega)
 rw [← sd_sym hs] at h31
 obtain ⟨f1, f2, f3, f4⟩ := byte_facts m (by omega)
 unfold F80
 unfold F31 at h31
 rw [f3, f4] at h31
 rw [hm, f1, f2, bit1 (shr_b _ hs.a), bit1 (shr_b _ hs.b), bit1 (shr_b _ hs.c), bit1 (shr_b _ hs.d)]
 exact h31
inductive Gr (g : GramD) : SymD → TreeD → Prop
 | byte {s : SymD} {b : Int} (hk : s.kind = 0) (hb : 0 ≤ b ∧ b ≤ 255) (h : has (v4 s) b.toNat = true) : Gr g s (.mk (-1) b [])
 | node {s : SymD} {i b : Int} {ks : List TreeD} {p : ProdD} (hk : (s.kind == 0) = false) (hi : 0 ≤ i) (hp : g.prods[i.toNat]? = some p) (hl : p.left = s.sort) (hr : (p.role != 11) = true)
   (hlen : ks.length = p.right.length) (hks : ∀ (j : Nat) (y : SymD) (x : TreeD), p.right[j]? = some y → ks[j]? = some x → Gr g y x) : Gr g s (.mk i b ks)
section
variable {g : GramD}
theorem q65 (hg : GramOk g) : ∀ (N : Nat) (s : SymD) (t : TreeD), SymOk s → TreeOk t → sz t < N → ∃ b, F65_2 N g s.kind s.a s.b s.c s.d s.sort t = some b ∧ (b = true → Gr g s t)
 | 0, _, _, _, _, h => by omega
 | N + 1, s, t, hs, ht, h => by
  show ∃ b, F65_2_b (F65_2 N) g s.kind s.a s.b s.c s.d s.sort t = some b ∧ _
  unfold F65_2_b
  have no : ∃ b, some false = some b ∧ (b = true → Gr g s t) := ⟨false, rfl, fun h => by cases h⟩
  rw [q80 hs ht.byte]
  have hb := ht.byte
  cases hk : s.kind == 0 with
  | true =>
   simp only [cond_true]
   by_cases h1 : t.prod = -1
   rotate_left
   ·rw [beqF h1]; exact no
   rw [h1]
   simp only [beq_self_eq_true, cond_true]
   by_cases h2 : (t.kids.length : Int) = 0
   rotate_left
   ·rw [beqF h2]; exact no
   rw [h2]
   simp only [beq_self_eq_true, cond_true, bsm]
   refine ⟨_, rfl, fun hh => ?_⟩
   obtain ⟨tp, tb, tk⟩ := t
   simp only [TreeD.prod, TreeD.byte, TreeD.kids] at h1 h2 hb hh
   obtain rfl : tk = [] := enz (by omega)
   rw [h1]
   exact .byte (by simpa using hk) hb hh
  | false =>
   simp only [cond_false]
   by_cases h1 : t.prod < 0
   ·rw [decide_eq_true h1]; exact no
   rw [decide_eq_false h1]
   simp only [cond_false]
   by_cases h2 : t.prod ≥ (g.prods.length : Int)
   ·rw [decide_eq_true h2]; exact no
   rw [decide_eq_false h2]
   simp only [cond_false]
   cases t.byte != 0 with
   | true => exact no
   | false =>
    simp only [cond_false]
    have hp : g.prods[t.prod.toNat]? = some (g.prods[t.prod.toNat]'(by omega)) := geg _
    have hmem := mog hp
    generalize g.prods[t.prod.toNat]'(by omega) = p at hp hmem
    have hgi : getI g.prods t.prod = some p := getI_some.2 ⟨by omega, hp⟩
    have hpo := hg.prod p hmem
    simp only [hgi, bsm]
    by_cases hl : p.left = s.sort
    rotate_left
    ·rw [bneT hl]; exact no
    rw [hl]
    simp only [bne_self_eq_false, cond_false]
    cases hr : p.role == 11 with
    | true => exact no
    | false =>
     simp only [cond_false]
     by_cases hlen : t.kids.length = p.right.length
     rotate_left
     ·rw [bneT (a := (t.kids.length : Int)) (b := (p.right.length : Int)) (by omega)]
      exact no
     have hb1 : ((t.kids.length : Int) != (p.right.length : Int)) = false := by rw [hlen]; simp
     rw [hb1]
     simp only [cond_false]
     have hlen40 := hpo.len
     have key : ∀ (k i : Nat), i + k = t.kids.length → ∃ b, runL (fun s => L65_0_2 (F65_2 N) t (t.kids.length : Int) g p s) (i : Int) = some (bif b then .k1 else .k0) ∧ (b = true → ∀ (j : Nat) (y : SymD) (x : TreeD), i ≤ j → p.right[j]? = some y → t.kids[j]? = some x → Gr g y x) := by
      intro k
      induction k with
      | zero =>
       intro i hi
       obtain rfl : i = t.kids.length := by omega
       refine ⟨true, runL_done (by simp [L65_0_2]), fun _ j y x hj _ hx => ?_⟩
       have := (gei.1 hx).1
       omega
      | succ k ih =>
       intro i hi
       have hx : t.kids[i]? = some t.kids[i] := geg (by omega)
       have hy : p.right[i]? = some (p.right[i]'(by omega)) := geg _
       have hym := mog hy
       generalize t.kids[i] = x at hx
       generalize p.right[i]'(by omega) = y at hy hym
       have hk := kid_lt hx
       obtain ⟨b, b1, b2⟩ := q65 hg N y x (hpo.right y hym) (ht.kid hx) (by omega)
       have s1 : L65_0_2 (F65_2 N) t (t.kids.length : Int) g p (i : Int) = some (bif b then .inr ((i + 1 : Nat) : Int) else .inl .k0) := by
        simp only [L65_0_2, getI_nat, hx, hy, bsm, decide_eq_true (show (i : Int) < (t.kids.length : Int) by omega), cond_true, b1, w_S (show i < 4611686018427387904 by omega)]
        cases b <;> rfl
       cases b with
       | false => exact ⟨false, runL_done s1, fun h => by cases h⟩
       | true =>
        obtain ⟨c, c1, c2⟩ := ih (i + 1) (by omega)
        refine ⟨c, by rw [runL_next s1, c1], fun hc j y' x' hj hy' hx' => ?_⟩
        by_cases he : j = i
        ·subst he
         rw [hy] at hy'; rw [hx] at hx'
         cases hy'; cases hx'
         exact b2 rfl
        ·exact c2 hc j y' x' (by omega) hy' hx'
     obtain ⟨b, b1, b2⟩ := key t.kids.length 0 (by omega)
     have e0 : ((0 : Nat) : Int) = 0 := rfl
     rw [e0] at b1
     rw [b1]
     cases b with
     | false => exact no
     | true =>
      refine ⟨true, rfl, fun _ => ?_⟩
      obtain ⟨tp, tb, tk⟩ := t
      simp only [TreeD.prod, TreeD.kids] at h1 hp hlen b2
      exact .node hk (by omega) hp hl (by unfold bne; rw [hr]; rfl) hlen (fun j y x hy hx => b2 trivial j y x (by omega) hy hx)
def rootS (p : ProdD) : SymD := ⟨1, 0, 0, 0, 0, p.left⟩
theorem q37 (hg : GramOk g) {N : Nat} {t : TreeD} (ht : TreeOk t) (hN : sz t < N) (h : sz t ≤ 16384) : ∃ e, F37 N g t = some e ∧ (e = 0 → chkB g = true ∧ ∃ p, getI g.prods t.prod = some p ∧ Gr g (rootS p) t) := by
 obtain ⟨d, d1, d2⟩ := q64 h
 unfold F37
 rw [q29 hg]
 simp only [bsm]
 cases hc : chkB g with
 | false =>
  have hcn : chkN g = 160 := by unfold chkN; rw [hc]; rfl
  rw [hcn]
  exact ⟨160, rfl, fun h => by cases h⟩
 | true =>
  have hcn : chkN g = 0 := by unfold chkN; rw [hc]; rfl
  rw [hcn]
  simp only [bne_self_eq_false, cond_false, d1, bsm, decide_eq_false (show ¬ d > 16384 by omega)]
  by_cases h1 : t.prod < 0
  ·rw [decide_eq_true h1]; exact ⟨163, rfl, fun h => by cases h⟩
  rw [decide_eq_false h1]
  simp only [cond_false]
  by_cases h2 : t.prod ≥ (g.prods.length : Int)
  ·rw [decide_eq_true h2]; exact ⟨163, rfl, fun h => by cases h⟩
  rw [decide_eq_false h2]
  simp only [cond_false]
  have hp : g.prods[t.prod.toNat]? = some (g.prods[t.prod.toNat]'(by omega)) := geg _
  have hmem := mog hp
  generalize g.prods[t.prod.toNat]'(by omega) = p at hp hmem
  have hgi : getI g.prods t.prod = some p := getI_some.2 ⟨by omega, hp⟩
  obtain ⟨b, b1, b2⟩ := q65 hg N (rootS p) t ⟨by simp [i64ok, rootS], by simp [u64ok, rootS], by simp [u64ok, rootS], by simp [u64ok, rootS], by simp [u64ok, rootS], (hg.prod p hmem).left⟩ ht hN
  simp only [rootS] at b1
  simp only [hgi, bsm, b1]
  cases b with
  | true => exact ⟨0, rfl, fun _ => ⟨trivial, p, rfl, b2 rfl⟩⟩
  | false => exact ⟨163, rfl, fun h => by cases h⟩
end
def fsV (fi : List V4) (s : SymD) : V4 := bif s.kind == 0 then v4 s else atV fi s.sort.toNat
structure Kd (sh : List Int) (fi : List V4) (s : SymD) (t : TreeD) : Prop where
 lo : 0 ≤ symS sh s
 len : symS sh s ≤ ((yb t).length : Int)
 fst : ∀ b l, yb t = b :: l → has (fsV fi s) b.toNat = true
 byt : (s.kind == 0) = true → symS sh s = 1
def KdL (sh : List Int) (fi : List V4) : List SymD → List TreeD → Prop
 | [], [] => True
 | s :: r, t :: ks => Kd sh fi s t ∧ KdL sh fi r ks
 | _, _ => False
section
variable {g : GramD} {n : Nat} {sh : List Int} {fi : List V4}
theorem kdl_of : ∀ (r : List SymD) (ks : List TreeD), ks.length = r.length → (∀ (j : Nat) (y : SymD) (x : TreeD), r[j]? = some y → ks[j]? = some x → Kd sh fi y x) → KdL sh fi r ks
 | [], [], _, _ => trivial
 | s :: r, t :: ks, hl, h => ⟨h 0 s t rfl rfl, kdl_of r ks (by simpa using hl) (fun j y x hy hx => h (j + 1) y x (by simpa using hy) (by simpa using hx))⟩
 | [], _ :: _, hl, _ => by simp at hl
 | _ :: _, [], hl, _ => by simp at hl
theorem kdl_sum : ∀ (r : List SymD) (ks : List TreeD) (a : Int), KdL sh fi r ks → 0 ≤ a ∧ a ≤ 1048577 → 0 ≤ sumS sh a r ∧ sumS sh a r ≤ a + ((ybs ks).length : Int)
 | [], [], a, _, ha => by simp only [sumS, ybs, List.length_nil]; omega
 | s :: r, t :: ks, a, h, ha => by
  have h1 := h.1.lo
  have h2 := h.1.len
  simp only [sumS, ybs, lap, decide_eq_false (show ¬ symS sh s < 0 by omega), cond_false]
  have := kdl_sum r ks (if 1048577 < a + symS sh s then 1048577 else a + symS sh s) h.2 (by split <;> omega)
  split at this <;> rename_i hc
  ·rw [if_pos hc]; omega
  ·rw [if_neg hc]; omega
 | [], _ :: _, _, h, _ => h.elim
 | _ :: _, [], _, h, _ => h.elim
theorem kd_nil {s : SymD} {t : TreeD} (h : Kd sh fi s t) (e : yb t = []) : (s.kind == 0) = false ∧ (symS sh s == 0) = true := by
 have h1 := h.lo
 have h2 := h.len
 rw [e] at h2
 simp only [List.length_nil] at h2
 have h0 : symS sh s = 0 := by omega
 refine ⟨?_, by rw [h0]; rfl⟩
 cases hk : s.kind == 0 with
 | false => rfl
 | true => have := h.byt hk; omega
theorem kdl_cf : ∀ (r : List SymD) (ks : List TreeD) (b : Int) (l : List Int), KdL sh fi r ks → ybs ks = b :: l → has (cf sh fi r) b.toNat = true
 | [], [], b, l, _, e => by simp [ybs] at e
 | s :: r, t :: ks, b, l, h, e => by
  simp only [ybs] at e
  cases hy : yb t with
  | nil =>
   obtain ⟨k1, k2⟩ := kd_nil h.1 hy
   rw [hy, List.nil_append] at e
   simp only [cf, k1, k2, cond_false, cond_true, has_u, kdl_cf r ks b l h.2 e, Bool.or_true]
  | cons c l' =>
   rw [hy, List.cons_append] at e
   have hf := h.1.fst c l' hy
   obtain rfl : c = b := (List.cons.inj e).1
   unfold fsV at hf
   simp only [cf]
   cases hk : s.kind == 0 with
   | true => rw [hk] at hf; simpa using hf
   | false =>
    rw [hk] at hf
    simp only [cond_false] at hf ⊢
    cases symS sh s == 0 with
    | true => simp only [cond_true, has_u, hf, Bool.true_or]
    | false => simpa using hf
 | [], _ :: _, _, _, h, _ => h.elim
 | _ :: _, [], _, _, h, _ => h.elim
theorem kdl_no (x : V4) : ∀ (r : List SymD) (ks : List TreeD), KdL sh fi r ks → ybs ks = [] → (∀ b, be sh r b = b) ∧ (∀ c, has x c = true → has (bh sh fi r x) c = true)
 | [], [], _, _ => ⟨fun b => rfl, fun c h => h⟩
 | s :: r, t :: ks, h, e => by
  simp only [ybs, List.append_eq_nil_iff] at e
  obtain ⟨k1, k2⟩ := kd_nil h.1 e.1
  obtain ⟨i1, i2⟩ := kdl_no x r ks h.2 e.2
  refine ⟨fun b => ?_, fun c hc => ?_⟩
  ·simp only [be, k1, k2, cond_false, cond_true, i1 b]
  ·simp only [bh, k1, k2, cond_false, cond_true, has_u, i2 c hc, Bool.true_or]
 | [], _ :: _, h, _ => h.elim
 | _ :: _, [], h, _ => h.elim
theorem kdl_bh (x : V4) : ∀ (r : List SymD) (ks : List TreeD) (b : Int) (l : List Int), KdL sh fi r ks → ybs ks = b :: l → has (bh sh fi r x) b.toNat = true
 | [], [], b, l, _, e => by simp [ybs] at e
 | s :: r, t :: ks, b, l, h, e => by
  simp only [ybs] at e
  cases hy : yb t with
  | nil =>
   obtain ⟨k1, k2⟩ := kd_nil h.1 hy
   rw [hy, List.nil_append] at e
   simp only [bh, k1, k2, cond_false, cond_true, has_u, kdl_bh x r ks b l h.2 e, Bool.true_or]
  | cons c l' =>
   rw [hy, List.cons_append] at e
   have hf := h.1.fst c l' hy
   obtain rfl : c = b := (List.cons.inj e).1
   unfold fsV at hf
   simp only [bh]
   cases hk : s.kind == 0 with
   | true => rw [hk] at hf; simpa using hf
   | false =>
    rw [hk] at hf
    simp only [cond_false] at hf ⊢
    cases symS sh s == 0 with
    | true => simp only [cond_true, has_u, hf, Bool.or_true]
    | false => simpa using hf
 | [], _ :: _, _, _, h, _ => h.elim
 | _ :: _, [], _, _, h, _ => h.elim
theorem sym1 {s : SymD} (h : (s.kind == 0) = true) : symS sh s = 1 := by
 have : s.kind = 0 := by simpa using h
 unfold symS
 rw [this]
 rfl
theorem kind1 {s : SymD} (hv : SymV n s) (h : (s.kind == 0) = false) : s.kind = 1 := by
 rcases hv.k with k | k
 ·rw [k] at h; cases h
 ·exact k
theorem kd_of (hv : GramV g) (fx : ∀ p ∈ g.prods, (upd sh p).1 = false) (cl : ClF g sh fi) {s : SymD} {t : TreeD} (h : Gr g s t) : SymV g.sorts.length s → Kd sh fi s t ∧ ∀ p, (s.kind == 0) = false → getI g.prods t.prod = some p → liveP sh p = true := by
 induction h with
 | @byte s b hk hb h =>
  intro _
  have k0 : (s.kind == 0) = true := by rw [hk]; rfl
  have e1 := sym1 (sh := sh) k0
  refine ⟨⟨by omega, by rw [e1]; simp [yb], fun b' l e => ?_, fun _ => e1⟩, fun p h0 => by rw [k0] at h0; cases h0⟩
  simp [yb] at e
  rw [← e.1]
  unfold fsV
  rw [k0]
  exact h
 | @node s i b ks p hk hi hp hl hr hlen hks ih =>
  intro hsv
  have hmem := mog hp
  have hpv := hv.prod p hmem
  have k1 := kind1 hsv hk
  have hkl := kdl_of p.right ks hlen (fun j y x hy hx => (ih j y x hy hx (hpv.right y (mog hy))).1)
  obtain ⟨s0, s1⟩ := kdl_sum p.right ks 0 hkl (by omega)
  have hyb : yb (.mk i b ks) = ybs ks := by simp only [yb]; rw [if_neg (by omega)]
  have hlive : liveP sh p = true := by unfold liveP; rw [hr, decide_eq_true s0]; rfl
  have ho : symS sh s = old sh p := by unfold symS old; rw [k1, hl]; rfl
  have hu := fx p hmem
  unfold upd at hu
  rw [hr, decide_eq_true s0] at hu
  simp only [Bool.true_and] at hu
  cases hc : (decide (old sh p < 0) || decide (sumS sh 0 p.right < old sh p)) with
  | true => rw [hc] at hu; cases hu
  | false =>
   rw [Bool.or_eq_false_iff] at hc
   have c1 := of_decide_eq_false hc.1
   have c2 := of_decide_eq_false hc.2
   refine ⟨⟨by omega, by rw [hyb]; omega, fun b' l e => ?_, fun h0 => sym1 h0⟩, fun p' _ hg => ?_⟩
   ·rw [hyb] at e
    have := cl.cl p hmem hlive _ (kdl_cf p.right ks b' l hkl e)
    unfold fsV
    rw [hk, ← hl]
    exact this
   ·have := (getI_some.1 hg).2
    simp only [TreeD.prod] at this
    rw [hp] at this
    cases this
    exact hlive
theorem bstr_at {L : List Int} {k : Nat} {b : Int} (h : L[k]? = some b) : getI (bstr L).data.toList (k : Int) = some (UInt8.ofNat b.toNat) := by
 rw [getI_nat]
 unfold bstr
 simp [h]
theorem u8_int {b : Int} (h : 0 ≤ b ∧ b ≤ 255) : (((UInt8.ofNat b.toNat).toNat : Nat) : Int) = ((b.toNat : Nat) : Int) := by
 rw [UInt8.toNat_ofNat']
 omega
theorem F31_at {x : V4} {b : Int} (h : 0 ≤ b ∧ b ≤ 255) (hb : has x b.toNat = true) : F31 (sd x) (((UInt8.ofNat b.toNat).toNat : Nat) : Int) = some true := by
 rw [u8_int h, q31 x (by omega), hb]
end
section
variable {g : GramD} {sh : List Int} {fi : List V4}
theorem set_at1 {p : ProdD} {j : Nat} {y : SymD} (hy : p.right[j]? = some y) : p.right = p.right.take j ++ y :: p.right.drop (j + 1) := by
 have hj := (gei.1 hy).1
 have hd : p.right.drop j = y :: p.right.drop (j + 1) := by
  rw [List.drop_eq_getElem_cons hj, (gei.1 hy).2]
 rw [← hd, List.take_append_drop]
theorem kids_at {ks : List TreeD} {j : Nat} {x : TreeD} (hx : ks[j]? = some x) : ybs ks = ybs (ks.take j) ++ (yb x ++ ybs (ks.drop (j + 1))) := by
 have hj := (gei.1 hx).1
 have hd : ks.drop j = x :: ks.drop (j + 1) := by
  rw [List.drop_eq_getElem_cons hj, (gei.1 hx).2]
 have : ybs ks = ybs (ks.take j ++ ks.drop j) := by rw [List.take_append_drop]
 rw [this, ybs_app, hd]
 rfl
theorem kdl_drop : ∀ (j : Nat) (r : List SymD) (ks : List TreeD), KdL sh fi r ks → KdL sh fi (r.drop j) (ks.drop j)
 | 0, _, _, h => h
 | j + 1, [], [], _ => trivial
 | j + 1, _ :: r, _ :: ks, h => kdl_drop j r ks h.2
 | _ + 1, [], _ :: _, h => h.elim
 | _ + 1, _ :: _, [], h => h.elim
def Beh (inn : List Bool) (W : WS) (s : SymD) (post : List Int) : Prop :=
 inn[s.sort.toNat]? = some true ∧ (post = [] → W.2[s.sort.toNat]? = some true) ∧ (∀ b l, post = b :: l → has (atV W.1 s.sort.toNat) b.toNat = true)
theorem beh_kid (hv : GramV g) {inn : List Bool} {W : WS} (cI : ClI g sh inn) (cW : ClW g sh fi inn W) {s : SymD} {p : ProdD} {ks : List TreeD} (hmem : p ∈ g.prods) (hl : p.left = s.sort) (hlive : liveP sh p = true) (hkl : KdL sh fi p.right ks)
  {j : Nat} {y : SymD} {x : TreeD} (hy : p.right[j]? = some y) (hx : ks[j]? = some x) (k1 : y.kind = 1) {post : List Int} (h : Beh inn W s post) : Beh inn W y (ybs (ks.drop (j + 1)) ++ post) := by
 obtain ⟨h1, h2, h3⟩ := h
 rw [← hl] at h1 h2 h3
 obtain ⟨c1, c2⟩ := cW.cl p hmem hlive h1 _ y _ (set_at1 hy) k1
 have hk := kdl_drop (j + 1) p.right ks hkl
 refine ⟨cI.cl p hmem hlive h1 y (mog hy) k1, fun e => ?_, fun b l e => ?_⟩
 ·obtain ⟨e1, e2⟩ := List.append_eq_nil_iff.1 e
  refine c2 ?_
  rw [(kdl_no zV _ _ hk e1).1, h2 e2]
  rfl
 ·refine c1 _ ?_
  cases hz : ybs (ks.drop (j + 1)) with
  | nil =>
   rw [hz, List.nil_append] at e
   exact (kdl_no _ _ _ hk hz).2 _ (h3 b l e)
  | cons c l' =>
   rw [hz, List.cons_append] at e
   obtain rfl : c = b := (List.cons.inj e).1
   exact kdl_bh _ _ _ c l' hk hz
theorem goes (hg : GramOk g) (hv : GramV g) (hs : ShOk g.sorts.length sh) (fx : ∀ p ∈ g.prods, (upd sh p).1 = false) (cF : ClF g sh fi) {inn : List Bool} {W : WS} (cI : ClI g sh inn) {wh : Bool} (cW : wh = true → ClW g sh fi inn W) (lW : LenW g W)
  {L : List Int} (hL : ∀ b ∈ L, 0 ≤ b ∧ b ≤ 255) (hLl : L.length ≤ 5000) (root : TreeD) : ∀ (N : Nat) (s : SymD) (t : TreeD) (pre post : List Int), L = pre ++ yb t ++ post → Gr g s t → SymV g.sorts.length s → sz t < N → sz t ≤ 5000 →
  (wh = true → (s.kind == 0) = false → Beh inn W s post) →
  F39_3 N t (pre.length : Int) (bstr L) wh g root g (fi.map sd) (W.1.map sd) (liveOf sh) (nulOf sh) W.2 sh true = some (.k0 ((pre.length : Int) + ((yb t).length : Int)) true)
 | 0, _, _, _, _, _, _, _, h, _, _ => by omega
 | N + 1, s, t, pre, post, he, hf, hsv, hN, h5, hB => by
  have hkd := kd_of hv fx cF hf hsv
  have hlen : L.length = pre.length + (yb t).length + post.length := by rw [he]; simp only [lap]
  show F39_3_b (F39_3 N) t (pre.length : Int) (bstr L) wh g root g (fi.map sd) (W.1.map sd) (liveOf sh) (nulOf sh) W.2 sh true = _
  cases hf with
  | @byte s b hk hb h =>
   have e1 : (yb (.mk (-1) b [])) = [b] := by simp [yb]
   rw [e1]
   unfold F39_3_b
   have hd0 : decide ((TreeD.mk (-1) b []).prod < 0) = true := decide_eq_true (by show (-1 : Int) < 0; omega)
   simp only [hd0, cond_true]
   rw [w_id (by omega)]
   rfl
  | @node s i b ks p hk hi hp hl hr hlen' hks =>
   have hmem := mog hp
   have hpv := hv.prod p hmem
   have k1 := kind1 hsv hk
   have hgi : getI g.prods i = some p := getI_some.2 ⟨hi, hp⟩
   have hlive := hkd.2 p hk hgi
   have hyb : yb (.mk i b ks) = ybs ks := by simp only [yb]; rw [if_neg (by omega)]
   have hkl := kdl_of p.right ks hlen' (fun j y x hy hx => (kd_of hv fx cF (hks j y x hy hx) (hpv.right y (mog hy))).1)
   have hsz := szs_len ks
   have hse := sz_eq (.mk i b ks)
   simp only [TreeD.kids] at hse
   rw [hyb] at he hlen ⊢
   have key : ∀ (k j : Nat), j + k = ks.length → runL (fun s => L39_0_3 (F39_3 N) (bstr L) wh g root g (fi.map sd) (W.1.map sd) (liveOf sh) (nulOf sh) W.2 sh (.mk i b ks) s.1 s.2.1 s.2.2) ((pre.length : Int) + ((ybs (ks.take j)).length : Int), (j : Int), true) =
     some (.k0 ((pre.length : Int) + ((ybs ks).length : Int)) true) := by
    intro k
    induction k with
    | zero =>
     intro j hj
     obtain rfl : j = ks.length := by omega
     rw [List.take_length]
     exact runL_done (by simp [L39_0_3, TreeD.kids])
    | succ k ih =>
     intro j hj
     have hx : ks[j]? = some (ks[j]'(by omega)) := geg _
     have hy : p.right[j]? = some (p.right[j]'(by omega)) := geg _
     generalize ks[j]'(by omega) = x at hx
     generalize p.right[j]'(by omega) = y at hy
     have hym := mog hy
     have hxk := kid_lt (t := .mk i b ks) hx
     have hka := kids_at hx
     have hrec := goes hg hv hs fx cF cI cW lW hL hLl root N y x (pre ++ ybs (ks.take j)) (ybs (ks.drop (j + 1)) ++ post) (by rw [he, hka]; simp only [List.append_assoc]) (hks j y x hy hx) (hpv.right y hym) (by omega) (by omega)
      (fun hw hyk => beh_kid hv cI (cW hw) hmem hl hlive hkl hy hx (kind1 (hpv.right y hym) hyk) (hB hw hk))
     rw [lap, Int.natCast_add] at hrec
     have e2 : ybs (ks.take (j + 1)) = ybs (ks.take j) ++ yb x := by
      rw [List.take_add_one, hx, ybs_app]
      simp [ybs]
     have e3 : (pre.length : Int) + ((ybs (ks.take (j + 1))).length : Int) = (pre.length : Int) + ((ybs (ks.take j)).length : Int) + ((yb x).length : Int) := by rw [e2, lap]; omega
     have hd : decide ((j : Int) < ((TreeD.mk i b ks).kids.length : Int)) = true := decide_eq_true (by show (j : Int) < (ks.length : Int); omega)
     have hx' : (TreeD.mk i b ks).kids[j]? = some x := hx
     rw [runL_next (s' := ((pre.length : Int) + ((ybs (ks.take (j + 1))).length : Int), ((j + 1 : Nat) : Int), true)) (by
      rw [e3]
      simp only [L39_0_3, getI_nat, hx', bsm, hd, cond_true, hrec, w_S (show j < 4611686018427387904 by omega)])]
     exact ih (j + 1) (by omega)
   have h0 := key ks.length 0 (by omega)
   simp only [List.take_zero, ybs, List.length_nil, Int.ofNat_zero, Int.add_zero, Int.natCast_zero] at h0
   have hsrt := hsv.sort k1
   have hln : p.left.toNat < sh.length := by rw [hl, hs.len]; omega
   have hgs : sh[p.left.toNat]? = some (symS sh s) := by
    unfold symS
    rw [k1, ← hl, geg hln]
    rfl
   have q0 : getI sh p.left = some (symS sh s) := getI_some.2 ⟨by omega, hgs⟩
   have hlo := hkd.1.lo
   have hle := hkd.1.len
   rw [hyb] at hle
   have q1 : getI (liveOf sh) p.left = some true := by
    refine getI_some.2 ⟨by omega, ?_⟩
    unfold liveOf
    rw [List.getElem?_map, hgs]
    simp only [Option.map_some, decide_eq_true (show symS sh s ≥ 0 by omega)]
   have q2 : getI (nulOf sh) p.left = some (symS sh s == 0) := by
    refine getI_some.2 ⟨by omega, ?_⟩
    unfold nulOf
    rw [List.getElem?_map, hgs]
    rfl
   have hleft : p.left.toNat < g.sorts.length := by omega
   have q3 : getI (fi.map sd) p.left = some (sd (atV fi p.left.toNat)) := getI_some.2 ⟨by omega, map_at cF.len hleft⟩
   have q4 : getI (W.1.map sd) p.left = some (sd (atV W.1 p.left.toNat)) := getI_some.2 ⟨by omega, map_at lW.1 hleft⟩
   have hyl := yb_len (.mk i b ks)
   rw [hyb] at hyl
   have ew : IntKind.wrap .i64 ((pre.length : Int) + ((ybs ks).length : Int) - (pre.length : Int)) = ((ybs ks).length : Int) := by rw [w_id (by omega)]; omega
   have hsize : (((bstr L).size : Nat) : Int) = (pre.length : Int) + ((ybs ks).length : Int) + (post.length : Int) := by rw [bstr_size, hlen]; omega
   have tail : wh = true → (post = [] ∧ ((pre.length : Int) + ((ybs ks).length : Int) == ((bstr L).size : Int)) = true ∧ getI W.2 p.left = some true) ∨
     (∃ b : Int, ((pre.length : Int) + ((ybs ks).length : Int) == ((bstr L).size : Int)) = false ∧ decide ((pre.length : Int) + ((ybs ks).length : Int) < ((bstr L).size : Int)) = true ∧ getI (bstr L).data.toList ((pre.length : Int) + ((ybs ks).length : Int)) = some (UInt8.ofNat b.toNat) ∧ F31 (sd (atV W.1 p.left.toNat)) (((UInt8.ofNat b.toNat).toNat : Nat) : Int) = some true) := by
    intro hw
    obtain ⟨b1, b2, b3⟩ := hB hw hk
    rw [← hl] at b1 b2 b3
    cases hpo : post with
    | nil =>
     refine .inl ⟨rfl, ?_, getI_some.2 ⟨by omega, b2 hpo⟩⟩
     rw [hsize, hpo]
     simp
    | cons c l =>
     have hc : L[pre.length + (ybs ks).length]? = some c := by
      rw [he, hpo, List.getElem?_append_right (by simp)]
      simp
     have hcb := hL c (mog hc)
     refine .inr ⟨c, ?_, ?_, ?_, F31_at hcb (b3 c l hpo)⟩
     ·rw [hsize, hpo]; simp only [List.length_cons]; exact beqF (by omega)
     ·rw [hsize, hpo]; simp only [List.length_cons]; exact decide_eq_true (by omega)
     ·have := bstr_at hc
      rwa [Int.natCast_add] at this
   unfold F39_3_b
   have hd0 : decide ((TreeD.mk i b ks).prod < 0) = false := decide_eq_false (by show ¬ i < 0; omega)
   have hgi' : getI g.prods (TreeD.mk i b ks).prod = some p := hgi
   simp only [hd0, cond_false, hgi', bsm, h0, cond_true, q1, q0, decide_eq_true (show symS sh s ≥ 0 by omega), ew, decide_eq_true hle]
   by_cases hE : (ybs ks).length = 0
   ·have hn : ybs ks = [] := enz hE
    have hz : symS sh s = 0 := by omega
    rw [hz] at q2
    have z1 : decide ((pre.length : Int) + ((ybs ks).length : Int) > (pre.length : Int)) = false := decide_eq_false (by omega)
    have z2 : ((pre.length : Int) + ((ybs ks).length : Int) == (pre.length : Int)) = true := by rw [hE]; simp
    simp only [z1, z2, cond_false, cond_true, q2, beq_self_eq_true, bsm]
    cases hw : wh with
    | false => rfl
    | true =>
     rcases tail hw with ⟨_, t1, t2⟩ | ⟨c, t1, t2, t3, t4⟩
     ·simp only [cond_true, t1, t2, bsm]
     ·simp only [cond_true, cond_false, t1, t2, t3, t4, q4, bsm]
   ·have z1 : decide ((pre.length : Int) + ((ybs ks).length : Int) > (pre.length : Int)) = true := decide_eq_true (by omega)
    have z2 : ((pre.length : Int) + ((ybs ks).length : Int) == (pre.length : Int)) = false := beqF (by omega)
    cases hyk : ybs ks with
    | nil => rw [hyk] at hE; exact absurd rfl hE
    | cons c l =>
     rw [← hyk]
     have hc : L[pre.length]? = some c := by
      rw [he, hyk, List.append_assoc, List.getElem?_append_right (Nat.le_refl _)]
      simp
     have hcb := hL c (mog hc)
     have hfs := hkd.1.fst c l (by rw [hyb]; exact hyk)
     unfold fsV at hfs
     rw [hk, ← hl] at hfs
     simp only [cond_false] at hfs
     have q5 := bstr_at hc
     have q6 := F31_at hcb hfs
     simp only [z1, z2, cond_false, cond_true, q3, q5, q6, bsm]
     cases hw : wh with
     | false => rfl
     | true =>
      rcases tail hw with ⟨_, t1, t2⟩ | ⟨c', t1, t2, t3, t4⟩
      ·simp only [cond_true, t1, t2, bsm]
      ·simp only [cond_true, cond_false, t1, t2, t3, t4, q4, bsm]
theorem yb_bytes : ∀ (N : Nat) (t : TreeD), sz t < N → TreeOk t → ∀ b ∈ yb t, 0 ≤ b ∧ b ≤ 255
 | 0, _, h, _ => by omega
 | N + 1, t, h, ht => by
  intro b hb
  rw [yb_eq] at hb
  by_cases hp : t.prod < 0
  ·rw [if_pos hp] at hb
   simp only [List.mem_cons, List.not_mem_nil, or_false] at hb
   rw [hb]
   exact ht.byte
  ·rw [if_neg hp] at hb
   have hk : ∀ (l : List TreeD), (∀ x ∈ l, ∃ i : Nat, t.kids[i]? = some x) → b ∈ ybs l → 0 ≤ b ∧ b ≤ 255 := by
    intro l
    induction l with
    | nil => intro _ h; simp [ybs] at h
    | cons x l ih =>
     intro hl h
     simp only [ybs, List.mem_append] at h
     rcases h with h | h
     ·obtain ⟨i, hi⟩ := hl x (List.mem_cons_self ..)
      have := kid_lt hi
      exact yb_bytes N x (by omega) (ht.kid hi) b h
     ·exact ih (fun y hy => hl y (List.mem_cons_of_mem _ hy)) h
   exact hk t.kids (fun x hx => List.getElem?_of_mem hx) hb
theorem law9 (h : ArgOk g) {t : TreeD} (ht : TreeOk t) {N : Nat} (hN : sz t < N) : F9 N g t = some true := by
 obtain ⟨v, h10, hv⟩ := q10 h
 unfold F9
 rw [h10]
 simp only [bsm]
 cases v with
 | true => rfl
 | false =>
  have hg := hv rfl
  obtain ⟨w, w1, w2, w3, w4⟩ := q36 N t 2000 hN (by omega)
  simp only [cond_false, w1, bsm]
  by_cases hb : w > 2000
  ·rw [decide_eq_true hb]; rfl
  have hsz : sz t ≤ 2000 := by have := w4 (by omega); omega
  obtain ⟨e, e1, e2⟩ := q37 hg ht hN (by omega)
  simp only [decide_eq_false hb, cond_false, e1, bsm, F15]
  by_cases he : e = 0
  rotate_left
  ·rw [bneT he]; rfl
  obtain ⟨hc, p, hp, hf⟩ := e2 he
  rw [he]
  obtain ⟨sh, hs, h16, h45, h1, h2⟩ := shortest hg hc
  have hgv := val_of hc
  have h40 := hg.sorts
  have hl := hs.len
  have h00 : ((0 : Int) != 0) = false := rfl
  have h20 : F20 g = some (.k0 (liveOf sh) 0) := by
   have hq := l20_0 (sh := sh) (by omega)
   rw [hl] at hq
   unfold F20
   simp only [h45, bsm, mk1 h40, cond_true, Int.toNat_natCast, hl, hq, live_len, decide_eq_true (Nat.le_refl _)]
   rw [tol (by rw [live_len]; omega)]
  have h22 : F22 g = some (.k0 (nulOf sh) 0) := by unfold F22; simp only [h45, bsm]
  have h13 : F13 g = some (.k0 sh 0) := by unfold F13; simp only [h45, bsm]
  have h61 : F61_2 (⟨g.sorts, g.prods, g.start, g.forbid, g.follow⟩ : GramD) sh (nulOf sh) = some ((firstOf sh g).map sd) := q61 hg hgv hs
  have h62 : F62_2 (⟨g.sorts, g.prods, g.start, g.forbid, g.follow⟩ : GramD) sh (nulOf sh) = some (.k0 ((behindA sh g).1.map sd) (behindA sh g).2) := q62 hg hgv hs
  have h30 : F30 g = some (.k0 ((firstOf sh g).map sd) 0) := by unfold F30; simp only [h45, bsm, h61]
  have h32 : F32 g = some (.k0 ((behindA sh g).1.map sd) 0) := by unfold F32; simp only [h45, bsm, h62]
  have h33 : F33 g = some (.k0 (behindA sh g).2 0) := by unfold F33; simp only [h45, bsm, h62]
  have hbl := behA_len (g := g) (sh := sh)
  have fx := fix_upd g.prods sh hgv.prod hs h1
  have cF := first_closed (sh := sh) hgv
  have cI := in_closed (sh := sh) hgv
  have hmem := mog (getI_some.1 hp).2
  have hrv : SymV g.sorts.length (rootS p) := ⟨.inr rfl, (fun h => by cases h), fun _ => (hgv.prod p hmem).left⟩
  have hkd := (kd_of hgv fx cF hf hrv).1
  have hgo := goes hg hgv hs fx cF (inn := inOf sh g) (W := behindA sh g) cI (wh := p.left == g.start) (fun hw => by
    have hps : p.left = g.start := by simpa using hw
    have hlo := hkd.lo
    have h0 : 0 ≤ shAt sh g.start := by rw [← hps]; exact hlo
    unfold behindA
    rw [decide_eq_true h0]
    exact behind_closed hgv _ _) hbl (L := yb t) (yb_bytes N t hN ht) (by have := yb_len t; omega) t N (rootS p) t [] [] (by simp) hf hrv hN (by omega) (fun hw _ => by
    have hps : p.left = g.start := by simpa using hw
    have hlo := hkd.lo
    have h0 : 0 ≤ shAt sh g.start := by rw [← hps]; exact hlo
    refine ⟨?_, fun _ => ?_, fun b l e => by cases e⟩
    ·show (inOf sh g)[p.left.toNat]? = some true
     rw [hps]
     exact in_start hgv
    ·show (behindA sh g).2[p.left.toNat]? = some true
     unfold behindA
     rw [decide_eq_true h0, hps]
     have hst := hgv.start
     refine (behind_ge (inOf sh g) true).2.2 _ ?_
     unfold W0 setE
     exact set_get (by simp; omega))
  have e30 : ((((firstOf sh g).map sd).length : Int) != (g.sorts.length : Int)) = false := by rw [List.length_map, first_len]; simp
  have e32 : ((((behindA sh g).1.map sd).length : Int) != (g.sorts.length : Int)) = false := by rw [List.length_map, hbl.1]; simp
  have e33 : (((behindA sh g).2.length : Int) != (g.sorts.length : Int)) = false := by rw [hbl.2]; simp
  have e20 : (((liveOf sh).length : Int) != (g.sorts.length : Int)) = false := by rw [live_len, hl]; simp
  have e22 : (((nulOf sh).length : Int) != (g.sorts.length : Int)) = false := by unfold nulOf; rw [List.length_map, hl]; simp
  have e13 : ((sh.length : Int) != (g.sorts.length : Int)) = false := by rw [hl]; simp
  have hsum : ((IntKind.wrap .i64 ((IntKind.wrap .i64 ((IntKind.wrap .i64 ((IntKind.wrap .i64 ((IntKind.wrap .i64 ((0 : Int) + 0)) + 0)) + 0)) + 0)) + 0)) != 0) = false := by decide
  have hz : ((([] : List Int).length : Nat) : Int) = 0 := rfl
  rw [hz] at hgo
  simp only [h00, cond_false, h30, h32, h33, h20, h22, h13, bsm, hsum, e30, e32, e33, e20, e22, e13, q38 hN (show sz t ≤ 16384 by omega), hp, hgo, beq_self_eq_true, cond_true, F11]
end
end Go.Proofs.Tryd
