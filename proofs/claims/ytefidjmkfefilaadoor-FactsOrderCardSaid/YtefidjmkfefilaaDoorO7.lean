/- Sets together as the document has it, byte by byte: the union. -/
import Derived.Test.YtefidjmkfefilaaDoorK7
import Derived.Test.YtefidjmkfefilaaDoorVE
open Option renaming bind_some → bsm, getD_some → gds
open Bool renaming and_eq_true → aet
open List renaming getElem?_eq_some_iff → gei, getElem?_eq_getElem → geg, mem_of_getElem? → mog, take_of_length_le → tol, getElem?_replicate → grp, getElem?_eq_none → gen, mem_cons_of_mem → mcm, mem_cons_self → mcf
namespace Go.Proofs.Tryd
set_option linter.unusedSimpArgs false
set_option linter.unusedVariables false
open Go Go.Vs
theorem has_z (c : Nat) : has zV c = false := by
 unfold has zV V4.get
 split <;> simp
def leV (a c : List V4) : Prop := a.length = c.length ∧ ∀ i b, has (atV a i) b = true → has (atV c i) b = true
theorem leV.refl (a : List V4) : leV a a := ⟨rfl, fun _ _ h => h⟩
theorem leV.trans {a b c : List V4} (h : leV a b) (k : leV b c) : leV a c := ⟨h.1.trans k.1, fun i x hx => k.2 i x (h.2 i x hx)⟩
theorem leV.antisymm {a c : List V4} (h : leV a c) (k : leV c a) : a = c := by
 refine List.ext_getElem? (fun i => ?_)
 by_cases hi : i < a.length
 ·rw [at_some hi, at_some (show i < c.length by rw [← h.1]; exact hi)]
  congr 1
  refine V_ext (fun b _ => ?_)
  have h1 := h.2 i b
  have h2 := k.2 i b
  cases e1 : has (atV a i) b <;> cases e2 : has (atV c i) b <;> simp_all
 ·have hl := h.1
  rw [gen (by omega), gen (by omega)]
theorem leV_set {a c : List V4} {i : Nat} {y : V4} (h : leV a c) (hy : ∀ b, has y b = true → has (atV c i) b = true) : leV (a.set i y) c := by
 by_cases hi : i < a.length
 ·refine ⟨by simpa using h.1, fun j b hb => ?_⟩
  rw [at_set hi] at hb
  split at hb
  ·rename_i e; subst e; exact hy b hb
  ·exact h.2 j b hb
 ·rw [List.set_eq_of_length_le (by omega)]; exact h
theorem u_le {x y z : V4} {b : Nat} (hx : has x b = true → has z b = true) (hy : has y b = true → has z b = true) (h : has (uV x y) b = true) : has z b = true := by
 rw [has_u, Bool.or_eq_true] at h
 exact h.elim hx hy
theorem u_same {x y : V4} (h : ∀ b, has y b = true → has x b = true) : uV x y = x := by
 refine V_ext (fun b _ => ?_)
 rw [has_u]
 cases e1 : has x b <;> cases e2 : has y b <;> first | rfl | (have := h b e2; rw [e1] at this; cases this)
theorem zero_le {n : Nat} {c : List V4} (h : c.length = n) : leV (List.replicate n zV) c := by
 refine ⟨by simp [h], fun i b hb => ?_⟩
 have : atV (List.replicate n zV) i = zV := by
  unfold atV
  rw [grp]
  split <;> rfl
 rw [this, has_z] at hb
 cases hb
def cf (sh : List Int) (o : List V4) : List SymD → V4
 | [] => zV
 | s :: r => bif s.kind == 0 then v4 s else bif symS sh s == 0 then uV (atV o s.sort.toNat) (cf sh o r) else atV o s.sort.toNat
def liveP (sh : List Int) (p : ProdD) : Bool := (p.role != 11) && decide (0 ≤ sumS sh 0 p.right)
structure ClF (g : GramD) (sh : List Int) (c : List V4) : Prop where
 len : c.length = g.sorts.length
 cl : ∀ p ∈ g.prods, liveP sh p = true → ∀ b, has (cf sh c p.right) b = true → has (atV c p.left.toNat) b = true
theorem stF_le {sh : List Int} {c : List V4} (l : Nat) : ∀ (r : List SymD) (o : List V4), leV o c → (∀ b, has (cf sh c r) b = true → has (atV c l) b = true) → leV (stF sh l o r) c
 | [], o, h, _ => h
 | s :: r, o, h, hc => by
  simp only [stF]
  simp only [cf] at hc
  cases e : s.kind == 0
  ·rw [e] at hc
   simp only [cond_false] at hc ⊢
   cases e2 : symS sh s == 0
   ·rw [e2] at hc
    simp only [cond_false] at hc ⊢
    exact leV_set h (fun b hb => u_le (h.2 l b) (fun hx => hc b (h.2 _ _ hx)) hb)
   ·rw [e2] at hc
    simp only [cond_true] at hc ⊢
    refine stF_le l r _ (leV_set h (fun b hb => u_le (h.2 l b) (fun hx => hc b ?_) hb)) (fun b hb => hc b ?_)
    ·rw [has_u, h.2 _ _ hx]; rfl
    ·rw [has_u, hb, Bool.or_true]
  ·rw [e] at hc
   simp only [cond_true] at hc ⊢
   exact leV_set h (fun b hb => u_le (h.2 l b) (hc b) hb)
theorem set_u {o : List V4} {l : Nat} {x : V4} (hl : l < o.length) (h : ∀ b, has x b = true → has (atV o l) b = true) : o.set l (uV (atV o l) x) = o := by
 rw [u_same h]
 exact set_at hl
theorem stF_fix {sh : List Int} (l : Nat) : ∀ (r : List SymD) (o : List V4), l < o.length → stF sh l o r = o → ∀ b, has (cf sh o r) b = true → has (atV o l) b = true
 | [], o, _, _, b, hb => by rw [cf, has_z] at hb; cases hb
 | s :: r, o, hl, h, b, hb => by
  simp only [stF] at h
  simp only [cf] at hb
  have key : ∀ x : V4, o.set l (uV (atV o l) x) = o → ∀ b, has x b = true → has (atV o l) b = true := by
   intro x hx b hb
   rw [← hx, at_set hl, if_pos rfl, has_u, hb, Bool.or_true]
  cases e : s.kind == 0
  ·rw [e] at h hb
   simp only [cond_false] at h hb
   cases e2 : symS sh s == 0
   ·rw [e2] at h hb
    exact key _ h b hb
   ·rw [e2] at h hb
    simp only [cond_true] at h hb
    have h1 : ∀ b, has (atV o s.sort.toNat) b = true → has (atV o l) b = true := by
     intro b hb
     have := stF_mono sh l r (o.set l (uV (atV o l) (atV o s.sort.toNat))) (b := b) (by simpa using hl) (by rw [at_set hl, if_pos rfl, has_u, hb, Bool.or_true])
     rw [h] at this
     exact this
    rw [set_u hl h1] at h
    rw [has_u, Bool.or_eq_true] at hb
    exact hb.elim (h1 b) (stF_fix l r o hl h b)
  ·rw [e] at h hb
   exact key _ h b hb
section
variable {g : GramD} {sh : List Int}
theorem first_closed (hv : GramV g) : ClF g sh (firstOf sh g) := by
 refine ⟨first_len sh g, fun p hp hl b hb => ?_⟩
 have h := first_upd sh g p hp
 have hpl := (hv.prod p hp).left
 unfold updF at h
 unfold liveP at hl
 rw [hl] at h
 exact stF_fix p.left.toNat p.right _ (by rw [first_len]; omega) h b hb
theorem first_least {c : List V4} (hc : ClF g sh c) : leV (firstOf sh g) c := by
 unfold firstOf
 refine itN_inv (Inv := fun a => leV a c) (fun a ha => ?_) _ _ (zero_le hc.len)
 unfold swF
 have : ∀ (ps : List ProdD) (a : List V4), (∀ p ∈ ps, p ∈ g.prods) → leV a c → leV (ps.foldl (updF sh) a) c := by
  intro ps
  induction ps with
  | nil => intro a _ h; exact h
  | cons p ps ih =>
   intro a hp h
   simp only [List.foldl_cons]
   refine ih _ (fun q hq => hp q (mcm _ hq)) ?_
   unfold updF
   cases hl : (p.role != 11) && decide (0 ≤ sumS sh 0 p.right) with
   | false => exact h
   | true => exact stF_le _ _ _ h (hc.cl p (hp p (mcf ..)) hl)
 exact this g.prods a (fun _ h => h) ha
variable {n : Nat}
theorem map_at {o : List V4} (ho : o.length = n) {j : Nat} (hj : j < n) : (o.map sd)[j]? = some (sd (atV o j)) := by rw [List.getElem?_map, at_some (by omega)]; rfl
end
def bh (sh : List Int) (fi : List V4) : List SymD → V4 → V4
 | [], x => x
 | s :: r, x => bif s.kind == 0 then v4 s else bif symS sh s == 0 then uV (bh sh fi r x) (atV fi s.sort.toNat) else atV fi s.sort.toNat
def be (sh : List Int) : List SymD → Bool → Bool
 | [], b => b
 | s :: r, b => bif s.kind == 0 then false else bif symS sh s == 0 then be sh r b else false
theorem be_and (sh : List Int) : ∀ (r : List SymD) (b : Bool), be sh r b = (be sh r true && b)
 | [], b => by simp [be]
 | s :: r, b => by
  simp only [be]
  cases s.kind == 0 <;> cases symS sh s == 0 <;> first | rfl | exact be_and sh r b
theorem bh_or (sh : List Int) (fi : List V4) : ∀ (r : List SymD) (x : V4) (b : Nat), has (bh sh fi r x) b = (has (bh sh fi r zV) b || (be sh r true && has x b))
 | [], x, b => by simp [bh, be, has_z]
 | s :: r, x, b => by
  simp only [bh, be]
  cases s.kind == 0
  ·cases symS sh s == 0
   ·simp
   ·simp only [cond_false, cond_true, has_u, bh_or sh fi r x b]
    cases has (bh sh fi r zV) b <;> cases be sh r true <;> cases has x b <;> cases has (atV fi s.sort.toNat) b <;> rfl
  ·simp
theorem bh_mono {sh : List Int} {fi : List V4} {x y : V4} (h : ∀ b, has x b = true → has y b = true) (r : List SymD) (b : Nat) (hb : has (bh sh fi r x) b = true) : has (bh sh fi r y) b = true := by
 rw [bh_or] at hb ⊢
 rw [Bool.or_eq_true, aet] at hb ⊢
 exact hb.imp_right fun q => ⟨q.1, h b q.2⟩
theorem be_mono {sh : List Int} {x y : Bool} (h : x = true → y = true) (r : List SymD) (hb : be sh r x = true) : be sh r y = true := by
 rw [be_and] at hb ⊢
 rw [aet] at hb ⊢
 exact ⟨hb.1, h hb.2⟩
def setE (E : List Bool) (i : Nat) (b : Bool) : List Bool := bif b then E.set i true else E
theorem setE_len (E : List Bool) (i : Nat) (b : Bool) : (setE E i b).length = E.length := by unfold setE; cases b <;> simp
theorem setE_grow (E : List Bool) (i : Nat) (b : Bool) : setE E i b = E ∨ cnt E < cnt (setE E i b) := by
 unfold setE
 cases b with
 | false => exact .inl rfl
 | true =>
  simp only [cond_true]
  cases h : E[i]? with
  | none => left; rw [List.set_eq_of_length_le (by rw [List.getElem?_eq_none_iff] at h; exact h)]
  | some v =>
   cases v with
   | true => exact .inl (set_same h)
   | false => exact .inr (set_cnt h)
theorem setE_le {E c : List Bool} {i : Nat} {b : Bool} (h : leB E c) (hb : b = true → c[i]? = some true) : leB (setE E i b) c := by
 unfold setE
 cases b with
 | false => exact h
 | true => exact leB_set' h (hb rfl)
theorem setE_up (E : List Bool) (i : Nat) (b : Bool) : leB E (setE E i b) := by
 unfold setE
 cases b with
 | false => exact leB.refl _
 | true => exact leB_set i
theorem setE_or {E : List Bool} {i : Nat} {e b : Bool} (h : E[i]? = some e) : E.set i (e || b) = setE E i b := by
 unfold setE
 cases e with
 | true => cases b with
  | true => rfl
  | false => exact set_same h
 | false => cases b with
  | true => rfl
  | false =>
   apply List.ext_getElem?
   intro j
   rw [List.getElem?_set]
   by_cases e : i = j
   ·subst e
    rw [if_pos rfl, if_pos (gei.1 h).1, cond_false, h]; rfl
   ·rw [if_neg e]; rfl
abbrev WS := List V4 × List Bool
def mmW (a : WS) : Nat := mmV a.1 + cnt a.2
def leW (a c : WS) : Prop := leV a.1 c.1 ∧ leB a.2 c.2
theorem mm_mono {a c : List V4} (h : leV a c) : mmV a ≤ mmV c := by
 have key : ∀ (a c : List V4), a.length = c.length → (∀ i, cntV (atV a i) ≤ cntV (atV c i)) → mmV a ≤ mmV c := by
  intro a
  induction a with
  | nil => intro c _ _; simp [mmV]
  | cons x a ih =>
   intro c hl hc
   cases c with
   | nil => simp at hl
   | cons y c =>
    have h0 := hc 0
    have h1 := ih c (by simpa using hl) (fun i => by have := hc (i + 1); simpa [atV] using this)
    simp only [mmV, List.map_cons, List.sum_cons] at h1 ⊢
    simp only [atV, List.getElem?_cons_zero, gds] at h0
    omega
 refine key a c h.1 (fun i => ?_)
 unfold cntV
 refine cnt_mono ⟨by simp [blV], fun j hj => ?_⟩
 have hjl : j < 256 := by have := (gei.1 hj).1; simpa [blV] using this
 rw [bl_at _ hjl] at hj ⊢
 simp only [Option.some.injEq] at hj ⊢
 exact h.2 i j hj
theorem leW.mm {a c : WS} (h : leW a c) : mmW a ≤ mmW c := Nat.add_le_add (mm_mono h.1) (cnt_mono h.2)
theorem setV_up {o : List V4} (i : Nat) (y : V4) : leV o (o.set i (uV (atV o i) y)) := by
 by_cases h : i < o.length
 ·refine ⟨by simp, fun j b hb => ?_⟩
  rw [at_set h]
  split
  ·rename_i e; subst e; rw [has_u, hb]; rfl
  ·exact hb
 ·rw [List.set_eq_of_length_le (by omega)]; exact leV.refl o
def stepW (a : WS) (k : Nat) (x : V4) (b : Bool) : WS := (a.1.set k (uV (atV a.1 k) x), setE a.2 k b)
theorem stepW_grow (a : WS) (k : Nat) (x : V4) (b : Bool) : stepW a k x b = a ∨ mmW a < mmW (stepW a k x b) := by
 have h1 := mm_set a.1 k x
 have h2 := setE_grow a.2 k b
 unfold stepW mmW
 rcases h1 with h1 | h1
 ·rcases h2 with h2 | h2
  ·left; exact Prod.ext h1 h2
  ·right; simp only [h1]; omega
 ·right
  have := cnt_mono (setE_up a.2 k b)
  simp only
  omega
theorem stepW_up (a : WS) (k : Nat) (x : V4) (b : Bool) : leW a (stepW a k x b) := ⟨setV_up k x, setE_up _ _ _⟩
theorem stepW_le {a c : WS} {k : Nat} {x : V4} {b : Bool} (h : leW a c) (hx : ∀ j, has x j = true → has (atV c.1 k) j = true) (hb : b = true → c.2[k]? = some true) : leW (stepW a k x b) c :=
 ⟨leV_set h.1 (fun j hj => u_le (h.1.2 k j) (hx j) hj), setE_le h.2 hb⟩
def stp (sh : List Int) (fi : List V4) (nx : V4) (la : Bool) : List SymD → WS → WS
 | [], a => a
 | s :: r, a => bif s.kind == 0 then stp sh fi nx la r a else stepW (stp sh fi nx la r a) s.sort.toNat (bh sh fi r nx) (be sh r la)
theorem stp_up (sh : List Int) (fi : List V4) (nx : V4) (la : Bool) : ∀ (r : List SymD) (a : WS), leW a (stp sh fi nx la r a)
 | [], a => ⟨leV.refl _, leB.refl _⟩
 | s :: r, a => by
  simp only [stp]
  have ih := stp_up sh fi nx la r a
  cases s.kind == 0
  ·have h := stepW_up (stp sh fi nx la r a) s.sort.toNat (bh sh fi r nx) (be sh r la)
   exact ⟨ih.1.trans h.1, ih.2.trans h.2⟩
  ·exact ih
theorem stp_len (sh : List Int) (fi : List V4) (nx : V4) (la : Bool) (r : List SymD) (a : WS) : (stp sh fi nx la r a).1.length = a.1.length ∧ (stp sh fi nx la r a).2.length = a.2.length :=
 ⟨(stp_up sh fi nx la r a).1.1.symm, (stp_up sh fi nx la r a).2.1.symm⟩
theorem stp_grow (sh : List Int) (fi : List V4) (nx : V4) (la : Bool) : ∀ (r : List SymD) (a : WS), stp sh fi nx la r a = a ∨ mmW a < mmW (stp sh fi nx la r a)
 | [], a => .inl rfl
 | s :: r, a => by
  simp only [stp]
  have ih := stp_grow sh fi nx la r a
  cases s.kind == 0
  ·simp only [cond_false]
   have h := stepW_grow (stp sh fi nx la r a) s.sort.toNat (bh sh fi r nx) (be sh r la)
   rcases h with h | h
   ·rw [h]; exact ih
   ·right
    have := (stp_up sh fi nx la r a).mm
    omega
  ·exact ih
theorem stp_flag (sh : List Int) (fi : List V4) (nx : V4) (la : Bool) (s : SymD) (r : List SymD) (a : WS) (hk : (s.kind == 0) = false) :
  decide (stp sh fi nx la (s :: r) a ≠ a) = (decide (stp sh fi nx la r a ≠ a) || decide (stepW (stp sh fi nx la r a) s.sort.toNat (bh sh fi r nx) (be sh r la) ≠ stp sh fi nx la r a)) := by
 have e : stp sh fi nx la (s :: r) a = stepW (stp sh fi nx la r a) s.sort.toNat (bh sh fi r nx) (be sh r la) := by simp only [stp, hk, cond_false]
 rw [e]
 by_cases h1 : stp sh fi nx la r a = a
 ·rw [h1]; simp
 ·have h2 := (stp_grow sh fi nx la r a).resolve_left h1
  have h3 := (stepW_up (stp sh fi nx la r a) s.sort.toNat (bh sh fi r nx) (be sh r la)).mm
  have : stepW (stp sh fi nx la r a) s.sort.toNat (bh sh fi r nx) (be sh r la) ≠ a := fun h => by rw [h] at h3; omega
  simp [h1, this]
section
variable {g : GramD} {n : Nat} {sh : List Int} {fi : List V4}
def updW (sh : List Int) (fi : List V4) (inn : List Bool) (a : WS) (p : ProdD) : WS :=
 bif liveP sh p && (inn[p.left.toNat]?).getD false then stp sh fi (atV a.1 p.left.toNat) ((a.2[p.left.toNat]?).getD false) p.right a else a
theorem updW_grow (inn : List Bool) (a : WS) (p : ProdD) : updW sh fi inn a p = a ∨ mmW a < mmW (updW sh fi inn a p) := by
 unfold updW
 cases liveP sh p && (inn[p.left.toNat]?).getD false
 ·exact .inl rfl
 ·exact stp_grow _ _ _ _ _ _
theorem updW_len (inn : List Bool) (a : WS) (p : ProdD) : (updW sh fi inn a p).1.length = a.1.length ∧ (updW sh fi inn a p).2.length = a.2.length := by
 unfold updW
 cases liveP sh p && (inn[p.left.toNat]?).getD false
 ·exact ⟨rfl, rfl⟩
 ·exact stp_len _ _ _ _ _ _
structure ClW (g : GramD) (sh : List Int) (fi : List V4) (inn : List Bool) (c : WS) : Prop where
 l1 : c.1.length = g.sorts.length
 l2 : c.2.length = g.sorts.length
 cl : ∀ p ∈ g.prods, liveP sh p = true → inn[p.left.toNat]? = some true → ∀ pre s r, p.right = pre ++ s :: r → s.kind = 1 →
  (∀ b, has (bh sh fi r (atV c.1 p.left.toNat)) b = true → has (atV c.1 s.sort.toNat) b = true) ∧ (be sh r ((c.2[p.left.toNat]?).getD false) = true → c.2[s.sort.toNat]? = some true)
theorem stp_le {c a0 : WS} {nx : V4} {la : Bool} : ∀ (r : List SymD) (a : WS), leW a c → (∀ s ∈ r, s.kind = 0 ∨ s.kind = 1) →
  (∀ pre s t, r = pre ++ s :: t → s.kind = 1 → (∀ b, has (bh sh fi t nx) b = true → has (atV c.1 s.sort.toNat) b = true) ∧ (be sh t la = true → c.2[s.sort.toNat]? = some true)) → leW (stp sh fi nx la r a) c
 | [], a, h, _, _ => h
 | s :: r, a, h, hk, hc => by
  simp only [stp]
  have ih := stp_le (c := c) (a0 := a0) (nx := nx) (la := la) r a h (fun q hq => hk q (mcm _ hq)) (fun pre q t e => hc (s :: pre) q t (by rw [e]; rfl))
  rcases hk s (mcf ..) with k0 | k1
  ·rw [k0]; exact ih
  ·rw [k1]
   have := hc [] s r rfl k1
   exact stepW_le ih this.1 this.2
theorem getD_le {a c : List Bool} (h : leB a c) (i : Nat) (ha : (a[i]?).getD false = true) : (c[i]?).getD false = true := by
 cases e : a[i]? with
 | none => rw [e] at ha; cases ha
 | some v =>
  rw [e] at ha
  simp only [gds] at ha
  subst ha
  rw [h.2 i e]; rfl
theorem updW_le {inn : List Bool} {c : WS} (hv : GramV g) (hc : ClW g sh fi inn c) {a : WS} (h : leW a c) {p : ProdD} (hp : p ∈ g.prods) : leW (updW sh fi inn a p) c := by
 unfold updW
 cases hl : liveP sh p with
 | false => exact h
 | true =>
  cases hi : inn[p.left.toNat]? with
  | none => exact h
  | some v =>
   cases v with
   | false => exact h
   | true =>
    refine stp_le (a0 := a) p.right a h (fun s hs => ((hv.prod p hp).right s hs).k) (fun pre s t e k1 => ?_)
    obtain ⟨q1, q2⟩ := hc.cl p hp hl hi pre s t e k1
    exact ⟨fun b hb => q1 b (bh_mono (h.1.2 _) t b hb), fun hb => q2 (be_mono (getD_le h.2 _) t hb)⟩
theorem stp_rest {nx : V4} {la : Bool} : ∀ (r : List SymD) (a : WS), (∀ s ∈ r, (s.kind = 0 ∨ s.kind = 1) ∧ (s.kind = 1 → s.sort.toNat < a.1.length ∧ s.sort.toNat < a.2.length)) → stp sh fi nx la r a = a →
  ∀ pre s t, r = pre ++ s :: t → s.kind = 1 → (∀ b, has (bh sh fi t nx) b = true → has (atV a.1 s.sort.toNat) b = true) ∧ (be sh t la = true → a.2[s.sort.toNat]? = some true)
 | [], a, _, _, pre, s, t, e, _ => by simp at e
 | x :: r, a, hk, h, pre, s, t, e, k1 => by
  have hr : stp sh fi nx la r a = a := by
   rcases stp_grow sh fi nx la r a with h1 | h1
   ·exact h1
   ·exfalso
    simp only [stp] at h
    rcases (hk x (mcf ..)).1 with k0 | k1
    ·rw [k0] at h
     have h : stp sh fi nx la r a = a := h
     rw [h] at h1; omega
    ·rw [k1] at h
     have h : stepW (stp sh fi nx la r a) x.sort.toNat (bh sh fi r nx) (be sh r la) = a := h
     have := (stepW_up (stp sh fi nx la r a) x.sort.toNat (bh sh fi r nx) (be sh r la)).mm
     rw [h] at this; omega
  cases pre with
  | nil =>
   simp only [List.nil_append, List.cons.injEq] at e
   obtain ⟨rfl, rfl⟩ := e
   simp only [stp, k1, hr] at h
   have h : stepW a x.sort.toNat (bh sh fi r nx) (be sh r la) = a := h
   obtain ⟨l1, l2⟩ := (hk x (mcf ..)).2 k1
   have e1 : a.1.set x.sort.toNat (uV (atV a.1 x.sort.toNat) (bh sh fi r nx)) = a.1 := congrArg Prod.fst h
   have e2 : setE a.2 x.sort.toNat (be sh r la) = a.2 := congrArg Prod.snd h
   refine ⟨fun b hb => ?_, fun hb => ?_⟩
   ·rw [← e1, at_set l1, if_pos rfl, has_u, hb, Bool.or_true]
   ·rw [hb] at e2
    rw [← e2]
    exact set_get l2
  | cons y pre =>
   simp only [List.cons_append, List.cons.injEq] at e
   obtain ⟨rfl, rfl⟩ := e
   exact stp_rest (pre ++ s :: t) a (fun q hq => hk q (mcm _ hq)) hr pre s t rfl k1
def swW (sh : List Int) (fi : List V4) (inn : List Bool) (g : GramD) (a : WS) : WS := g.prods.foldl (updW sh fi inn) a
theorem foldW_len (inn : List Bool) : ∀ (ps : List ProdD) (a : WS), (ps.foldl (updW sh fi inn) a).1.length = a.1.length ∧ (ps.foldl (updW sh fi inn) a).2.length = a.2.length
 | [], a => ⟨rfl, rfl⟩
 | p :: ps, a => by
  simp only [List.foldl_cons]
  obtain ⟨h1, h2⟩ := foldW_len inn ps (updW sh fi inn a p)
  obtain ⟨h3, h4⟩ := updW_len (sh := sh) (fi := fi) inn a p
  exact ⟨h1.trans h3, h2.trans h4⟩
def W0 (g : GramD) (b : Bool) : WS := (List.replicate g.sorts.length zV, setE (List.replicate g.sorts.length false) g.start.toNat b)
def LenW (g : GramD) (a : WS) : Prop := a.1.length = g.sorts.length ∧ a.2.length = g.sorts.length
theorem W0_len (b : Bool) : LenW g (W0 g b) := ⟨by simp [W0], by simp [W0, setE_len]⟩
def behindOf (sh : List Int) (fi : List V4) (inn : List Bool) (g : GramD) (b : Bool) : WS := itN (swW sh fi inn g) (257 * g.sorts.length) (W0 g b)
theorem mmW_le {a : WS} (h : LenW g a) : mmW a ≤ 257 * g.sorts.length := by
 have h1 := mm_le a.1
 have h2 := cnt_le a.2
 unfold mmW
 rw [h.1] at h1
 rw [h.2] at h2
 omega
theorem swW_len (inn : List Bool) (a : WS) (h : LenW g a) : LenW g (swW sh fi inn g a) := ⟨(foldW_len inn g.prods a).1.trans h.1, (foldW_len inn g.prods a).2.trans h.2⟩
theorem swW_mm (inn : List Bool) (a : WS) (h : swW sh fi inn g a ≠ a) : mmW a < mmW (swW sh fi inn g a) := (fold_grow mmW (updW_grow inn) g.prods a).resolve_left h
theorem behind_len (inn : List Bool) (b : Bool) : LenW g (behindOf sh fi inn g b) := itN_inv (Inv := LenW g) (fun a ha => swW_len inn a ha) _ _ (W0_len b)
theorem behind_fix (inn : List Bool) (b : Bool) : swW sh fi inn g (behindOf sh fi inn g b) = behindOf sh fi inn g b :=
 itN_fix mmW (257 * g.sorts.length) (LenW g) (fun a ha => swW_len inn a ha) (fun a _ h => swW_mm inn a h) (fun a ha => mmW_le ha) _ _ (W0_len b) (by omega)
theorem behind_closed (hv : GramV g) (inn : List Bool) (b : Bool) : ClW g sh fi inn (behindOf sh fi inn g b) := by
 have hlen := behind_len (g := g) (sh := sh) (fi := fi) inn b
 refine ⟨hlen.1, hlen.2, fun p hp hl hi pre s t e k1 => ?_⟩
 have h := fold_fix mmW (updW_grow (sh := sh) (fi := fi) inn) g.prods _ (behind_fix inn b) p hp
 unfold updW at h
 rw [hl, hi] at h
 refine stp_rest p.right _ (fun q hq => ⟨((hv.prod p hp).right q hq).k, fun k => ?_⟩) h pre s t e k1
 have := ((hv.prod p hp).right q hq).sort k
 rw [hlen.1, hlen.2]
 omega
theorem behind_ge (inn : List Bool) (b : Bool) : leW (W0 g b) (behindOf sh fi inn g b) := by
 unfold behindOf
 refine itN_inv (Inv := fun a => leW (W0 g b) a) (fun a ha => ?_) _ _ ⟨leV.refl _, leB.refl _⟩
 have : ∀ (ps : List ProdD) (a : WS), leW (W0 g b) a → leW (W0 g b) (ps.foldl (updW sh fi inn) a) := by
  intro ps
  induction ps with
  | nil => intro a h; exact h
  | cons p ps ih =>
   intro a h
   simp only [List.foldl_cons]
   refine ih _ ?_
   unfold updW
   cases liveP sh p && (inn[p.left.toNat]?).getD false
   ·exact h
   ·have := stp_up sh fi (atV a.1 p.left.toNat) ((a.2[p.left.toNat]?).getD false) p.right a
    exact ⟨h.1.trans this.1, h.2.trans this.2⟩
 exact this g.prods a ha
theorem behind_least (hv : GramV g) {inn : List Bool} {b : Bool} {c : WS} (hc : ClW g sh fi inn c) (h0 : leW (W0 g b) c) : leW (behindOf sh fi inn g b) c := by
 unfold behindOf
 refine itN_inv (Inv := fun a => leW a c) (fun a ha => ?_) _ _ h0
 have : ∀ (ps : List ProdD) (a : WS), (∀ p ∈ ps, p ∈ g.prods) → leW a c → leW (ps.foldl (updW sh fi inn) a) c := by
  intro ps
  induction ps with
  | nil => intro a _ h; exact h
  | cons p ps ih =>
   intro a hp h
   simp only [List.foldl_cons]
   exact ih _ (fun q hq => hp q (mcm _ hq)) (updW_le hv hc h (hp p (mcf ..)))
 exact this g.prods a (fun _ h => h) ha
end
def stI (sh : List Int) (p : ProdD) (o : List Bool) (s : SymD) : List Bool := bif (s.kind == 1) && ((o[p.left.toNat]?).getD false && decide (0 ≤ sumS sh 0 p.right)) then o.set s.sort.toNat true else o
def updI (sh : List Int) (o : List Bool) (p : ProdD) : List Bool := bif p.role != 11 then p.right.foldl (stI sh p) o else o
def swI (sh : List Int) (g : GramD) (o : List Bool) : List Bool := g.prods.foldl (updI sh) o
def inOf (sh : List Int) (g : GramD) : List Bool := itN (swI sh g) g.sorts.length ((List.replicate g.sorts.length false).set g.start.toNat true)
section
variable {g : GramD} {n : Nat} {sh : List Int}
theorem stI_up (p : ProdD) (o : List Bool) (s : SymD) : leB o (stI sh p o s) := by
 unfold stI
 cases (s.kind == 1) && ((o[p.left.toNat]?).getD false && decide (0 ≤ sumS sh 0 p.right))
 ·exact leB.refl _
 ·exact leB_set _
theorem updI_up (p : ProdD) (o : List Bool) : leB o (updI sh o p) := by
 unfold updI
 cases p.role != 11
 ·exact leB.refl _
 ·exact fold_up (fun x a => stI_up p a x) p.right o
theorem grow_of {f : List Bool → List Bool} (h : ∀ o, leB o (f o)) (o : List Bool) : f o = o ∨ cnt o < cnt (f o) := by
 by_cases e : f o = o
 ·exact .inl e
 ·exact .inr ((leB_cnt (h o)).2 e)
theorem stI_grow (p : ProdD) (o : List Bool) (s : SymD) : stI sh p o s = o ∨ cnt o < cnt (stI sh p o s) := grow_of (f := fun o => stI sh p o s) (fun o => stI_up p o s) o
theorem updI_grow (o : List Bool) (p : ProdD) : updI sh o p = o ∨ cnt o < cnt (updI sh o p) := grow_of (f := fun o => updI sh o p) (fun o => updI_up p o) o
theorem updI_len (o : List Bool) (p : ProdD) : (updI sh o p).length = o.length := (updI_up p o).1.symm
theorem swI_up (o : List Bool) : leB o (swI sh g o) := fold_up (fun x a => updI_up x a) g.prods o
theorem swI_len (o : List Bool) : (swI sh g o).length = o.length := (swI_up o).1.symm
theorem in_len : (inOf sh g).length = g.sorts.length := itN_inv (Inv := fun a => a.length = g.sorts.length) (fun a ha => (swI_len a).trans ha) _ _ (by simp)
theorem swI_cnt (o : List Bool) (h : swI sh g o ≠ o) : cnt o < cnt (swI sh g o) := (leB_cnt (swI_up o)).2 h
theorem in_fix : swI sh g (inOf sh g) = inOf sh g :=
 itN_fix cnt g.sorts.length (fun a => a.length = g.sorts.length) (fun a ha => (swI_len a).trans ha) (fun a _ h => swI_cnt a h) (fun a ha => by have := cnt_le a; omega) _ _ (by simp) (by omega)
structure ClI (g : GramD) (sh : List Int) (c : List Bool) : Prop where
 len : c.length = g.sorts.length
 cl : ∀ p ∈ g.prods, liveP sh p = true → c[p.left.toNat]? = some true → ∀ s ∈ p.right, s.kind = 1 → c[s.sort.toNat]? = some true
theorem in_start (hv : GramV g) : (inOf sh g)[g.start.toNat]? = some true := by
 have hs := hv.start
 have : leB ((List.replicate g.sorts.length false).set g.start.toNat true) (inOf sh g) := by
  unfold inOf
  exact itN_inv (Inv := fun a => leB ((List.replicate g.sorts.length false).set g.start.toNat true) a) (fun a ha => ha.trans (swI_up a)) _ _ (leB.refl _)
 exact this.2 _ (set_get (by simp; omega))
theorem in_closed (hv : GramV g) : ClI g sh (inOf sh g) := by
 refine ⟨in_len, fun p hp hl hi s hs k1 => ?_⟩
 have h1 := fold_fixB (fun x a => updI_up (sh := sh) x a) g.prods _ in_fix p hp
 unfold liveP at hl
 rw [aet] at hl
 unfold updI at h1
 rw [hl.1, cond_true] at h1
 have h2 := fold_fixB (fun x a => stI_up (sh := sh) p a x) p.right _ h1 s hs
 unfold stI at h2
 rw [k1, hi, hl.2] at h2
 have h2 : (inOf sh g).set s.sort.toNat true = inOf sh g := h2
 rw [← h2]
 have := ((hv.prod p hp).right s hs).sort k1
 exact set_get (by rw [in_len]; omega)
theorem in_least {c : List Bool} (hc : ClI g sh c) (h0 : c[g.start.toNat]? = some true) : leB (inOf sh g) c := by
 unfold inOf
 refine itN_le (fun a ha => ?_) _ _ (leB_set' (rep_false hc.len) h0)
 refine fold_le g.prods a (fun p hp a ha => ?_) ha
 unfold updI
 cases hr : p.role != 11 with
 | false => exact ha
 | true =>
  refine fold_le p.right a (fun s hs a ha => ?_) ha
  unfold stI
  cases hk : (s.kind == 1) && ((a[p.left.toNat]?).getD false && decide (0 ≤ sumS sh 0 p.right)) with
  | false => exact ha
  | true =>
   simp only [aet, beq_iff_eq] at hk
   obtain ⟨k1, k2, k3⟩ := hk
   have hpl : c[p.left.toNat]? = some true := by
    cases e : a[p.left.toNat]? with
    | none => rw [e] at k2; cases k2
    | some v => rw [e] at k2; simp only [gds] at k2; subst k2; exact ha.2 _ e
   exact leB_set' ha (hc.cl p hp (by unfold liveP; rw [hr, k3]; rfl) hpl s hs k1)
theorem q77 (hs : ShOk n sh) {p : ProdD} (hp : ProdV n p) : F77 p sh = some (decide (0 ≤ sumS sh 0 p.right)) := by
 unfold F77
 rw [q48 hs hp.right (by have := hp.len; omega)]
 rfl
theorem q77_2 (hs : ShOk n sh) {p : ProdD} (hp : ProdV n p) : F77_2 p sh = some (decide (0 ≤ sumS sh 0 p.right)) := q77 hs hp
theorem l72 (hs : ShOk n sh) {p : ProdD} (hp : ProdV n p) : ∀ (k i : Nat) (b : Bool) (o : List Bool), i + k = p.right.length → o.length = n →
  runL (fun s => L72_0_2 p (p.right.length : Int) sh n s.1 s.2.1 s.2.2) (b, (i : Int), o) =
   some (.k0 ((p.right.drop i).foldl (fun (a : Bool × List Bool) x => (a.1 || decide (stI sh p a.2 x ≠ a.2), stI sh p a.2 x)) (b, o)).1 ((p.right.drop i).foldl (fun (a : Bool × List Bool) x => (a.1 || decide (stI sh p a.2 x ≠ a.2), stI sh p a.2 x)) (b, o)).2)
 | 0, i, b, o, hi, ho => by
  obtain rfl : i = p.right.length := by omega
  rw [List.drop_length]
  exact runL_done (by simp [L72_0_2])
 | k + 1, i, b, o, hi, ho => by
  have hlen := hp.len
  have hpl := hp.left
  have hx : p.right[i]? = some p.right[i] := geg (by omega)
  have hd : p.right.drop i = p.right[i] :: p.right.drop (i + 1) := (List.drop_eq_getElem_cons (by omega))
  generalize p.right[i] = s at hx hd
  have hv := hp.right s (mog hx)
  rw [hd]
  simp only [List.foldl_cons]
  have hstep : L72_0_2 p (p.right.length : Int) sh n b (i : Int) o = some (.inr (b || decide (stI sh p o s ≠ o), ((i + 1 : Nat) : Int), stI sh p o s)) := by
   have hix : ixN n p.left = some p.left.toNat := ixN_some.2 ⟨by omega, by omega⟩
   have hl : o[p.left.toNat]? = some (o[p.left.toNat]'(by omega)) := geg _
   generalize o[p.left.toNat]'(by omega) = u at hl
   simp only [L72_0_2, getI_nat, hx, bsm, decide_eq_true (show (i : Int) < (p.right.length : Int) by omega), cond_true, w_S (show i < 4611686018427387904 by omega)]
   unfold stI
   cases hk : s.kind == 1 with
   | false => simp
   | true =>
    have k1 := eq_of_beq hk
    have hq := hv.sort k1
    have hix2 : ixN n s.sort = some s.sort.toNat := ixN_some.2 ⟨by omega, by omega⟩
    have hl2 : o[s.sort.toNat]? = some (o[s.sort.toNat]'(by omega)) := geg _
    generalize o[s.sort.toNat]'(by omega) = u2 at hl2
    simp only [cond_true, hix, hl, bsm, gds, Bool.true_and]
    cases u with
    | false => simp
    | true =>
     simp only [cond_true, q77 hs hp, bsm, Bool.true_and]
     cases decide (0 ≤ sumS sh 0 p.right) with
     | false => simp
     | true =>
      simp only [cond_true, hix2, hl2, bsm]
      cases u2 with
      | true => rw [set_same hl2]; simp
      | false =>
       have : o.set s.sort.toNat true ≠ o := fun e => by
        have := set_cnt hl2
        rw [e] at this; omega
       simp [this]
  rw [runL_next (step := fun s => L72_0_2 p (p.right.length : Int) sh n s.1 s.2.1 s.2.2) (s := (b, (i : Int), o)) hstep]
  exact l72 hs hp k (i + 1) _ _ (by omega) ((stI_up p o s).1.symm.trans ho)
theorem q72 (hs : ShOk n sh) {p : ProdD} (hp : ProdV n p) (hr : (p.role != 11) = true) {o : List Bool} (ho : o.length = n) : F72_2 p sh o n = some (.k0 (decide (updI sh o p ≠ o)) (updI sh o p)) := by
 have h := l72 hs hp p.right.length 0 false o (by omega) ho
 rw [List.drop_zero, foldG cnt (stI_grow p)] at h
 have e0 : ((0 : Nat) : Int) = 0 := rfl
 rw [e0] at h
 unfold F72_2
 rw [h]
 unfold updI
 rw [hr]
 simp only [bsm, Bool.false_or, cond_true]
theorem l46_10 (hv : GramV g) (hn : n = g.sorts.length) (hs : ShOk n sh) (h80 : g.prods.length ≤ 80) : ∀ (k i : Nat) (b : Bool) (o : List Bool), i + k = g.prods.length → o.length = n →
  runL (fun s => L46_0_10 g sh (g.prods.length : Int) n s.1 s.2.1 s.2.2) (b, (i : Int), o) =
   some (.k0 ((g.prods.drop i).foldl (fun (a : Bool × List Bool) x => (a.1 || decide (updI sh a.2 x ≠ a.2), updI sh a.2 x)) (b, o)).1 ((g.prods.drop i).foldl (fun (a : Bool × List Bool) x => (a.1 || decide (updI sh a.2 x ≠ a.2), updI sh a.2 x)) (b, o)).2)
 | 0, i, b, o, hi, ho => by
  obtain rfl : i = g.prods.length := by omega
  rw [List.drop_length]
  exact runL_done (by simp [L46_0_10])
 | k + 1, i, b, o, hi, ho => by
  have hx : g.prods[i]? = some g.prods[i] := geg (by omega)
  have hd : g.prods.drop i = g.prods[i] :: g.prods.drop (i + 1) := (List.drop_eq_getElem_cons (by omega))
  generalize hp : g.prods[i] = p at hx hd
  have hpv : ProdV n p := by rw [hn]; exact hv.prod p (mog hx)
  rw [hd]
  simp only [List.foldl_cons]
  have hstep : L46_0_10 g sh (g.prods.length : Int) n b (i : Int) o = some (.inr (b || decide (updI sh o p ≠ o), ((i + 1 : Nat) : Int), updI sh o p)) := by
   simp only [L46_0_10, getI_nat, hx, bsm, decide_eq_true (show (i : Int) < (g.prods.length : Int) by omega), cond_true, F54, w_S (show i < 4611686018427387904 by omega)]
   cases hr : p.role != 11 with
   | false => simp [updI, hr]
   | true =>
    simp only [cond_true, q72 hs hpv hr ho, bsm]
    cases decide (updI sh o p ≠ o) <;> simp
  rw [runL_next (step := fun s => L46_0_10 g sh (g.prods.length : Int) n s.1 s.2.1 s.2.2) (s := (b, (i : Int), o)) hstep]
  exact l46_10 hv hn hs h80 k (i + 1) _ _ (by omega) ((updI_len o p).trans ho)
theorem q53 (hg : GramOk g) (hv : GramV g) (hs : ShOk g.sorts.length sh) : F53_3 g sh = some (.k0 g.sorts.length (inOf sh g)) := by
 have h40 := hg.sorts
 have hst := hv.start
 have e0 : ((0 : Nat) : Int) = 0 := rfl
 have hloop : ∀ (k : Nat) (o : List Bool), o.length = g.sorts.length → g.sorts.length ≤ cnt o + k → runL (fun s => L46_1_6 g sh g.sorts.length s) o = some (.k0 (itN (swI sh g) k o)) := by
  intro k
  induction k with
  | zero =>
   intro o ho hk
   have h1 := l46_10 hv rfl hs hg.prods g.prods.length 0 false o (by omega) ho
   rw [List.drop_zero, foldG cnt updI_grow, e0] at h1
   have hfix : g.prods.foldl (updI sh) o = o := by
    by_cases e : g.prods.foldl (updI sh) o = o
    ·exact e
    ·have h2 := swI_cnt (g := g) (sh := sh) o e
     have h3 := cnt_le (swI sh g o)
     rw [swI_len, ho] at h3
     omega
   rw [hfix] at h1
   exact runL_done (by simp only [L46_1_6, h1, bsm]; simp [itN])
  | succ k ih =>
   intro o ho hk
   have h1 := l46_10 hv rfl hs hg.prods g.prods.length 0 false o (by omega) ho
   rw [List.drop_zero, foldG cnt updI_grow, e0] at h1
   by_cases e : g.prods.foldl (updI sh) o = o
   ·rw [itN_fixed (show swI sh g o = o from e)]
    rw [e] at h1
    exact runL_done (by simp only [L46_1_6, h1, bsm]; simp)
   ·have h2 := swI_cnt (g := g) (sh := sh) o e
    rw [decide_eq_true e, Bool.or_true] at h1
    rw [runL_next (step := fun s => L46_1_6 g sh g.sorts.length s) (s := o) (s' := swI sh g o) (by simp only [L46_1_6, h1, bsm, cond_true]; rfl)]
    exact ih _ ((swI_len o).trans ho) (by omega)
 have hl := hloop g.sorts.length ((List.replicate g.sorts.length false).set g.start.toNat true) (by simp) (by omega)
 have hix : ixN g.sorts.length g.start = some g.start.toNat := ixN_some.2 ⟨by omega, by omega⟩
 have hget : (List.replicate g.sorts.length false)[g.start.toNat]? = some false := by rw [grp, if_pos (by omega)]
 have h46 : F46_6 g sh ((List.replicate g.sorts.length false).set g.start.toNat true) g.sorts.length = some (inOf sh g) := by
  unfold F46_6
  have : runL (fun (_ : Unit) => L46_2_5 g sh ((List.replicate g.sorts.length false).set g.start.toNat true) g.sorts.length) () = some (.k0 (inOf sh g)) := runL_done (by simp only [L46_2_5, hl, bsm]; rfl)
  rw [this]
  rfl
 unfold F53_3
 simp only [mk1 h40, cond_true, Int.toNat_natCast, hix, hget, bsm, h46]
theorem back_loop {E S : Type} {step : S → Option (E ⊕ S)} (r : List SymD) (emb : Int → List SymD → S) (fin : List SymD → E)
  (h : ∀ (i : Nat) (s : SymD) (t : List SymD), r[i]? = some s → r.drop (i + 1) = t → step (emb (i : Int) t) = some (.inr (emb ((i : Int) - 1) (s :: t)))) (hend : step (emb (-1) r) = some (.inl (fin r))) :
  ∀ (k : Nat), k ≤ r.length → runL step (emb ((k : Int) - 1) (r.drop k)) = some (fin r)
 | 0, _ => by
  rw [List.drop_zero]
  exact runL_done hend
 | k + 1, hk => by
  have hx : r[k]? = some r[k] := geg (by omega)
  have hd : r.drop k = r[k] :: r.drop (k + 1) := (List.drop_eq_getElem_cons (by omega))
  have e : ((k + 1 : Nat) : Int) - 1 = (k : Int) := by omega
  rw [e, runL_next (h k _ _ hx rfl), ← hd]
  exact back_loop r emb fin h hend k (by omega)
end
section
variable {g : GramD} {n : Nat} {sh : List Int} {fi : List V4}
theorem stepW_ne {x : WS} {k : Nat} {y : V4} {b e : Bool} (h1 : k < x.1.length) (h2 : x.2[k]? = some e) : decide (stepW x k y b ≠ x) = (!decide (uV (atV x.1 k) y = atV x.1 k) || (b && !e)) := by
 by_cases q : uV (atV x.1 k) y = atV x.1 k
 ·have e1 : x.1.set k (uV (atV x.1 k) y) = x.1 := by rw [q]; exact set_at h1
  rw [decide_eq_true q]
  cases b with
  | false =>
   have : stepW x k y false = x := Prod.ext e1 rfl
   simp [this]
  | true =>
   cases e with
   | true =>
    have : stepW x k y true = x := Prod.ext e1 (set_same h2)
    simp [this]
   | false =>
    have : stepW x k y true ≠ x := fun h => by
     have h3 : x.2.set k true = x.2 := congrArg Prod.snd h
     have := set_cnt h2
     rw [h3] at this; omega
    simp [this]
 ·have : stepW x k y b ≠ x := fun h => q (by
   have h3 : x.1.set k (uV (atV x.1 k) y) = x.1 := congrArg Prod.fst h
   have h9 : atV (x.1.set k (uV (atV x.1 k) y)) k = atV x.1 k := by rw [h3]
   rw [at_set h1, if_pos rfl] at h9
   exact h9)
  simp [this, q]
theorem set_f {E : List Bool} {k : Nat} (h : E[k]? = some false) : E.set k false = E := by
 have := setE_or (b := false) h
 exact this
theorem l78_s (hs : ShOk n sh) (hf : fi.length = n) {p : ProdD} (hp : ProdV n p) (hok : ProdOk p) {i : Nat} {s : SymD} (hx : p.right[i]? = some s) (an la : Bool) (x : WS) (hl : x.1.length = n ∧ x.2.length = n) (nx : V4) :
  L78_0 (nulOf sh) (fi.map sd) n p an la (i : Int) (x.1.map sd) x.2 (sd nx).a (sd nx).b (sd nx).c (sd nx).d =
   some (.inr (bif s.kind == 0 then an else (an || decide (stepW x s.sort.toNat nx la ≠ x)), bif s.kind == 0 then false else bif symS sh s == 0 then la else false, (i : Int) - 1, (bif s.kind == 0 then x else stepW x s.sort.toNat nx la).1.map sd, (bif s.kind == 0 then x else stepW x s.sort.toNat nx la).2,
    (sd (bif s.kind == 0 then v4 s else bif symS sh s == 0 then uV nx (atV fi s.sort.toNat) else atV fi s.sort.toNat)).a, (sd (bif s.kind == 0 then v4 s else bif symS sh s == 0 then uV nx (atV fi s.sort.toNat) else atV fi s.sort.toNat)).b, (sd (bif s.kind == 0 then v4 s else bif symS sh s == 0 then uV nx (atV fi s.sort.toNat) else atV fi s.sort.toNat)).c, (sd (bif s.kind == 0 then v4 s else bif symS sh s == 0 then uV nx (atV fi s.sort.toNat) else atV fi s.sort.toNat)).d)) := by
 have hlen := hp.len
 have hi := (gei.1 hx).1
 have hmem := mog hx
 have hv := hp.right s hmem
 have hso := hok.right s hmem
 have e1 : IntKind.wrap .i64 ((i : Int) - 1) = (i : Int) - 1 := w_id (by omega)
 rcases hv.k with k0 | k1
 ·have := sd_sym hso
  simp only [L78_0, decide_eq_true (show (i : Int) ≥ 0 by omega), cond_true, getI_nat, hx, bsm, k0, beq_self_eq_true, e1, ← this]
 ·obtain ⟨q0, q1⟩ := hv.sort k1
  have h10 : ((1 : Int) == 0) = false := rfl
  have hk : s.sort.toNat < n := by omega
  have hix : ixN n s.sort = some s.sort.toNat := ixN_some.2 ⟨by omega, hk⟩
  have hO := map_at hl.1 hk
  have hE : x.2[s.sort.toNat]? = some (x.2[s.sort.toNat]'(by omega)) := geg _
  generalize x.2[s.sort.toNat]'(by omega) = e at hE
  have h76 : F76 [(⟨(sd (atV x.1 s.sort.toNat)).a, (sd (atV x.1 s.sort.toNat)).b, (sd (atV x.1 s.sort.toNat)).c, (sd (atV x.1 s.sort.toNat)).d⟩ : SetD), (⟨(sd nx).a, (sd nx).b, (sd nx).c, (sd nx).d⟩ : SetD)] = some (.k0 (sd (uV (atV x.1 s.sort.toNat) nx)).a (sd (uV (atV x.1 s.sort.toNat) nx)).b (sd (uV (atV x.1 s.sort.toNat) nx)).c (sd (uV (atV x.1 s.sort.toNat) nx)).d) := q76 _ _
  have h76b : F76 [(⟨(sd nx).a, (sd nx).b, (sd nx).c, (sd nx).d⟩ : SetD), (⟨(sd (atV fi s.sort.toNat)).a, (sd (atV fi s.sort.toNat)).b, (sd (atV fi s.sort.toNat)).c, (sd (atV fi s.sort.toNat)).d⟩ : SetD)] = some (.k0 (sd (uV nx (atV fi s.sort.toNat))).a (sd (uV nx (atV fi s.sort.toNat))).b (sd (uV nx (atV fi s.sort.toNat))).c (sd (uV nx (atV fi s.sort.toNat))).d) := q76 _ _
  have h55 := q55 hs hv k1
  have hfi : getI (fi.map sd) s.sort = some (sd (atV fi s.sort.toNat)) := getI_some.2 ⟨q0, map_at hf hk⟩
  have hq := eqS_sd (uV (atV x.1 s.sort.toNat) nx) (atV x.1 s.sort.toNat)
  unfold eqS at hq
  have hset : (x.1.map sd).set s.sort.toNat (⟨(sd (uV (atV x.1 s.sort.toNat) nx)).a, (sd (uV (atV x.1 s.sort.toNat) nx)).b, (sd (uV (atV x.1 s.sort.toNat) nx)).c, (sd (uV (atV x.1 s.sort.toNat) nx)).d⟩ : SetD) = (x.1.set s.sort.toNat (uV (atV x.1 s.sort.toNat) nx)).map sd := by rw [List.map_set]
  have hne := stepW_ne (y := nx) (b := la) (show s.sort.toNat < x.1.length by omega) hE
  rw [hne]
  simp only [L78_0, decide_eq_true (show (i : Int) ≥ 0 by omega), cond_true, getI_nat, hx, bsm, k1, h10, cond_false, hix, hO, h76, hE, h55, hfi, h76b, hq, hset, e1, stepW, setE]
  have t1 : e = true → x.2.set s.sort.toNat true = x.2 := fun h => set_same (by rw [hE, h])
  have t2 : e = false → x.2.set s.sort.toNat false = x.2 := fun h => set_f (by rw [hE, h])
  cases symS sh s == 0 <;> cases decide (uV (atV x.1 s.sort.toNat) nx = atV x.1 s.sort.toNat) <;> cases an <;> cases la <;> cases e <;> simp [t1, t2]
theorem l78 (hs : ShOk n sh) (hf : fi.length = n) {p : ProdD} (hp : ProdV n p) (hok : ProdOk p) (nx : V4) (la : Bool) (a : WS) (hl : a.1.length = n ∧ a.2.length = n) :
  runL (fun s => L78_0 (nulOf sh) (fi.map sd) n p s.1 s.2.1 s.2.2.1 s.2.2.2.1 s.2.2.2.2.1 s.2.2.2.2.2.1 s.2.2.2.2.2.2.1 s.2.2.2.2.2.2.2.1 s.2.2.2.2.2.2.2.2) (false, la, (p.right.length : Int) - 1, a.1.map sd, a.2, (sd nx).a, (sd nx).b, (sd nx).c, (sd nx).d) =
   some (.k0 (decide (stp sh fi nx la p.right a ≠ a)) ((stp sh fi nx la p.right a).1.map sd) (stp sh fi nx la p.right a).2 (sd (bh sh fi p.right nx)).a (sd (bh sh fi p.right nx)).b (sd (bh sh fi p.right nx)).c (sd (bh sh fi p.right nx)).d) := by
 have key := back_loop (step := fun s : Bool × Bool × Int × List SetD × List Bool × Int × Int × Int × Int => L78_0 (nulOf sh) (fi.map sd) n p s.1 s.2.1 s.2.2.1 s.2.2.2.1 s.2.2.2.2.1 s.2.2.2.2.2.1 s.2.2.2.2.2.2.1 s.2.2.2.2.2.2.2.1 s.2.2.2.2.2.2.2.2) p.right
  (fun i t => (decide (stp sh fi nx la t a ≠ a), be sh t la, i, (stp sh fi nx la t a).1.map sd, (stp sh fi nx la t a).2, (sd (bh sh fi t nx)).a, (sd (bh sh fi t nx)).b, (sd (bh sh fi t nx)).c, (sd (bh sh fi t nx)).d))
  (fun t => .k0 (decide (stp sh fi nx la t a ≠ a)) ((stp sh fi nx la t a).1.map sd) (stp sh fi nx la t a).2 (sd (bh sh fi t nx)).a (sd (bh sh fi t nx)).b (sd (bh sh fi t nx)).c (sd (bh sh fi t nx)).d)
  (fun i s t hx ht => by
   have hln := stp_len sh fi nx la t a
   have h := l78_s hs hf hp hok hx (decide (stp sh fi nx la t a ≠ a)) (be sh t la) (stp sh fi nx la t a) ⟨hln.1.trans hl.1, hln.2.trans hl.2⟩ (bh sh fi t nx)
   simp only
   rw [h]
   rcases (hp.right s (mog hx)).k with k0 | k1
   ·have hk : (s.kind == 0) = true := by rw [k0]; rfl
    simp only [hk, cond_true, stp, bh, be]
   ·have hk : (s.kind == 0) = false := by rw [k1]; rfl
    rw [stp_flag sh fi nx la s t a hk]
    simp only [hk, cond_false, stp, bh, be]) (by simp [L78_0]) p.right.length (Nat.le_refl _)
 rw [List.drop_length] at key
 simpa [stp, bh, be] using key
def end78 : R_F78 → List SetD × List Bool → Bool × List SetD × List Bool
 | .k0, x => (false, x)
 | .k1 b o e .., _ => (b, o, e)
 | .k2, x => (false, x)
theorem q78 (hs : ShOk n sh) (hf : fi.length = n) {p : ProdD} (hp : ProdV n p) (hok : ProdOk p) {inn : List Bool} (hin : inn.length = n) (hr : (p.role != 11) = true) (a : WS) (hl : a.1.length = n ∧ a.2.length = n) {st : Int} (hst : getI sh g.start = some st) (h0 : 0 ≤ st) :
  ∃ r, F78 p g sh (nulOf sh) (fi.map sd) inn n n (a.1.map sd) a.2 = some r ∧ end78 r (a.1.map sd, a.2) = (decide (updW sh fi inn a p ≠ a), (updW sh fi inn a p).1.map sd, (updW sh fi inn a p).2) := by
 have hlen := hp.len
 have hpl := hp.left
 have hix : ixN n p.left = some p.left.toNat := ixN_some.2 ⟨by omega, by omega⟩
 have hI : inn[p.left.toNat]? = some (inn[p.left.toNat]'(by omega)) := geg _
 generalize inn[p.left.toNat]'(by omega) = u at hI
 have hE : a.2[p.left.toNat]? = some (a.2[p.left.toNat]'(by omega)) := geg _
 generalize a.2[p.left.toNat]'(by omega) = e at hE
 have hO := map_at hl.1 (show p.left.toNat < n by omega)
 have ew : IntKind.wrap .i64 ((p.right.length : Int) - 1) = (p.right.length : Int) - 1 := w_id (by omega)
 unfold F78 updW liveP
 simp only [hix, hI, bsm, hr, Bool.true_and, gds, hE]
 cases u with
 | false => exact ⟨.k2, rfl, by simp [end78]⟩
 | true =>
  simp only [cond_true, q77_2 hs hp, bsm, Bool.and_true]
  cases decide (0 ≤ sumS sh 0 p.right) with
  | false => exact ⟨.k0, rfl, by simp [end78]⟩
  | true =>
   simp only [cond_true, hst, bsm, decide_eq_false (show ¬ st < 0 by omega), cond_false, hO, ew]
   cases e with
   | true =>
    simp only [cond_true, l78 hs hf hp hok (atV a.1 p.left.toNat) true a hl, bsm]
    exact ⟨_, rfl, rfl⟩
   | false =>
    simp only [cond_false, l78 hs hf hp hok (atV a.1 p.left.toNat) false a hl, bsm]
    exact ⟨_, rfl, rfl⟩
theorem q78n (hs : ShOk n sh) {p : ProdD} (hp : ProdV n p) {inn : List Bool} (hin : inn.length = n) (x : List SetD) (y : List Bool) {nl : List Bool} {fs : List SetD} {st : Int} (hst : getI sh g.start = some st) (h0 : st < 0) :
  ∃ r, F78 p g sh nl fs inn n n x y = some r ∧ end78 r (x, y) = (false, x, y) := by
 have hpl := hp.left
 have hix : ixN n p.left = some p.left.toNat := ixN_some.2 ⟨by omega, by omega⟩
 have hI : inn[p.left.toNat]? = some (inn[p.left.toNat]'(by omega)) := geg _
 generalize inn[p.left.toNat]'(by omega) = u at hI
 unfold F78
 simp only [hix, hI, bsm]
 cases u with
 | false => exact ⟨.k2, rfl, rfl⟩
 | true =>
  simp only [cond_true, q77_2 hs hp, bsm]
  cases decide (0 ≤ sumS sh 0 p.right) with
  | false => exact ⟨.k0, rfl, rfl⟩
  | true =>
   simp only [cond_true, hst, bsm, decide_eq_true h0]
   exact ⟨.k0, rfl, rfl⟩
theorem l46_11 (hg : GramOk g) (hv : GramV g) (hn : n = g.sorts.length) (hs : ShOk n sh) (hf : fi.length = n) {inn : List Bool} (hin : inn.length = n) {st : Int} (hst : getI sh g.start = some st) (h0 : 0 ≤ st) : ∀ (k i : Nat) (b : Bool) (a : WS), i + k = g.prods.length → (a.1.length = n ∧ a.2.length = n) →
  runL (fun s => L46_0_11 g sh (nulOf sh) (g.prods.length : Int) (fi.map sd) inn n n s.1 s.2.1 s.2.2.1 s.2.2.2) (b, (i : Int), a.1.map sd, a.2) =
   some (.k0 ((g.prods.drop i).foldl (fun (c : Bool × WS) x => (c.1 || decide (updW sh fi inn c.2 x ≠ c.2), updW sh fi inn c.2 x)) (b, a)).1 (((g.prods.drop i).foldl (fun (c : Bool × WS) x => (c.1 || decide (updW sh fi inn c.2 x ≠ c.2), updW sh fi inn c.2 x)) (b, a)).2.1.map sd) ((g.prods.drop i).foldl (fun (c : Bool × WS) x => (c.1 || decide (updW sh fi inn c.2 x ≠ c.2), updW sh fi inn c.2 x)) (b, a)).2.2)
 | 0, i, b, a, hi, hl => by
  obtain rfl : i = g.prods.length := by omega
  rw [List.drop_length]
  exact runL_done (by simp [L46_0_11])
 | k + 1, i, b, a, hi, hl => by
  have hgp := hg.prods
  have hx : g.prods[i]? = some g.prods[i] := geg (by omega)
  have hd : g.prods.drop i = g.prods[i] :: g.prods.drop (i + 1) := (List.drop_eq_getElem_cons (by omega))
  generalize hp : g.prods[i] = p at hx hd
  have hmem : p ∈ g.prods := mog hx
  have hpv : ProdV n p := by rw [hn]; exact hv.prod p hmem
  rw [hd]
  simp only [List.foldl_cons]
  have hstep : L46_0_11 g sh (nulOf sh) (g.prods.length : Int) (fi.map sd) inn n n b (i : Int) (a.1.map sd) a.2 = some (.inr (b || decide (updW sh fi inn a p ≠ a), ((i + 1 : Nat) : Int), (updW sh fi inn a p).1.map sd, (updW sh fi inn a p).2)) := by
   simp only [L46_0_11, getI_nat, hx, bsm, decide_eq_true (show (i : Int) < (g.prods.length : Int) by omega), cond_true, F54, w_S (show i < 4611686018427387904 by omega)]
   cases hr : p.role != 11 with
   | false => simp [updW, liveP, hr]
   | true =>
    obtain ⟨r, h1, h2⟩ := q78 (g := g) hs hf hpv (hg.prod p hmem) hin hr a hl hst h0
    simp only [cond_true, h1, bsm]
    cases r with
    | k0 =>
     simp only [end78, Prod.mk.injEq] at h2
     rw [← h2.1, ← h2.2.1, ← h2.2.2]; simp
    | k1 x0 x1 x2 =>
     simp only [end78, Prod.mk.injEq] at h2
     rw [← h2.1, ← h2.2.1, ← h2.2.2]; cases x0 <;> simp
    | k2 =>
     simp only [end78, Prod.mk.injEq] at h2
     rw [← h2.1, ← h2.2.1, ← h2.2.2]; simp
  rw [runL_next (step := fun s => L46_0_11 g sh (nulOf sh) (g.prods.length : Int) (fi.map sd) inn n n s.1 s.2.1 s.2.2.1 s.2.2.2) (s := (b, (i : Int), a.1.map sd, a.2)) hstep]
  obtain ⟨u1, u2⟩ := updW_len (sh := sh) (fi := fi) inn a p
  exact l46_11 hg hv hn hs hf hin hst h0 k (i + 1) _ _ (by omega) ⟨u1.trans hl.1, u2.trans hl.2⟩
theorem l46_11n (hg : GramOk g) (hv : GramV g) (hn : n = g.sorts.length) (hs : ShOk n sh) {inn : List Bool} (hin : inn.length = n) {x : List SetD} {y : List Bool} {nl : List Bool} {fs : List SetD} {st : Int} (hst : getI sh g.start = some st) (h0 : st < 0) : ∀ (k i : Nat), i + k = g.prods.length →
  runL (fun s => L46_0_11 g sh nl (g.prods.length : Int) fs inn n n s.1 s.2.1 s.2.2.1 s.2.2.2) (false, (i : Int), x, y) = some (.k0 false x y)
 | 0, i, hi => by
  obtain rfl : i = g.prods.length := by omega
  exact runL_done (by simp [L46_0_11])
 | k + 1, i, hi => by
  have hgp := hg.prods
  have hx : g.prods[i]? = some g.prods[i] := geg (by omega)
  generalize hp : g.prods[i] = p at hx
  have hpv : ProdV n p := by rw [hn]; exact hv.prod p (mog hx)
  have hstep : L46_0_11 g sh nl (g.prods.length : Int) fs inn n n false (i : Int) x y = some (.inr (false, ((i + 1 : Nat) : Int), x, y)) := by
   simp only [L46_0_11, getI_nat, hx, bsm, decide_eq_true (show (i : Int) < (g.prods.length : Int) by omega), cond_true, F54, w_S (show i < 4611686018427387904 by omega)]
   cases hr : p.role != 11 with
   | false => rfl
   | true =>
    obtain ⟨r, h1, h2⟩ := q78n (g := g) (nl := nl) (fs := fs) hs hpv hin x y hst h0
    simp only [cond_true, h1, bsm]
    cases r with
    | k0 => rfl
    | k1 x0 x1 x2 =>
     simp only [end78, Prod.mk.injEq] at h2
     obtain ⟨rfl, rfl, rfl⟩ := h2
     rfl
    | k2 => rfl
  rw [runL_next (step := fun s => L46_0_11 g sh nl (g.prods.length : Int) fs inn n n s.1 s.2.1 s.2.2.1 s.2.2.2) (s := (false, (i : Int), x, y)) hstep]
  exact l46_11n hg hv hn hs hin hst h0 k (i + 1) (by omega)
def behindA (sh : List Int) (g : GramD) : WS := bif decide (0 ≤ shAt sh g.start) then behindOf sh (firstOf sh g) (inOf sh g) g true else W0 g false
theorem behA_len : LenW g (behindA sh g) := by
 unfold behindA
 cases decide (0 ≤ shAt sh g.start)
 ·exact W0_len false
 ·exact behind_len _ _
theorem start_get (hv : GramV g) (hs : ShOk g.sorts.length sh) : getI sh g.start = some (shAt sh g.start) := by
 have h1 := hv.start
 have h2 := hs.len
 have h3 : sh[g.start.toNat]? = some (sh[g.start.toNat]'(by omega)) := geg _
 refine getI_some.2 ⟨h1.1, ?_⟩
 unfold shAt
 rw [h3]; rfl
theorem q62 (hg : GramOk g) (hv : GramV g) (hs : ShOk g.sorts.length sh) : F62_2 g sh (nulOf sh) = some (.k0 ((behindA sh g).1.map sd) (behindA sh g).2) := by
 have h40 := hg.sorts
 have hst := hv.start
 have e0 : ((0 : Nat) : Int) = 0 := rfl
 have hgs := start_get hv hs
 have hix : ixN g.sorts.length g.start = some g.start.toNat := ixN_some.2 ⟨by omega, by omega⟩
 have hget : (List.replicate g.sorts.length false)[g.start.toNat]? = some false := by rw [grp, if_pos (by omega)]
 have hrep : (List.replicate g.sorts.length zV).map sd = List.replicate g.sorts.length (⟨0, 0, 0, 0⟩ : SetD) := by
  rw [List.map_replicate]; rfl
 have hfl := first_len sh g
 have h46 : F46_7 g sh (nulOf sh) ((firstOf sh g).map sd) (inOf sh g) g.sorts.length g.sorts.length (List.replicate g.sorts.length (⟨0, 0, 0, 0⟩ : SetD)) ((List.replicate g.sorts.length false).set g.start.toNat (decide (shAt sh g.start ≥ 0))) = some (.k0 ((behindA sh g).1.map sd) (behindA sh g).2) := by
  have hmain : runL (fun s => L46_1_7 g sh (nulOf sh) ((firstOf sh g).map sd) (inOf sh g) g.sorts.length g.sorts.length s.1 s.2) (List.replicate g.sorts.length (⟨0, 0, 0, 0⟩ : SetD), (List.replicate g.sorts.length false).set g.start.toNat (decide (shAt sh g.start ≥ 0))) = some (.k0 ((behindA sh g).1.map sd) (behindA sh g).2) := by
   unfold behindA
   by_cases h0 : 0 ≤ shAt sh g.start
   ·rw [decide_eq_true h0, ← hrep]
    have hloop : ∀ (k : Nat) (a : WS), LenW g a → 257 * g.sorts.length ≤ mmW a + k → runL (fun s => L46_1_7 g sh (nulOf sh) ((firstOf sh g).map sd) (inOf sh g) g.sorts.length g.sorts.length s.1 s.2) (a.1.map sd, a.2) = some (.k0 ((itN (swW sh (firstOf sh g) (inOf sh g) g) k a).1.map sd) (itN (swW sh (firstOf sh g) (inOf sh g) g) k a).2) := by
     intro k
     induction k with
     | zero =>
      intro a ha hk
      have h1 := l46_11 hg hv rfl hs hfl (in_len (g := g) (sh := sh)) hgs h0 g.prods.length 0 false a (by omega) ha
      rw [List.drop_zero, foldG mmW (updW_grow (sh := sh) (fi := firstOf sh g) (inOf sh g)), e0] at h1
      have hfix : g.prods.foldl (updW sh (firstOf sh g) (inOf sh g)) a = a := by
       by_cases e : g.prods.foldl (updW sh (firstOf sh g) (inOf sh g)) a = a
       ·exact e
       ·have h2 := swW_mm (g := g) (sh := sh) (fi := firstOf sh g) (inOf sh g) a e
        have h3 := mmW_le (swW_len (sh := sh) (fi := firstOf sh g) (inOf sh g) a ha)
        omega
      rw [hfix] at h1
      exact runL_done (by simp only [L46_1_7, h1, bsm]; simp [itN])
     | succ k ih =>
      intro a ha hk
      have h1 := l46_11 hg hv rfl hs hfl (in_len (g := g) (sh := sh)) hgs h0 g.prods.length 0 false a (by omega) ha
      rw [List.drop_zero, foldG mmW (updW_grow (sh := sh) (fi := firstOf sh g) (inOf sh g)), e0] at h1
      by_cases e : g.prods.foldl (updW sh (firstOf sh g) (inOf sh g)) a = a
      ·rw [itN_fixed (show swW sh (firstOf sh g) (inOf sh g) g a = a from e)]
       rw [e] at h1
       exact runL_done (by simp only [L46_1_7, h1, bsm]; simp)
      ·have h2 := swW_mm (g := g) (sh := sh) (fi := firstOf sh g) (inOf sh g) a e
       rw [decide_eq_true e, Bool.or_true] at h1
       rw [runL_next (step := fun s => L46_1_7 g sh (nulOf sh) ((firstOf sh g).map sd) (inOf sh g) g.sorts.length g.sorts.length s.1 s.2) (s := (a.1.map sd, a.2)) (s' := ((swW sh (firstOf sh g) (inOf sh g) g a).1.map sd, (swW sh (firstOf sh g) (inOf sh g) g a).2)) (by simp only [L46_1_7, h1, bsm, cond_true]; rfl)]
       exact ih _ (swW_len (inOf sh g) a ha) (by omega)
    exact hloop (257 * g.sorts.length) (W0 g true) (W0_len true) (by omega)
   ·rw [decide_eq_false h0, set_f hget]
    have h1 := l46_11n hg hv rfl hs (in_len (sh := sh)) (x := List.replicate g.sorts.length (⟨0, 0, 0, 0⟩ : SetD)) (y := List.replicate g.sorts.length false) (nl := nulOf sh) (fs := (firstOf sh g).map sd) hgs (by omega) g.prods.length 0 (by omega)
    rw [e0] at h1
    refine runL_done ?_
    simp only [L46_1_7, h1, bsm, cond_false, W0, hrep, setE]
  unfold F46_7
  have : runL (fun (_ : Unit) => L46_2_6 g sh (nulOf sh) ((firstOf sh g).map sd) (inOf sh g) g.sorts.length g.sorts.length (List.replicate g.sorts.length (⟨0, 0, 0, 0⟩ : SetD)) ((List.replicate g.sorts.length false).set g.start.toNat (decide (shAt sh g.start ≥ 0)))) () = some (.k0 ((behindA sh g).1.map sd) (behindA sh g).2) := runL_done (by simp only [L46_2_6, hmain, bsm])
  rw [this]
  rfl
 have hl := behA_len (g := g) (sh := sh)
 have hl1 : ((behindA sh g).1.map sd).length = g.sorts.length := by rw [List.length_map]; exact hl.1
 unfold F62_2
 rw [q61 hg hv hs, q53 hg hv hs]
 simp only [bsm, mk32 h40, mk1 h40, cond_true, hgs, Int.toNat_natCast, hix, hget, h46, hl1, hl.2, decide_eq_true (Nat.le_refl _)]
 rw [tol (by rw [hl1]; exact Nat.le_refl _), tol (by rw [hl.2]; exact Nat.le_refl _)]
end
structure Sam (g h : GramD) : Prop where
 sorts : h.sorts = g.sorts
 start : h.start = g.start
 prods : ∀ p, p ∈ h.prods ↔ p ∈ g.prods
theorem Sam.symm {g h : GramD} (e : Sam g h) : Sam h g := ⟨e.sorts.symm, e.start.symm, fun p => (e.prods p).symm⟩
def leS (t s : List Int) : Prop := ∀ i : Nat, 0 ≤ (s[i]?).getD 0 → i < s.length → 0 ≤ (t[i]?).getD 0 ∧ (t[i]?).getD 0 ≤ (s[i]?).getD 0
section
variable {g h : GramD} {n : Nat} {sh : List Int} {fi : List V4}
theorem sumS_le {t s : List Int} (hs : s.length = n) (hl : leS t s) : ∀ (r : List SymD) (a b : Int), (∀ q ∈ r, SymV n q) → 0 ≤ b ∧ b ≤ a ∧ a ≤ 1048577 → 0 ≤ sumS s a r → 0 ≤ sumS t b r ∧ sumS t b r ≤ sumS s a r
 | [], a, b, _, h, h0 => by simp only [sumS]; omega
 | q :: r, a, b, hv, h, h0 => by
  simp only [sumS] at h0 ⊢
  by_cases hq : symS s q < 0
  ·rw [decide_eq_true hq] at h0
   simp only [cond_true] at h0
   omega
  rw [decide_eq_false hq] at h0
  simp only [cond_false] at h0
  have hqv := hv q (mcf ..)
  have key : 0 ≤ symS t q ∧ symS t q ≤ symS s q := by
   unfold symS at hq ⊢
   cases hk : q.kind == 1 with
   | false => simp only [cond_false]; omega
   | true =>
    rw [hk] at hq
    simp only [cond_true] at hq ⊢
    have := hqv.sort (by simpa using hk)
    exact hl q.sort.toNat (by omega) (by omega)
  rw [decide_eq_false hq, decide_eq_false (show ¬ symS t q < 0 by omega)]
  simp only [cond_false]
  exact sumS_le hs hl r _ _ (fun q hq => hv q (mcm _ hq)) (by split <;> split <;> omega) h0
theorem upd_no {t : List Int} {p : ProdD} (h : (upd t p).1 = false) (hr : (p.role != 11) = true) (h0 : 0 ≤ sumS t 0 p.right) : 0 ≤ old t p ∧ old t p ≤ sumS t 0 p.right := by
 unfold upd at h
 rw [hr, decide_eq_true h0] at h
 simp only [Bool.true_and] at h
 cases hc : (decide (old t p < 0) || decide (sumS t 0 p.right < old t p)) with
 | true => rw [hc] at h; cases h
 | false =>
  rw [Bool.or_eq_false_iff] at hc
  have c1 := of_decide_eq_false hc.1
  have c2 := of_decide_eq_false hc.2
  omega
theorem sh_le (hv : GramV g) {s t : List Int} (hs : ShK g s) (ht : ∀ p ∈ g.prods, (upd t p).1 = false) : leS t s := by
 refine hs.ind (fun s => leS t s) (fun s p hp hok h => ?_) (fun i h0 hi => ?_)
 ·have hpv := hv.prod p hp
  unfold upd
  cases hc : ((p.role != 11) && (decide (0 ≤ sumS s 0 p.right) && (decide (old s p < 0) || decide (sumS s 0 p.right < old s p)))) with
  | false => exact h
  | true =>
   simp only [aet] at hc
   have h0 := of_decide_eq_true hc.2.1
   obtain ⟨k1, k2⟩ := sumS_le hok.len h p.right 0 0 hpv.right (by omega) h0
   obtain ⟨u1, u2⟩ := upd_no (ht p hp) hc.1 k1
   intro i h0 hi
   simp only [cond_true, List.length_set] at h0 hi ⊢
   rw [List.getElem?_set] at h0 ⊢
   by_cases e : p.left.toNat = i
   ·rw [if_pos e] at h0 ⊢
    rw [if_pos (by omega)] at h0 ⊢
    unfold old at u1 u2
    rw [e] at u1 u2
    simp only [gds] at h0 ⊢
    omega
   ·rw [if_neg e] at h0 ⊢
    exact h i h0 hi
 ·rw [grp] at h0
  simp only [List.length_replicate] at hi
  rw [if_pos hi] at h0
  simp only [gds] at h0
  omega
theorem sh_same (e : Sam g h) (hv : GramV g) (hw : GramV h) {s t : List Int} (hs : ShK g s) (ht : ShK h t) : s = t := by
 have fs := fix_upd g.prods s hv.prod hs.ok hs.fix
 have ft := fix_upd h.prods t hw.prod ht.ok ht.fix
 have l1 := sh_le hv hs (fun p hp => ft p ((e.prods p).2 hp))
 have l2 := sh_le hw ht (fun p hp => fs p ((e.prods p).1 hp))
 have n1 := hs.ok.len
 have n2 := ht.ok.len
 rw [e.sorts] at n2
 refine List.ext_getElem? fun i => ?_
 by_cases hi : i < g.sorts.length
 rotate_left
 ·rw [gen (by omega), gen (by omega)]
 have g1 : s[i]? = some (s[i]'(by omega)) := geg _
 have g2 : t[i]? = some (t[i]'(by omega)) := geg _
 have b1 := hs.ok.v _ (mog g1)
 have b2 := ht.ok.v _ (mog g2)
 have a1 := l1 i
 have a2 := l2 i
 generalize s[i]'(by omega) = x at g1 b1
 generalize t[i]'(by omega) = y at g2 b2
 rw [g1, g2] at a1 a2 ⊢
 simp only [gds] at a1 a2
 have : x = y := by
  by_cases hx : 0 ≤ x
  ·have := a1 hx (by omega)
   have := a2 (by omega) (by omega)
   omega
  ·by_cases hy : 0 ≤ y
   ·have := a2 hy (by omega)
    omega
   ·omega
 rw [this]
theorem clF_same (e : Sam g h) {c : List V4} (hc : ClF g sh c) : ClF h sh c := ⟨by rw [hc.len, e.sorts], fun p hp => hc.cl p ((e.prods p).1 hp)⟩
theorem first_same (e : Sam g h) (hv : GramV g) (hw : GramV h) : firstOf sh h = firstOf sh g :=
 (first_least (clF_same e (first_closed hv))).antisymm (first_least (clF_same e.symm (first_closed hw)))
theorem clI_same (e : Sam g h) {c : List Bool} (hc : ClI g sh c) : ClI h sh c := ⟨by rw [hc.len, e.sorts], fun p hp => hc.cl p ((e.prods p).1 hp)⟩
theorem in_same (e : Sam g h) (hv : GramV g) (hw : GramV h) : inOf sh h = inOf sh g :=
 (in_least (clI_same e (in_closed hv)) (by rw [e.start]; exact in_start hv)).antisymm (in_least (clI_same e.symm (in_closed hw)) (by rw [← e.start]; exact in_start hw))
theorem clW_same (e : Sam g h) {inn : List Bool} {c : WS} (hc : ClW g sh fi inn c) : ClW h sh fi inn c := ⟨by rw [hc.l1, e.sorts], by rw [hc.l2, e.sorts], fun p hp => hc.cl p ((e.prods p).1 hp)⟩
theorem W0_same (e : Sam g h) (b : Bool) : W0 h b = W0 g b := by unfold W0; rw [e.sorts, e.start]
theorem leW_anti {a c : WS} (h : leW a c) (k : leW c a) : a = c := Prod.ext (h.1.antisymm k.1) (h.2.antisymm k.2)
theorem behind_same (e : Sam g h) (hv : GramV g) (hw : GramV h) (inn : List Bool) (b : Bool) : behindOf sh fi inn h b = behindOf sh fi inn g b :=
 leW_anti (behind_least hw (clW_same e (behind_closed hv inn b)) (by rw [W0_same e]; exact behind_ge inn b))
  (behind_least hv (clW_same e.symm (behind_closed hw inn b)) (by rw [← W0_same e]; exact behind_ge inn b))
theorem behA_same (e : Sam g h) (hv : GramV g) (hw : GramV h) : behindA sh h = behindA sh g := by
 unfold behindA
 rw [e.start, first_same e hv hw, in_same e hv hw, W0_same e, behind_same e hv hw]
theorem valL_app (ys : List UInt8) : ∀ xs : List UInt8, valL (xs ++ ys) = valL xs * 256 ^ ys.length + valL ys
 | [] => by simp [valL]
 | x :: xs => by
  simp only [List.cons_append, valL, valL_app ys xs, List.length_append, Nat.pow_add, Nat.add_mul, Nat.mul_assoc, Nat.add_assoc]
theorem toL_app (a b : ByteArray) : (a ++ b).toList = a.toList ++ b.toList := by
 rw [ByteArray.toList_eq, ByteArray.toList_eq, ByteArray.toList_eq]; exact app_list a b
theorem txt_mono {m m' : Mp} : ∀ (r : List SymD) (t t' w : ByteArray), t'.size = t.size → valL t'.toList ≤ valL t.toList →
  (∀ q ∈ r, q.kind = 1 → ∀ v, mfind q.sort m = some v → ∃ u, mfind q.sort m' = some u ∧ u.size = v.size ∧ valL u.toList ≤ valL v.toList) → txt m t r = some w →
  ∃ w', txt m' t' r = some w' ∧ w'.size = w.size ∧ valL w'.toList ≤ valL w.toList
 | [], t, t', w, h1, h2, _, h => by
  simp only [txt, Option.some.injEq] at h ⊢
  subst h
  exact ⟨t', rfl, h1, h2⟩
 | q :: r, t, t', w, h1, h2, hq, h => by
  have step : ∀ u v : ByteArray, u.size = v.size → valL u.toList ≤ valL v.toList → (t' ++ u).size = (t ++ v).size ∧ valL (t' ++ u).toList ≤ valL (t ++ v).toList := by
   intro u v e1 e2
   refine ⟨by rw [ByteArray.size_append, ByteArray.size_append, h1, e1], ?_⟩
   rw [toL_app, toL_app, valL_app, valL_app, toList_len, toList_len, e1]
   have := Nat.mul_le_mul_right (256 ^ v.size) h2
   omega
  simp only [txt] at h ⊢
  cases hk : q.kind == 1 with
  | true =>
   rw [hk] at h
   simp only [cond_true] at h ⊢
   cases hm : mfind q.sort m with
   | none => rw [hm] at h; cases h
   | some v =>
    rw [hm] at h
    obtain ⟨u, u1, u2, u3⟩ := hq q (mcf ..) (by simpa using hk) v hm
    rw [u1]
    obtain ⟨s1, s2⟩ := step u v u2 u3
    exact txt_mono r _ _ w s1 s2 (fun q' h' => hq q' (mcm _ h')) h
  | false =>
   rw [hk] at h
   simp only [cond_false] at h ⊢
   obtain ⟨s1, s2⟩ := step (lst q) (lst q) rfl (Nat.le_refl _)
   exact txt_mono r _ _ w s1 s2 (fun q' h' => hq q' (mcm _ h')) h
theorem less_of {x y : ByteArray} (h : x.size = y.size) (hn : Op.bytesLess x.toList y.toList = false) : valL y.toList ≤ valL x.toList := by
 have := less_tri y.toList x.toList
 rw [hn] at this
 simp only [Bool.not_false, Bool.or_eq_true] at this
 rcases this with k | k
 ·exact Nat.le_of_lt (less_val _ _ (by rw [toList_len, toList_len, h]) k)
 ·rw [eq_of_beq k]; exact Nat.le_refl _
theorem val_eq {x y : ByteArray} (h : x.size = y.size) (hv : valL x.toList = valL y.toList) : x = y := by
 have e1 : Op.bytesLess x.toList y.toList = false := by
  cases hc : Op.bytesLess x.toList y.toList with
  | false => rfl
  | true => have := less_val _ _ (by rw [toList_len, toList_len, h]) hc; omega
 have e2 : Op.bytesLess y.toList x.toList = false := by
  cases hc : Op.bytesLess y.toList x.toList with
  | false => rfl
  | true => have := less_val _ _ (by rw [toList_len, toList_len, h]) hc; omega
 have := less_tri x.toList y.toList
 rw [e1, e2] at this
 simp only [Bool.false_or, Bool.not_false] at this
 have hb := bytes_list (a := x) (b := y)
 rw [this] at hb
 exact of_decide_eq_true hb.symm
def leM (n : Nat) (m' m : Mp) : Prop := ∀ (i : Int) t, 0 ≤ i → i < n → mfind i m = some t → ∃ u, mfind i m' = some u ∧ valL u.toList ≤ valL t.toList
theorem leM_upd (hv : GramV g) (hn : n = g.sorts.length) (hs : ShOk n sh) {a : Int} (ha : shAt sh a ≤ 1048576) {m m' : Mp} (hm' : InvM n sh m') (hf : ∀ p ∈ g.prods, (updM sh a m' p).1 = false) {p : ProdD} (hp : p ∈ g.prods) (hm : InvM n sh m) (h : leM n m' m) : leM n m' (updM sh a m p).2 := by
 have hpv : ProdV n p := by rw [hn]; exact hv.prod p hp
 have key : ∀ t, wants sh a p = true → txt m eB p.right = some t → ∃ u, mfind p.left m' = some u ∧ valL u.toList ≤ valL t.toList := by
  intro t hw ht
  obtain ⟨w', w1, w2, w3⟩ := txt_mono (m' := m') p.right eB eB t rfl (Nat.le_refl _) (fun q hq k1 v hv' => by
   have hqs := (hpv.right q hq).sort k1
   obtain ⟨u, u1, u2⟩ := h q.sort v hqs.1 hqs.2 hv'
   refine ⟨u, u1, ?_, u2⟩
   have e1 := hm.size q.sort v hqs.1 hqs.2 hv'
   have e2 := hm'.size q.sort u hqs.1 hqs.2 u1
   omega) ht
  have hfp := hf p hp
  unfold updM at hfp
  rw [hw, w1] at hfp
  simp only [cond_true] at hfp
  cases ho : mfind p.left m' with
  | none => rw [ho] at hfp; cases hfp
  | some o =>
   rw [ho] at hfp
   simp only at hfp
   cases hb : Op.bytesLess w'.toList o.toList with
   | true => rw [hb] at hfp; cases hfp
   | false =>
    refine ⟨o, rfl, ?_⟩
    have s1 := hm'.size p.left o hpv.left.1 hpv.left.2 ho
    have s2 := txt_len hs hm' hpv ha hw w1
    have := less_of (x := w') (y := o) (by omega) hb
    omega
 have put : ∀ t, wants sh a p = true → txt m eB p.right = some t → leM n m' (mput p.left t m) := by
  intro t hw ht i v h0 h1 hi
  by_cases e : i = p.left
  ·rw [e] at hi ⊢
   rw [mfind_mput, if_pos rfl] at hi
   rw [← Option.some.inj hi]
   exact key t hw ht
  ·rw [mfind_mput, if_neg e] at hi
   exact h i v h0 h1 hi
 unfold updM
 cases hw : wants sh a p with
 | false => exact h
 | true =>
  simp only [cond_true]
  cases ht : txt m eB p.right with
  | none => exact h
  | some t =>
   simp only
   cases mfind p.left m with
   | none => exact put t hw ht
   | some o =>
    simp only
    cases Op.bytesLess t.toList o.toList with
    | true => exact put t hw ht
    | false => exact h
end
abbrev Rl := Nat → Nat → Bool
def putR (R : Rl) (i j : Nat) : Rl := fun a b => (decide (a = i) && decide (b = j)) || R a b
def leR (R S : Rl) : Prop := ∀ a b, R a b = true → S a b = true
def tri (R : Rl) (i k j : Nat) : Rl := bif R i k && R k j then putR R i j else R
def rdJ (n : Nat) (i k : Nat) (R : Rl) : Rl := (List.range n).foldl (fun R j => tri R i k j) R
def rdK (n : Nat) (R : Rl) (k : Nat) : Rl := (List.range n).foldl (fun R i => rdJ n i k R) R
def fw (n : Nat) (R : Rl) : Rl := (List.range n).foldl (rdK n) R
theorem leR.refl (R : Rl) : leR R R := fun _ _ h => h
theorem leR.trans {R S T : Rl} (h : leR R S) (k : leR S T) : leR R T := fun a b x => k a b (h a b x)
theorem fold_le {α : Type} {f : Rl → α → Rl} (hf : ∀ R x, leR R (f R x)) : ∀ (l : List α) (R : Rl), leR R (l.foldl f R)
 | [], R => leR.refl R
 | x :: l, R => (hf R x).trans (fold_le hf l _)
theorem loop_sim {α A B E S : Type} {step : S → Option (E ⊕ S)} {l : List α} (emb : Nat → A → S) (fin : A → E) (Rel : A → B → Prop) (f : B → α → B)
  (h : ∀ (i : Nat) (x : α) (a : A) (b : B), l[i]? = some x → Rel a b → ∃ a', step (emb i a) = some (.inr (emb (i + 1) a')) ∧ Rel a' (f b x)) (hend : ∀ a, step (emb l.length a) = some (.inl (fin a))) :
  ∀ (k i : Nat) (a : A) (b : B), i + k = l.length → Rel a b → ∃ a', runL step (emb i a) = some (fin a') ∧ Rel a' ((l.drop i).foldl f b)
 | 0, i, a, b, hi, ha => by
  obtain rfl : i = l.length := by omega
  rw [List.drop_length]
  exact ⟨a, runL_done (hend a), ha⟩
 | k + 1, i, a, b, hi, ha => by
  have hx : l[i]? = some l[i] := geg (by omega)
  have hd : l.drop i = l[i] :: l.drop (i + 1) := (List.drop_eq_getElem_cons (by omega))
  obtain ⟨a1, h1, h2⟩ := h i _ a b hx ha
  rw [runL_next h1, hd, List.foldl_cons]
  exact loop_sim emb fin Rel f h hend k (i + 1) a1 _ (by omega) h2
theorem loop_simR {A B E : Type} {n : Nat} {step : Int × A → Option (E ⊕ (Int × A))} (fin : A → E) (Rel : A → B → Prop) (f : B → Nat → B)
  (h : ∀ (i : Nat) (a : A) (b : B), i < n → Rel a b → ∃ a', step ((i : Int), a) = some (.inr (((i + 1 : Nat) : Int), a')) ∧ Rel a' (f b i)) (hend : ∀ a, step ((n : Int), a) = some (.inl (fin a))) {a : A} {b : B} (hab : Rel a b) :
  ∃ a', runL step (0, a) = some (fin a') ∧ Rel a' ((List.range n).foldl f b) := by
 have := loop_sim (l := List.range n) (step := step) (fun i a => ((i : Int), a)) fin Rel f (fun i x a b hx hr => by
  have hi : i < n := by have := (gei.1 hx).1; simpa using this
  have : x = i := by rw [gei] at hx; obtain ⟨_, hx⟩ := hx; simp at hx; exact hx.symm
  subst this
  exact h x a b hi hr) (fun a => by rw [List.length_range]; exact hend a) n 0 a b (by simp) hab
 exact this
theorem loop_and {α E : Type} {step : Bool × Int → Option (E ⊕ (Bool × Int))} {l : List α} (p : Nat → α → Bool) (fin : Bool → E)
  (h : ∀ (i : Nat) (x : α) (b : Bool), l[i]? = some x → step (b, (i : Int)) = some (.inr (b && p i x, ((i + 1 : Nat) : Int)))) (hend : ∀ b, step (b, (l.length : Int)) = some (.inl (fin b))) :
  ∀ (k i : Nat) (b : Bool), i + k = l.length → runL step (b, (i : Int)) = some (fin (b && allF p i (l.drop i)))
 | 0, i, b, hi => by
  obtain rfl : i = l.length := by omega
  rw [List.drop_length, allF, Bool.and_true]
  exact runL_done (hend b)
 | k + 1, i, b, hi => by
  have hx : l[i]? = some l[i] := geg (by omega)
  have hd : l.drop i = l[i] :: l.drop (i + 1) := (List.drop_eq_getElem_cons (by omega))
  rw [runL_next (h i _ b hx), hd, allF, loop_and p fin h hend k (i + 1) _ (by omega), Bool.and_assoc]
def nulAt (nul : List Bool) (q : SymD) : Bool := (q.kind == 1) && (nul[q.sort.toNat]?).getD false
def oth (nul : List Bool) (p : ProdD) (i : Nat) : Bool := allF (fun j (q : SymD) => decide (j = i) || nulAt nul q) 0 p.right
def leadC (sh : List Int) (nul : List Bool) (p : ProdD) (i : Nat) (s : SymD) : Bool := (p.role != 11) && ((s.kind == 1) && (decide (0 ≤ (sh[s.sort.toNat]?).getD 0) && oth nul p i))
def lead1 (sh : List Int) (nul : List Bool) (p : ProdD) (R : Rl) (i : Nat) : Rl :=
 match p.right[i]? with
 | some s => bif leadC sh nul p i s then putR R p.left.toNat s.sort.toNat else R
 | none => R
def leadP (sh : List Int) (nul : List Bool) (R : Rl) (p : ProdD) : Rl := (List.range p.right.length).foldl (lead1 sh nul p) R
def lead0 (sh : List Int) (nul : List Bool) (g : GramD) : Rl := g.prods.foldl (leadP sh nul) (fun _ _ => false)
def RM (n : Nat) (m : List ((Int × Int) × Int)) (R : Rl) : Prop := ∀ a b, a < n → b < n → decide (mget 0 m ((a : Int), (b : Int)) > 0) = R a b
section
variable {n : Nat}
theorem RM_put {m : List ((Int × Int) × Int)} {R : Rl} (h : RM n m R) (i j : Nat) : RM n (mput ((i : Int), (j : Int)) 1 m) (putR R i j) := fun a b ha hb => by
 rw [mget_mput]
 unfold putR
 by_cases e : a = i ∧ b = j
 ·obtain ⟨rfl, rfl⟩ := e
  simp
 ·rw [if_neg (fun h => e ⟨Int.ofNat.inj (congrArg Prod.fst h), Int.ofNat.inj (congrArg Prod.snd h)⟩), h a b ha hb]
  by_cases e1 : a = i
  ·have e2 : ¬ b = j := fun h => e ⟨e1, h⟩
   simp [e2]
  ·simp [e1]
theorem l23_1 (h40 : n ≤ 40) {m : List ((Int × Int) × Int)} {R : Rl} (h : RM n m R) {i k : Nat} (hi : i < n) (hk : k < n) :
  ∃ m', runL (fun s => L23_1 (k : Int) (i : Int) (n : Int) s.1 s.2) (0, m) = some (.k0 m') ∧ RM n m' (rdJ n i k R) := by
 refine loop_simR E_L23_1.k0 (RM n) (fun R j => tri R i k j) (fun j a b hj hab => ?_) (fun a => by simp [L23_1]) h
 simp only [L23_1, decide_eq_true (show (j : Int) < (n : Int) by omega), cond_true, w_S (show j < 4611686018427387904 by omega), hab i k hi hk, hab k j hk hj, tri]
 cases b i k with
 | false => exact ⟨a, rfl, hab⟩
 | true =>
  cases b k j with
  | false => exact ⟨a, rfl, hab⟩
  | true => exact ⟨_, rfl, RM_put hab i j⟩
theorem l23_2 (h40 : n ≤ 40) {g : GramD} (hn : g.sorts.length = n) {m : List ((Int × Int) × Int)} {R : Rl} (h : RM n m R) {k : Nat} (hk : k < n) :
  ∃ m', runL (fun s => L23_2 (k : Int) (n : Int) g s.1 s.2) (0, m) = some (.k0 m') ∧ RM n m' (rdK n R k) := by
 refine loop_simR E_L23_2.k0 (RM n) (fun R i => rdJ n i k R) (fun i a b hi hab => ?_) (fun a => by simp [L23_2]) h
 obtain ⟨a', h1, h2⟩ := l23_1 h40 hab hi hk
 refine ⟨a', ?_, h2⟩
 simp only [L23_2, hn, decide_eq_true (show (i : Int) < (n : Int) by omega), cond_true, w_S (show i < 4611686018427387904 by omega), h1, bsm]
theorem l23_3 (h40 : n ≤ 40) {g : GramD} (hn : g.sorts.length = n) {m : List ((Int × Int) × Int)} {R : Rl} (h : RM n m R) :
  ∃ m', runL (fun s => L23_3_2 (n : Int) g s.1 s.2) (0, m) = some (.k0 m') ∧ RM n m' (fw n R) := by
 refine loop_simR E_L23_3_2.k0 (RM n) (rdK n) (fun k a b hk hab => ?_) (fun a => by simp [L23_3_2]) h
 obtain ⟨a', h1, h2⟩ := l23_2 h40 hn hab hk
 refine ⟨a', ?_, h2⟩
 simp only [L23_3_2, hn, decide_eq_true (show (k : Int) < (n : Int) by omega), cond_true, w_S (show k < 4611686018427387904 by omega), h1, bsm]
theorem q55n {nul : List Bool} (hl : nul.length = n) {q : SymD} (hq : SymV n q) : F55 nul q = some (nulAt nul q) := by
 unfold F55 nulAt
 rcases hq.k with k0 | k1
 ·rw [k0]; rfl
 ·obtain ⟨h0, h1⟩ := hq.sort k1
  have hg : nul[q.sort.toNat]? = some (nul[q.sort.toNat]'(by omega)) := geg _
  rw [k1, hg, getI_some.2 ⟨h0, hg⟩]
  rfl
theorem l23_4 {nul : List Bool} (hl : nul.length = n) {p : ProdD} (hp : ProdV n p) {i : Nat} :
  runL (fun s => L23_4 nul (i : Int) p (p.right.length : Int) s.1 s.2) (true, 0) = some (.k0 (oth nul p i)) := by
 have hlen := hp.len
 have := loop_and (l := p.right) (step := fun s => L23_4 nul (i : Int) p (p.right.length : Int) s.1 s.2) (fun j (q : SymD) => decide (j = i) || nulAt nul q) E_L23_4.k0 (fun j q b hx => by
  have hj : j < p.right.length := (gei.1 hx).1
  have hq := hp.right q (mog hx)
  simp only [L23_4, getI_nat, hx, bsm, decide_eq_true (show (j : Int) < (p.right.length : Int) by omega), cond_true, w_S (show j < 4611686018427387904 by omega), q55n hl hq]
  cases b with
  | false => simp
  | true =>
   by_cases e : j = i
   ·subst e; simp
   ·have e2 : ((j : Int) == (i : Int)) = false := by rw [beq_eq_false_iff_ne]; omega
    rw [decide_eq_false e, e2]
    cases nulAt nul q <;> rfl) (fun b => by simp [L23_4]) p.right.length 0 true (by omega)
 unfold oth
 simpa using this
theorem l23_5 {sh : List Int} (hs : sh.length = n) {nul : List Bool} (hl : nul.length = n) {p : ProdD} (hp : ProdV n p) {m : List ((Int × Int) × Int)} {R : Rl} (h : RM n m R) :
  ∃ m', runL (fun s => L23_5_2 sh nul p (p.right.length : Int) s.1 s.2) (0, m) = some (.k0 m') ∧ RM n m' (leadP sh nul R p) := by
 have hlen := hp.len
 refine loop_simR E_L23_5_2.k0 (RM n) (lead1 sh nul p) (fun i a b hi hab => ?_) (fun a => by simp [L23_5_2]) h
 have hx : p.right[i]? = some p.right[i] := geg _
 generalize p.right[i] = s at hx
 have hv := hp.right s (mog hx)
 have h4 := l23_4 hl hp (i := i)
 simp only [L23_5_2, getI_nat, hx, bsm, decide_eq_true (show (i : Int) < (p.right.length : Int) by omega), cond_true, w_S (show i < 4611686018427387904 by omega), F54, lead1, leadC]
 cases hr : p.role != 11 with
 | false => exact ⟨a, rfl, hab⟩
 | true =>
  rcases hv.k with k0 | k1
  ·rw [k0]; exact ⟨a, rfl, hab⟩
  ·obtain ⟨h0, h1⟩ := hv.sort k1
   have hg : sh[s.sort.toNat]? = some (sh[s.sort.toNat]'(by omega)) := geg _
   have hgi : getI sh s.sort = some (sh[s.sort.toNat]'(by omega)) := getI_some.2 ⟨h0, hg⟩
   rw [k1, hg, hgi]
   generalize sh[s.sort.toNat]'(by omega) = v
   simp only [show ((1 : Int) != 1) = false from rfl, cond_true, cond_false, bsm, beq_self_eq_true, Bool.true_and, gds, h4]
   by_cases hv0 : v < 0
   ·rw [decide_eq_true hv0, decide_eq_false (show ¬ 0 ≤ v by omega)]
    exact ⟨a, rfl, hab⟩
   ·rw [decide_eq_false hv0, decide_eq_true (show 0 ≤ v by omega)]
    cases oth nul p i with
    | false => exact ⟨a, rfl, hab⟩
    | true =>
     have hpl := hp.left
     refine ⟨_, rfl, ?_⟩
     have e1 : p.left = ((p.left.toNat : Nat) : Int) := by omega
     have e2 : s.sort = ((s.sort.toNat : Nat) : Int) := by omega
     have := RM_put hab p.left.toNat s.sort.toNat
     rw [← e1, ← e2] at this
     exact this
theorem l23_6 {g : GramD} (hg : GramOk g) (hv : GramV g) (hn : g.sorts.length = n) {sh : List Int} (hs : sh.length = n) {nul : List Bool} (hl : nul.length = n) :
  ∃ m', runL (fun s => L23_6_2 sh nul g (g.prods.length : Int) s.1 s.2) (0, []) = some (.k0 m') ∧ RM n m' (lead0 sh nul g) := by
 have hgp := hg.prods
 have := loop_sim (l := g.prods) (step := fun s => L23_6_2 sh nul g (g.prods.length : Int) s.1 s.2) (fun i (a : List ((Int × Int) × Int)) => ((i : Int), a)) E_L23_6_2.k0 (RM n) (leadP sh nul) (fun i p a b hx hab => by
  have hi : i < g.prods.length := (gei.1 hx).1
  have hpv : ProdV n p := by rw [← hn]; exact hv.prod p (mog hx)
  obtain ⟨a', h1, h2⟩ := l23_5 hs hl hpv hab
  refine ⟨a', ?_, h2⟩
  simp only [L23_6_2, getI_nat, hx, bsm, decide_eq_true (show (i : Int) < (g.prods.length : Int) by omega), cond_true, w_S (show i < 4611686018427387904 by omega), h1]) (fun a => by simp [L23_6_2]) g.prods.length 0 [] (fun _ _ => false) (by omega) (fun a b _ _ => rfl)
 exact this
theorem l23_0 (h40 : n ≤ 40) {m : List ((Int × Int) × Int)} {R : Rl} (h : RM n m R) : runL (fun s => L23_0 n (n : Int) m s.1 s.2) (0, List.replicate n false) = some (.k0 ((List.range n).map fun i => R i i)) := by
 have := loop_map (l := List.range n) (step := fun s => L23_0 n (n : Int) m s.1 s.2) (emb := fun i (a : List Bool) => ((i : Int), a)) (fun i => R i i) E_L23_0.k0 (fun i x out hx ho => by
  have hi : i < n := by have := (gei.1 hx).1; simpa using this
  have e : x = i := by rw [gei] at hx; obtain ⟨_, hx⟩ := hx; simp at hx; exact hx.symm
  subst e
  rw [List.length_range] at ho
  have hgo : out[x]? = some (out[x]'(by omega)) := geg _
  simp only [L23_0, ixN_nat, if_pos hi, hgo, bsm, decide_eq_true (show (x : Int) < (n : Int) by omega), cond_true, w_S (show x < 4611686018427387904 by omega), h x x hi hi]) (fun out ho => by simp [L23_0]) n 0 (List.replicate n false) (by simp) (by simp) (by simp)
 exact this
end
def circOf (g : GramD) (sh : List Int) : List Bool := (List.range g.sorts.length).map fun i => fw g.sorts.length (lead0 sh (nulOf sh) g) i i
theorem circular {g : GramD} (hg : GramOk g) (hc : chkB g = true) {sh : List Int} (hk : ShK g sh) (h45 : F45 g = some (.k1 g.sorts g.prods g.start g.forbid g.follow sh (nulOf sh))) : F23 g = some (.k0 (circOf g sh) 0) := by
 have hv := val_of hc
 have h40 := hg.sorts
 have hs := hk.ok.len
 have hl : (nulOf sh).length = g.sorts.length := by unfold nulOf; rw [List.length_map]; exact hs
 have hcl : (circOf g sh).length = g.sorts.length := by simp [circOf]
 have hle : decide (g.sorts.length ≤ (circOf g sh).length) = true := decide_eq_true (by omega)
 have ht : (circOf g sh).take g.sorts.length = circOf g sh := tol (by omega)
 obtain ⟨m1, h1, h2⟩ := l23_6 hg hv rfl hs hl
 obtain ⟨m2, h3, h4⟩ := l23_3 h40 rfl h2
 have h5 := l23_0 h40 h4
 rw [show ((List.range g.sorts.length).map fun i => fw g.sorts.length (lead0 sh (nulOf sh) g) i i) = circOf g sh from rfl] at h5
 unfold F23
 simp only [h45, bsm, h1, h3, mk1 h40, cond_true, Int.toNat_natCast, h5, hle, ht]
section
variable {g h : GramD} {n : Nat} {sh : List Int}
theorem lead1_at (nul : List Bool) (p : ProdD) (R : Rl) (k i j : Nat) : lead1 sh nul p R k i j = (R i j || lead1 sh nul p (fun _ _ => false) k i j) := by
 unfold lead1
 cases p.right[k]? with
 | none => simp
 | some s =>
  simp only
  cases leadC sh nul p k s with
  | false => simp
  | true => simp only [cond_true]; unfold putR; rw [Bool.or_false]; exact Bool.or_comm _ _
theorem fold_at1 {α : Type} {f : Rl → α → Rl} (hf : ∀ R x i j, f R x i j = (R i j || f (fun _ _ => false) x i j)) : ∀ (l : List α) (R : Rl) (i j : Nat), l.foldl f R i j = true ↔ (R i j = true ∨ ∃ x ∈ l, f (fun _ _ => false) x i j = true)
 | [], R, i, j => by simp
 | x :: l, R, i, j => by
  rw [List.foldl_cons, fold_at1 hf l, hf R x i j, Bool.or_eq_true]
  simp only [List.mem_cons, exists_eq_or_imp, or_assoc]
theorem fold_or {α : Type} {f : Rl → α → Rl} (hf : ∀ R x i j, f R x i j = (R i j || f (fun _ _ => false) x i j)) (l : List α) (R : Rl) (i j : Nat) : l.foldl f R i j = (R i j || l.foldl f (fun _ _ => false) i j) := by
 rw [Bool.eq_iff_iff, Bool.or_eq_true, fold_at1 hf, fold_at1 hf]
 simp
theorem leadP_at (nul : List Bool) (R : Rl) (p : ProdD) (i j : Nat) : leadP sh nul R p i j = (R i j || leadP sh nul (fun _ _ => false) p i j) := fold_or (fun R k i j => lead1_at nul p R k i j) _ R i j
theorem lead_same (e : Sam g h) (nul : List Bool) : lead0 sh nul h = lead0 sh nul g := by
 funext i j
 rw [Bool.eq_iff_iff]
 unfold lead0
 rw [fold_at1 (fun R p i j => leadP_at nul R p i j), fold_at1 (fun R p i j => leadP_at nul R p i j)]
 simp only [e.prods]
theorem circ_same (e : Sam g h) : circOf h sh = circOf g sh := by unfold circOf; rw [e.sorts, lead_same e]
theorem sample2 (hg : GramOk g) (hv : GramV g) (hk : ShK g sh) (h45 : F45 g = some (.k1 g.sorts g.prods g.start g.forbid g.follow sh (nulOf sh))) {i : Nat} (hi : i < g.sorts.length) (hb : shAt sh (i : Int) ≤ 1048576) (h : 0 ≤ shAt sh (i : Int)) :
  ∃ t m', F14 g (i : Int) = some (.k0 t 0) ∧ mfind (i : Int) m' = some t ∧ InvM g.sorts.length sh m' ∧ (∀ p ∈ g.prods, (updM sh (i : Int) m' p).1 = false) ∧ ∀ Q : Mp → Prop, (∀ m p, p ∈ g.prods → InvM g.sorts.length sh m → Q m → Q (updM sh (i : Int) m p).2) → Q [] → Q m' := by
 have hs := hk.ok
 have hl := hs.len
 have hgi : getI sh (i : Int) = some (shAt sh (i : Int)) := by
  have : sh[i]? = some (sh[i]'(by omega)) := geg _
  rw [getI_nat]
  unfold shAt
  rw [Int.toNat_natCast, this]; rfl
 obtain ⟨m', k1, k2, k3, k4⟩ := fixM (a := (i : Int)) hg hv rfl hs ⟨show (0 : Int) ≤ (i : Int) by omega, show (i : Int) < (g.sorts.length : Int) by omega⟩ hb (muM g.sorts.length sh [] + 1) [] (by omega) inv0
 obtain ⟨t, ht⟩ := best_all hv hk hb k3 i hi h (by omega)
 refine ⟨t, m', ?_, ht, k1, k3, k4⟩
 have hgt : ∀ z, mget z m' (i : Int) = t := fun z => by unfold mget; rw [ht]; rfl
 have k1' : runL (fun s => L46_1_2 (⟨g.sorts, g.prods, g.start, g.forbid, g.follow⟩ : GramD) sh (i : Int) s) [] = some (.k0 m') := k2
 have k2' : runL (fun s => L46_2_4 (⟨g.sorts, g.prods, g.start, g.forbid, g.follow⟩ : GramD) sh (i : Int)) () = some (E_L46_2_4.k0 m') := runL_done (by simp only [L46_2_4, k1', bsm])
 unfold F14
 rw [h45]
 simp only [bsm, decide_eq_false (show ¬ (i : Int) < 0 by omega), decide_eq_false (show ¬ (i : Int) ≥ (g.sorts.length : Int) by omega), cond_false, hgi, decide_eq_false (show ¬ shAt sh (i : Int) < 0 by omega), decide_eq_false (show ¬ shAt sh (i : Int) > 1048576 by omega), F46_2, k2', hgt]
theorem leM_nil (n : Nat) (m' : Mp) : leM n m' [] := fun i t _ _ h => by simp [mfind] at h
theorem sample_same (e : Sam g h) (hg : GramOk g) (hh : GramOk h) (hv : GramV g) (hw : GramV h) (hk : ShK g sh) (hk' : ShK h sh)
  (h45 : F45 g = some (.k1 g.sorts g.prods g.start g.forbid g.follow sh (nulOf sh))) (h45' : F45 h = some (.k1 h.sorts h.prods h.start h.forbid h.follow sh (nulOf sh))) {i : Nat} (hi : i < g.sorts.length) (hb : shAt sh (i : Int) ≤ 1048576) (h0 : 0 ≤ shAt sh (i : Int)) :
  ∃ t, F14 g (i : Int) = some (.k0 t 0) ∧ F14 h (i : Int) = some (.k0 t 0) := by
 obtain ⟨t, m, a1, a2, a3, a4, a5⟩ := sample2 hg hv hk h45 hi hb h0
 obtain ⟨u, m', b1, b2, b3, b4, b5⟩ := sample2 hh hw hk' h45' (by rw [e.sorts]; exact hi) hb h0
 have hn : h.sorts.length = g.sorts.length := by rw [e.sorts]
 rw [hn] at b3
 have c1 := a5 (leM g.sorts.length m') (fun q p hp hq hle => leM_upd hv rfl hk.ok hb b3 (fun p hp => b4 p ((e.prods p).2 hp)) hp hq hle) (leM_nil _ _)
 have c2 := b5 (leM g.sorts.length m) (fun q p hp hq hle => leM_upd hw hn.symm hk.ok hb a3 (fun p hp => a4 p ((e.prods p).1 hp)) hp (by rw [hn] at hq; exact hq) hle) (leM_nil _ _)
 obtain ⟨u', d1, d2⟩ := c1 (i : Int) t (by omega) (by omega) a2
 obtain ⟨t', f1, f2⟩ := c2 (i : Int) u (by omega) (by omega) b2
 rw [b2] at d1
 rw [a2] at f1
 rw [← Option.some.inj d1] at d2
 rw [← Option.some.inj f1] at f2
 have s1 := a3.size (i : Int) t (by omega) (by omega) a2
 have s2 := b3.size (i : Int) u (by omega) (by omega) b2
 have := val_eq (x := t) (y := u) (by omega) (by omega)
 exact ⟨t, a1, by rw [this]; exact b1⟩
end
def dbl : List ProdD → List ProdD
 | [] => []
 | p :: l => p :: p :: dbl l
theorem dbl_mem {q : ProdD} : ∀ (l : List ProdD), q ∈ dbl l ↔ q ∈ l
 | [] => by simp [dbl]
 | p :: l => by simp only [dbl, List.mem_cons, dbl_mem l]; exact ⟨fun h => h.elim .inl id, fun h => h.elim .inl (fun h => .inr (.inr h))⟩
theorem dbl_len : ∀ (l : List ProdD), (dbl l).length = 2 * l.length
 | [] => rfl
 | p :: l => by simp only [dbl, List.length_cons, dbl_len l]; omega
theorem splice_two {α : Type} {l : List α} {n : Nat} {x y : α} (h : n + 2 ≤ l.length) : (splice l n [x, y]).take (n + 2) = l.take n ++ [x, y] ∧ (splice l n [x, y]).length = l.length := by
 unfold splice
 refine ⟨?_, by simp; omega⟩
 have : (l.take n ++ [x, y]).length = n + 2 := by simp; omega
 rw [← this, List.take_left]
theorem l7_1 (g : GramD) : ∀ (k gen len : Nat) (l : List ProdD), k ≤ g.prods.length → len ≤ l.length → len + 2 * k ≤ 200 →
  ∃ gen' len' l', runL (fun s => L7_1 g s.1 s.2.1 s.2.2.1 s.2.2.2) ((k : Int) - 1, gen, len, l) = some (.k0 gen' len' l') ∧ len' ≤ l'.length ∧ l'.take len' = l.take len ++ dbl (g.prods.take k).reverse
 | 0, gen, len, l, _, hl, _ => ⟨gen, len, l, runL_done (by simp [L7_1]), hl, by simp [dbl]⟩
 | k + 1, gen, len, l, hk, hl, hb => by
  have hx : g.prods[k]? = some (g.prods[k]'(by omega)) := geg _
  have ht : g.prods.take (k + 1) = g.prods.take k ++ [g.prods[k]'(by omega)] := by rw [List.take_add_one, hx]; rfl
  generalize g.prods[k]'(by omega) = x at hx ht
  have e1 : ((k + 1 : Nat) : Int) - 1 = (k : Int) := by omega
  have e2 : IntKind.wrap .i64 ((k : Int) - 1) = (k : Int) - 1 := w_id (by omega)
  have hap : apOk len 2 l.length 72 = true := decide_eq_true ⟨hl, by unfold limit47; omega, by unfold limit47; omega⟩
  have hd : decide ((k : Int) ≥ 0) = true := decide_eq_true (by omega)
  have hr : dbl (g.prods.take (k + 1)).reverse = [x, x] ++ dbl (g.prods.take k).reverse := by rw [ht, List.reverse_append]; rfl
  rw [e1, hr]
  by_cases hc : len + 2 ≤ l.length
  ·obtain ⟨s1, s2⟩ := splice_two (x := x) (y := x) hc
   rw [runL_next (s' := ((k : Int) - 1, gen, len + 2, splice l len [x, x])) (by simp only [L7_1, hd, cond_true, getI_nat, hx, bsm, hap, decide_eq_true hc, e2])]
   obtain ⟨g', n', l', r1, r2, r3⟩ := l7_1 g k gen (len + 2) (splice l len [x, x]) (by omega) (by omega) (by omega)
   exact ⟨g', n', l', r1, r2, by rw [r3, s1, List.append_assoc]⟩
  ·have hlen : (l.take len ++ [x, x]).length = len + 2 := by simp; omega
   rw [runL_next (s' := ((k : Int) - 1, gen + 1, len + 2, l.take len ++ [x, x])) (by simp only [L7_1, hd, cond_true, getI_nat, hx, bsm, hap, decide_eq_false hc, cond_false, e2])]
   obtain ⟨g', n', l', r1, r2, r3⟩ := l7_1 g k (gen + 1) (len + 2) (l.take len ++ [x, x]) (by omega) (by omega) (by omega)
   refine ⟨g', n', l', r1, r2, ?_⟩
   rw [r3, tol (by omega), List.append_assoc]
theorem set_self (y : SetD) : (!((y.a == y.a) && ((y.b == y.b) && ((y.c == y.c) && ((y.d == y.d) && true))))) = false := by simp
theorem int_self (n : Int) : (n != n) = false := by simp
theorem bool_self (b : Bool) : (!((b == b) && true)) = false := by simp
theorem chk_same {g h : GramD} (e : Sam g h) (hf : g.follow = h.follow) (h1 : g.forbid = []) (h2 : h.forbid = []) (hc : chkB g = true) : chkB h = true := by
 obtain ⟨gs, gp, gst, gf, gw⟩ := g
 obtain ⟨hs, hp, hst, hfo, hw⟩ := h
 obtain ⟨e1, e2, e3⟩ := e
 simp only at e1 e2 e3 hf h1 h2
 subst e1 e2 hf h1 h2
 unfold chkB at hc ⊢
 simp only [aet] at hc ⊢
 obtain ⟨⟨⟨c1, c2⟩, c3⟩, c4⟩ := hc
 refine ⟨⟨⟨c1, ?_⟩, c3⟩, c4⟩
 unfold okProds at c2 ⊢
 rw [allF_iff] at c2 ⊢
 intro i p hi
 obtain ⟨j, hj⟩ := List.getElem?_of_mem ((e3 p).1 (mog hi))
 exact c2 j p hj
theorem law7 {g : GramD} (h : ArgOk g) : F7 g = some true := by
 have h0 : ArgOk (⟨g.sorts, g.prods, g.start, [], g.follow⟩ : GramD) := ⟨h.left, h.role, h.sym, h.foll, fun f hf => by cases hf⟩
 obtain ⟨v, h10, hv⟩ := q10 h0
 unfold F7
 rw [h10]
 simp only [bsm]
 cases v with
 | true => rfl
 | false =>
  have hg := hv rfl
  simp only [cond_false]
  by_cases h40 : (g.prods.length : Int) > 40
  ·rw [decide_eq_true h40]; rfl
  rw [decide_eq_false h40, q29 hg]
  simp only [cond_false, bsm, F15]
  cases hc : chkB (⟨g.sorts, g.prods, g.start, [], g.follow⟩ : GramD) with
  | false =>
   have hcn : chkN (⟨g.sorts, g.prods, g.start, [], g.follow⟩ : GramD) = 160 := by unfold chkN; rw [hc]; rfl
   rw [hcn]
   rfl
  | true =>
   have hcn : chkN (⟨g.sorts, g.prods, g.start, [], g.follow⟩ : GramD) = 0 := by unfold chkN; rw [hc]; rfl
   have h00 : ((0 : Int) != 0) = false := rfl
   obtain ⟨gen, len, l, r1, r2, r3⟩ := l7_1 g g.prods.length 0 0 [] (Nat.le_refl _) (Nat.le_refl _) (by omega)
   have ew : IntKind.wrap .i64 ((g.prods.length : Int) - 1) = (g.prods.length : Int) - 1 := w_id (by omega)
   rw [List.take_length] at r3
   simp only [List.take_zero, List.nil_append] at r3
   rw [hcn, ew]
   simp only [h00, cond_false, r1, bsm, decide_eq_true r2, cond_true]
   rw [r3]
   have hmem : ∀ p, p ∈ dbl g.prods.reverse ↔ p ∈ g.prods := fun p => by rw [dbl_mem, List.mem_reverse]
   have hdl : (dbl g.prods.reverse).length = 2 * g.prods.length := by rw [dbl_len, List.length_reverse]
   generalize dbl g.prods.reverse = H at hmem hdl
   clear r1 r2 r3
   have hh : GramOk (⟨g.sorts, H, g.start, [], g.follow⟩ : GramD) := ⟨hg.sorts, by show H.length ≤ 80; omega, hg.forbid, hg.follow, fun p hp => hg.prod p ((hmem p).1 hp), hg.foll, hg.forb⟩
   have eS : Sam (⟨g.sorts, g.prods, g.start, [], g.follow⟩ : GramD) (⟨g.sorts, H, g.start, [], g.follow⟩ : GramD) := ⟨rfl, rfl, hmem⟩
   have hc' : chkB (⟨g.sorts, H, g.start, [], g.follow⟩ : GramD) = true := chk_same eS rfl rfl rfl hc
   obtain ⟨sh, hs, h16, h45, f1, f2⟩ := shortest hg hc
   obtain ⟨sh', hs', h16', h45', f1', f2'⟩ := shortest hh hc'
   have hv1 := val_of hc
   have hv2 := val_of hc'
   have hk : ShK (⟨g.sorts, g.prods, g.start, [], g.follow⟩ : GramD) sh := ⟨hs, f1, f2⟩
   have hk' : ShK (⟨g.sorts, H, g.start, [], g.follow⟩ : GramD) sh' := ⟨hs', f1', f2'⟩
   have esh := sh_same eS hv1 hv2 hk hk'
   subst esh
   have n40 : g.sorts.length ≤ 40 := hg.sorts
   have hl : sh.length = g.sorts.length := hs.len
   have eF := first_same (sh := sh) eS hv1 hv2
   have eB := behA_same (sh := sh) eS hv1 hv2
   have eC := circ_same (sh := sh) eS
   have s1 := q61 hg hv1 hs
   have s2 := q61 hh hv2 hs'
   have s3 := q62 hg hv1 hs
   have s4 := q62 hh hv2 hs'
   have s5 := circular hg hc hk h45
   have s6 := circular hh hc' hk' h45'
   rw [eF] at s2
   rw [eB] at s4
   rw [eC] at s6
   have lF := first_len sh (⟨g.sorts, g.prods, g.start, [], g.follow⟩ : GramD)
   have lB := (behA_len (g := (⟨g.sorts, g.prods, g.start, [], g.follow⟩ : GramD)) (sh := sh)).1
   have lC : (circOf (⟨g.sorts, g.prods, g.start, [], g.follow⟩ : GramD) sh).length = g.sorts.length := by simp [circOf]
   have smp := fun (i : Nat) (hi : i < g.sorts.length) => sample_same eS hg hh hv1 hv2 hk hk' h45 h45' hi
   generalize firstOf sh (⟨g.sorts, g.prods, g.start, [], g.follow⟩ : GramD) = fi at s1 s2 lF
   generalize behindA sh (⟨g.sorts, g.prods, g.start, [], g.follow⟩ : GramD) = W at s3 s4 lB
   generalize circOf (⟨g.sorts, g.prods, g.start, [], g.follow⟩ : GramD) sh = ci at s5 s6 lC
   have a1 : F30 (⟨g.sorts, g.prods, g.start, [], g.follow⟩ : GramD) = some (.k0 (fi.map sd) 0) := by unfold F30; simp only [h45, bsm, s1]
   have a2 : F30 (⟨g.sorts, H, g.start, [], g.follow⟩ : GramD) = some (.k0 (fi.map sd) 0) := by unfold F30; simp only [h45', bsm, s2]
   have a3 : F32 (⟨g.sorts, g.prods, g.start, [], g.follow⟩ : GramD) = some (.k0 (W.1.map sd) 0) := by unfold F32; simp only [h45, bsm, s3]
   have a4 : F32 (⟨g.sorts, H, g.start, [], g.follow⟩ : GramD) = some (.k0 (W.1.map sd) 0) := by unfold F32; simp only [h45', bsm, s4]
   have a5 : F13 (⟨g.sorts, g.prods, g.start, [], g.follow⟩ : GramD) = some (.k0 sh 0) := by unfold F13; simp only [h45, bsm]
   have a6 : F13 (⟨g.sorts, H, g.start, [], g.follow⟩ : GramD) = some (.k0 sh 0) := by unfold F13; simp only [h45', bsm]
   have hsum : ((IntKind.wrap .i64 ((IntKind.wrap .i64 ((IntKind.wrap .i64 ((IntKind.wrap .i64 ((IntKind.wrap .i64 ((IntKind.wrap .i64 ((IntKind.wrap .i64 ((0 : Int) + 0)) + 0)) + 0)) + 0)) + 0)) + 0)) + 0)) != 0) = false := by decide
   have m1 : (fi.map sd).length = g.sorts.length := by rw [List.length_map]; exact lF
   have m2 : (W.1.map sd).length = g.sorts.length := by rw [List.length_map]; exact lB
   have hw0 : IntKind.wrap .i64 ((0 : Int) + 0) = 0 := by decide
   have key := loop_list (step := fun s => L7_0 (fi.map sd) (fi.map sd) (W.1.map sd) (W.1.map sd) sh sh ci ci g H s) (l := fi.map sd) (fun _ _ => true) (bad := E_L7_0.k0) (fin := .k1) (fun i x hx => by
    have hi : i < g.sorts.length := by rw [← m1]; exact (gei.1 hx).1
    have hy : (W.1.map sd)[i]? = some ((W.1.map sd)[i]'(by omega)) := geg _
    have hz : sh[i]? = some (sh[i]'(by omega)) := geg _
    have hu : ci[i]? = some (ci[i]'(by omega)) := geg _
    generalize (W.1.map sd)[i]'(by omega) = y at hy
    generalize sh[i]'(by omega) = z at hz
    generalize ci[i]'(by omega) = u at hu
    have hsa : shAt sh (i : Int) = z := by unfold shAt; rw [Int.toNat_natCast, hz]; rfl
    have sm := smp i hi
    rw [hsa] at sm
    have hwS := w_S (show i < 4611686018427387904 by omega)
    by_cases z0 : z ≥ 0
    ·by_cases z1 : z ≤ 2000
     ·obtain ⟨t, t1, t2⟩ := sm (by omega) z0
      simp only [L7_0, decide_eq_true (show (i : Int) < ((fi.map sd).length : Int) by omega), cond_true, cond_false, getI_nat, hx, hy, hz, hu, bsm, set_self, int_self, bool_self, decide_eq_true z0, decide_eq_true z1, t1, t2, beq_self_eq_true, Bool.and_self, Bool.not_true, F15, hw0, h00, hwS]
     ·simp only [L7_0, decide_eq_true (show (i : Int) < ((fi.map sd).length : Int) by omega), cond_true, cond_false, getI_nat, hx, hy, hz, hu, bsm, set_self, int_self, bool_self, decide_eq_true z0, decide_eq_false z1, hwS]
    ·simp only [L7_0, decide_eq_true (show (i : Int) < ((fi.map sd).length : Int) by omega), cond_true, cond_false, getI_nat, hx, hy, hz, hu, bsm, set_self, int_self, bool_self, decide_eq_false z0, hwS]) (by simp [L7_0])
   have ht : allF (fun (_ : Nat) (_ : SetD) => true) 0 (fi.map sd) = true := (allF_iff _ _).2 (fun _ _ _ => rfl)
   rw [ht] at key
   simp only [a1, a2, a3, a4, a5, a6, s5, s6, bsm, hsum, cond_false, m1, m2, hl, lC, int_self, key, cond_true, F11]
end Go.Proofs.Tryd
