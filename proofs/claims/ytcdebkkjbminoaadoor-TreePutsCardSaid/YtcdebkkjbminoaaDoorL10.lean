/- TreePuts: what is put; where a byte stands. Plain data alone. -/
import Derived.Test.YtcdebkkjbminoaaDoorH105
open Option renaming some.injEq → oiq, map_eq_some_iff → mei, bind_some → bsm, bind_eq_some_iff → bei
open Prod renaming mk.injEq → piq
open List renaming getElem?_eq_some_iff → gei
namespace Go.Proofs.Tryd
set_option linter.unusedSimpArgs false
set_option linter.unusedVariables false
open Go Go.Vs
theorem fol_snoc : ∀ {p : List Int} {t u k : TreeD} {f i : Nat}, fol t p = some (u, f) → u.kids[i]? = some k → fol t (p ++ [(i : Int)]) = some (k, f + byts (u.kids.take i))
 | [], t, u, k, f, i, h, hk => by
  simp only [fol, oiq, piq] at h
  obtain ⟨rfl, rfl⟩ := h
  have hi := (gei.1 hk).1
  rw [List.nil_append, fol, if_pos ⟨by omega, by omega⟩, Int.toNat_natCast, hk]
  simp [fol]
 | q :: p, t, u, k, f, i, h, hk => by
  rw [List.cons_append, fol]
  rw [fol] at h
  split at h
  ·rename_i hq
   rw [if_pos hq]
   obtain ⟨y, hy, h⟩ := bei.1 h
   obtain ⟨⟨w, g⟩, hw, he⟩ := mei.1 h
   simp only [piq] at he
   obtain ⟨rfl, rfl⟩ := he
   rw [hy, bsm, fol_snoc hw hk]
   simp [Nat.add_assoc]
  ·cases h
theorem fol_good : ∀ {p : List Int} {t u : TreeD} {f : Nat}, fol t p = some (u, f) → badT t = false → badT u = false
 | [], t, u, f, h, hb => by
  simp only [fol, oiq, piq] at h
  obtain ⟨rfl, rfl⟩ := h
  exact hb
 | q :: p, t, u, f, h, hb => by
  rw [fol] at h
  split at h
  ·obtain ⟨y, hy, h⟩ := bei.1 h
   obtain ⟨⟨w, g⟩, hw, he⟩ := mei.1 h
   simp only [piq] at he
   obtain ⟨rfl, rfl⟩ := he
   exact fol_good hw (good_kid hb (List.mem_of_getElem? hy))
  ·cases h
def own1 (t : TreeD) : Nat := if t.prod < 0 then 1 else 0
theorem byt_own {t : TreeD} (h : badT t = false) : byt t = own1 t + byts t.kids ∧ (t.prod < 0 → byt t = 1 ∧ t.kids = []) := by
 refine ⟨byt_eq t, fun hp => ?_⟩
 rcases good_top h with ⟨_, h2⟩ | ⟨h1, _⟩
 ·rw [byt_eq, if_pos hp, h2]; exact ⟨rfl, rfl⟩
 ·omega
theorem fol_len : ∀ {p : List Int} {t u : TreeD} {f : Nat}, fol t p = some (u, f) → p.length + tc u ≤ tc t
 | [], t, u, f, h => by
  simp only [fol, oiq, piq] at h
  rw [h.1]; simp
 | q :: p, t, u, f, h => by
  rw [fol] at h
  split at h
  ·obtain ⟨y, hy, h⟩ := bei.1 h
   obtain ⟨⟨w, g⟩, hw, he⟩ := mei.1 h
   simp only [piq] at he
   obtain ⟨rfl, rfl⟩ := he
   have := fol_len hw
   have := tkid hy
   simp only [List.length_cons]
   omega
  ·cases h
theorem fol_cons {t u : TreeD} {q : Int} {p : List Int} {f : Nat} (h : fol t (q :: p) = some (u, f)) : ∃ k g, (0 ≤ q ∧ q < (t.kids.length : Int)) ∧ t.kids[q.toNat]? = some k ∧ fol k p = some (u, g) ∧ f = byts (t.kids.take q.toNat) + g := by
 rw [fol] at h
 split at h
 ·rename_i hq
  obtain ⟨y, hy, h⟩ := bei.1 h
  obtain ⟨⟨w, g⟩, hw, he⟩ := mei.1 h
  simp only [piq] at he
  obtain ⟨rfl, rfl⟩ := he
  exact ⟨y, g, hq, hy, hw, rfl⟩
 ·cases h
theorem putT_cons {t k x : TreeD} {q : Int} {p : List Int} (hk : t.kids[q.toNat]? = some k) : putT t x (q :: p) = .mk t.prod t.byte (t.kids.set q.toNat (putT k x p)) := by
 rw [putT, hk]
theorem take_set_i {α : Type} {l : List α} {i : Nat} {x : α} : (l.set i x).take i = l.take i := by
 apply List.ext_getElem?
 intro j
 rw [List.getElem?_take, List.getElem?_take]
 split
 ·rw [List.getElem?_set_ne (by omega)]
 ·rfl
theorem fol_put {x : TreeD} : ∀ {p : List Int} {t u : TreeD} {f : Nat}, fol t p = some (u, f) → fol (putT t x p) p = some (x, f)
 | [], t, u, f, h => by
  simp only [fol, oiq, piq] at h
  simp only [putT, fol, h.2]
 | q :: p, t, u, f, h => by
  obtain ⟨k, g, hq, hk, hw, rfl⟩ := fol_cons h
  have hi := (gei.1 hk).1
  have e : (TreeD.mk t.prod t.byte (t.kids.set q.toNat (putT k x p))).kids = t.kids.set q.toNat (putT k x p) := rfl
  rw [putT_cons hk, fol, e, List.length_set, if_pos hq, List.getElem?_set_self hi, bsm, fol_put hw, take_set_i]
  rfl
theorem put_put {x : TreeD} : ∀ {p : List Int} {t u : TreeD} {f : Nat}, fol t p = some (u, f) → putT (putT t x p) u p = t
 | [], t, u, f, h => by
  simp only [fol, oiq, piq] at h
  simp only [putT, h.1]
 | q :: p, t, u, f, h => by
  obtain ⟨k, g, hq, hk, hw, rfl⟩ := fol_cons h
  have hi := (gei.1 hk).1
  have e2 := putT_cons (t := TreeD.mk t.prod t.byte (t.kids.set q.toNat (putT k x p))) (k := putT k x p) (q := q) (p := p) (x := u) (List.getElem?_set_self hi)
  rw [putT_cons hk, e2, put_put hw]
  show TreeD.mk t.prod t.byte ((t.kids.set q.toNat (putT k x p)).set q.toNat k) = t
  rw [List.set_set, set_same hk, t_eta]
theorem tcs_set {y k : TreeD} : ∀ {l : List TreeD} {i : Nat}, l[i]? = some k → tcs (l.set i y) + tc k = tcs l + tc y
 | [], i, h => by simp at h
 | a :: l, 0, h => by
  simp only [List.getElem?_cons_zero, oiq] at h
  subst h
  simp only [List.set_cons_zero, tcs]
  omega
 | a :: l, i + 1, h => by
  simp only [List.getElem?_cons_succ] at h
  have := tcs_set (y := y) h
  simp only [List.set_cons_succ, tcs]
  omega
theorem put_tc {x : TreeD} : ∀ {p : List Int} {t : TreeD}, tc (putT t x p) ≤ tc t + tc x
 | [], t => by simp only [putT]; omega
 | q :: p, t => by
  cases hk : t.kids[q.toNat]? with
  | none => rw [putT, hk]; simp
  | some k =>
   rw [putT_cons hk, tc_eq, tc_eq t]
   have h1 := tcs_set (y := putT k x p) hk
   have h2 := put_tc (x := x) (p := p) (t := k)
   show 1 + tcs (t.kids.set q.toNat (putT k x p)) ≤ _
   omega
theorem put_bad {x : TreeD} (hx : badT x = false) : ∀ {p : List Int} {t : TreeD}, badT t = false → badT (putT t x p) = false
 | [], t, h => by simpa only [putT] using hx
 | q :: p, t, h => by
  cases hk : t.kids[q.toNat]? with
  | none => rw [putT, hk]; exact h
  | some k =>
   have hkb := good_kid h (List.mem_of_getElem? hk)
   rw [putT_cons hk, badT_eq]
   have h2 := put_bad hx (p := p) hkb
   rw [badT_eq, Bool.or_eq_false_iff] at h
   have e1 : bad1 (.mk t.prod t.byte (t.kids.set q.toNat (putT k x p))) = bad1 t := by
    unfold bad1
    simp only [TreeD.prod, TreeD.byte, TreeD.kids, List.length_set]
    cases t
    rfl
   rw [e1, h.1, Bool.false_or]
   show badTs (t.kids.set q.toNat (putT k x p)) = false
   rw [badTs_any] at h ⊢
   rw [List.any_eq_false] at h ⊢
   intro y hy
   rcases List.mem_or_eq_of_mem_set hy with hy | rfl
   ·exact h.2 y hy
   ·simpa using h2
theorem ap8 {len k n : Nat} (h : len ≤ n) (hb : len + k ≤ 100000) : apOk len k n 8 = true := decide_eq_true ⟨h, by unfold limit47; omega, by unfold limit47; omega⟩
theorem l34 {Nf : Nat} {l : List TreeD} (hl : tcs l ≤ 4000) (hn : 4000 < Nf) (gen len : Nat) (row : List Int) (hlen : len ≤ row.length) (hlb : len ≤ 5000) (A : Nat) (hA : A < byts l) : ∀ (m i : Nat), i + m = l.length → byts (l.take i) ≤ A →
  ∃ j k, l[j]? = some k ∧ byts (l.take j) ≤ A ∧ A < byts (l.take j) + byt k ∧
   ((k.prod < 0 ∧ runL (fun s => L34_0_3 Nf gen len l (l.length : Int) row s.1 s.2) (((A - byts (l.take i) : Nat) : Int), (i : Int)) = some (.k0 ((A - byts (l.take j) : Nat) : Int) k.prod k.byte k.kids)) ∨
     (0 ≤ k.prod ∧ ∃ gen' row', row'.take (len + 1) = row.take len ++ [(j : Int)] ∧ len + 1 ≤ row'.length ∧ runL (fun s => L34_0_3 Nf gen len l (l.length : Int) row s.1 s.2) (((A - byts (l.take i) : Nat) : Int), (i : Int)) = some (.k1 ((A - byts (l.take j) : Nat) : Int) gen' k.prod k.byte k.kids row' (j : Int))))
 | 0, i, hi, hle => by
  obtain rfl : i = l.length := by omega
  rw [List.take_length] at hle
  omega
 | m + 1, i, hi, hle => by
  have hx : l[i]? = some l[i] := List.getElem?_eq_getElem (by omega)
  generalize l[i] = x at hx
  have h2 := byts_take hx
  have hm := tcs_mem (List.mem_of_getElem? hx)
  have h5 := (byts_le l).1
  have hll := tcs_len l
  have e47 := q47 Nf x (by omega) (by omega)
  by_cases hb : byt x ≤ A - byts (l.take i)
  ·obtain ⟨j, k, c1, c2, c3, c4⟩ := l34 hl hn gen len row hlen hlb A hA m (i + 1) (by omega) (by omega)
   refine ⟨j, k, c1, c2, c3, ?_⟩
   have st : runL (fun s => L34_0_3 Nf gen len l (l.length : Int) row s.1 s.2) (((A - byts (l.take i) : Nat) : Int), (i : Int)) = runL (fun s => L34_0_3 Nf gen len l (l.length : Int) row s.1 s.2) (((A - byts (l.take (i + 1)) : Nat) : Int), ((i + 1 : Nat) : Int)) := by
    refine runL_next ?_
    have hw : IntKind.wrap .i64 (((A - byts (l.take i) : Nat) : Int) - (byt x : Int)) = ((A - byts (l.take (i + 1)) : Nat) : Int) := by
     rw [w_id (by omega), h2, ← Nat.sub_sub, Int.ofNat_sub hb]
    simp only [L34_0_3, decide_eq_true (show (i : Int) < (l.length : Int) by omega), cond_true, getI_nat, hx, bsm, e47, decide_eq_true (show ((A - byts (l.take i) : Nat) : Int) ≥ (byt x : Int) by omega), hw]
    rw [w_S (by omega)]
   rw [st]
   exact c4
  ·refine ⟨i, x, hx, hle, by omega, ?_⟩
   by_cases hp : x.prod < 0
   ·refine .inl ⟨hp, runL_done ?_⟩
    simp only [L34_0_3, decide_eq_true (show (i : Int) < (l.length : Int) by omega), cond_true, getI_nat, hx, bsm, e47, decide_eq_false (show ¬ ((A - byts (l.take i) : Nat) : Int) ≥ (byt x : Int) by omega), cond_false, decide_eq_true hp]
   ·refine .inr ⟨by omega, ?_⟩
    by_cases hr : len + 1 ≤ row.length
    ·have hs := splice_app (l := row) (y := [(i : Int)]) (n := len) hr
     refine ⟨gen, splice row len [(i : Int)], hs.1, by rw [hs.2]; exact hr, runL_done ?_⟩
     simp only [L34_0_3, decide_eq_true (show (i : Int) < (l.length : Int) by omega), cond_true, getI_nat, hx, bsm, e47, decide_eq_false (show ¬ ((A - byts (l.take i) : Nat) : Int) ≥ (byt x : Int) by omega), cond_false, decide_eq_false hp, ap8 hlen (show len + 1 ≤ 100000 by omega), decide_eq_true hr]
    ·refine ⟨gen + 1, row.take len ++ [(i : Int)], ?_, by simp; omega, runL_done ?_⟩
     ·rw [List.take_of_length_le (by rw [List.length_append, List.length_take, List.length_singleton]; omega)]
     ·simp only [L34_0_3, decide_eq_true (show (i : Int) < (l.length : Int) by omega), cond_true, getI_nat, hx, bsm, e47, decide_eq_false (show ¬ ((A - byts (l.take i) : Nat) : Int) ≥ (byt x : Int) by omega), cond_false, decide_eq_false hp, ap8 hlen (show len + 1 ≤ 100000 by omega), decide_eq_false hr]
theorem l341 {Nf : Nat} (hn : 4000 < Nf) {t : TreeD} (ht : tc t ≤ 2000) : ∀ (N : Nat) (u : TreeD) (g A gen len : Nat) (row : List Int), tc u ≤ N → fol t (row.take len) = some (u, g) → len ≤ row.length → 0 ≤ u.prod → A < byt u →
  ∃ x0 gen' len' p' b' ks' row' x7 x8 x9, runL (fun s => L34_1 Nf s.1 s.2.1 s.2.2.1 s.2.2.2.1 s.2.2.2.2.1 s.2.2.2.2.2.1 s.2.2.2.2.2.2) ((A : Int), gen, len, u.prod, u.byte, u.kids, row) = some (.k0 x0 gen' len' p' b' ks' row' x7 x8 x9) ∧ len' ≤ row'.length ∧
   ∃ y g', fol t (row'.take len') = some (y, g') ∧ 0 ≤ y.prod ∧ g' ≤ g + A ∧ g + A < g' + byt y
 | 0, u, g, A, gen, len, row, h, _, _, _, _ => by have := tc_pos u; omega
 | N + 1, u, g, A, gen, len, row, h, hf, hlen, hp, hA => by
  have htu := fol_len hf
  rw [List.length_take, Nat.min_eq_left hlen] at htu
  have htc := tc_eq u
  have hby := byt_eq u
  rw [if_neg (by omega), Nat.zero_add] at hby
  obtain ⟨j, k, c1, c2, c3, c4⟩ := l34 (Nf := Nf) (l := u.kids) (by omega) hn gen len row hlen (by omega) A (by omega) u.kids.length 0 (by omega) (Nat.zero_le _)
  have hk := tkid c1
  simp only [List.take_zero, byts, Nat.sub_zero] at c4
  rcases c4 with ⟨hkp, hr⟩ | ⟨hkp, gen', row', d1, d2, hr⟩
  ·refine ⟨((A - byts (u.kids.take j) : Nat) : Int), gen, len, u.prod, u.byte, u.kids, row, k.prod, k.byte, k.kids, runL_done ?_, hlen, u, g, hf, hp, by omega, by omega⟩
   simp only [L34_1]
   rw [show ((0 : Int)) = ((0 : Nat) : Int) from rfl, hr]
   rfl
  ·have hf2 := fol_snoc hf c1
   rw [← d1] at hf2
   obtain ⟨x0, g3, l3, p3, b3, k3, r3, x7, x8, x9, e1, e2, y, g4, e3, e4, e5, e6⟩ := l341 hn ht N k _ (A - byts (u.kids.take j)) gen' (len + 1) row' (by omega) hf2 d2 hkp (by omega)
   refine ⟨x0, g3, l3, p3, b3, k3, r3, x7, x8, x9, (runL_next ?_).trans e1, e2, y, g4, e3, e4, by omega, by omega⟩
   simp only [L34_1]
   rw [show ((0 : Int)) = ((0 : Nat) : Int) from rfl, hr]
   rfl
theorem q34 {Nf : Nat} (hn : 4000 < Nf) {t : TreeD} (ht : tc t ≤ 2000) (hb : badT t = false) (n : Int) : (∃ e, F34 Nf t n = some (.k0 [] e) ∧ e ≠ 0) ∨
  ∃ l y g, F34 Nf t n = some (.k0 l 0) ∧ fol t l = some (y, g) ∧ (g : Int) ≤ n ∧ n < ((g + byt y : Nat) : Int) ∧ 0 ≤ y.prod := by
 unfold F34
 rw [q23 ht, hb, q47 Nf t (by omega) (by omega)]
 simp only [cond_false, bsm, show ((0 : Int) != 0) = false from rfl]
 by_cases h1 : n < 0
 ·exact .inl ⟨5, by rw [decide_eq_true h1]; rfl, by omega⟩
 by_cases h2 : n ≥ (byt t : Int)
 ·exact .inl ⟨5, by rw [decide_eq_false h1, decide_eq_true h2]; rfl, by omega⟩
 by_cases h3 : t.prod < 0
 ·exact .inl ⟨5, by rw [decide_eq_false h1, decide_eq_false h2, decide_eq_true h3]; rfl, by omega⟩
 obtain ⟨x0, g3, l3, p3, b3, k3, r3, x7, x8, x9, e1, e2, y, g4, e3, e4, e5, e6⟩ := l341 hn ht (tc t) t 0 n.toNat 0 0 [] (Nat.le_refl _) rfl (Nat.le_refl _) (by omega) (by omega)
 rw [show ((n.toNat : Nat) : Int) = n by omega] at e1
 refine .inr ⟨_, y, g4, ?_, e3, by omega, by omega, e4⟩
 rw [decide_eq_false h1, decide_eq_false h2, decide_eq_false h3]
 simp only [cond_false, e1, bsm, decide_eq_true e2, cond_true]
theorem st10 {Nf : Nat} (hn : 4000 < Nf) {t w k : TreeD} (ht : tc t ≤ 2000) (hb : badT t = false) {p : List Int} (hp : p.length ≤ 2000) {g i : Nat} (h : fol t p = some (w, g)) (hk : w.kids[i]? = some k) :
  L10_0 Nf t p w.kids ((g + byts (w.kids.take i) : Nat) : Int) (i : Int) = some (.inr (((g + byts (w.kids.take (i + 1)) : Nat) : Int), IntKind.wrap .i64 ((i : Int) + 1))) := by
 have hi := (gei.1 hk).1
 have q := q32' hn (show tc t ≤ 4000 by omega) hb (show (p ++ [(i : Int)]).length ≤ 100000 by simp; omega) (fol_snoc h hk)
 have e2 := byts_take hk
 have fin : ((F32 Nf t (p ++ [(i : Int)])).bind fun r7 => match r7 with | .k0 x7_0 x7_1 x7_2 => ((F15 x7_2).bind fun x8 => (bif (x8 != 0) then (some (.inl (.k0))) else (bif (x7_0 != ((g + byts (w.kids.take i) : Nat) : Int)) then (some (.inl (.k0))) else (bif (decide (x7_1 < x7_0)) then (some (.inl (.k0))) else (some (.inr (x7_1, (IntKind.wrap .i64 ((i : Int) + 1)))))))))) = (some (.inr (((g + byts (w.kids.take (i + 1)) : Nat) : Int), IntKind.wrap .i64 ((i : Int) + 1))) : Option (E_L10_0 ⊕ (Int × Int))) := by
  rw [q, bsm]
  simp only [show F15 0 = some 0 from rfl, bsm, show ((0 : Int) != 0) = false from rfl, cond_false, bne_self_eq_false]
  rw [decide_eq_false (by omega), cond_false, e2, Nat.add_assoc]
 unfold L10_0
 rw [decide_eq_true (show (i : Int) < (w.kids.length : Int) by omega), cond_true, ap8 (Nat.zero_le _) (by omega), cond_true]
 by_cases hz : p = []
 ·subst hz
  rw [show decide (0 + ([] : List Int).length ≤ ([] : List Int).length) = true from rfl, cond_true, show apOk (0 + ([] : List Int).length) 1 (splice ([] : List Int) 0 []).length 8 = true from ap8 (Nat.le_refl _) (by decide), cond_true,
   show decide ((0 + ([] : List Int).length) + 1 ≤ (splice ([] : List Int) 0 []).length) = false from rfl, cond_false, show decide (((0 + ([] : List Int).length) + 1) ≤ ((splice ([] : List Int) 0 []).take (0 + ([] : List Int).length) ++ [(i : Int)]).length) = true from rfl, cond_true]
  exact fin
 ·have hl : 0 < p.length := List.length_pos_iff.2 hz
  have e1 : ([] : List Int).take 0 ++ p = p := rfl
  have e3 : p.take (0 + p.length) = p := by rw [Nat.zero_add, List.take_length]
  have e4 : (p ++ [(i : Int)]).take (0 + p.length + 1) = p ++ [(i : Int)] := List.take_of_length_le (by simp)
  rw [decide_eq_false (show ¬ (0 + p.length ≤ ([] : List Int).length) by simp; omega), cond_false, e1, ap8 (show 0 + p.length ≤ p.length by omega) (by omega), cond_true, decide_eq_false (show ¬ ((0 + p.length) + 1 ≤ p.length) by omega), cond_false, e3,
   decide_eq_true (show (0 + p.length) + 1 ≤ (p ++ [(i : Int)]).length by simp), cond_true, e4]
  exact fin
theorem l10 {Nf : Nat} (hn : 4000 < Nf) {t w : TreeD} (ht : tc t ≤ 2000) (hb : badT t = false) {p : List Int} (hp : p.length ≤ 2000) {g : Nat} (h : fol t p = some (w, g)) : ∀ (m i : Nat), i + m = w.kids.length →
  runL (fun s => L10_0 Nf t p w.kids s.1 s.2) (((g + byts (w.kids.take i) : Nat) : Int), (i : Int)) = some (.k1 ((g + byts w.kids : Nat) : Int))
 | 0, i, hi => by
  obtain rfl : i = w.kids.length := by omega
  rw [List.take_length]
  refine runL_done ?_
  unfold L10_0
  rw [decide_eq_false (show ¬ ((w.kids.length : Int) < (w.kids.length : Int)) by omega), cond_false]
 | m + 1, i, hi => by
  have hx : w.kids[i]? = some w.kids[i] := List.getElem?_eq_getElem (by omega)
  generalize w.kids[i] = k at hx
  have hw := fol_len h
  have htc := tc_eq w
  have hll := tcs_len w.kids
  have st := st10 hn ht hb hp h hx
  rw [w_S (by omega)] at st
  exact (runL_next st).trans (l10 hn ht hb hp h m (i + 1) (by omega))
theorem q15 (n : Int) (h : n = 0 ∨ n = 5 ∨ n = 240) : F15 n = some n := by rcases h with rfl | rfl | rfl <;> rfl
theorem treePuts [PutC] {t x : TreeD} (p : List Int) (n : Int) : F10 5000 t x p n = some true := by
 have hn : 4000 < 5000 := by omega
 unfold F10
 rw [tmk, tmk, q16 (Nf := 5000) (by omega), bsm]
 by_cases hs : ¬ (tc t ≤ 2000 ∧ tc x ≤ 2000)
 ·rw [decide_eq_false hs, cond_false]; rfl
 obtain ⟨ht, hx⟩ := Decidable.not_not.1 hs
 rw [decide_eq_true ⟨ht, hx⟩, cond_true]
 by_cases hp : (p.length : Int) > 2000
 ·rw [decide_eq_true hp, cond_true]; rfl
 rw [decide_eq_false hp, cond_false, q23 ht, bsm]
 cases hbt : badT t with
 | true => rfl
 | false =>
 rw [cond_false, show F15 0 = some 0 from rfl, bsm, show ((0 : Int) != 0) = false from rfl, cond_false, q23 hx, bsm]
 cases hbx : badT x with
 | true => rfl
 | false =>
 rw [cond_false, show F15 0 = some 0 from rfl, bsm, show ((0 : Int) != 0) = false from rfl, cond_false]
 have hd : ∀ u : TreeD, dep u ≤ tc u := fun u => (byt_le _ u (Nat.le_refl _)).2
 have htp := put_tc (x := x) (p := p) (t := t)
 have hdp := hd (putT t x p)
 have e33 : ∀ (a b : TreeD) (l : List Int), tc a ≤ 4000 → tc b ≤ 4000 → l.length ≤ 2000 → tc (putT a b l) ≤ 5000 → badT a = false → badT b = false → F33 a b l = match fol a l with | some _ => some (.k0 (putT a b l) 0) | none => some (.k0 (.mk 0 0 []) 5) := by
  intro a b l h1 h2 h3 h4 h5 h6
  have := hd (putT a b l)
  unfold F33
  rw [decide_eq_true ⟨h1, h2, h3, by omega, by omega, h5, h6⟩, cond_true]
  cases fol a l <;> rfl
 rw [e33 t x p (by omega) (by omega) (by omega) (by omega) hbt hbx]
 cases hf : fol t p with
 | none =>
  have e31 : F31 5000 t p = some (.k0 0 0 [] 5) := by
   unfold F31
   rw [(q56' hn (show tc t ≤ 4000 by omega) hbt (show p.length ≤ 100000 by omega)).2 hf, bsm]
   simp only
   rw [q57 5000 (.mk 0 0 []) (by simp [tc, tcs]) (by simp [tc, tcs]), bsm]
   rfl
  rw [e31]
  rfl
 | some wg =>
  obtain ⟨w, g⟩ := wg
  have hwt := fol_len hf
  have hbw := fol_good hf hbt
  have e31 := q31' hn (show tc t ≤ 4000 by omega) hbt (show p.length ≤ 100000 by omega) hf
  have hpb := put_bad hbx (p := p) hbt
  have e31p := q31' hn (show tc (putT t x p) ≤ 4000 by omega) hpb (show p.length ≤ 100000 by omega) (fol_put (x := x) hf)
  have e33p := e33 (putT t x p) w p (by omega) (by omega) (by omega) (by rw [put_put hf]; omega) hpb hbw
  rw [fol_put (x := x) hf, put_put hf] at e33p
  have e32 := q32' hn (show tc t ≤ 4000 by omega) hbt (show p.length ≤ 100000 by omega) hf
  have e19 := q19 (Nf := 5000) (t := w) (by omega) (by omega)
  rw [hbw, cond_false] at e19
  have hby := (byt_le _ w (Nat.le_refl _)).1
  have hgw := ((q56' hn (show tc t ≤ 4000 by omega) hbt (show p.length ≤ 100000 by omega)).1 w g hf).2
  have hown := byt_own hbw
  rw [e31]
  simp only [bsm, show F15 0 = some 0 from rfl, show ((0 : Int) != 0) = false from rfl, cond_false, tmk, e31p, e33p, q24 5000 x x (by omega) hx, q24 5000 t t (by omega) ht, decide_true, cond_true, e32, e19]
  have hw6 : IntKind.wrap .i64 (((g + byt w : Nat) : Int) - (g : Int)) = (byt w : Int) := by rw [w_id (by omega)]; omega
  have hl := l10 hn ht hbt (show p.length ≤ 2000 by omega) hf w.kids.length 0 (by omega)
  simp only [List.take_zero, byts, Nat.add_zero] at hl
  replace hl : runL (fun s => L10_0 5000 t p w.kids s.1 s.2) ((g : Int), (0 : Int)) = some (.k1 ((g + byts w.kids : Nat) : Int)) := hl
  rw [hw6, bne_self_eq_false, cond_false, hl, bsm]
  have fin : ((F34 5000 t n).bind fun r34 => match r34 with | .k0 x34_0 x34_1 => ((F15 x34_1).bind fun x35 => (bif (x35 != 0) then ((F11).bind fun x37 => (some x37)) else ((F32 5000 t x34_0).bind fun r37 => match r37 with | .k0 x37_0 x37_1 x37_2 => ((F31 5000 t x34_0).bind fun r38 => match r38 with | .k0 x38_0 x38_1 x38_2 x38_3 => ((F15 x37_2).bind fun x39 => (bif (x39 == 0) then ((F15 x38_3).bind fun x41 => (bif (x41 == 0) then (bif (decide (x37_0 ≤ n)) then (bif (decide (n < x37_1)) then (bif (decide (x38_0 ≥ 0)) then ((F11).bind fun x46 => (some x46)) else (some false)) else (some false)) else (some false)) else (some false))) else (some false)))))))) = some true := by
   rcases q34 hn ht hbt n with ⟨e, h1, h2⟩ | ⟨l, y, g', h1, h2, h3, h4, h5⟩
   ·rw [h1]
    simp only [bsm]
    cases e15 : F15 e with
    | none => exact absurd e15 (by unfold F15; simp)
    | some v =>
     have hv : v = e := by
      unfold F15 at e15
      simpa using e15.symm
     subst hv
     simp only [bsm]
     rw [show (v != 0) = true by simpa using h2, cond_true]
     rfl
   ·have hll := fol_len h2
    rw [h1]
    simp only [bsm, show F15 0 = some 0 from rfl, show ((0 : Int) != 0) = false from rfl, cond_false, q32' hn (show tc t ≤ 4000 by omega) hbt (show l.length ≤ 100000 by omega) h2, q31' hn (show tc t ≤ 4000 by omega) hbt (show l.length ≤ 100000 by omega) h2, show ((0 : Int) == 0) = true from rfl, cond_true, decide_eq_true h3, decide_eq_true h4, decide_eq_true (show y.prod ≥ 0 from h5)]
    rfl
  by_cases hwp : w.prod ≥ 0
  ·have hb2 := hown.1
   unfold own1 at hb2
   rw [if_neg (by omega), Nat.zero_add] at hb2
   simp only
   rw [decide_eq_true hwp, cond_true, hb2, bne_self_eq_false, cond_false]
   exact fin
  ·simp only
   rw [decide_eq_false hwp, cond_false]
   exact fin
end Go.Proofs.Tryd
