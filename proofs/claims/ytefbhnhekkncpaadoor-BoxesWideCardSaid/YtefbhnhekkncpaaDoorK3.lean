/- Boxes: how many, how long, what is in them. Plain data alone. -/
import Derived.Test.YtefbhnhekkncpaaDoorH33
import Derived.Test.YtefbhnhekkncpaaDoorVE
open Option renaming bind_some → bsm
open List renaming getElem?_eq_some_iff → gei, eq_nil_of_length_eq_zero → enz, getElem?_eq_getElem → geg, mem_of_getElem? → mog, take_of_length_le → tol, length_append → lap, length_replicate → lrp, length_cons → lcn
namespace Go.Proofs.Tryd
set_option linter.unusedSimpArgs false
set_option linter.unusedVariables false
open Go Go.Vs
def brl (l : List UInt8) : List UInt8 := l.filter fun c => !(c == 32 || c == 10)
def Yl (s : ByteArray) : Bool := decide ((10 : UInt8) ∈ s.data.toList)
mutual
def cnt : BoxD → Nat
 | .mk _ _ _ l => 1 + cnts l
def cnts : Bqq → Nat
 | [] => 0
 | b :: l => cnt b + cnts l
end
mutual
def wt : BoxD → Nat
 | .mk _ t _ l => 1 + t.size + wts l
def wts : Bqq → Nat
 | [] => 0
 | b :: l => wt b + wts l
end
mutual
def hasL : BoxD → Bool
 | .mk k t _ l => (k == 2 || Yl t) || Wp l
def Wp : Bqq → Bool
 | [] => false
 | b :: l => hasL b || Wp l
end
mutual
def szs : BoxD → Iqq
 | .mk _ _ _ l => ((1 + cnts l : Nat) : Int) :: szss l
def szss : Bqq → Iqq
 | [] => []
 | b :: l => szs b ++ szss l
end
mutual
def lns : BoxD → Oqq
 | .mk k t _ l => ((k == 2 || Yl t) || Wp l) :: lnss l
def lnss : Bqq → Oqq
 | [] => []
 | b :: l => lns b ++ lnss l
end
theorem Z9 : ∀ b : BoxD, cnt b = 1 + cnts b.kids
 | .mk _ _ _ _ => by simp only [cnt, BoxD.kids]
theorem JX : ∀ b : BoxD, wt b = 1 + b.text.size + wts b.kids
 | .mk _ _ _ _ => by simp only [wt, BoxD.kids, BoxD.text]
theorem VW : ∀ b : BoxD, hasL b = ((b.kind == 2 || Yl b.text) || Wp b.kids)
 | .mk _ _ _ _ => by simp only [hasL, BoxD.kids, BoxD.text, BoxD.kind]
theorem NW : ∀ b : BoxD, szs b = (cnt b : Int) :: szss b.kids
 | .mk _ _ _ _ => by simp only [szs, cnt, BoxD.kids]
theorem NX : ∀ b : BoxD, lns b = hasL b :: lnss b.kids
 | .mk _ _ _ _ => by simp only [lns, hasL, BoxD.kids]
theorem Yz {b : BoxD} : ∀ {l : Bqq}, b ∈ l → cnt b ≤ cnts l
 | [], h => by simp at h
 | u :: l, h => by
  simp only [cnts]
  rcases List.mem_cons.1 h with rfl | h
  ·omega
  ·have := Yz h; omega
theorem Vh : ∀ (a b : Bqq), cnts (a ++ b) = cnts a + cnts b
 | [], b => by simp [cnts]
 | t :: a, b => by simp only [List.cons_append, cnts, Vh a b]; omega
theorem ZY (b : BoxD) : 1 ≤ cnt b := by rw [Z9]; omega
theorem XE : ∀ (l : Bqq), l.length ≤ cnts l
 | [] => by simp
 | t :: a => by have := XE a; have := ZY t; simp only [lcn, cnts]; omega
theorem Le : ∀ (a b : Bqq), wts (a ++ b) = wts a + wts b
 | [], b => by simp [wts]
 | t :: a, b => by simp only [List.cons_append, wts, Le a b]; omega
theorem HV : ∀ (N : Nat) (b : BoxD), cnt b ≤ N → cnt b ≤ wt b
 | 0, b, h => by have := ZY b; omega
 | N + 1, b, h => by
  have key : ∀ l : Bqq, (∀ x ∈ l, cnt x ≤ N) → cnts l ≤ wts l := by
   intro l
   induction l with
   | nil => intro _; simp [cnts]
   | cons x l ih =>
    intro hl
    have h1 := HV N x (hl x (by simp))
    have h2 := ih (fun y hy => hl y (by simp [hy]))
    simp only [cnts, wts]
    omega
  have h1 := key b.kids (fun x hx => by have := Yz hx; have := Z9 b; omega)
  rw [Z9, JX]
  omega
theorem Up : ∀ (N : Nat) (l : Bqq), cnts l ≤ N → (szss l).length = cnts l ∧ (lnss l).length = cnts l
 | N, [], h => by simp [szss, lnss, cnts]
 | 0, b :: l, h => by have := ZY b; simp only [cnts] at h; omega
 | N + 1, b :: l, h => by
  simp only [cnts] at h
  have hb := ZY b
  have h1 := Up N l (by omega)
  have h2 := Up N b.kids (by have := Z9 b; omega)
  simp only [szss, lnss, cnts, NW, NX, lap, lcn, h1.1, h1.2, h2.1, h2.2]
  have := Z9 b
  omega
theorem PZ (b : BoxD) : (szs b).length = cnt b ∧ (lns b).length = cnt b := by
 have := Up (cnts b.kids) b.kids (Nat.le_refl _)
 rw [NW, NX, lcn, lcn, this.1, this.2, Z9]
 omega
inductive Ok : BoxD → Prop
 | mk {k n : Int} {t : ByteArray} {l : Bqq} (h1 : k = 0 ∨ t.size = 0) (h2 : k < 3 → l = []) (h3 : 0 ≤ n ∧ n ≤ 100) (h4 : 0 ≤ k ∧ k ≤ 5) (h5 : ∀ x ∈ l, Ok x) : Ok (.mk k t n l)
theorem Ok.txt {b : BoxD} (h : Ok b) : b.kind = 0 ∨ b.text.size = 0 := by cases h with | mk h1 h2 h3 h4 h5 => exact h1
theorem Ok.few {b : BoxD} (h : Ok b) : b.kind < 3 → b.kids = [] := by cases h with | mk h1 h2 h3 h4 h5 => exact h2
theorem Ok.nn {b : BoxD} (h : Ok b) : 0 ≤ b.n ∧ b.n ≤ 100 := by cases h with | mk h1 h2 h3 h4 h5 => exact h3
theorem Ok.kd {b : BoxD} (h : Ok b) : 0 ≤ b.kind ∧ b.kind ≤ 5 := by cases h with | mk h1 h2 h3 h4 h5 => exact h4
theorem Ok.kid {b x : BoxD} (h : Ok b) (hx : x ∈ b.kids) : Ok x := by cases h with | mk h1 h2 h3 h4 h5 => exact h5 x hx
theorem Ok.of : ∀ {b : BoxD}, (b.kind = 0 ∨ b.text.size = 0) → (b.kind < 3 → b.kids = []) → (0 ≤ b.n ∧ b.n ≤ 100) → (0 ≤ b.kind ∧ b.kind ≤ 5) → (∀ x ∈ b.kids, Ok x) → Ok b
 | .mk _ _ _ _, h1, h2, h3, h4, h5 => .mk h1 h2 h3 h4 h5
theorem HW (a b : List UInt8) : brl (a ++ b) = brl a ++ brl b := List.filter_append ..
theorem ZV (a : ByteArray) : a.data.toList.length = a.size := by rw [Array.length_toList]; rfl
theorem FA {a : ByteArray} (h : a.size = 0) : a.data.toList = [] := enz (by rw [ZV]; exact h)
theorem Q5 {α : Type} {l y : List α} {n : Nat} (h : n + y.length ≤ l.length) : (splice l n y).take (n + y.length) = l.take n ++ y ∧ (splice l n y).length = l.length := by
 unfold splice
 refine ⟨?_, by simp; omega⟩
 have : (l.take n ++ y).length = n + y.length := by simp; omega
 rw [← this, List.take_left]
theorem put1 {α : Type} {row : List α} {len : Nat} (e : α) (hl : len ≤ row.length) :
  (len + 1 ≤ row.length → (splice row len [e]).take (len + 1) = row.take len ++ [e] ∧ len + 1 ≤ (splice row len [e]).length) ∧
  ((row.take len ++ [e]).take (len + 1) = row.take len ++ [e] ∧ len + 1 ≤ (row.take len ++ [e]).length) := by
 refine ⟨fun h => ?_, ?_, ?_⟩
 ·obtain ⟨h1, h2⟩ := Q5 (l := row) (y := [e]) (n := len) h
  exact ⟨h1, by rw [h2]; exact h⟩
 ·exact tol (by simp; omega)
 ·simp; omega
theorem ap1 {len n b : Nat} (h : len ≤ n) (hb : len ≤ 9000000) (hk : b ≤ 1000) : apOk len 1 n b = true := by
 refine decide_eq_true ⟨h, ?_, by unfold Zo; omega⟩
 have := Nat.mul_le_mul (show len + 1 ≤ 9000001 by omega) hk
 unfold Zo
 omega
theorem Uq {α : Type} {row pre post : List α} {x y : α} {n : Nat} (h : row.take n = pre ++ x :: post) (hn : pre.length + 1 ≤ n) : (row.set pre.length y).take n = pre ++ y :: post := by
 rw [List.take_set, h, List.set_append_right _ _ (Nat.le_refl _), Nat.sub_self]
 rfl
theorem P1 {α : Type} {row pre post : List α} {x : α} {n : Nat} (h : row.take n = pre ++ x :: post) (hn : pre.length < n) : row[pre.length]? = some x := by
 have : (row.take n)[pre.length]? = some x := by rw [h, List.getElem?_append_right (Nat.le_refl _)]; simp
 rw [List.getElem?_take, if_pos hn] at this
 exact this
theorem l30 {N : Nat} {b : BoxD} {a2 : BoxD} {a3 : Nat} {a4 : Iqq} (ih : ∀ x ∈ b.kids, ∀ (gen : Nat) (row : Iqq) (len : Nat), len ≤ row.length → len + cnt x ≤ 9000000 →
   ∃ g' row', RP N x a2 a3 a4 gen row len = some (.k0 g' row' (len + cnt x)) ∧ row'.take (len + cnt x) = row.take len ++ szs x ∧ len + cnt x ≤ row'.length) (hb : b.kids.length ≤ 9000000) :
  ∀ (k j gen : Nat) (row : Iqq) (len : Nat), j + k = b.kids.length → len ≤ row.length → len + cnts (b.kids.drop j) ≤ 9000000 →
   ∃ g' row', runL (fun s => XN (RP N) b (b.kids.length : Int) a2 a3 a4 s.1 s.2.1 s.2.2.1 s.2.2.2) ((j : Int), gen, row, len) = some (.k0 g' row' (len + cnts (b.kids.drop j))) ∧ row'.take (len + cnts (b.kids.drop j)) = row.take len ++ szss (b.kids.drop j) ∧ len + cnts (b.kids.drop j) ≤ row'.length
 | 0, j, gen, row, len, hj, hl, hc => by
  obtain rfl : j = b.kids.length := by omega
  rw [List.drop_length]
  refine ⟨gen, row, Zr ?_, by simp [cnts, szss], by simp [cnts]; exact hl⟩
  simp only [XN, decide_eq_false (show ¬ (b.kids.length : Int) < (b.kids.length : Int) by omega), cond_false, cnts, Nat.add_zero]
 | k + 1, j, gen, row, len, hj, hl, hc => by
  have hx : b.kids[j]? = some (b.kids[j]'(by omega)) := geg _
  have hd : b.kids.drop j = b.kids[j]'(by omega) :: b.kids.drop (j + 1) := List.drop_eq_getElem_cons (by omega)
  generalize b.kids[j]'(by omega) = x at hx hd
  rw [hd] at hc ⊢
  simp only [cnts] at hc ⊢
  obtain ⟨g1, row1, h1, h2, h3⟩ := ih x (mog hx) gen row len hl (by omega)
  obtain ⟨g2, row2, k1, k2, k3⟩ := l30 ih hb k (j + 1) g1 row1 (len + cnt x) (by omega) h3 (by omega)
  refine ⟨g2, row2, ?_, ?_, by omega⟩
  ·rw [ZG (s' := (((j + 1 : Nat) : Int), g1, row1, len + cnt x)) (by
    simp only [XN, decide_eq_true (show (j : Int) < (b.kids.length : Int) by omega), cond_true, Zj, hx, bsm, h1, w_S (show j < 4611686018427387904 by omega)])]
   rw [k1, Nat.add_assoc]
  ·rw [← Nat.add_assoc, k2, h2]
   simp only [szss, List.append_assoc]
theorem q30 (a2 : BoxD) (a3 : Nat) (a4 : Iqq) : ∀ (N : Nat) (b : BoxD) (gen : Nat) (row : Iqq) (len : Nat), cnt b ≤ N → len ≤ row.length → len + cnt b ≤ 9000000 →
  ∃ g' row', RP N b a2 a3 a4 gen row len = some (.k0 g' row' (len + cnt b)) ∧ row'.take (len + cnt b) = row.take len ++ szs b ∧ len + cnt b ≤ row'.length
 | 0, b, _, _, _, h, _, _ => by have := ZY b; omega
 | N + 1, b, gen, row, len, h, hl, hc => by
  show ∃ g' row', UG (RP N) b a2 a3 a4 gen row len = _ ∧ _
  have hcb := Z9 b
  have hkl := XE b.kids
  obtain ⟨p1, p2⟩ := put1 (row := row) (0 : Int) hl
  have ih : ∀ x ∈ b.kids, ∀ (gen : Nat) (row : Iqq) (len : Nat), len ≤ row.length → len + cnt x ≤ 9000000 →
    ∃ g' row', RP N x a2 a3 a4 gen row len = some (.k0 g' row' (len + cnt x)) ∧ row'.take (len + cnt x) = row.take len ++ szs x ∧ len + cnt x ≤ row'.length :=
   fun x hx gen row len h1 h2 => q30 a2 a3 a4 N x gen row len (by have := Yz hx; omega) h1 h2
  have go : ∀ (g1 : Nat) (row1 : Iqq), row1.take (len + 1) = row.take len ++ [0] → len + 1 ≤ row1.length →
    ∃ g2 row2 row', runL (fun s => XN (RP N) b (b.kids.length : Int) a2 a3 a4 s.1 s.2.1 s.2.2.1 s.2.2.2) (0, g1, row1, len + 1) = some (.k0 g2 row2 (len + cnt b)) ∧ ixN (len + cnt b) ((len : Nat) : Int) = some len ∧ (∃ z, row2[len]? = some z) ∧
     row' = row2.set len (cnt b : Int) ∧ IntKind.wrap .i64 (((len + cnt b : Nat) : Int) - ((len : Nat) : Int)) = (cnt b : Int) ∧ row'.take (len + cnt b) = row.take len ++ szs b ∧ len + cnt b ≤ row'.length := by
   intro g1 row1 h1 h2
   have e0 : ((0 : Nat) : Int) = 0 := rfl
   obtain ⟨g2, row2, k1, k2, k3⟩ := l30 ih (by omega) b.kids.length 0 g1 row1 (len + 1) (by omega) h2 (by rw [List.drop_zero]; omega)
   rw [List.drop_zero] at k1 k2 k3
   rw [e0, show len + 1 + cnts b.kids = len + cnt b by omega] at k1
   rw [show len + 1 + cnts b.kids = len + cnt b by omega] at k2 k3
   rw [h1, List.append_assoc] at k2
   have hpl : (row.take len).length = len := by rw [List.length_take]; omega
   have k2' : row2.take (len + cnt b) = row.take len ++ 0 :: szss b.kids := k2
   have h3 := P1 k2' (by omega)
   rw [hpl] at h3
   have h4 := Uq (y := (cnt b : Int)) k2' (by omega)
   rw [hpl] at h4
   refine ⟨g2, row2, _, k1, by rw [UA, if_pos (by omega)], ⟨_, h3⟩, rfl, by rw [w_id (by omega)]; omega, ?_, by rw [List.length_set]; exact k3⟩
   rw [h4, NW]
  by_cases hc1 : len + 1 ≤ row.length
  ·obtain ⟨g2, row2, row', m1, m2, ⟨z, m3⟩, m4, m5, m6, m7⟩ := go gen (splice row len [0]) (p1 hc1).1 (p1 hc1).2
   refine ⟨g2, row', ?_, m6, m7⟩
   unfold UG
   rw [ap1 hl (by omega) (by omega), decide_eq_true hc1]
   simp only [cond_true, m1, bsm, m2, m3, m5, m4]
  ·obtain ⟨g2, row2, row', m1, m2, ⟨z, m3⟩, m4, m5, m6, m7⟩ := go (gen + 1) (row.take len ++ [0]) p2.1 p2.2
   refine ⟨g2, row', ?_, m6, m7⟩
   unfold UG
   rw [ap1 hl (by omega) (by omega), decide_eq_false hc1]
   simp only [cond_true, cond_false, m1, bsm, m2, m3, m5, m4]
theorem q26 (N : Nat) (b : BoxD) (h : cnt b ≤ N) (hc : cnt b ≤ 4000) : F26 N b = some (szs b) := by
 obtain ⟨g', row', h1, h2, h3⟩ := q30 b 0 [] N b 0 [] 0 h (Nat.le_refl _) (by omega)
 rw [Nat.zero_add] at h1 h2 h3
 unfold F26
 rw [h1]
 simp only [bsm, decide_eq_true h3, cond_true, h2, List.take_nil, List.nil_append]
theorem TM (c : UInt8) : ∀ l : List UInt8, (Go.Lib.indexByte l c = -1 ∧ c ∉ l) ∨ ∃ p r, l = p ++ c :: r ∧ c ∉ p ∧ Go.Lib.indexByte l c = (p.length : Int)
 | [] => .inl ⟨rfl, by simp⟩
 | b :: l => by
  unfold Go.Lib.indexByte
  by_cases hb : b = c
  ·subst hb
   exact .inr ⟨[], l, rfl, by simp, by simp⟩
  ·have hb' : (b == c) = false := by simpa using hb
   rw [hb']
   rcases TM c l with ⟨h1, h2⟩ | ⟨p, r, h1, h2, h3⟩
   ·rw [h1]
    refine .inl ⟨rfl, ?_⟩
    simp only [List.mem_cons, not_or]
    exact ⟨fun h => hb h.symm, h2⟩
   ·rw [h3]
    refine .inr ⟨b :: p, r, by rw [h1]; rfl, ?_, ?_⟩
    ·simp only [List.mem_cons, not_or]
     exact ⟨fun h => hb h.symm, h2⟩
    ·have : ((p.length : Int) == -1) = false := by simp
     simp only [this, Bool.false_eq_true, if_false, lcn]
     omega
theorem q29 (b : BoxD) : F29 b = some (Yl b.text) := by
 have g0 : getI (⟨([10] : List UInt8).toArray⟩ : ByteArray).data.toList 0 = some (10 : UInt8) := rfl
 have e1 : (Int.toNat (((10 : UInt8).toNat : Nat) : Int)).toUInt8 = 10 := by decide
 unfold F29 F39 F48
 by_cases he : (⟨([10] : List UInt8).toArray⟩ : ByteArray) = b.text
 ·rw [Zu, decide_eq_true he]
  have : Yl b.text = true := by rw [← he]; decide
  rw [this]
  rfl
 ·rw [Zu, decide_eq_false he]
  simp only [cond_false, g0, bsm, F56, e1, Go.Lib.firstIdx_eq]
  unfold Yl
  rcases TM 10 b.text.data.toList with ⟨h1, h2⟩ | ⟨p, r, h1, h2, h3⟩
  ·rw [h1, decide_eq_false h2]; rfl
  ·rw [h3, decide_eq_true (show (p.length : Int) ≥ 0 by omega), decide_eq_true (by rw [h1]; simp)]
theorem JY {x : BoxD} {l : Bqq} : Wp (x :: l) = (hasL x || Wp l) := by simp only [Wp]
theorem CI {N : Nat} {b : BoxD} {a2 : BoxD} {a3 : Nat} {a4 : Oqq} (ih : ∀ x ∈ b.kids, ∀ (gen : Nat) (row : Oqq) (len : Nat), len ≤ row.length → len + cnt x ≤ 9000000 →
   ∃ g' row', SQ N x a2 a3 a4 gen row len = some (.k0 (hasL x) g' row' (len + cnt x)) ∧ row'.take (len + cnt x) = row.take len ++ lns x ∧ len + cnt x ≤ row'.length) (hb : b.kids.length ≤ 9000000) :
  ∀ (k j gen : Nat) (row : Oqq) (len : Nat), j + k = b.kids.length → len ≤ row.length → len + cnts (b.kids.drop j) ≤ 9000000 →
   ∃ g' row', runL (fun s => Wl (SQ N) b (b.kids.length : Int) a2 a3 a4 s.1 s.2.1 s.2.2.1 s.2.2.2) ((j : Int), gen, row, len) = some (.k0 g' row' (len + cnts (b.kids.drop j))) ∧ row'.take (len + cnts (b.kids.drop j)) = row.take len ++ lnss (b.kids.drop j) ∧ len + cnts (b.kids.drop j) ≤ row'.length
 | 0, j, gen, row, len, hj, hl, hc => by
  obtain rfl : j = b.kids.length := by omega
  rw [List.drop_length]
  refine ⟨gen, row, Zr ?_, by simp [cnts, lnss], by simp [cnts]; exact hl⟩
  simp only [Wl, decide_eq_false (show ¬ (b.kids.length : Int) < (b.kids.length : Int) by omega), cond_false, cnts, Nat.add_zero]
 | k + 1, j, gen, row, len, hj, hl, hc => by
  have hx : b.kids[j]? = some (b.kids[j]'(by omega)) := geg _
  have hd : b.kids.drop j = b.kids[j]'(by omega) :: b.kids.drop (j + 1) := List.drop_eq_getElem_cons (by omega)
  generalize b.kids[j]'(by omega) = x at hx hd
  rw [hd] at hc ⊢
  simp only [cnts] at hc ⊢
  obtain ⟨g1, row1, h1, h2, h3⟩ := ih x (mog hx) gen row len hl (by omega)
  obtain ⟨g2, row2, k1, k2, k3⟩ := CI ih hb k (j + 1) g1 row1 (len + cnt x) (by omega) h3 (by omega)
  refine ⟨g2, row2, ?_, ?_, by omega⟩
  ·rw [ZG (s' := (((j + 1 : Nat) : Int), g1, row1, len + cnt x)) (by
    simp only [Wl, decide_eq_true (show (j : Int) < (b.kids.length : Int) by omega), cond_true, Zj, hx, bsm, h1, w_S (show j < 4611686018427387904 by omega)]
    cases hasL x <;> rfl)]
   rw [k1, Nat.add_assoc]
  ·rw [← Nat.add_assoc, k2, h2]
   simp only [lnss, List.append_assoc]
theorem CJ {N : Nat} {b : BoxD} {a2 : BoxD} {a3 : Nat} {a4 : Oqq} (ih : ∀ x ∈ b.kids, ∀ (gen : Nat) (row : Oqq) (len : Nat), len ≤ row.length → len + cnt x ≤ 9000000 →
   ∃ g' row', SQ N x a2 a3 a4 gen row len = some (.k0 (hasL x) g' row' (len + cnt x)) ∧ row'.take (len + cnt x) = row.take len ++ lns x ∧ len + cnt x ≤ row'.length) (hb : b.kids.length ≤ 9000000) :
  ∀ (k j gen : Nat) (row : Oqq) (len : Nat) (v : Bool), j + k = b.kids.length → len ≤ row.length → len + cnts (b.kids.drop j) ≤ 9000000 →
   ∃ g' row', runL (fun s => Wm (SQ N) b (b.kids.length : Int) a2 a3 a4 s.1 s.2.1 s.2.2.1 s.2.2.2.1 s.2.2.2.2) (v, (j : Int), gen, row, len) = some (.k0 (v || Wp (b.kids.drop j)) g' row' (len + cnts (b.kids.drop j))) ∧ row'.take (len + cnts (b.kids.drop j)) = row.take len ++ lnss (b.kids.drop j) ∧ len + cnts (b.kids.drop j) ≤ row'.length
 | 0, j, gen, row, len, v, hj, hl, hc => by
  obtain rfl : j = b.kids.length := by omega
  rw [List.drop_length]
  refine ⟨gen, row, Zr ?_, by simp [cnts, lnss], by simp [cnts]; exact hl⟩
  simp only [Wm, decide_eq_false (show ¬ (b.kids.length : Int) < (b.kids.length : Int) by omega), cond_false, cnts, Nat.add_zero, Wp, Bool.or_false]
 | k + 1, j, gen, row, len, v, hj, hl, hc => by
  have hx : b.kids[j]? = some (b.kids[j]'(by omega)) := geg _
  have hd : b.kids.drop j = b.kids[j]'(by omega) :: b.kids.drop (j + 1) := List.drop_eq_getElem_cons (by omega)
  generalize b.kids[j]'(by omega) = x at hx hd
  rw [hd] at hc ⊢
  simp only [cnts] at hc ⊢
  obtain ⟨g1, row1, h1, h2, h3⟩ := ih x (mog hx) gen row len hl (by omega)
  obtain ⟨g2, row2, k1, k2, k3⟩ := CJ ih hb k (j + 1) g1 row1 (len + cnt x) (v || hasL x) (by omega) h3 (by omega)
  refine ⟨g2, row2, ?_, ?_, by omega⟩
  ·rw [ZG (s' := ((v || hasL x), ((j + 1 : Nat) : Int), g1, row1, len + cnt x)) (by
    simp only [Wm, decide_eq_true (show (j : Int) < (b.kids.length : Int) by omega), cond_true, Zj, hx, bsm, h1, w_S (show j < 4611686018427387904 by omega)]
    cases hasL x <;> cases v <;> rfl)]
   rw [k1, Nat.add_assoc, JY, Bool.or_assoc]
  ·rw [← Nat.add_assoc, k2, h2]
   simp only [lnss, List.append_assoc]
theorem q28 (a2 : BoxD) (a3 : Nat) (a4 : Oqq) : ∀ (N : Nat) (b : BoxD) (gen : Nat) (row : Oqq) (len : Nat), cnt b ≤ N → len ≤ row.length → len + cnt b ≤ 9000000 →
  ∃ g' row', SQ N b a2 a3 a4 gen row len = some (.k0 (hasL b) g' row' (len + cnt b)) ∧ row'.take (len + cnt b) = row.take len ++ lns b ∧ len + cnt b ≤ row'.length
 | 0, b, _, _, _, h, _, _ => by have := ZY b; omega
 | N + 1, b, gen, row, len, h, hl, hc => by
  show ∃ g' row', WF (SQ N) b a2 a3 a4 gen row len = _ ∧ _
  have hcb := Z9 b
  have hkl := XE b.kids
  have e0 : ((0 : Nat) : Int) = 0 := rfl
  have hpl : (row.take len).length = len := by rw [List.length_take]; omega
  have ih : ∀ x ∈ b.kids, ∀ (gen : Nat) (row : Oqq) (len : Nat), len ≤ row.length → len + cnt x ≤ 9000000 →
    ∃ g' row', SQ N x a2 a3 a4 gen row len = some (.k0 (hasL x) g' row' (len + cnt x)) ∧ row'.take (len + cnt x) = row.take len ++ lns x ∧ len + cnt x ≤ row'.length :=
   fun x hx gen row len h1 h2 => q28 a2 a3 a4 N x gen row len (by have := Yz hx; omega) h1 h2
  have fin : ∀ (row1 row2 : Oqq) (v : Bool), row1.take (len + 1) = row.take len ++ [v] → row2.take (len + 1 + cnts b.kids) = row1.take (len + 1) ++ lnss b.kids → len + 1 + cnts b.kids ≤ row2.length →
    ixN (len + cnt b) ((len : Nat) : Int) = some len ∧ (∃ z, row2[len]? = some z) ∧ (row2.set len (hasL b)).take (len + cnt b) = row.take len ++ lns b ∧ len + cnt b ≤ (row2.set len (hasL b)).length := by
   intro row1 row2 v h1 k2 k3
   rw [show len + 1 + cnts b.kids = len + cnt b by omega] at k2 k3
   rw [h1, List.append_assoc] at k2
   have k2' : row2.take (len + cnt b) = row.take len ++ v :: lnss b.kids := k2
   have h3 := P1 k2' (by omega)
   rw [hpl] at h3
   have h4 := Uq (y := hasL b) k2' (by omega)
   rw [hpl] at h4
   refine ⟨by rw [UA, if_pos (by omega)], ⟨_, h3⟩, by rw [h4, NX], by rw [List.length_set]; exact k3⟩
  have hlc : len + 1 + cnts b.kids = len + cnt b := by omega
  by_cases hk : b.kind = 2
  ·have hkt : (b.kind == 2) = true := by rw [hk]; rfl
   have hh : hasL b = true := by rw [VW, hkt]; rfl
   obtain ⟨p1, p2⟩ := put1 (row := row) true hl
   by_cases hc1 : len + 1 ≤ row.length
   ·obtain ⟨g2, row2, k1, k2, k3⟩ := CI ih (by omega) b.kids.length 0 gen (splice row len [true]) (len + 1) (by omega) (p1 hc1).2 (by rw [List.drop_zero]; omega)
    rw [List.drop_zero] at k1 k2 k3
    obtain ⟨m1, ⟨z, m2⟩, m3, m4⟩ := fin _ row2 true (p1 hc1).1 k2 k3
    rw [e0, hlc] at k1
    refine ⟨g2, row2.set len (hasL b), ?_, m3, m4⟩
    unfold WF
    rw [hkt, ap1 hl (by omega) (by omega), decide_eq_true hc1]
    simp only [cond_true, k1, bsm, m1, m2, hh]
   ·obtain ⟨g2, row2, k1, k2, k3⟩ := CI ih (by omega) b.kids.length 0 (gen + 1) (row.take len ++ [true]) (len + 1) (by omega) p2.2 (by rw [List.drop_zero]; omega)
    rw [List.drop_zero] at k1 k2 k3
    obtain ⟨m1, ⟨z, m2⟩, m3, m4⟩ := fin _ row2 true p2.1 k2 k3
    rw [e0, hlc] at k1
    refine ⟨g2, row2.set len (hasL b), ?_, m3, m4⟩
    unfold WF
    rw [hkt, ap1 hl (by omega) (by omega), decide_eq_false hc1]
    simp only [cond_true, cond_false, k1, bsm, m1, m2, hh]
  ·have hkf : (b.kind == 2) = false := by simpa using hk
   have hh : hasL b = (Yl b.text || Wp b.kids) := by rw [VW, hkf, Bool.false_or]
   obtain ⟨p1, p2⟩ := put1 (row := row) (Yl b.text) hl
   by_cases hc1 : len + 1 ≤ row.length
   ·obtain ⟨g2, row2, k1, k2, k3⟩ := CJ ih (by omega) b.kids.length 0 gen (splice row len [Yl b.text]) (len + 1) (Yl b.text) (by omega) (p1 hc1).2 (by rw [List.drop_zero]; omega)
    rw [List.drop_zero] at k1 k2 k3
    obtain ⟨m1, ⟨z, m2⟩, m3, m4⟩ := fin _ row2 _ (p1 hc1).1 k2 k3
    rw [e0, hlc, ← hh] at k1
    refine ⟨g2, row2.set len (hasL b), ?_, m3, m4⟩
    unfold WF
    rw [hkf, ap1 hl (by omega) (by omega), decide_eq_true hc1, q29]
    simp only [cond_true, cond_false, bsm, k1, m1, m2]
   ·obtain ⟨g2, row2, k1, k2, k3⟩ := CJ ih (by omega) b.kids.length 0 (gen + 1) (row.take len ++ [Yl b.text]) (len + 1) (Yl b.text) (by omega) p2.2 (by rw [List.drop_zero]; omega)
    rw [List.drop_zero] at k1 k2 k3
    obtain ⟨m1, ⟨z, m2⟩, m3, m4⟩ := fin _ row2 _ p2.1 k2 k3
    rw [e0, hlc, ← hh] at k1
    refine ⟨g2, row2.set len (hasL b), ?_, m3, m4⟩
    unfold WF
    rw [hkf, ap1 hl (by omega) (by omega), decide_eq_false hc1, q29]
    simp only [cond_true, cond_false, bsm, k1, m1, m2]
theorem q18 (N : Nat) (b : BoxD) (h : cnt b ≤ N) (hc : cnt b ≤ 4000) : F18 N b = some (lns b) := by
 obtain ⟨g', row', h1, h2, h3⟩ := q28 b 0 [] N b 0 [] 0 h (Nat.le_refl _) (by omega)
 rw [Nat.zero_add] at h1 h2 h3
 unfold F18
 rw [h1]
 simp only [bsm, decide_eq_true h3, cond_true, h2, List.take_nil, List.nil_append]
theorem NY {l : Bqq} {j : Nat} {x : BoxD} (h : l[j]? = some x) : cnts (l.take (j + 1)) = cnts (l.take j) + cnt x := by
 have hj := (gei.1 h)
 obtain ⟨h1, h2⟩ := hj
 rw [List.take_succ_eq_append_getElem h1, Vh, h2]
 simp [cnts]
noncomputable def ok25 (N : Nat) (x : BoxD) : Bool := (F25 N x).getD false
theorem Zh {a b : Int} (h : ¬ a = b) : (a == b) = false := by simpa using h
theorem q25 : ∀ (N : Nat) (b : BoxD), cnt b ≤ N → cnt b ≤ 4000000 → ∃ v, F25 N b = some v ∧ (v = true → Ok b)
 | 0, b, h, _ => by have := ZY b; omega
 | N + 1, b, h, hc => by
  show ∃ v, MK (F25 N) b = some v ∧ _
  have hcb := Z9 b
  have hkl := XE b.kids
  have ih : ∀ x ∈ b.kids, F25 N x = some (ok25 N x) ∧ (ok25 N x = true → Ok x) := fun x hx => by
   obtain ⟨v, h1, h2⟩ := q25 N x (by have := Yz hx; omega) (by have := Yz hx; omega)
   unfold ok25
   rw [h1]
   exact ⟨rfl, h2⟩
  have hall : allF (fun _ x => ok25 N x) 0 b.kids = true → ∀ x ∈ b.kids, Ok x := fun ha x hx => by
   obtain ⟨j, hj⟩ := List.getElem?_of_mem hx
   exact (ih x hx).2 ((PF _ _).1 ha j x hj)
  have kids1 : runL (fun s => UD (F25 N) b (b.kids.length : Int) s) 0 = some (bif allF (fun _ x => ok25 N x) 0 b.kids then .k1 else .k0) := by
   refine Z7 (step := fun s => UD (F25 N) b (b.kids.length : Int) s) (l := b.kids) (fun _ x => ok25 N x) (bad := E_L25_0.k0) (fin := .k1) (fun i x hx => ?_) (by simp [UD])
   have hi : i < b.kids.length := (gei.1 hx).1
   simp only [UD, Zj, hx, bsm, decide_eq_true (show (i : Int) < (b.kids.length : Int) by omega), cond_true, (ih x (mog hx)).1, w_S (show i < 4611686018427387904 by omega)]
   cases ok25 N x <;> rfl
  have kids2 : runL (fun s => YG (F25 N) b (b.kids.length : Int) s) 0 = some (bif allF (fun _ x => ok25 N x) 0 b.kids then .k1 else .k0) := by
   refine Z7 (step := fun s => YG (F25 N) b (b.kids.length : Int) s) (l := b.kids) (fun _ x => ok25 N x) (bad := E_L25_0_2.k0) (fin := .k1) (fun i x hx => ?_) (by simp [YG])
   have hi : i < b.kids.length := (gei.1 hx).1
   simp only [YG, Zj, hx, bsm, decide_eq_true (show (i : Int) < (b.kids.length : Int) by omega), cond_true, (ih x (mog hx)).1, w_S (show i < 4611686018427387904 by omega)]
   cases ok25 N x <;> rfl
  have kids3 : runL (fun s => YH (F25 N) b (b.kids.length : Int) s) 0 = some (bif allF (fun _ x => ok25 N x) 0 b.kids then .k1 else .k0) := by
   refine Z7 (step := fun s => YH (F25 N) b (b.kids.length : Int) s) (l := b.kids) (fun _ x => ok25 N x) (bad := E_L25_0_3.k0) (fin := .k1) (fun i x hx => ?_) (by simp [YH])
   have hi : i < b.kids.length := (gei.1 hx).1
   simp only [YH, Zj, hx, bsm, decide_eq_true (show (i : Int) < (b.kids.length : Int) by omega), cond_true, (ih x (mog hx)).1, w_S (show i < 4611686018427387904 by omega)]
   cases ok25 N x <;> rfl
  have kids4 : runL (fun s => Ys (F25 N) b (b.kids.length : Int) s) 0 = some (bif allF (fun _ x => ok25 N x) 0 b.kids then .k1 else .k0) := by
   refine Z7 (step := fun s => Ys (F25 N) b (b.kids.length : Int) s) (l := b.kids) (fun _ x => ok25 N x) (bad := E_L25_0_4.k0) (fin := .k1) (fun i x hx => ?_) (by simp [Ys])
   have hi : i < b.kids.length := (gei.1 hx).1
   simp only [Ys, Zj, hx, bsm, decide_eq_true (show (i : Int) < (b.kids.length : Int) by omega), cond_true, (ih x (mog hx)).1, w_S (show i < 4611686018427387904 by omega)]
   cases ok25 N x <;> rfl
  have kids5 : runL (fun s => YI (F25 N) b (b.kids.length : Int) s) 0 = some (bif allF (fun _ x => ok25 N x) 0 b.kids then .k1 else .k0) := by
   refine Z7 (step := fun s => YI (F25 N) b (b.kids.length : Int) s) (l := b.kids) (fun _ x => ok25 N x) (bad := E_L25_0_5.k0) (fin := .k1) (fun i x hx => ?_) (by simp [YI])
   have hi : i < b.kids.length := (gei.1 hx).1
   simp only [YI, Zj, hx, bsm, decide_eq_true (show (i : Int) < (b.kids.length : Int) by omega), cond_true, (ih x (mog hx)).1, w_S (show i < 4611686018427387904 by omega)]
   cases ok25 N x <;> rfl
  unfold MK
  have tN : (¬ b.n < 0 → ¬ b.n > 100 → 0 ≤ b.n ∧ b.n ≤ 100) := fun h1 h2 => by omega
  have tK : ((b.kids.length : Int) != 0) = false → b.kids = [] := fun h => by
   have : (b.kids.length : Int) = 0 := by simpa using h
   exact enz (by omega)
  have tT : (b.text.toList == Eqq.toList) = true → b.text.size = 0 := fun h => by
   rw [Zu] at h
   rw [of_decide_eq_true h]
   rfl
  by_cases k0 : b.kind = 0
  ·have q0 : (b.kind == 0) = true := by rw [k0]; rfl
   rw [q0]
   simp only [cond_true, beq_self_eq_true, Bool.not_true, cond_false]
   cases c1 : (b.n != 0) with
   | true => exact ⟨false, rfl, fun e => by cases e⟩
   | false =>
    cases c2 : ((b.kids.length : Int) != 0) with
    | true => exact ⟨false, rfl, fun e => by cases e⟩
    | false =>
     have hk := tK c2
     have hn : b.n = 0 := by simpa using c1
     rw [decide_eq_false (show ¬ b.n < 0 by omega), decide_eq_false (show ¬ b.n > 100 by omega), kids1]
     simp only [cond_false, bsm]
     cases allF (fun _ x => ok25 N x) 0 b.kids with
     | false => exact ⟨false, rfl, fun e => by cases e⟩
     | true => exact ⟨true, rfl, fun _ => Ok.of (.inl k0) (fun _ => hk) (by omega) (by omega) (by rw [hk]; simp)⟩
  rw [Zh k0]
  simp only [cond_false]
  have fin : ∀ (T : Bool), (b.text.toList == Eqq.toList) = true → (b.kind < 3 → b.kids = []) → ¬ b.n < 0 → ¬ b.n > 100 → 0 ≤ b.kind ∧ b.kind ≤ 5 → T = allF (fun _ x => ok25 N x) 0 b.kids → T = true → Ok b :=
   fun T h1 h2 h3 h4 h5 h6 h7 => Ok.of (.inr (tT h1)) h2 (tN h3 h4) h5 (hall (by rw [← h6]; exact h7))
  cases ct : (b.text.toList == Eqq.toList) with
  | false =>
   simp only [Bool.not_false, cond_true]
   cases b.kind == 5 <;> cases b.kind == 1 <;> cases b.kind == 3 <;> cases b.kind == 4 <;> cases b.kind == 2 <;> exact ⟨false, rfl, fun e => by cases e⟩
  | true =>
   simp only [Bool.not_true, cond_false, bne_self_eq_false]
   have fail : ∃ v, (some false : Option Bool) = some v ∧ (v = true → Ok b) := ⟨false, rfl, fun e => by cases e⟩
   have rng : ∀ {α : Type} (X : Option Bool), (¬ b.n < 0 → ¬ b.n > 100 → ∃ v, X = some v ∧ (v = true → Ok b)) → ∃ v, (bif decide (b.n < 0) then some false else (bif decide (b.n > 100) then some false else X)) = some v ∧ (v = true → Ok b) := by
    intro _ X hX
    by_cases n1 : b.n < 0
    ·rw [decide_eq_true n1]; exact fail
    ·rw [decide_eq_false n1]
     by_cases n2 : b.n > 100
     ·rw [decide_eq_true n2]; exact fail
     ·rw [decide_eq_false n2]; exact hX n1 n2
   by_cases k5 : b.kind = 5
   ·rw [show (b.kind == 5) = true by rw [k5]; rfl]
    simp only [cond_true]
    refine rng (α := Unit) _ (fun n1 n2 => ?_)
    rw [kids2]
    cases hA : allF (fun _ x => ok25 N x) 0 b.kids with
    | false => exact fail
    | true => exact ⟨true, rfl, fun _ => fin true ct (fun h => by omega) n1 n2 (by omega) hA.symm rfl⟩
   rw [Zh k5]
   simp only [cond_false]
   by_cases k1 : b.kind = 1
   ·rw [show (b.kind == 1) = true by rw [k1]; rfl]
    simp only [cond_true]
    cases c2 : ((b.kids.length : Int) != 0) with
    | true => exact fail
    | false =>
     simp only [cond_false]
     refine rng (α := Unit) _ (fun n1 n2 => ?_)
     rw [kids3]
     cases hA : allF (fun _ x => ok25 N x) 0 b.kids with
     | false => exact fail
     | true => exact ⟨true, rfl, fun _ => fin true ct (fun h => tK c2) n1 n2 (by omega) hA.symm rfl⟩
   rw [Zh k1]
   simp only [cond_false]
   by_cases k3 : b.kind = 3
   ·rw [show (b.kind == 3) = true by rw [k3]; rfl]
    simp only [cond_true]
    cases c1 : (b.n != 0) with
    | true => exact fail
    | false =>
     simp only [cond_false]
     refine rng (α := Unit) _ (fun n1 n2 => ?_)
     rw [kids4]
     cases hA : allF (fun _ x => ok25 N x) 0 b.kids with
     | false => exact fail
     | true => exact ⟨true, rfl, fun _ => fin true ct (fun h => by omega) n1 n2 (by omega) hA.symm rfl⟩
   rw [Zh k3]
   simp only [cond_false]
   by_cases k4 : b.kind = 4
   ·rw [show (b.kind == 4) = true by rw [k4]; rfl]
    simp only [cond_true]
    cases c1 : (b.n != 0) with
    | true => exact fail
    | false =>
     simp only [cond_false]
     refine rng (α := Unit) _ (fun n1 n2 => ?_)
     rw [kids4]
     cases hA : allF (fun _ x => ok25 N x) 0 b.kids with
     | false => exact fail
     | true => exact ⟨true, rfl, fun _ => fin true ct (fun h => by omega) n1 n2 (by omega) hA.symm rfl⟩
   rw [Zh k4]
   simp only [cond_false]
   by_cases k2 : b.kind = 2
   ·rw [show (b.kind == 2) = true by rw [k2]; rfl]
    simp only [cond_true]
    cases c1 : (b.n != 0) with
    | true => exact fail
    | false =>
     simp only [cond_false]
     cases c2 : ((b.kids.length : Int) != 0) with
     | true => exact fail
     | false =>
      simp only [cond_false]
      refine rng (α := Unit) _ (fun n1 n2 => ?_)
      rw [kids5]
      cases hA : allF (fun _ x => ok25 N x) 0 b.kids with
      | false => exact fail
      | true => exact ⟨true, rfl, fun _ => fin true ct (fun h => tK c2) n1 n2 (by omega) hA.symm rfl⟩
   rw [Zh k2]
   exact fail
theorem q21 : ∀ (N : Nat) (b : BoxD), cnt b ≤ N → cnt b ≤ 4000 → ∃ d : Int, F21 N b = some (.k0 (cnt b : Int) d) ∧ 1 ≤ d ∧ d ≤ (cnt b : Int)
 | 0, b, h, _ => by have := ZY b; omega
 | N + 1, b, h, hc => by
  show ∃ d : Int, Hr (F21 N) b = _ ∧ _
  have hcb := Z9 b
  have hkl := XE b.kids
  have key : ∀ (k j : Nat) (d : Int), j + k = b.kids.length → 0 ≤ d → d ≤ (cnts (b.kids.take j) : Int) → cnts (b.kids.take j) ≤ 4000 →
    ∃ d' : Int, runL (fun s => PJ (F21 N) b (b.kids.length : Int) s.1 s.2.1 s.2.2) (((1 + cnts (b.kids.take j) : Nat) : Int), d, (j : Int)) = some (.k0 (cnt b : Int) d') ∧ 0 ≤ d' ∧ d' ≤ (cnts b.kids : Int) := by
   intro k
   induction k with
   | zero =>
    intro j d hj h1 h2 h3
    obtain rfl : j = b.kids.length := by omega
    rw [List.take_length] at h2 ⊢
    exact ⟨d, Zr (by simp [PJ, hcb]), h1, h2⟩
   | succ k ih =>
    intro j d hj h1 h2 h3
    have hx : b.kids[j]? = some (b.kids[j]'(by omega)) := geg _
    generalize b.kids[j]'(by omega) = x at hx
    have hm := Yz (mog hx)
    have ht := NY hx
    have hle : cnts (b.kids.take (j + 1)) ≤ cnts b.kids := by
     have := Vh (b.kids.take (j + 1)) (b.kids.drop (j + 1))
     rw [List.take_append_drop] at this
     omega
    obtain ⟨d2, q1, q2, q3⟩ := q21 N x (by omega) (by omega)
    obtain ⟨d', k1, k2, k3⟩ := ih (j + 1) (if d < d2 then d2 else d) (by omega) (by split <;> omega) (by split <;> omega) (by omega)
    refine ⟨d', ?_, k2, k3⟩
    rw [ZG (s' := (((1 + cnts (b.kids.take (j + 1)) : Nat) : Int), (if d < d2 then d2 else d), ((j + 1 : Nat) : Int))) (by
     simp only [PJ, decide_eq_true (show (j : Int) < (b.kids.length : Int) by omega), cond_true, Zj, hx, bsm, q1, w_S (show j < 4611686018427387904 by omega)]
     rw [w_id (by omega), show ((1 + cnts (b.kids.take j) : Nat) : Int) + (cnt x : Int) = ((1 + cnts (b.kids.take (j + 1)) : Nat) : Int) by omega])]
    exact k1
  have e0 : ((0 : Nat) : Int) = 0 := rfl
  obtain ⟨d, k1, k2, k3⟩ := key b.kids.length 0 0 (by omega) (by omega) (by simp [cnts]) (by simp [cnts])
  have k1' : runL (fun s => PJ (F21 N) b (b.kids.length : Int) s.1 s.2.1 s.2.2) (1, 0, 0) = some (.k0 (cnt b : Int) d) := k1
  refine ⟨d + 1, ?_, by omega, by omega⟩
  unfold Hr
  rw [k1']
  simp only [bsm]
  rw [w_id (by omega)]
theorem RA (a b : ByteArray) : (a ++ b).data.toList = a.data.toList ++ b.data.toList := by simp
theorem Ew (a b : ByteArray) : (a ++ b).size = a.size + b.size := by rw [← ZV, RA, lap, ZV, ZV]
abbrev ints (l : List UInt8) : Iqq := l.map fun b => ((b.toNat : Nat) : Int)
theorem q19 (x : UInt8) : F19 ((x.toNat : Nat) : Int) = some (x == 32 || x == 10) := by
 have e : ∀ c : UInt8, (((x.toNat : Nat) : Int) == ((c.toNat : Nat) : Int)) = (x == c) := fun c => by
  by_cases h : x = c
  ·subst h; simp
  ·have : ¬ x.toNat = c.toNat := fun e => h (UInt8.toNat_inj.1 e)
   rw [show (x == c) = false by simpa using h]
   simpa using fun e => this (by omega)
 have e1 := e 32
 have e2 := e 10
 have n1 : (((32 : UInt8).toNat : Nat) : Int) = 32 := rfl
 have n2 : (((10 : UInt8).toNat : Nat) : Int) = 10 := rfl
 rw [n1] at e1
 rw [n2] at e2
 unfold F19
 rw [e1, e2]
 cases x == 32 <;> rfl
theorem NZ (l : List UInt8) : bstr (ints l) = ⟨l.toArray⟩ := by
 unfold bstr
 congr 2
 rw [List.map_map]
 conv => rhs; rw [← List.map_id l]
 refine List.map_congr_left (fun x _ => ?_)
 simp
theorem l10 (s : ByteArray) (hs : s.size ≤ 8000000) : ∀ (k j gen len : Nat) (row : Iqq), j + k = s.size → len ≤ j → len ≤ row.length → row.take len = ints (brl (s.data.toList.take j)) →
  ∃ g' len' row', runL (fun z => RO s z.1 z.2.1 z.2.2.1 z.2.2.2) (gen, len, (j : Int), row) = some (.k0 g' len' row') ∧ len' ≤ row'.length ∧ row'.take len' = ints (brl s.data.toList)
 | 0, j, gen, len, row, hj, h1, h2, h3 => by
  obtain rfl : j = s.size := by omega
  have ht0 : s.data.toList.take s.size = s.data.toList := tol (by rw [ZV]; exact Nat.le_refl _)
  rw [ht0] at h3
  exact ⟨gen, len, row, Zr (by simp [RO]), h2, h3⟩
 | k + 1, j, gen, len, row, hj, h1, h2, h3 => by
  have hx : s.data.toList[j]? = some (s.data.toList[j]'(by rw [ZV]; omega)) := geg _
  have ht : s.data.toList.take (j + 1) = s.data.toList.take j ++ [s.data.toList[j]'(by rw [ZV]; omega)] := List.take_succ_eq_append_getElem (by rw [ZV]; omega)
  generalize s.data.toList[j]'(by rw [ZV]; omega) = x at hx ht
  have hlt : decide ((j : Int) < (s.size : Int)) = true := decide_eq_true (by omega)
  have hS := w_S (show j < 4611686018427387904 by omega)
  cases hc : (x == 32 || x == 10) with
  | true =>
   have hb : brl (s.data.toList.take (j + 1)) = brl (s.data.toList.take j) := by
    have hx1 : brl [x] = [] := by unfold brl; rw [List.filter_cons, hc]; rfl
    rw [ht, HW, hx1, List.append_nil]
   obtain ⟨g', len', row', k1, k2, k3⟩ := l10 s hs k (j + 1) gen len row (by omega) (by omega) h2 (by rw [hb]; exact h3)
   refine ⟨g', len', row', ?_, k2, k3⟩
   rw [ZG (s' := (gen, len, ((j + 1 : Nat) : Int), row)) (by
    simp only [RO, hlt, cond_true, Zj, hx, bsm, q19, hc, hS])]
   exact k1
  | false =>
   have hb : brl (s.data.toList.take (j + 1)) = brl (s.data.toList.take j) ++ [x] := by
    have hx1 : brl [x] = [x] := by unfold brl; rw [List.filter_cons, hc]; rfl
    rw [ht, HW, hx1]
   obtain ⟨p1, p2⟩ := put1 (row := row) ((x.toNat : Nat) : Int) h2
   have h4 : row.take len ++ [((x.toNat : Nat) : Int)] = ints (brl (s.data.toList.take (j + 1))) := by rw [hb, h3]; simp [ints]
   by_cases hr : len + 1 ≤ row.length
   ·obtain ⟨g', len', row', k1, k2, k3⟩ := l10 s hs k (j + 1) gen (len + 1) _ (by omega) (by omega) (p1 hr).2 (by rw [(p1 hr).1]; exact h4)
    refine ⟨g', len', row', ?_, k2, k3⟩
    rw [ZG (s' := (gen, len + 1, ((j + 1 : Nat) : Int), splice row len [((x.toNat : Nat) : Int)])) (by
     simp only [RO, hlt, cond_true, Zj, hx, bsm, q19, hc, cond_false, ap1 h2 (by omega) (show 1 ≤ 1000 by omega), decide_eq_true hr, hS])]
    exact k1
   ·obtain ⟨g', len', row', k1, k2, k3⟩ := l10 s hs k (j + 1) (gen + 1) (len + 1) _ (by omega) (by omega) p2.2 (by rw [p2.1]; exact h4)
    refine ⟨g', len', row', ?_, k2, k3⟩
    rw [ZG (s' := (gen + 1, len + 1, ((j + 1 : Nat) : Int), row.take len ++ [((x.toNat : Nat) : Int)])) (by
     simp only [RO, hlt, cond_true, Zj, hx, bsm, q19, hc, cond_false, ap1 h2 (by omega) (show 1 ≤ 1000 by omega), decide_eq_false hr, hS])]
    exact k1
theorem q10 (s : ByteArray) (hs : s.size ≤ 8000000) : F10 s = some ⟨(brl s.data.toList).toArray⟩ := by
 have e0 : ((0 : Nat) : Int) = 0 := rfl
 obtain ⟨g', len', row', k1, k2, k3⟩ := l10 s hs s.size 0 0 0 [] (by omega) (Nat.le_refl _) (Nat.le_refl _) rfl
 rw [e0] at k1
 unfold F10
 rw [k1]
 simp only [bsm, decide_eq_true k2, cond_true, k3, NZ]
abbrev bt (t : ThingD) : BoxD := .mk t.kind t.text t.n t.kids
theorem bt_k (t : ThingD) : (bt t).kids = t.kids := rfl
def kts (d w : Int) : Nat → Bqq → Tqq
 | _, [] => []
 | a, x :: l => ⟨x.kind, x.text, x.n, x.kids, d, w, (a : Int)⟩ :: kts d w (a + cnt x) l
theorem To (x : BoxD) (d w a : Int) : bt ⟨x.kind, x.text, x.n, x.kids, d, w, a⟩ = x := by cases x; rfl
theorem HX (d w : Int) : ∀ (l : Bqq) (a : Nat), (kts d w a l).map bt = l
 | [], _ => rfl
 | x :: l, a => by rw [kts, List.map_cons, To, HX d w l]
structure TOk (S : Iqq) (Ls : Oqq) (t : ThingD) : Prop where
 ok : Ok (bt t)
 pos : ∃ (a : Nat) (rest : Iqq) (rest2 : Oqq), t.at_ = (a : Int) ∧ S.drop a = szs (bt t) ++ rest ∧ Ls.drop a = lns (bt t) ++ rest2
 dep : 0 ≤ t.depth ∧ t.depth + 100 * (cnt (bt t) : Int) ≤ 2400000
 wtl : wt (bt t) ≤ 24000
theorem KH : ∀ (a b : Bqq), szss (a ++ b) = szss a ++ szss b
 | [], b => by simp [szss]
 | t :: a, b => by simp only [List.cons_append, szss, KH a b, List.append_assoc]
theorem KI {S : Iqq} {a : Nat} {b : BoxD} {rest : Iqq} (h : S.drop a = szs b ++ rest) (l r : Bqq) (hk : b.kids = l ++ r) : S.drop (a + 1 + cnts l) = szss r ++ rest := by
 rw [Nat.add_assoc, ← List.drop_drop, h, NW, hk, KH, Nat.add_comm 1]
 show ((szss l ++ szss r) ++ rest).drop (cnts l) = _
 rw [List.append_assoc, ← (Up _ l (Nat.le_refl _)).1, List.drop_left]
theorem KJ : ∀ (a b : Bqq), lnss (a ++ b) = lnss a ++ lnss b
 | [], b => by simp [lnss]
 | t :: a, b => by simp only [List.cons_append, lnss, KJ a b, List.append_assoc]
theorem HY {S : Oqq} {a : Nat} {b : BoxD} {rest : Oqq} (h : S.drop a = lns b ++ rest) (l r : Bqq) (hk : b.kids = l ++ r) : S.drop (a + 1 + cnts l) = lnss r ++ rest := by
 rw [Nat.add_assoc, ← List.drop_drop, h, NX, hk, KJ, Nat.add_comm 1]
 show ((lnss l ++ lnss r) ++ rest).drop (cnts l) = _
 rw [List.append_assoc, ← (Up _ l (Nat.le_refl _)).2, List.drop_left]
theorem Ex {S : Iqq} {Ls : Oqq} {d w : Int} : ∀ (l : Bqq) (a : Nat) (rest : Iqq) (rest2 : Oqq), S.drop a = szss l ++ rest → Ls.drop a = lnss l ++ rest2 → (∀ x ∈ l, Ok x) → 0 ≤ d ∧ d + 100 * (cnts l : Int) ≤ 2400000 → wts l ≤ 24000 →
  ∀ t ∈ kts d w a l, TOk S Ls t ∧ t.depth = d ∧ t.way = w
 | [], _, _, _, _, _, _, _, _, t, ht => by simp [kts] at ht
 | x :: l, a, rest, rest2, h, hh, ho, hd, hw, t, ht => by
  simp only [szss, lnss, cnts, wts, List.append_assoc] at h hh hd hw
  rcases List.mem_cons.1 ht with rfl | ht
  ·refine ⟨⟨by rw [To]; exact ho x (by simp), ⟨a, _, _, rfl, by rw [To]; exact h, by rw [To]; exact hh⟩, ⟨hd.1, ?_⟩, by rw [To]; omega⟩, rfl, rfl⟩
   rw [To]
   have h2 := hd.2
   show d + _ ≤ _
   omega
  ·refine Ex l (a + cnt x) rest rest2 ?_ ?_ (fun y hy => ho y (by simp [hy])) ⟨hd.1, by omega⟩ (by omega) t ht
   ·rw [← List.drop_drop, h, ← (PZ x).1, List.drop_left]
   ·rw [← List.drop_drop, hh, ← (PZ x).2, List.drop_left]
noncomputable def p1 {E : Type} (k0 : Nat → Nat → Tqq → E) (a3 a4 : Int) (a7 : ThingD) (a8 : Int) (a16 : Iqq) (v1 v2 : Nat) (v3 v4 : Int) (v5 : Tqq) : Option (E ⊕ (Nat × Nat × Int × Int × Tqq)) :=
 (bif (decide (v4 < a8)) then ((getI a7.kids v4).bind fun x2 => (bif (apOk v2 1 v5.length 80) then (bif (decide (v2 + 1 ≤ v5.length)) then ((getI a16 v3).bind fun x5 => (some (.inr (v1, v2 + 1, (IntKind.wrap .i64 (v3 + x5)), (IntKind.wrap .i64 (v4 + 1)), (splice v5 v2 [(⟨x2.kind, x2.text, x2.n, x2.kids, a3, a4, v3⟩ : ThingD)]))))) else ((getI a16 v3).bind fun x5 => (some (.inr ((v1 + 1), v2 + 1, (IntKind.wrap .i64 (v3 + x5)), (IntKind.wrap .i64 (v4 + 1)), (v5.take v2 ++ [(⟨x2.kind, x2.text, x2.n, x2.kids, a3, a4, v3⟩ : ThingD)])))))) else none)) else (some (.inl (k0 v1 v2 v5))))
noncomputable def p0 {E : Type} (k0 : Tqq → E) (a2 : Nat) (v1 v2 : Int) (v3 : Tqq) : Option (E ⊕ (Int × Int × Tqq)) :=
 (bif (decide (v1 < v2)) then ((ixN a2 v2).bind fun x2 => ((v3[x2]?).bind fun x3 => ((ixN a2 v1).bind fun x4 => ((v3[x4]?).bind fun x5 => (((v3.set x4 (⟨x3.kind, x3.text, x3.n, x3.kids, x3.depth, x3.way, x3.at_⟩ : ThingD))[x2]?).bind fun x6 => (some (.inr ((IntKind.wrap .i64 (v1 + 1)), (IntKind.wrap .i64 (v2 - 1)), ((v3.set x4 (⟨x3.kind, x3.text, x3.n, x3.kids, x3.depth, x3.way, x3.at_⟩ : ThingD)).set x2 (⟨x5.kind, x5.text, x5.n, x5.kids, x5.depth, x5.way, x5.at_⟩ : ThingD)))))))))) else (some (.inl (k0 v3))))
theorem l1 {E : Type} (k0 : Nat → Nat → Tqq → E) {d w : Int} {t : ThingD} {S : Iqq} {a : Nat} {rest : Iqq} (hS : S.drop a = szs (bt t) ++ rest) (ha : a + cnt (bt t) ≤ 8000000) :
  ∀ (k j gen len : Nat) (row : Tqq), j + k = t.kids.length → len ≤ row.length → len + k ≤ 8000000 →
   ∃ g' row', runL (fun s => p1 k0 d w t (t.kids.length : Int) S s.1 s.2.1 s.2.2.1 s.2.2.2.1 s.2.2.2.2) (gen, len, ((a + 1 + cnts (t.kids.take j) : Nat) : Int), (j : Int), row) = some (k0 g' (len + k) row') ∧
    row'.take (len + k) = row.take len ++ kts d w (a + 1 + cnts (t.kids.take j)) (t.kids.drop j) ∧ len + k ≤ row'.length
 | 0, j, gen, len, row, hj, hl, hc => by
  obtain rfl : j = t.kids.length := by omega
  refine ⟨gen, row, Zr ?_, by rw [List.drop_length]; simp [kts], hl⟩
  simp only [p1, decide_eq_false (show ¬ (t.kids.length : Int) < (t.kids.length : Int) by omega), cond_false, Nat.add_zero]
 | k + 1, j, gen, len, row, hj, hl, hc => by
  have hx : t.kids[j]? = some (t.kids[j]'(by omega)) := geg _
  have hd : t.kids.drop j = t.kids[j]'(by omega) :: t.kids.drop (j + 1) := List.drop_eq_getElem_cons (by omega)
  generalize t.kids[j]'(by omega) = x at hx hd
  have ht := NY hx
  have hs := KI hS (t.kids.take j) (t.kids.drop j) (List.take_append_drop j t.kids).symm
  have hkl := XE t.kids
  have hle : cnts (t.kids.take j) + cnts (t.kids.drop j) = cnts t.kids := by rw [← Vh, List.take_append_drop]
  have hct := Z9 (bt t)
  rw [bt_k] at hct
  rw [hd] at hs hle ⊢
  simp only [cnts] at hle
  have hi : getI S ((a + 1 + cnts (t.kids.take j) : Nat) : Int) = some ((cnt x : Nat) : Int) := by
   rw [Zj, ← List.head?_drop, hs, szss, NW]
   rfl
  obtain ⟨q1, q2⟩ := put1 (row := row) (⟨x.kind, x.text, x.n, x.kids, d, w, ((a + 1 + cnts (t.kids.take j) : Nat) : Int)⟩ : ThingD) hl
  have hw : IntKind.wrap .i64 (((a + 1 + cnts (t.kids.take j) : Nat) : Int) + ((cnt x : Nat) : Int)) = ((a + 1 + cnts (t.kids.take (j + 1)) : Nat) : Int) := by rw [w_id (by omega), ht]; omega
  have hlt : decide ((j : Int) < (t.kids.length : Int)) = true := decide_eq_true (by omega)
  have hS1 := w_S (show j < 4611686018427387904 by omega)
  by_cases hr : len + 1 ≤ row.length
  ·obtain ⟨g2, row2, k1, k2, k3⟩ := l1 k0 hS ha k (j + 1) gen (len + 1) _ (by omega) (q1 hr).2 (by omega)
   rw [show len + 1 + k = len + (k + 1) by omega] at k1 k2 k3
   refine ⟨g2, row2, ?_, ?_, k3⟩
   ·rw [ZG (s' := (gen, len + 1, ((a + 1 + cnts (t.kids.take (j + 1)) : Nat) : Int), ((j + 1 : Nat) : Int), splice row len [(⟨x.kind, x.text, x.n, x.kids, d, w, ((a + 1 + cnts (t.kids.take j) : Nat) : Int)⟩ : ThingD)])) (by
     simp only [p1, hlt, cond_true, Zj, hx, bsm, ap1 hl (show len ≤ 9000000 by omega) (show 80 ≤ 1000 by omega), decide_eq_true hr, hS1]
     rw [← Zj, hi]
     simp only [bsm, hw])]
    exact k1
   ·rw [k2, (q1 hr).1, List.append_assoc, ht, ← Nat.add_assoc]
    rfl
  ·obtain ⟨g2, row2, k1, k2, k3⟩ := l1 k0 hS ha k (j + 1) (gen + 1) (len + 1) _ (by omega) q2.2 (by omega)
   rw [show len + 1 + k = len + (k + 1) by omega] at k1 k2 k3
   refine ⟨g2, row2, ?_, ?_, k3⟩
   ·rw [ZG (s' := (gen + 1, len + 1, ((a + 1 + cnts (t.kids.take (j + 1)) : Nat) : Int), ((j + 1 : Nat) : Int), row.take len ++ [(⟨x.kind, x.text, x.n, x.kids, d, w, ((a + 1 + cnts (t.kids.take j) : Nat) : Int)⟩ : ThingD)])) (by
     simp only [p1, hlt, cond_true, Zj, hx, bsm, ap1 hl (show len ≤ 9000000 by omega) (show 80 ≤ 1000 by omega), decide_eq_false hr, cond_false, hS1]
     rw [← Zj, hi]
     simp only [bsm, hw])]
    exact k1
   ·rw [k2, q2.1, List.append_assoc, ht, ← Nat.add_assoc]
    rfl
theorem Lf {α : Type} {row pre post : List α} {x : α} {n i : Nat} (h : row.take n = pre ++ x :: post) (hi : i = pre.length) : i < n ∧ row[i]? = some x := by
 subst hi
 have hl := congrArg List.length h
 rw [List.length_take, lap, lcn] at hl
 have hn : pre.length < n := by omega
 exact ⟨hn, P1 h hn⟩
theorem l0 {E : Type} (k0 : Tqq → E) : ∀ (k n : Nat) (row pre m post : Tqq), m.length ≤ k → row.take n = pre ++ m ++ post → n ≤ row.length → n ≤ 8000000 →
  ∃ row', runL (fun s => p0 k0 n s.1 s.2.1 s.2.2) (((pre.length : Nat) : Int), (((pre.length + m.length : Nat) : Int) - 1), row) = some (k0 row') ∧ row'.take n = pre ++ m.reverse ++ post ∧ row'.length = row.length := by
 intro k
 induction k with
 | zero =>
  intro n row pre m post hm h hn hn2
  obtain rfl : m = [] := enz (by omega)
  refine ⟨row, Zr ?_, h, rfl⟩
  simp only [p0, decide_eq_false (show ¬ ((pre.length : Nat) : Int) < ((pre.length + ([] : Tqq).length : Nat) : Int) - 1 by simp; omega), cond_false]
 | succ k ih =>
  intro n row pre m post hm h hn hn2
  match m, hm, h with
  | [], hm, h =>
   refine ⟨row, Zr ?_, h, rfl⟩
   simp only [p0, decide_eq_false (show ¬ ((pre.length : Nat) : Int) < ((pre.length + ([] : Tqq).length : Nat) : Int) - 1 by simp; omega), cond_false]
  | [x], hm, h =>
   refine ⟨row, Zr ?_, h, rfl⟩
   simp only [p0, decide_eq_false (show ¬ ((pre.length : Nat) : Int) < ((pre.length + [x].length : Nat) : Int) - 1 by simp), cond_false]
  | x :: y :: r, hm, h =>
   obtain ⟨m', z, hz⟩ : ∃ m' z, y :: r = m' ++ [z] := ⟨(y :: r).dropLast, (y :: r).getLast (by simp), (List.dropLast_concat_getLast (by simp)).symm⟩
   rw [hz] at h hm ⊢
   have hm2 : m'.length + 1 ≤ k := by simp only [lcn, lap, List.length_nil] at hm; omega
   have e1 : row.take n = pre ++ x :: (m' ++ z :: post) := by rw [h]; simp
   have e2 : row.take n = (pre ++ x :: m') ++ z :: post := by rw [h]; simp
   obtain ⟨i1, i2⟩ := Lf e1 rfl
   obtain ⟨j1, j2⟩ := Lf e2 (show pre.length + 1 + m'.length = _ by simp; omega)
   have e3 := Uq (y := z) e1 (by omega)
   have e4 : (row.set pre.length z).take n = (pre ++ z :: m') ++ z :: post := by rw [e3]; simp
   obtain ⟨_, j3⟩ := Lf e4 (show pre.length + 1 + m'.length = _ by simp; omega)
   have e5 := Uq (y := x) e4 (by simp; omega)
   rw [show (pre ++ z :: m').length = pre.length + 1 + m'.length by simp; omega] at e5
   have e6 : ((row.set pre.length z).set (pre.length + 1 + m'.length) x).take n = (pre ++ [z]) ++ m' ++ (x :: post) := by rw [e5]; simp
   obtain ⟨row', k1, k2, k3⟩ := ih n _ (pre ++ [z]) m' (x :: post) (by omega) e6 (by simp only [List.length_set]; exact hn) hn2
   refine ⟨row', ?_, by rw [k2]; simp, by rw [k3]; simp⟩
   have w1 : ((pre.length + (x :: (m' ++ [z])).length : Nat) : Int) - 1 = ((pre.length + 1 + m'.length : Nat) : Int) := by simp; omega
   rw [w1, ZG (s' := ((((pre ++ [z]).length : Nat) : Int), (((pre ++ [z]).length + m'.length : Nat) : Int) - 1, (row.set pre.length z).set (pre.length + 1 + m'.length) x)) (by
    have hp : (pre ++ [z]).length = pre.length + 1 := by simp
    simp only [p0, decide_eq_true (show ((pre.length : Nat) : Int) < ((pre.length + 1 + m'.length : Nat) : Int) by omega), cond_true, UA, if_pos i1, if_pos j1, i2, j2, j3, bsm, hp, w_S (show pre.length < 4611686018427387904 by omega),
     w_id (show -9223372036854775808 ≤ ((pre.length + 1 + m'.length : Nat) : Int) - 1 ∧ ((pre.length + 1 + m'.length : Nat) : Int) - 1 ≤ 9223372036854775807 by omega)])]
   exact k1
structure Put (S : Iqq) (Ls : Oqq) (d w : Int) (t : ThingD) (row : Tqq) (len : Nat) (row' : Tqq) (len' : Nat) : Prop where
 le : len' ≤ row'.length
 ex : ∃ K, row'.take len' = row.take len ++ K ∧ K.map bt = t.kids.reverse ∧ ∀ x ∈ K, TOk S Ls x ∧ x.depth = d ∧ x.way = w
theorem push {E F : Type} (k0 : Nat → Nat → Tqq → E) (k1 : Tqq → F) {d w : Int} {t : ThingD} {S : Iqq} {Ls : Oqq} (gen : Nat) {len : Nat} {row : Tqq} (hT : TOk S Ls t) (hS : S.length ≤ 24000) (hd : 0 ≤ d ∧ d + 100 * (cnts t.kids : Int) ≤ 2400000)
  (hl : len ≤ row.length) (hc : len ≤ 24000) :
  ∃ g' len' row1 row', runL (fun s => p1 k0 d w t (t.kids.length : Int) S s.1 s.2.1 s.2.2.1 s.2.2.2.1 s.2.2.2.2) (gen, len, IntKind.wrap .i64 (t.at_ + 1), 0, row) = some (k0 g' len' row1) ∧
   runL (fun s => p0 k1 len' s.1 s.2.1 s.2.2) (((len : Nat) : Int), IntKind.wrap .i64 (((len' : Nat) : Int) - 1), row1) = some (k1 row') ∧ Put S Ls d w t row len row' len' := by
 obtain ⟨a, rest, rest2, h1, h2, h22⟩ := hT.pos
 have hlen := congrArg List.length h2
 rw [List.length_drop, lap, (PZ _).1] at hlen
 have hcp := ZY (bt t)
 have hce := Z9 (bt t)
 rw [bt_k] at hce
 have hkl := XE t.kids
 have e0 : ((0 : Nat) : Int) = 0 := rfl
 obtain ⟨g', row1, m1, m2, m3⟩ := l1 k0 (d := d) (w := w) h2 (by omega) t.kids.length 0 gen len row (by omega) hl (by omega)
 have hw : IntKind.wrap .i64 (t.at_ + 1) = ((a + 1 + cnts (t.kids.take 0) : Nat) : Int) := by rw [h1, w_id (by omega), List.take_zero]; simp [cnts]
 rw [e0, ← hw] at m1
 rw [List.drop_zero, List.take_zero] at m2
 have hpl : (row.take len).length = len := by rw [List.length_take]; omega
 have hkl2 : (kts d w (a + 1 + cnts []) t.kids).length = t.kids.length := by
  have := congrArg List.length (HX d w t.kids (a + 1 + cnts []))
  rwa [List.length_map] at this
 obtain ⟨row', n1, n2, n3⟩ := l0 k1 _ (len + t.kids.length) row1 (row.take len) (kts d w (a + 1 + cnts []) t.kids) [] (Nat.le_refl _) (by rw [m2, List.append_nil]) m3 (by omega)
 rw [hpl, hkl2] at n1
 refine ⟨g', _, row1, row', m1, ?_, by rw [n3]; exact m3, _, by rw [n2, List.append_nil], by rw [List.map_reverse, HX], ?_⟩
 ·rw [w_id (by omega)]
  exact n1
 ·intro x hx
  refine Ex t.kids (a + 1 + cnts []) rest rest2 (KI h2 [] t.kids rfl) (HY h22 [] t.kids rfl) (fun y hy => hT.ok.kid hy) hd (by have := hT.wtl; rw [JX] at this; have e : (bt t).kids = t.kids := rfl; rw [e] at this; omega) x (List.mem_reverse.1 hx)
section
variable {S : Iqq} {Ls : Oqq} {d w : Int} {t : ThingD} {row : Tqq} {len : Nat}
theorem q37 (gen : Nat) (hT : TOk S Ls t) (hS : S.length ≤ 24000) (hd : 0 ≤ d ∧ d + 100 * (cnts t.kids : Int) ≤ 2400000) (hl : len ≤ row.length) (hc : len ≤ 24000) :
  ∃ g' len' row', F37 gen len t d w row S = some (.k0 g' len' row') ∧ Put S Ls d w t row len row' len' := by
 obtain ⟨g', len', row1, row', h1, h2, h3⟩ := push E_L37_1.k0 E_L37_0.k0 gen hT hS hd hl hc
 have h1' : runL (fun s => JK d w t (t.kids.length : Int) S s.1 s.2.1 s.2.2.1 s.2.2.2.1 s.2.2.2.2) (gen, len, IntKind.wrap .i64 (t.at_ + 1), 0, row) = some (.k0 g' len' row1) := h1
 have h2' : runL (fun s => JL len' s.1 s.2.1 s.2.2) (((len : Nat) : Int), IntKind.wrap .i64 (((len' : Nat) : Int) - 1), row1) = some (.k0 row') := h2
 refine ⟨g', len', row', ?_, h3⟩
 unfold F37
 rw [h1']
 simp only [bsm]
 rw [h2']
 rfl
theorem BO (gen : Nat) (hT : TOk S Ls t) (hS : S.length ≤ 24000) (hd : 0 ≤ d ∧ d + 100 * (cnts t.kids : Int) ≤ 2400000) (hl : len ≤ row.length) (hc : len ≤ 24000) :
  ∃ g' len' row', Nc gen len t d w row S = some (.k0 g' len' row') ∧ Put S Ls d w t row len row' len' := by
 obtain ⟨g', len', row1, row', h1, h2, h3⟩ := push E_L37_1_10.k0 E_L37_0_10.k0 gen hT hS hd hl hc
 have h1' : runL (fun s => WW d w t (t.kids.length : Int) S s.1 s.2.1 s.2.2.1 s.2.2.2.1 s.2.2.2.2) (gen, len, IntKind.wrap .i64 (t.at_ + 1), 0, row) = some (.k0 g' len' row1) := h1
 have h2' : runL (fun s => WX len' s.1 s.2.1 s.2.2) (((len : Nat) : Int), IntKind.wrap .i64 (((len' : Nat) : Int) - 1), row1) = some (.k0 row') := h2
 refine ⟨g', len', row', ?_, h3⟩
 unfold Nc
 rw [h1']
 simp only [bsm]
 rw [h2']
 rfl
theorem BP (gen : Nat) (hT : TOk S Ls t) (hS : S.length ≤ 24000) (hd : 0 ≤ d ∧ d + 100 * (cnts t.kids : Int) ≤ 2400000) (hl : len ≤ row.length) (hc : len ≤ 24000) :
  ∃ g' len' row', Rc gen len t d w S row = some (.k0 g' len' row') ∧ Put S Ls d w t row len row' len' := by
 obtain ⟨g', len', row1, row', h1, h2, h3⟩ := push E_L37_1_12.k0 E_L37_0_12.k0 gen hT hS hd hl hc
 have h1' : runL (fun s => W0 d w t (t.kids.length : Int) S s.1 s.2.1 s.2.2.1 s.2.2.2.1 s.2.2.2.2) (gen, len, IntKind.wrap .i64 (t.at_ + 1), 0, row) = some (.k0 g' len' row1) := h1
 have h2' : runL (fun s => W1 len' s.1 s.2.1 s.2.2) (((len : Nat) : Int), IntKind.wrap .i64 (((len' : Nat) : Int) - 1), row1) = some (.k0 row') := h2
 refine ⟨g', len', row', ?_, h3⟩
 unfold Rc
 rw [h1']
 simp only [bsm]
 rw [h2']
 rfl
theorem BQ (gen : Nat) (hT : TOk S Ls t) (hS : S.length ≤ 24000) (hd : 0 ≤ d ∧ d + 100 * (cnts t.kids : Int) ≤ 2400000) (hl : len ≤ row.length) (hc : len ≤ 24000) :
  ∃ g' len' row', Rh gen len t d w S row = some (.k0 g' len' row') ∧ Put S Ls d w t row len row' len' := by
 obtain ⟨g', len', row1, row', h1, h2, h3⟩ := push E_L37_1_13.k0 E_L37_0_13.k0 gen hT hS hd hl hc
 have h1' : runL (fun s => W3 d w t (t.kids.length : Int) S s.1 s.2.1 s.2.2.1 s.2.2.2.1 s.2.2.2.2) (gen, len, IntKind.wrap .i64 (t.at_ + 1), 0, row) = some (.k0 g' len' row1) := h1
 have h2' : runL (fun s => W4 len' s.1 s.2.1 s.2.2) (((len : Nat) : Int), IntKind.wrap .i64 (((len' : Nat) : Int) - 1), row1) = some (.k0 row') := h2
 refine ⟨g', len', row', ?_, h3⟩
 unfold Rh
 rw [h1']
 simp only [bsm]
 rw [h2']
 rfl
theorem Ey (gen : Nat) (hT : TOk S Ls t) (hS : S.length ≤ 24000) (hd : 0 ≤ d ∧ d + 100 * (cnts t.kids : Int) ≤ 2400000) (hl : len ≤ row.length) (hc : len ≤ 24000) :
  ∃ g' len' row', QR gen len t d w row S = some (.k0 g' len' row') ∧ Put S Ls d w t row len row' len' := by
 obtain ⟨g', len', row1, row', h1, h2, h3⟩ := push E_L37_1_14.k0 E_L37_0_14.k0 gen hT hS hd hl hc
 have h1' : runL (fun s => W7 d w t (t.kids.length : Int) S s.1 s.2.1 s.2.2.1 s.2.2.2.1 s.2.2.2.2) (gen, len, IntKind.wrap .i64 (t.at_ + 1), 0, row) = some (.k0 g' len' row1) := h1
 have h2' : runL (fun s => W8 len' s.1 s.2.1 s.2.2) (((len : Nat) : Int), IntKind.wrap .i64 (((len' : Nat) : Int) - 1), row1) = some (.k0 row') := h2
 refine ⟨g', len', row', ?_, h3⟩
 unfold QR
 rw [h1']
 simp only [bsm]
 rw [h2']
 rfl
theorem Ez (gen : Nat) (hT : TOk S Ls t) (hS : S.length ≤ 24000) (hd : 0 ≤ d ∧ d + 100 * (cnts t.kids : Int) ≤ 2400000) (hl : len ≤ row.length) (hc : len ≤ 24000) :
  ∃ g' len' row', QV gen len t d w row S = some (.k0 g' len' row') ∧ Put S Ls d w t row len row' len' := by
 obtain ⟨g', len', row1, row', h1, h2, h3⟩ := push E_L37_1_15.k0 E_L37_0_15.k0 gen hT hS hd hl hc
 have h1' : runL (fun s => W9 d w t (t.kids.length : Int) S s.1 s.2.1 s.2.2.1 s.2.2.2.1 s.2.2.2.2) (gen, len, IntKind.wrap .i64 (t.at_ + 1), 0, row) = some (.k0 g' len' row1) := h1
 have h2' : runL (fun s => Va len' s.1 s.2.1 s.2.2) (((len : Nat) : Int), IntKind.wrap .i64 (((len' : Nat) : Int) - 1), row1) = some (.k0 row') := h2
 refine ⟨g', len', row', ?_, h3⟩
 unfold QV
 rw [h1']
 simp only [bsm]
 rw [h2']
 rfl
theorem EA (gen : Nat) (hT : TOk S Ls t) (hS : S.length ≤ 24000) (hd : 0 ≤ d ∧ d + 100 * (cnts t.kids : Int) ≤ 2400000) (hl : len ≤ row.length) (hc : len ≤ 24000) :
  ∃ g' len' row', QZ gen len t d w row S = some (.k0 g' len' row') ∧ Put S Ls d w t row len row' len' := by
 obtain ⟨g', len', row1, row', h1, h2, h3⟩ := push E_L37_1_16.k0 E_L37_0_16.k0 gen hT hS hd hl hc
 have h1' : runL (fun s => Vb d w t (t.kids.length : Int) S s.1 s.2.1 s.2.2.1 s.2.2.2.1 s.2.2.2.2) (gen, len, IntKind.wrap .i64 (t.at_ + 1), 0, row) = some (.k0 g' len' row1) := h1
 have h2' : runL (fun s => Vc len' s.1 s.2.1 s.2.2) (((len : Nat) : Int), IntKind.wrap .i64 (((len' : Nat) : Int) - 1), row1) = some (.k0 row') := h2
 refine ⟨g', len', row', ?_, h3⟩
 unfold QZ
 rw [h1']
 simp only [bsm]
 rw [h2']
 rfl
theorem EB (gen : Nat) (hT : TOk S Ls t) (hS : S.length ≤ 24000) (hd : 0 ≤ d ∧ d + 100 * (cnts t.kids : Int) ≤ 2400000) (hl : len ≤ row.length) (hc : len ≤ 24000) :
  ∃ g' len' row', Q3 gen len t d w row S = some (.k0 g' len' row') ∧ Put S Ls d w t row len row' len' := by
 obtain ⟨g', len', row1, row', h1, h2, h3⟩ := push E_L37_1_17.k0 E_L37_0_17.k0 gen hT hS hd hl hc
 have h1' : runL (fun s => Vd d w t (t.kids.length : Int) S s.1 s.2.1 s.2.2.1 s.2.2.2.1 s.2.2.2.2) (gen, len, IntKind.wrap .i64 (t.at_ + 1), 0, row) = some (.k0 g' len' row1) := h1
 have h2' : runL (fun s => Ve len' s.1 s.2.1 s.2.2) (((len : Nat) : Int), IntKind.wrap .i64 (((len' : Nat) : Int) - 1), row1) = some (.k0 row') := h2
 refine ⟨g', len', row', ?_, h3⟩
 unfold Q3
 rw [h1']
 simp only [bsm]
 rw [h2']
 rfl
theorem BS (hT : TOk S Ls t) (hS : S.length ≤ 24000) (hd : 0 ≤ d ∧ d + 100 * (cnts t.kids : Int) ≤ 2400000) :
  ∃ g' len' row', Nj t d w S = some (.k0 g' len' row') ∧ Put S Ls d w t [] 0 row' len' := by
 obtain ⟨g', len', row1, row', h1, h2, h3⟩ := push E_L37_1_11.k0 E_L37_0_11.k0 0 hT hS hd (row := []) (len := 0) (w := w) (Nat.le_refl _) (by omega)
 have h1' : runL (fun s => WY d w t (t.kids.length : Int) S s.1 s.2.1 s.2.2.1 s.2.2.2.1 s.2.2.2.2) (0, 0, IntKind.wrap .i64 (t.at_ + 1), 0, []) = some (.k0 g' len' row1) := h1
 have h2' : runL (fun s => WZ len' s.1 s.2.1 s.2.2) (0, IntKind.wrap .i64 (((len' : Nat) : Int) - 1), row1) = some (.k0 row') := h2
 refine ⟨g', len', row', ?_, h3⟩
 unfold Nj
 rw [h1']
 simp only [bsm]
 rw [h2']
 rfl
end
structure Buf (row : Iqq) (len : Nat) (o : List UInt8) : Prop where
 le : len ≤ row.length
 is : row.take len = ints o
theorem Lg (s : ByteArray) : Zl s = ints s.data.toList := rfl
theorem Q6 (s : ByteArray) : (Zl s).length = s.size := by rw [Lg, List.length_map, ZV]
theorem apN {len k n : Nat} (h : len ≤ n) (hb : len + k ≤ 9000000) : apOk len k n 1 = true := decide_eq_true ⟨h, by unfold Zo; omega, by unfold Zo; omega⟩
theorem putN {row : Iqq} {len : Nat} {o : List UInt8} (s : List UInt8) (h : Buf row len o) :
  (len + s.length ≤ row.length → Buf (splice row len (ints s)) (len + s.length) (o ++ s)) ∧ Buf (row.take len ++ ints s) (len + s.length) (o ++ s) := by
 have hs : (ints s).length = s.length := List.length_map _
 have ha : ints (o ++ s) = row.take len ++ ints s := by rw [h.is]; simp [ints]
 have hp : (row.take len).length = len := by rw [List.length_take]; have := h.le; omega
 refine ⟨fun hl => ?_, ⟨?_, ?_⟩⟩
 ·obtain ⟨h1, h2⟩ := Q5 (l := row) (y := ints s) (n := len) (by omega)
  rw [hs] at h1
  exact ⟨by rw [h2]; exact hl, by rw [h1, ha]⟩
 ·rw [lap, hp, hs]; exact Nat.le_refl _
 ·rw [ha]; exact tol (by rw [lap, hp, hs]; exact Nat.le_refl _)
theorem q42 (v : Bool) : ∃ f, MN v = some f := by unfold MN; cases v <;> exact ⟨_, rfl⟩
section
variable {row : Iqq} {len : Nat} {o : List UInt8}
theorem BT (s : ByteArray) (v : Bool) (gen : Nat) (h : Buf row len o) (hb : len + s.size ≤ 9000000) :
  ∃ n fl g' row', JI s v gen len row = some (.k0 n fl g' row') ∧ Buf row' (len + s.size) (o ++ s.data.toList) := by
 obtain ⟨f, hf⟩ := q42 v
 obtain ⟨p1, p2⟩ := putN s.data.toList h
 rw [ZV, ← Lg] at p1 p2
 unfold JI
 rw [hf]
 simp only [bsm, Q6, apN h.le hb, cond_true]
 by_cases hr : len + s.size ≤ row.length
 ·rw [decide_eq_true hr]; exact ⟨_, _, _, _, rfl, p1 hr⟩
 ·rw [decide_eq_false hr]; exact ⟨_, _, _, _, rfl, p2⟩
theorem CK (t : ThingD) (v : Bool) (gen : Nat) (h : Buf row len o) (hb : len + t.text.size ≤ 9000000) :
  ∃ n fl g' row', MO t v gen len row = some (.k0 n fl g' row') ∧ Buf row' (len + t.text.size) (o ++ t.text.data.toList) := by
 obtain ⟨f, hf⟩ := q42 v
 obtain ⟨p1, p2⟩ := putN t.text.data.toList h
 rw [ZV, ← Lg] at p1 p2
 unfold MO
 rw [hf]
 simp only [bsm, Q6, apN h.le hb, cond_true]
 by_cases hr : len + t.text.size ≤ row.length
 ·rw [decide_eq_true hr]; exact ⟨_, _, _, _, rfl, p1 hr⟩
 ·rw [decide_eq_false hr]; exact ⟨_, _, _, _, rfl, p2⟩
theorem q33 (v : Bool) (gen : Nat) (h : Buf row len o) (hb : len ≤ 8000000) :
  ∃ fl g' row', JM v gen len row = some (.k0 fl g' row') ∧ Buf row' (len + 1) (o ++ [10]) := by
 obtain ⟨f, hf⟩ := q42 v
 obtain ⟨p1, p2⟩ := putN [10] h
 unfold JM Fd
 rw [hf]
 simp only [bsm, apN h.le (show len + 1 ≤ 9000000 by omega), cond_true]
 by_cases hr : len + 1 ≤ row.length
 ·rw [decide_eq_true hr]; exact ⟨_, _, _, rfl, p1 hr⟩
 ·rw [decide_eq_false hr]; exact ⟨_, _, _, rfl, p2⟩
end
abbrev sp1 : ByteArray := ⟨([32] : List UInt8).toArray⟩
theorem FB : ∀ n, Lib.repeatL [32] n = List.replicate n 32
 | 0 => rfl
 | n + 1 => by rw [List.replicate_succ, ← FB n]; rfl
theorem q35 {n : Int} (h : 0 ≤ n ∧ n ≤ 2400000) : ∃ s, F35 sp1 n = some s ∧ s.size = n.toNat ∧ brl s.data.toList = [] := by
 have h1 : rpOk sp1 n = true := decide_eq_true ⟨h.1, by omega, by show ((1 : Nat) : Int) * n ≤ _; omega⟩
 have h2 : (repS sp1 n).data.toList = List.replicate n.toNat 32 := by
  show (Lib.repeatL [32] n.toNat).toArray.toList = _
  rw [List.toList_toArray, FB]
 refine ⟨repS sp1 n, by unfold F35; rw [h1]; rfl, by rw [← ZV, h2, lrp], ?_⟩
 rw [h2]
 unfold brl
 rw [List.filter_replicate]
 rfl
theorem l49 (t : ThingD) : ∀ k : Nat, k ≤ t.text.size → k ≤ 8000000 → ∃ e, runL (fun s => Yu t s) ((k : Int) - 1) = some e ∧ (Yl t.text = false → e = .k1)
 | 0, _, _ => ⟨.k1, Zr rfl, fun _ => rfl⟩
 | k + 1, h, hb => by
  have hx : t.text.data.toList[k]? = some (t.text.data.toList[k]'(by rw [ZV]; omega)) := geg _
  generalize t.text.data.toList[k]'(by rw [ZV]; omega) = x at hx
  have e1 : ((k + 1 : Nat) : Int) - 1 = (k : Int) := by omega
  have ew : IntKind.wrap .i64 ((k : Int) - 1) = (k : Int) - 1 := w_id (by omega)
  rw [e1]
  by_cases hc : x = 10
  ·refine ⟨.k0 k, Zr ?_, fun hn => ?_⟩
   ·rw [hc] at hx
    simp only [Yu, decide_eq_true (show (k : Int) ≥ 0 by omega), cond_true, Zj, hx, bsm]
    rfl
   ·unfold Yl at hn
    exact absurd (hc ▸ mog hx) (of_decide_eq_false hn)
  ·have hx10 : ((x.toNat : Int) == 10) = false := by
    have : ¬ x.toNat = 10 := fun e => hc (UInt8.toNat_inj.1 e)
    simpa using fun e => this (by omega)
   obtain ⟨e, k1, k2⟩ := l49 t k (by omega) (by omega)
   refine ⟨e, ?_, k2⟩
   rw [ZG (s' := (k : Int) - 1) (by
    simp only [Yu, decide_eq_true (show (k : Int) ≥ 0 by omega), cond_true, Zj, hx, bsm, hx10, cond_false, ew])]
   exact k1
theorem q40 (t : ThingD) (h : t.text.size ≤ 8000000) : ∃ v, Tn t = some v ∧ (Yl t.text = false → v = -1) := by
 obtain ⟨e, k1, k2⟩ := l49 t t.text.size (Nat.le_refl _) h
 unfold Tn HA
 rw [w_id (by omega), k1]
 cases e with
 | k0 x => exact ⟨x, rfl, fun hn => by cases k2 hn⟩
 | k1 => exact ⟨-1, rfl, fun _ => rfl⟩
theorem emp {a : ByteArray} (h : a.size = 0) : a = ⟨([] : List UInt8).toArray⟩ := by
 cases a with | mk d => congr 1; exact Array.eq_empty_of_size_eq_zero h
theorem N0 {A E : Type} {step : A → Option (E ⊕ A)} {Inv : Nat → A → Prop} {Post : E → Prop}
  (h : ∀ k s, Inv k s → ∃ r, step s = some r ∧ (∀ s', r = .inr s' → ∃ k', k' < k ∧ Inv k' s') ∧ ∀ e, r = .inl e → Post e) :
  ∀ n k s, k ≤ n → Inv k s → ∃ e, runL step s = some e ∧ Post e := by
 intro n
 induction n with
 | zero =>
  intro k s hk hi
  obtain ⟨r, h1, h2, h3⟩ := h k s hi
  match r, h1, h2, h3 with
  | .inl e, h1, _, h3 => exact ⟨e, Zr h1, h3 e rfl⟩
  | .inr s', _, h2, _ => obtain ⟨k', h4, _⟩ := h2 s' rfl; omega
 | succ n ih =>
  intro k s hk hi
  obtain ⟨r, h1, h2, h3⟩ := h k s hi
  match r, h1, h2, h3 with
  | .inl e, h1, _, h3 => exact ⟨e, Zr h1, h3 e rfl⟩
  | .inr s', h1, h2, _ =>
   obtain ⟨k', h4, h5⟩ := h2 s' rfl
   obtain ⟨e, h6, h7⟩ := ih k' s' (by omega) h5
   exact ⟨e, (ZG h1).trans h6, h7⟩
section
variable {S : Iqq} {Ls : Oqq} {fl : Bool} {row : Tqq} {len : Nat} {bs : Bqq}
end
theorem TOk.txt {S : Iqq} {Ls : Oqq} {t : ThingD} (h : TOk S Ls t) : t.text.size ≤ 24000 ∧ cnt (bt t) = 1 + cnts t.kids := by
 have h1 := h.wtl
 rw [JX] at h1
 have e : (bt t).text = t.text := rfl
 rw [e] at h1
 exact ⟨by omega, Z9 (bt t)⟩
theorem wd {n : Nat} (h : n < 4611686018427387904) : IntKind.wrap .i64 (((n + 1 : Nat) : Int) - 1) = (n : Int) := by rw [w_id (by omega)]; omega
inductive LF where
 | tx (s : ByteArray) | br (n w : Int) | ln
mutual
def lv : Int → BoxD → List LF
 | w, .mk k t n l => bif k == 0 then (bif t.size == 0 then [] else [.tx t]) else bif k == 1 then [.br n w] else bif k == 2 then [.ln] else bif k == 4 then lvs 1 l else lvs w l
def lvs : Int → Bqq → List LF
 | _, [] => []
 | w, b :: l => lv w b ++ lvs w l
end
abbrev At := BoxD × Int × Int
mutual
def fl : Int → Int → BoxD → List At
 | d, w, .mk k t n l => bif k == 0 then (bif t.size == 0 then [] else [(.mk k t n l, d, w)]) else bif k == 1 || k == 2 || k == 4 then [(.mk k t n l, d, w)] else bif k == 5 then fls (d + n) w l else fls d w l
def fls : Int → Int → Bqq → List At
 | _, _, [] => []
 | d, w, b :: l => fl d w b ++ fls d w l
end
theorem N1 (w : Int) : ∀ b : BoxD, lv w b = bif b.kind == 0 then (bif b.text.size == 0 then [] else [.tx b.text]) else bif b.kind == 1 then [.br b.n w] else bif b.kind == 2 then [.ln] else bif b.kind == 4 then lvs 1 b.kids else lvs w b.kids
 | .mk _ _ _ _ => by simp only [lv, BoxD.kids, BoxD.text, BoxD.kind, BoxD.n]
theorem Lh (d w : Int) : ∀ b : BoxD, fl d w b = bif b.kind == 0 then (bif b.text.size == 0 then [] else [(b, d, w)]) else bif b.kind == 1 || b.kind == 2 || b.kind == 4 then [(b, d, w)] else bif b.kind == 5 then fls (d + b.n) w b.kids else fls d w b.kids
 | .mk _ _ _ _ => by simp only [fl, BoxD.kids, BoxD.text, BoxD.kind, BoxD.n]
def lvA (l : List At) : List LF := l.flatMap fun x => lv x.2.2 x.1
def msA : List At → Nat
 | [] => 0
 | x :: l => cnt x.1 + msA l
theorem Tb (a b : List At) : lvA (a ++ b) = lvA a ++ lvA b := List.flatMap_append
theorem YJ : ∀ (a b : List At), msA (a ++ b) = msA a + msA b
 | [], b => by simp [msA]
 | t :: a, b => by simp only [List.cons_append, msA, YJ a b]; omega
theorem CL : ∀ (N : Nat) (b : BoxD) (d w : Int), cnt b ≤ N → msA (fl d w b) ≤ cnt b ∧ lvA (fl d w b) = lv w b
 | 0, b, _, _, h => by have := ZY b; omega
 | N + 1, b, d, w, h => by
  have key : ∀ (l : Bqq) (d w : Int), (∀ x ∈ l, cnt x ≤ N) → msA (fls d w l) ≤ cnts l ∧ lvA (fls d w l) = lvs w l := by
   intro l d w
   induction l with
   | nil => intro _; exact ⟨by simp [fls, msA], by simp [fls, lvA, lvs]⟩
   | cons x l ih =>
    intro hl
    obtain ⟨h1, h2⟩ := CL N x d w (hl x (by simp))
    obtain ⟨h3, h4⟩ := ih (fun y hy => hl y (by simp [hy]))
    simp only [fls, cnts, lvs, YJ, Tb, h2, h4]
    exact ⟨by omega, trivial⟩
  have hk : ∀ x ∈ b.kids, cnt x ≤ N := fun x hx => by have := Yz hx; have := Z9 b; omega
  have hone : msA [(b, d, w)] ≤ cnt b ∧ lvA [(b, d, w)] = lv w b := ⟨by simp [msA], by simp [lvA]⟩
  have hce := Z9 b
  have e1 := Lh d w b
  have e2 := N1 w b
  by_cases k0 : b.kind = 0
  ·rw [show (b.kind == 0) = true by rw [k0]; rfl] at e1 e2
   simp only [cond_true] at e1 e2
   cases hs : b.text.size == 0 with
   | true => rw [hs] at e1 e2; rw [e1, e2]; exact ⟨by simp [msA], rfl⟩
   | false => rw [hs] at e1; rw [e1]; exact hone
  rw [Zh k0] at e1 e2
  simp only [cond_false] at e1 e2
  by_cases k1 : b.kind = 1
  ·rw [e1, show (b.kind == 1) = true by rw [k1]; rfl]; exact hone
  by_cases k2 : b.kind = 2
  ·rw [e1, show (b.kind == 2) = true by rw [k2]; rfl, Bool.or_true]; exact hone
  by_cases k4 : b.kind = 4
  ·rw [e1, show (b.kind == 4) = true by rw [k4]; rfl, Bool.or_true]; exact hone
  rw [Zh k1, Zh k2, Zh k4] at e1 e2
  simp only [Bool.or_false, cond_false] at e1 e2
  rw [e1, e2]
  cases b.kind == 5 with
  | true =>
   obtain ⟨h1, h2⟩ := key b.kids (d + b.n) w hk
   exact ⟨by simp only [cond_true]; omega, h2⟩
  | false =>
   obtain ⟨h1, h2⟩ := key b.kids d w hk
   exact ⟨by simp only [cond_false]; omega, h2⟩
theorem KK : ∀ (l : Bqq) (d w : Int), msA (fls d w l) ≤ cnts l ∧ lvA (fls d w l) = lvs w l
 | [], _, _ => ⟨by simp [fls, msA], by simp [fls, lvA, lvs]⟩
 | x :: l, d, w => by
  obtain ⟨h1, h2⟩ := CL _ x d w (Nat.le_refl _)
  obtain ⟨h3, h4⟩ := KK l d w
  simp only [fls, cnts, lvs, YJ, Tb, h2, h4]
  exact ⟨by omega, trivial⟩
noncomputable def ct (s : ByteArray) : Int × Bool := match F47 s with
 | some (.k0 a _ c) => ((a.size : Int), c)
 | none => (0, false)
noncomputable def lix (s : ByteArray) : Int := (Tn ⟨0, s, 0, [], 0, 0, 0⟩).getD (-1)
noncomputable def Ym (wd : Int) : List LF → Int → Bool
 | [], c => decide (c ≤ wd)
 | .tx s :: l, c => decide (c ≤ wd) && (bif (ct s).2 then decide (c + (ct s).1 ≤ wd) else Ym wd l (c + (ct s).1))
 | .br n w :: l, c => decide (c ≤ wd) && (bif w == 0 then true else Ym wd l (c + n))
 | .ln :: _, c => decide (c ≤ wd)
noncomputable def txo (s : ByteArray) (d : Int) (o : List UInt8) (fr : Bool) : List UInt8 :=
 bif s.size == 0 then o else (o ++ (bif fr && s.data.toList.head? != some 10 then List.replicate d.toNat 32 else [])) ++ s.data.toList
noncomputable def txc (s : ByteArray) (d col : Int) : Int :=
 bif s.size == 0 then col else bif lix s == (s.size : Int) - 1 then d else bif decide (lix s ≥ 0) then (s.size : Int) - 1 - lix s else col + (s.size : Int)
noncomputable def txf (s : ByteArray) (fr : Bool) : Bool := bif s.size == 0 then fr else lix s == (s.size : Int) - 1
noncomputable def gw (wd w : Int) (b : BoxD) (l : List LF) (col : Int) : Int := bif w == 1 || (!(hasL b) && Ym wd (lvs 1 b.kids ++ l) col) then 1 else 0
noncomputable def R (wd : Int) : List At → List UInt8 → Int → Bool → List UInt8
 | [], o, _, _ => o
 | x :: l, o, col, fr =>
  if 1048576 < o.length then o
  else if x.1.kind = 0 then R wd l (txo x.1.text x.2.1 o fr) (txc x.1.text x.2.1 col) (txf x.1.text fr)
  else if x.1.kind = 1 then (if x.2.2 = 0 then R wd l (o ++ [10]) x.2.1 true else R wd l (o ++ List.replicate x.1.n.toNat 32) (col + x.1.n) fr)
  else if x.1.kind = 2 then R wd l (o ++ [10]) x.2.1 true
  else R wd (fls x.2.1 (gw wd x.2.2 x.1 (lvA l) col) x.1.kids ++ l) o col fr
 termination_by l => msA l
 decreasing_by
  all_goals simp only [msA]
  ·have := ZY x.1; omega
  ·have := ZY x.1; omega
  ·have := ZY x.1; omega
  ·have := ZY x.1; omega
  ·rw [YJ]
   have := (KK x.1.kids x.2.1 (gw wd x.2.2 x.1 (lvA l) col)).1
   have := Z9 x.1
   omega
theorem HZ (wd : Int) (o : List UInt8) (col : Int) (fr : Bool) : R wd [] o col fr = o := by rw [R]
theorem AL {wd : Int} {l : List At} {o : List UInt8} {col : Int} {fr : Bool} (h : 1048576 < o.length) : R wd l o col fr = o := by
 cases l with
 | nil => exact HZ ..
 | cons x l => rw [R, if_pos h]
section
variable {wd : Int} {l : List At} {o : List UInt8} {col : Int} {fr : Bool} {b : BoxD} {d w : Int}
theorem R_tx (h : ¬ 1048576 < o.length) (hk : b.kind = 0) : R wd ((b, d, w) :: l) o col fr = R wd l (txo b.text d o fr) (txc b.text d col) (txf b.text fr) := by
 rw [R, if_neg h, if_pos hk]
theorem BU (h : ¬ 1048576 < o.length) (hk : b.kind = 1) (hw : w = 0) : R wd ((b, d, w) :: l) o col fr = R wd l (o ++ [10]) d true := by
 rw [R, if_neg h, if_neg (by rw [hk]; decide), if_pos hk, if_pos hw]
theorem BV (h : ¬ 1048576 < o.length) (hk : b.kind = 1) (hw : ¬ w = 0) : R wd ((b, d, w) :: l) o col fr = R wd l (o ++ List.replicate b.n.toNat 32) (col + b.n) fr := by
 rw [R, if_neg h, if_neg (by rw [hk]; decide), if_pos hk, if_neg hw]
theorem R_ln (h : ¬ 1048576 < o.length) (hk : b.kind = 2) : R wd ((b, d, w) :: l) o col fr = R wd l (o ++ [10]) d true := by
 rw [R, if_neg h, if_neg (by rw [hk]; decide), if_neg (by rw [hk]; decide), if_pos hk]
theorem R_gr (h : ¬ 1048576 < o.length) (hk : b.kind = 4) : R wd ((b, d, w) :: l) o col fr = R wd (fls d (gw wd w b (lvA l) col) b.kids ++ l) o col fr := by
 rw [R, if_neg h, if_neg (by rw [hk]; decide), if_neg (by rw [hk]; decide), if_neg (by rw [hk]; decide)]
end
theorem l49x (t : ThingD) : ∀ k : Nat, k ≤ 8000000 → k ≤ t.text.size → ∃ v : Int, (runL (fun s => Yu t s) ((k : Int) - 1) = some (.k0 v) ∧ 0 ≤ v ∧ v < k) ∨ runL (fun s => Yu t s) ((k : Int) - 1) = some .k1
 | 0, _, _ => ⟨0, .inr (Zr rfl)⟩
 | k + 1, hb, h => by
  have hx : t.text.data.toList[k]? = some (t.text.data.toList[k]'(by rw [ZV]; omega)) := geg _
  generalize t.text.data.toList[k]'(by rw [ZV]; omega) = x at hx
  have e1 : ((k + 1 : Nat) : Int) - 1 = (k : Int) := by omega
  have ew : IntKind.wrap .i64 ((k : Int) - 1) = (k : Int) - 1 := w_id (by omega)
  rw [e1]
  cases hc : ((x.toNat : Int) == 10) with
  | true =>
   refine ⟨k, .inl ⟨Zr ?_, by omega, by omega⟩⟩
   simp only [Yu, decide_eq_true (show (k : Int) ≥ 0 by omega), cond_true, Zj, hx, bsm, hc]
  | false =>
   obtain ⟨v, hv⟩ := l49x t k (by omega) (by omega)
   have hn : runL (fun s => Yu t s) (k : Int) = runL (fun s => Yu t s) ((k : Int) - 1) := ZG (by
    simp only [Yu, decide_eq_true (show (k : Int) ≥ 0 by omega), cond_true, Zj, hx, bsm, hc, cond_false, ew])
   rw [hn]
   rcases hv with ⟨h1, h2, h3⟩ | h1
   ·exact ⟨v, .inl ⟨h1, h2, by omega⟩⟩
   ·exact ⟨v, .inr h1⟩
theorem EC (t : ThingD) (h : t.text.size ≤ 8000000) : Tn t = some (lix t.text) ∧ -1 ≤ lix t.text ∧ lix t.text ≤ (t.text.size : Int) - 1 := by
 have e : Tn ⟨0, t.text, 0, [], 0, 0, 0⟩ = Tn t := rfl
 unfold lix
 rw [e]
 obtain ⟨v, hv⟩ := l49x t t.text.size h (Nat.le_refl _)
 have hw : IntKind.wrap .i64 ((t.text.size : Int) - 1) = (t.text.size : Int) - 1 := w_id (by omega)
 unfold Tn HA
 rw [hw]
 rcases hv with ⟨h1, h2, h3⟩ | h1
 ·rw [h1]; exact ⟨rfl, by show -1 ≤ v; omega, by show v ≤ _; omega⟩
 ·rw [h1]; exact ⟨rfl, by show (-1 : Int) ≤ -1; omega, by show (-1 : Int) ≤ _; omega⟩
theorem FC {s : ByteArray} (h : s.size ≤ 8000000) (hn : Yl s = false) : lix s = -1 := by
 obtain ⟨v, h1, h2⟩ := q40 ⟨0, s, 0, [], 0, 0, 0⟩ h
 unfold lix
 rw [h1]
 exact h2 hn
theorem is10 (x : UInt8) : ((x.toNat : Int) != 10) = (some x != some (10 : UInt8)) := by
 by_cases h : x = 10
 ·subst h; rfl
 ·have h1 : ¬ x.toNat = 10 := fun e => h (UInt8.toNat_inj.1 e)
  have h2 : ((x.toNat : Int) == 10) = false := by simpa using fun e => h1 (by omega)
  have h3 : (some x == some (10 : UInt8)) = false := by simpa using h
  simp only [bne, h2, h3]
theorem q32x {row : Iqq} {len : Nat} {o : List UInt8} (t : ThingD) (v : Bool) (gen : Nat) (col : Int) (fresh : Bool) (h : Buf row len o) (hd : 0 ≤ t.depth ∧ t.depth ≤ 2400000) (hs : t.text.size ≤ 24000) (hb : len ≤ 4000000) (hc : 0 ≤ col ∧ col ≤ 9000000) :
  ∃ fl g' len' row', HB t v gen len col fresh row = some (.k0 fl g' len' (txc t.text t.depth col) (txf t.text fresh) row') ∧ Buf row' len' (txo t.text t.depth o fresh) ∧ len' ≤ len + 2430000 := by
 obtain ⟨hx, hx1, hx2⟩ := EC t (by omega)
 have w1 : IntKind.wrap .i64 ((t.text.size : Int) - 1) = (t.text.size : Int) - 1 := w_id (by omega)
 have w2 : IntKind.wrap .i64 ((t.text.size : Int) - 1 - lix t.text) = (t.text.size : Int) - 1 - lix t.text := w_id (by omega)
 have w3 : IntKind.wrap .i64 (col + (t.text.size : Int)) = col + (t.text.size : Int) := w_id (by omega)
 have pick : ∀ (f : Bool) (g l : Nat) (r : Iqq), ¬ t.text.size = 0 → (bif lix t.text == (t.text.size : Int) - 1 then some (R_F32_4.k0 f g l t.depth (lix t.text == (t.text.size : Int) - 1) r) else bif decide (lix t.text ≥ 0) then some (R_F32_4.k0 f g l ((t.text.size : Int) - 1 - lix t.text) (lix t.text == (t.text.size : Int) - 1) r) else some (R_F32_4.k0 f g l (col + (t.text.size : Int)) (lix t.text == (t.text.size : Int) - 1) r)) =
   some (R_F32_4.k0 f g l (txc t.text t.depth col) (txf t.text fresh) r) := by
  intro f g l r h0
  have hz : (t.text.size == 0) = false := by simpa using h0
  unfold txc txf
  rw [hz]
  cases lix t.text == (t.text.size : Int) - 1 <;> cases decide (lix t.text ≥ 0) <;> rfl
 unfold HB
 rw [Zu]
 by_cases he : t.text = Eqq
 ·have hz : (t.text.size == 0) = true := by rw [he]; rfl
  rw [decide_eq_true he, cond_true]
  unfold txo txc txf
  rw [hz]
  exact ⟨_, _, _, _, rfl, h, by omega⟩
 ·have h0 : ¬ t.text.size = 0 := fun h0 => he (emp h0)
  have hz : (t.text.size == 0) = false := by simpa using h0
  rw [decide_eq_false he, cond_false]
  obtain ⟨y, hy, hy2⟩ : ∃ y, getI t.text.data.toList 0 = some y ∧ t.text.data.toList.head? = some y := by
   have : t.text.data.toList[0]? = some (t.text.data.toList[0]'(by rw [ZV]; omega)) := geg _
   exact ⟨_, (Zj _ 0).trans this, by rw [List.head?_eq_getElem?]; exact this⟩
  have out : (bif fresh then bif ((y.toNat : Int) != 10) then true else false else false) = (fresh && t.text.data.toList.head? != some 10) := by
   rw [hy2, is10]
   cases fresh <;> cases (some y != some (10 : UInt8)) <;> rfl
  have ho : txo t.text t.depth o fresh = (o ++ (bif (bif fresh then bif ((y.toNat : Int) != 10) then true else false else false) then List.replicate t.depth.toNat 32 else [])) ++ t.text.data.toList := by
   unfold txo; rw [hz, out]; rfl
  rw [ho]
  cases hfr : fresh with
  | false =>
   obtain ⟨n1, f1, g1, r1, k1, k2⟩ := CK t v gen h (by omega)
   rw [cond_false, k1]
   simp only [bsm, hx, Q6, w1, w2, w3]
   rw [hfr] at pick
   rw [pick _ _ _ _ h0]
   exact ⟨_, _, _, _, rfl, by simpa using k2, by omega⟩
  | true =>
   rw [hfr] at pick
   rw [cond_true, hy]
   simp only [bsm]
   cases ((y.toNat : Int) != 10) with
   | false =>
    obtain ⟨n1, f1, g1, r1, k1, k2⟩ := CK t v gen h (by omega)
    rw [cond_false, k1]
    simp only [bsm, hx, Q6, w1, w2, w3]
    rw [pick _ _ _ _ h0]
    exact ⟨_, _, _, _, rfl, by simpa using k2, by omega⟩
   | true =>
    obtain ⟨s, e1, e2, e3⟩ := q35 hd
    have e4 : s.data.toList = List.replicate t.depth.toNat 32 := by
     have h1 : rpOk sp1 t.depth = true := decide_eq_true ⟨hd.1, by omega, by show ((1 : Nat) : Int) * t.depth ≤ _; omega⟩
     unfold F35 at e1
     rw [h1] at e1
     rw [← Option.some.inj e1]
     show (Lib.repeatL [32] t.depth.toNat).toArray.toList = _
     rw [List.toList_toArray, FB]
    obtain ⟨n0, f0, g0, r0, m1, m2⟩ := BT s v gen h (by omega)
    obtain ⟨n1, f1, g1, r1, k1, k2⟩ := CK t f0 g0 m2 (by omega)
    rw [cond_true, e1]
    simp only [bsm]
    rw [m1]
    simp only [bsm, Q6, k1, hx, w1, w2, w3]
    rw [pick _ _ _ _ h0]
    exact ⟨_, _, _, _, rfl, by rw [e4] at k2; exact k2, by omega⟩
theorem Li (s : ByteArray) (i j : Nat) : (s.extract i j).data.toList = (s.data.toList.take j).drop i := by
 simp [List.drop_take]
theorem FD (s : ByteArray) (h : s.size ≤ 8000000) : ∃ a b, F47 s = some (.k0 a b (ct s).2) ∧ (a.size : Int) = (ct s).1 ∧ a.size ≤ s.size ∧ (Yl s = false → (ct s).2 = false ∧ (ct s).1 = (s.size : Int)) := by
 have g0 : getI (⟨([10] : List UInt8).toArray⟩ : ByteArray).data.toList 0 = some (10 : UInt8) := rfl
 have e1 : (Int.toNat (((10 : UInt8).toNat : Nat) : Int)).toUInt8 = 10 := by decide
 have key : ∃ a b c, F47 s = some (.k0 a b c) ∧ a.size ≤ s.size ∧ (Yl s = false → c = false ∧ a.size = s.size) := by
  unfold F47 F55 JN
  by_cases he : (⟨([10] : List UInt8).toArray⟩ : ByteArray) = s
  ·rw [Zu, decide_eq_true he]
   subst he
   exact ⟨_, _, _, rfl, by decide, fun hn => by revert hn; decide⟩
  ·rw [Zu, decide_eq_false he]
   simp only [cond_false, g0, bsm, HJ, e1, Go.Lib.firstIdx_eq]
   rcases TM 10 s.data.toList with ⟨h1, h2⟩ | ⟨p, r, h1, h2, h3⟩
   ·rw [h1]
    exact ⟨_, _, _, rfl, Nat.le_refl _, fun _ => ⟨rfl, rfl⟩⟩
   ·have hl := congrArg List.length h1
    rw [ZV, lap, lcn] at hl
    rw [h3]
    simp only [decide_eq_true (show (p.length : Int) ≥ 0 by omega), cond_true, w_S (show p.length < 4611686018427387904 by omega),
     show PE 0 (p.length : Int) s.size = true from decide_eq_true ⟨by omega, by omega, by omega⟩, show PE ((p.length + 1 : Nat) : Int) (s.size : Int) s.size = true from decide_eq_true ⟨by omega, by omega, by omega⟩, bsm]
    refine ⟨_, _, _, rfl, ?_, fun hn => ?_⟩
    ·rw [← ZV, Li, List.length_drop, List.length_take, ZV]; simp; omega
    ·unfold Yl at hn
     exact absurd (by rw [h1]; simp) (of_decide_eq_false hn)
 obtain ⟨a, b, c, k1, k2, k3⟩ := key
 have e : ct s = ((a.size : Int), c) := by unfold ct; rw [k1]
 rw [e]
 exact ⟨a, b, k1, rfl, k2, fun hn => ⟨(k3 hn).1, by rw [(k3 hn).2]⟩⟩
theorem ED {s : ByteArray} (h : s.size = 0) : ct s = (0, false) := by
 obtain ⟨a, b, h1, h2, h3, h4⟩ := FD s (by omega)
 have hn : Yl s = false := by unfold Yl; rw [FA h]; rfl
 obtain ⟨h5, h6⟩ := h4 hn
 exact Prod.ext (by rw [h6, h]; rfl) h5
abbrev en (t : ThingD) : At := (bt t, t.depth, t.way)
structure Stq (S : Iqq) (Ls : Oqq) (row : Tqq) (len : Nat) (es : List At) : Prop where
 le : len ≤ row.length
 ok : ∀ t ∈ row.take len, TOk S Ls t
 is : ((row.take len).map en).reverse = es
abbrev RB (d w : Int) (l : Bqq) : List At := l.map fun x => (x, d, w)
theorem Ur (d w : Int) : ∀ l : Bqq, msA (RB d w l) = cnts l ∧ lvA (RB d w l) = lvs w l
 | [] => ⟨rfl, by simp [lvA, lvs]⟩
 | x :: l => by
  obtain ⟨h1, h2⟩ := Ur d w l
  refine ⟨by simp only [cnts]; show cnt x + msA (RB d w l) = _; rw [h1], ?_⟩
  show lv w x ++ lvA (RB d w l) = _
  rw [h2]
  simp only [lvs]
section
variable {S : Iqq} {Ls : Oqq} {row : Tqq} {len : Nat} {es : List At}
theorem H0 : ∀ l : List At, l.length ≤ msA l
 | [] => by simp
 | x :: l => by have := H0 l; have := ZY x.1; simp only [lcn, msA]; omega
theorem Stq.len_le (h : Stq S Ls row len es) : len = es.length ∧ len ≤ msA es := by
 have h1 := congrArg List.length h.is
 rw [List.length_reverse, List.length_map, List.length_take] at h1
 have := h.le
 have := H0 es
 omega
theorem Stq.pop {n : Nat} (h : Stq S Ls row (n + 1) es) : ∃ t es', es = en t :: es' ∧ row[n]? = some t ∧ TOk S Ls t ∧ Stq S Ls row n es' := by
 have hx : row[n]? = some (row[n]'(by have := h.le; omega)) := geg _
 have ht : row.take (n + 1) = row.take n ++ [row[n]'(by have := h.le; omega)] := List.take_succ_eq_append_getElem (by have := h.le; omega)
 generalize row[n]'(by have := h.le; omega) = t at hx ht
 have h1 := h.is
 have h2 := h.ok t (by rw [ht]; simp)
 rw [ht] at h1
 refine ⟨t, _, by rw [← h1]; simp, hx, h2, ⟨by have := h.le; omega, fun y hy => h.ok y (by rw [ht]; simp [hy]), rfl⟩⟩
theorem Stq.push {d w : Int} {t : ThingD} {row' : Tqq} {len' : Nat} (h : Stq S Ls row len es) (hp : Put S Ls d w t row len row' len') : Stq S Ls row' len' (RB d w t.kids ++ es) := by
 obtain ⟨K, k1, k2, k3⟩ := hp.ex
 refine ⟨hp.le, fun y hy => ?_, ?_⟩
 ·rw [k1] at hy
  rcases List.mem_append.1 hy with hy | hy
  ·exact h.ok y hy
  ·exact (k3 y hy).1
 ·have e : K.map en = (K.map bt).map fun x => (x, d, w) := by
   rw [List.map_map]
   refine List.map_congr_left (fun x hx => ?_)
   obtain ⟨_, p2, p3⟩ := k3 x hx
   show (bt x, x.depth, x.way) = (bt x, d, w)
   rw [p2, p3]
  rw [k1, List.map_append, e, k2, List.reverse_append, ← List.map_reverse, List.reverse_reverse, h.is]
theorem Stq.nil : Stq S Ls [] 0 [] := ⟨Nat.le_refl _, fun t ht => by simp at ht, rfl⟩
end
theorem FE {wd c : Int} (h : ¬ c ≤ wd) : ∀ l, Ym wd l c = false
 | [] => decide_eq_false h
 | .tx s :: l => by unfold Ym; rw [decide_eq_false h]; rfl
 | .br n w :: l => by unfold Ym; rw [decide_eq_false h]; rfl
 | .ln :: l => decide_eq_false h
def J36 (S : Iqq) (Ls : Oqq) (a4 : Tqq) (a8 : Nat) (wd : Int) (T : Bool) (k : Nat) (s : Int × Tqq × Nat × Tqq × Nat × Int) : Prop :=
 ∃ ei eo m, Stq S Ls s.2.2.2.1 s.2.2.2.2.1 ei ∧ Stq S Ls a4 m eo ∧ m ≤ a8 ∧ s.2.2.2.2.2 = (m : Int) ∧ msA ei + msA eo = k ∧ k ≤ 24000 ∧ (Ym wd (lvA ei ++ lvA eo) s.1 = T ∧ 0 ≤ s.1 ∧ s.1 + 25000 * k ≤ 700000000)
def P36 (wd : Int) (T : Bool) : E_L36_0_3 → Prop
 | .k0 x _ _ _ _ _ _ _ _ _ _ _ _ => decide (x ≤ wd) = T
 | .k1 x _ _ _ _ _ => decide (x ≤ wd) = T
 | .k2 x _ _ _ _ _ _ _ _ _ _ _ _ => decide (x ≤ wd) = T
 | .k3 x _ _ _ _ _ => decide (x ≤ wd) = T
theorem KL {S : Iqq} {Ls : Oqq} {t : ThingD} (h : TOk S Ls t) {wd c : Int} {l : List LF} {T : Bool} (hc : c ≤ wd) (hT : Ym wd (lv t.way (bt t) ++ l) c = T) :
  (t.kind = 0 → (ct t.text).2 = true → decide (c + (ct t.text).1 ≤ wd) = T) ∧ (t.kind = 0 → (ct t.text).2 = false → Ym wd l (c + (ct t.text).1) = T) ∧
  (t.kind = 1 → t.way = 0 → T = true) ∧ (t.kind = 1 → ¬ t.way = 0 → Ym wd l (c + t.n) = T) ∧ (t.kind = 2 → T = true) ∧ (t.kind = 4 → Ym wd (lvs 1 t.kids ++ l) c = T) ∧
  (¬ t.kind = 0 → ¬ t.kind = 1 → ¬ t.kind = 2 → ¬ t.kind = 4 → Ym wd (lvs t.way t.kids ++ l) c = T) := by
 have e := N1 t.way (bt t)
 have e1 : (bt t).text = t.text := rfl
 have e2 : (bt t).kids = t.kids := rfl
 have e3 : (bt t).kind = t.kind := rfl
 have e4 : (bt t).n = t.n := rfl
 rw [e1, e2, e3, e4] at e
 rw [e] at hT
 refine ⟨fun k0 c1 => ?_, fun k0 c1 => ?_, fun k1 w0 => ?_, fun k1 w0 => ?_, fun k2 => ?_, fun k4 => ?_, fun k0 k1 k2 k4 => ?_⟩
 ·rw [show (t.kind == 0) = true by rw [k0]; rfl, cond_true] at hT
  cases hs : t.text.size == 0 with
  | true => rw [ED (by simpa using hs)] at c1; cases c1
  | false =>
   rw [hs, cond_false] at hT
   have hT : (decide (c ≤ wd) && (bif (ct t.text).2 then decide (c + (ct t.text).1 ≤ wd) else Ym wd l (c + (ct t.text).1))) = T := hT
   rw [c1, decide_eq_true hc] at hT
   exact hT
 ·rw [show (t.kind == 0) = true by rw [k0]; rfl, cond_true] at hT
  cases hs : t.text.size == 0 with
  | true =>
   rw [hs, cond_true] at hT
   rw [ED (by simpa using hs), Int.add_zero]
   exact hT
  | false =>
   rw [hs, cond_false] at hT
   have hT : (decide (c ≤ wd) && (bif (ct t.text).2 then decide (c + (ct t.text).1 ≤ wd) else Ym wd l (c + (ct t.text).1))) = T := hT
   rw [c1, decide_eq_true hc] at hT
   exact hT
 ·rw [k1, show ((1 : Int) == 0) = false from rfl, show ((1 : Int) == 1) = true from rfl, cond_false, cond_true] at hT
  have hT : (decide (c ≤ wd) && (bif t.way == 0 then true else Ym wd l (c + t.n))) = T := hT
  rw [decide_eq_true hc, w0] at hT
  exact hT.symm
 ·rw [k1, show ((1 : Int) == 0) = false from rfl, show ((1 : Int) == 1) = true from rfl, cond_false, cond_true] at hT
  have hT : (decide (c ≤ wd) && (bif t.way == 0 then true else Ym wd l (c + t.n))) = T := hT
  rw [decide_eq_true hc, Zh w0] at hT
  exact hT
 ·rw [k2, show ((2 : Int) == 0) = false from rfl, show ((2 : Int) == 1) = false from rfl, show ((2 : Int) == 2) = true from rfl, cond_false, cond_false, cond_true] at hT
  have hT : decide (c ≤ wd) = T := hT
  rw [decide_eq_true hc] at hT
  exact hT.symm
 ·rw [k4, show ((4 : Int) == 0) = false from rfl, show ((4 : Int) == 1) = false from rfl, show ((4 : Int) == 2) = false from rfl, show ((4 : Int) == 4) = true from rfl, cond_false, cond_false, cond_false, cond_true] at hT
  exact hT
 ·rw [Zh k0, Zh k1, Zh k2, Zh k4, cond_false, cond_false, cond_false, cond_false] at hT
  exact hT
theorem s36x {S : Iqq} {Ls : Oqq} {a4 : Tqq} {a8 : Nat} {a11 : Int} {T : Bool} (hS : S.length ≤ 24000) (h8 : a8 ≤ 24000) (k : Nat) (s : Int × Tqq × Nat × Tqq × Nat × Int) (hi : J36 S Ls a4 a8 a11 T k s) :
  ∃ r, VL a4 a8 S a11 s.1 s.2.1 s.2.2.1 s.2.2.2.1 s.2.2.2.2.1 s.2.2.2.2.2 = some r ∧ (∀ s', r = .inr s' → ∃ k', k' < k ∧ J36 S Ls a4 a8 a11 T k' s') ∧ ∀ e, r = .inl e → P36 a11 T e := by
 obtain ⟨v1, v2, v3, v4, v5, v6⟩ := s
 obtain ⟨bi, bo, m, h1, h2, h3, h4, h5, h6, h7, h9, h10⟩ := hi
 dsimp only at h1 h2 h3 h4 h5 h6 h7 h9 h10 ⊢
 subst h4
 unfold VL
 by_cases c1 : ¬ v1 ≤ a11
 ·rw [decide_eq_false c1]
  exact ⟨_, rfl, fun s' h => (by cases h), fun e h => (by cases h; show decide (v1 ≤ a11) = T; rw [decide_eq_false c1, ← h7, FE c1])⟩
 have c1 := Decidable.not_not.1 c1
 rw [decide_eq_true c1, cond_true]
 match v5, h1 with
 | n + 1, h1 =>
  obtain ⟨t, bs', rfl, p2, p3, p5⟩ := h1.pop
  have hl := p5.len_le
  have hct := p3.txt
  have hn : 0 ≤ t.n ∧ t.n ≤ 100 := p3.ok.nn
  simp only [msA] at h5
  obtain ⟨f1, f2, f3, f4, f5, f6, f7⟩ := KL p3 c1 (show Ym a11 (lv t.way (bt t) ++ (lvA bs' ++ lvA bo)) v1 = T by rw [← List.append_assoc]; exact h7)
  have hpop : Nm a4 a8 v4 (n + 1) (m : Int) = some (.k0 t.kind t.text t.n t.kids t.depth t.way t.at_) := by
   unfold Nm
   simp only [decide_eq_true (show ((n + 1 : Nat) : Int) > 0 by omega), cond_true, wd (show n < 4611686018427387904 by omega), UA, if_pos (Nat.lt_succ_self n), bsm, p2,
    show slOk (n : Int) (n + 1) v4.length = true from decide_eq_true ⟨by omega, by have := p5.le; omega, h1.le⟩]
  rw [hpop]
  simp only [bsm, wd (show n < 4611686018427387904 by omega), Int.toNat_natCast]
  have out : ∀ (v1' : Int), v1 ≤ v1' → v1' ≤ v1 + 24000 → Ym a11 (lvA bs' ++ lvA bo) v1' = T → ∃ k', k' < k ∧ J36 S Ls a4 a8 a11 T k' (v1', v2, v3, v4, n, (m : Int)) :=
   fun v1' g1 g2 g3 => ⟨_, by omega, bs', bo, m, p5, h2, h3, rfl, rfl, by omega, g3, by dsimp only; omega, by dsimp only; omega⟩
  have psh : ∀ w : Int, Ym a11 (lvs w t.kids ++ (lvA bs' ++ lvA bo)) v1 = T → ∃ g' len' row', Rc v3 n t 0 w S v4 = some (.k0 g' len' row') ∧ ∃ k', k' < k ∧ J36 S Ls a4 a8 a11 T k' (v1, v2, g', row', len', (m : Int)) := fun w g3 => by
   obtain ⟨g', len', row', k1, k2⟩ := BP (w := w) (d := 0) v3 p3 hS ⟨by omega, by have := p3.dep; omega⟩ p5.le (by omega)
   obtain ⟨q1, q2⟩ := Ur 0 w t.kids
   refine ⟨g', len', row', k1, _, ?_, RB 0 w t.kids ++ bs', bo, m, p5.push k2, h2, h3, rfl, rfl, ?_, ?_, h9, ?_⟩
   ·rw [YJ, q1]; omega
   ·rw [YJ, q1]; omega
   ·rw [Tb, q2, List.append_assoc]; exact g3
   ·rw [YJ, q1]; dsimp only; omega
  by_cases k0 : t.kind = 0
  ·obtain ⟨a, b, q1, q2, q3, _⟩ := FD t.text (by omega)
   rw [k0]
   simp only [show ((0 : Int) == 0) = true from rfl, cond_true, q1, bsm, q2, w_id (show -9223372036854775808 ≤ v1 + (ct t.text).1 ∧ v1 + (ct t.text).1 ≤ 9223372036854775807 by omega)]
   cases hc : (ct t.text).2 with
   | true => exact ⟨_, rfl, fun s' h => (by cases h), fun e h => (by cases h; exact f1 k0 hc)⟩
   | false => exact ⟨_, rfl, fun s' h => (by cases h; exact out _ (by omega) (by omega) (f2 k0 hc)), fun e h => (by cases h)⟩
  rw [Zh k0, cond_false]
  by_cases k1 : t.kind = 1
  ·rw [k1, show ((1 : Int) == 1) = true from rfl, cond_true]
   by_cases w0 : t.way = 0
   ·rw [w0]
    exact ⟨_, rfl, fun s' h => (by cases h), fun e h => (by cases h; show decide (v1 ≤ a11) = T; rw [decide_eq_true c1, f3 k1 w0])⟩
   ·rw [Zh w0, cond_false, w_id (by omega)]
    exact ⟨_, rfl, fun s' h => (by cases h; exact out _ (by omega) (by omega) (f4 k1 w0)), fun e h => (by cases h)⟩
  rw [Zh k1, cond_false]
  by_cases k2 : t.kind = 2
  ·rw [k2]
   exact ⟨_, rfl, fun s' h => (by cases h), fun e h => (by cases h; show decide (v1 ≤ a11) = T; rw [decide_eq_true c1, f5 k2])⟩
  rw [Zh k2, cond_false]
  by_cases k4 : t.kind = 4
  ·obtain ⟨g', len', row', q1, q2⟩ := psh 1 (f6 k4)
   rw [show (t.kind == 4) = true by rw [k4]; rfl, cond_true, q1]
   exact ⟨_, rfl, fun s' h => (by cases h; exact q2), fun e h => (by cases h)⟩
  ·obtain ⟨g', len', row', q1, q2⟩ := psh t.way (f7 k0 k1 k2 k4)
   rw [Zh k4, cond_false, q1]
   exact ⟨_, rfl, fun s' h => (by cases h; exact q2), fun e h => (by cases h)⟩
 | 0, h1 =>
  have hbi : bi = [] := enz h1.len_le.1.symm
  subst hbi
  match m, h2, h3 with
  | 0, h2, h3 =>
   have hbo : bo = [] := enz h2.len_le.1.symm
   subst hbo
   have hpop : Nm a4 a8 v4 0 ((0 : Nat) : Int) = some .k1 := rfl
   rw [hpop]
   exact ⟨_, rfl, fun s' h => (by cases h), fun e h => (by cases h; exact h7)⟩
  | m + 1, h2, h3 =>
   obtain ⟨t, bs', rfl, p2, p3, p5⟩ := h2.pop
   have hl := h1.len_le
   have hct := p3.txt
   have hn : 0 ≤ t.n ∧ t.n ≤ 100 := p3.ok.nn
   simp only [msA] at h5
   obtain ⟨f1, f2, f3, f4, f5, f6, f7⟩ := KL p3 c1 (show Ym a11 (lv t.way (bt t) ++ lvA bs') v1 = T from h7)
   have hpop : Nm a4 a8 v4 0 ((m + 1 : Nat) : Int) = some (.k2 t.kind t.text t.n t.kids t.depth t.way t.at_) := by
    unfold Nm
    simp only [decide_eq_false (show ¬ ((0 : Nat) : Int) > 0 by omega), cond_false, Zh (show ¬ ((m + 1 : Nat) : Int) = 0 by omega), wd (show m < 4611686018427387904 by omega), UA, if_pos (show m < a8 by omega), bsm, p2]
   rw [hpop]
   simp only [bsm, wd (show m < 4611686018427387904 by omega), Int.toNat_natCast]
   have out : ∀ (v1' : Int), v1 ≤ v1' → v1' ≤ v1 + 24000 → Ym a11 (lvA bs') v1' = T → ∃ k', k' < k ∧ J36 S Ls a4 a8 a11 T k' (v1', v2, v3, v4, 0, (m : Int)) :=
    fun v1' g1 g2 g3 => ⟨msA bs', by omega, [], bs', m, h1, p5, by omega, rfl, Nat.zero_add _, by omega, g3, by dsimp only; omega, by dsimp only; omega⟩
   have psh : ∀ w : Int, Ym a11 (lvs w t.kids ++ lvA bs') v1 = T → ∃ g' len' row', Rh v3 0 t 0 w S v4 = some (.k0 g' len' row') ∧ ∃ k', k' < k ∧ J36 S Ls a4 a8 a11 T k' (v1, v2, g', row', len', (m : Int)) := fun w g3 => by
    obtain ⟨g', len', row', k1, k2⟩ := BQ (w := w) (d := 0) v3 p3 hS ⟨by omega, by have := p3.dep; omega⟩ h1.le (by omega)
    obtain ⟨q1, q2⟩ := Ur 0 w t.kids
    refine ⟨g', len', row', k1, _, ?_, RB 0 w t.kids ++ [], bs', m, h1.push k2, p5, by omega, rfl, rfl, ?_, ?_, h9, ?_⟩
    ·rw [YJ, q1]; simp only [msA]; omega
    ·rw [YJ, q1]; simp only [msA]; omega
    ·rw [Tb, q2, List.append_assoc]; exact g3
    ·rw [YJ, q1]; simp only [msA]; omega
   by_cases k0 : t.kind = 0
   ·obtain ⟨a, b, q1, q2, q3, _⟩ := FD t.text (by omega)
    rw [k0]
    simp only [show ((0 : Int) == 0) = true from rfl, cond_true, q1, bsm, q2, w_id (show -9223372036854775808 ≤ v1 + (ct t.text).1 ∧ v1 + (ct t.text).1 ≤ 9223372036854775807 by omega)]
    cases hc : (ct t.text).2 with
    | true => exact ⟨_, rfl, fun s' h => (by cases h), fun e h => (by cases h; exact f1 k0 hc)⟩
    | false => exact ⟨_, rfl, fun s' h => (by cases h; exact out _ (by omega) (by omega) (f2 k0 hc)), fun e h => (by cases h)⟩
   rw [Zh k0, cond_false]
   by_cases k1 : t.kind = 1
   ·rw [k1, show ((1 : Int) == 1) = true from rfl, cond_true]
    by_cases w0 : t.way = 0
    ·rw [w0]
     exact ⟨_, rfl, fun s' h => (by cases h), fun e h => (by cases h; show decide (v1 ≤ a11) = T; rw [decide_eq_true c1, f3 k1 w0])⟩
    ·rw [Zh w0, cond_false, w_id (by omega)]
     exact ⟨_, rfl, fun s' h => (by cases h; exact out _ (by omega) (by omega) (f4 k1 w0)), fun e h => (by cases h)⟩
   rw [Zh k1, cond_false]
   by_cases k2 : t.kind = 2
   ·rw [k2]
    exact ⟨_, rfl, fun s' h => (by cases h), fun e h => (by cases h; show decide (v1 ≤ a11) = T; rw [decide_eq_true c1, f5 k2])⟩
   rw [Zh k2, cond_false]
   by_cases k4 : t.kind = 4
   ·obtain ⟨g', len', row', q1, q2⟩ := psh 1 (f6 k4)
    rw [show (t.kind == 4) = true by rw [k4]; rfl, cond_true, q1]
    exact ⟨_, rfl, fun s' h => (by cases h; exact q2), fun e h => (by cases h)⟩
   ·obtain ⟨g', len', row', q1, q2⟩ := psh t.way (f7 k0 k1 k2 k4)
    rw [Zh k4, cond_false, q1]
    exact ⟨_, rfl, fun s' h => (by cases h; exact q2), fun e h => (by cases h)⟩
def AM : R_F36_3 → Bool
 | .k0 x _ _ _ _ _ _ _ _ _ _ _ _ => x
 | .k1 x _ _ _ _ _ => x
 | .k2 x _ _ _ _ _ _ _ _ _ _ _ _ => x
 | .k3 x _ _ _ _ _ => x
def fstE : E_L36_1_3 → Bool
 | .k0 x _ _ _ _ _ _ _ _ _ _ _ _ => x
 | .k1 x _ _ _ _ _ => x
 | .k2 x _ _ _ _ _ _ _ _ _ _ _ _ => x
 | .k3 x _ _ _ _ _ => x
theorem q36x {S : Iqq} {Ls : Oqq} {t : ThingD} {row : Tqq} {len : Nat} {es : List At} (a11 a12 : Int) (hT : TOk S Ls t) (hS : S.length ≤ 24000) (h : Stq S Ls row len es) (hc : cnt (bt t) + msA es ≤ 24000) (hcol : 0 ≤ a12 ∧ a12 ≤ 9000000) :
  ∃ e, HL t row len S a11 a12 = some e ∧ AM e = Ym a11 (lvs 1 t.kids ++ lvA es) a12 := by
 have hct := hT.txt
 have hl := h.len_le
 obtain ⟨q1, q2⟩ := Ur 0 1 t.kids
 obtain ⟨g', len', row', k1, k2⟩ := BS (w := 1) (d := 0) hT hS ⟨by omega, by have := hT.dep; omega⟩
 have hi : J36 S Ls row len a11 (Ym a11 (lvs 1 t.kids ++ lvA es) a12) (cnts t.kids + msA es) (a12, [], g', row', len', (len : Int)) :=
  ⟨RB 0 1 t.kids, es, len, by simpa using (Stq.nil (S := S) (Ls := Ls)).push k2, h, Nat.le_refl _, rfl, by rw [q1], by omega, by rw [q2], hcol.1, by dsimp only; omega⟩
 obtain ⟨e, m1, m2⟩ := N0 (fun k s => s36x (a11 := a11) hS (show len ≤ 24000 by omega) k s) _ _ _ (Nat.le_refl _) hi
 unfold HL
 rw [k1]
 simp only [bsm]
 have hz : ∃ y, VM a12 row len S a11 g' row' len' ((len : Nat) : Int) = some (.inl y) ∧ fstE y = Ym a11 (lvs 1 t.kids ++ lvA es) a12 := by
  unfold VM
  rw [m1]
  cases e <;> exact ⟨_, rfl, m2⟩
 obtain ⟨y, hy, hf⟩ := hz
 rw [Zr hy]
 cases y <;> exact ⟨_, rfl, hf⟩
abbrev flE (x : At) : List At := fl x.2.1 x.2.2 x.1
def flS (l : List At) : List At := l.flatMap flE
theorem CM (a b : List At) : flS (a ++ b) = flS a ++ flS b := List.flatMap_append
theorem KM (d w : Int) : ∀ l : Bqq, flS (RB d w l) = fls d w l
 | [] => by simp [flS, fls]
 | x :: l => by
  show fl d w x ++ flS (RB d w l) = _
  rw [KM d w l]
  simp only [fls]
theorem H1 : ∀ l : List At, lvA (flS l) = lvA l
 | [] => rfl
 | x :: l => by
  show lvA (fl x.2.1 x.2.2 x.1 ++ flS l) = lv x.2.2 x.1 ++ lvA l
  rw [Tb, (CL _ x.1 _ _ (Nat.le_refl _)).2, H1 l]
theorem Buf.len {row : Iqq} {n : Nat} {o : List UInt8} (h : Buf row n o) : o.length = n := by
 have h1 := congrArg List.length h.is
 rw [List.length_take, List.length_map] at h1
 have := h.le
 omega
def J27 (S : Iqq) (Ls : Oqq) (wi : Int) (T : List UInt8) (k : Nat) (s : Nat × Tqq × Bool × Nat × Nat × Nat × Int × Bool × Iqq) : Prop :=
 ∃ es o, Stq S Ls s.2.1 s.2.2.2.2.2.1 es ∧ Buf s.2.2.2.2.2.2.2.2 s.2.2.2.2.1 o ∧ R wi (flS es) o s.2.2.2.2.2.2.1 s.2.2.2.2.2.2.2.1 = T ∧ msA es = k ∧ (k ≤ 24000 ∧ s.2.2.2.2.1 ≤ 4000000) ∧
  (0 ≤ s.2.2.2.2.2.2.1 ∧ s.2.2.2.2.2.2.1 ≤ 2400000 + (s.2.2.2.2.1 : Int))
def Q27 (T : List UInt8) (e : E_L27_0) : Prop := match e with
 | .k0 _ _ _ _ v5 _ _ _ v9 => Buf v9 v5 T ∧ v5 ≤ 4000000
theorem BW (t : ThingD) (col : Int) (h : t.text.size ≤ 24000) (hd : 0 ≤ t.depth ∧ t.depth ≤ 2400000) (hc : 0 ≤ col) : 0 ≤ txc t.text t.depth col ∧ (txc t.text t.depth col ≤ 2400000 ∨ txc t.text t.depth col ≤ col + t.text.size) := by
 obtain ⟨_, h1, h2⟩ := EC t (by omega)
 unfold txc
 cases t.text.size == 0 with
 | true => exact ⟨hc, .inr (by simp only [cond_true]; omega)⟩
 | false =>
  simp only [cond_false]
  cases lix t.text == (t.text.size : Int) - 1 with
  | true => exact ⟨hd.1, .inl hd.2⟩
  | false =>
   simp only [cond_false]
   by_cases h3 : lix t.text ≥ 0
   ·rw [decide_eq_true h3]; exact ⟨by simp only [cond_true]; omega, .inr (by simp only [cond_true]; omega)⟩
   ·rw [decide_eq_false h3]; exact ⟨by simp only [cond_false]; omega, .inr (by simp only [cond_false]; omega)⟩
theorem BX {t : ThingD} {fr : Bool} {o : List UInt8} : o.length + t.text.size ≤ (txo t.text t.depth o fr).length := by
 unfold txo
 cases hz : t.text.size == 0 with
 | true =>
  have : t.text.size = 0 := by simpa using hz
  simp only [cond_true]
  omega
 | false =>
  simp only [cond_false, lap, ZV]
  omega
theorem q35x {n : Int} (h : 0 ≤ n ∧ n ≤ 2400000) : ∃ s, F35 sp1 n = some s ∧ s.size = n.toNat ∧ s.data.toList = List.replicate n.toNat 32 := by
 have h1 : rpOk sp1 n = true := decide_eq_true ⟨h.1, by omega, by show ((1 : Nat) : Int) * n ≤ _; omega⟩
 have h2 : (repS sp1 n).data.toList = List.replicate n.toNat 32 := by
  show (Lib.repeatL [32] n.toNat).toArray.toList = _
  rw [List.toList_toArray, FB]
 exact ⟨repS sp1 n, by unfold F35; rw [h1]; rfl, by rw [← ZV, h2, lrp], h2⟩
theorem s27x {S : Iqq} {Ls : Oqq} {T : List UInt8} {wi : Int} (hS : S.length ≤ 24000) (k : Nat) (s : Nat × Tqq × Bool × Nat × Nat × Nat × Int × Bool × Iqq) (hi : J27 S Ls wi T k s) :
  ∃ r, M9 Ls S wi s.1 s.2.1 s.2.2.1 s.2.2.2.1 s.2.2.2.2.1 s.2.2.2.2.2.1 s.2.2.2.2.2.2.1 s.2.2.2.2.2.2.2.1 s.2.2.2.2.2.2.2.2 = some r ∧ (∀ s', r = .inr s' → ∃ k', k' < k ∧ J27 S Ls wi T k' s') ∧ ∀ e, r = .inl e → Q27 T e := by
 obtain ⟨v1, v2, v3, v4, v5, v6, v7, v8, v9⟩ := s
 obtain ⟨es, o, h1, h2, h3, h4, h5, h6⟩ := hi
 dsimp only at h1 h2 h3 h4 h5 h6 ⊢
 unfold M9
 have ho := h2.len
 match v6, h1 with
 | 0, h1 =>
  have hb : es = [] := enz h1.len_le.1.symm
  subst hb
  have h3 : o = T := by rw [← h3]; exact (HZ ..).symm
  exact ⟨_, rfl, fun s' h => (by cases h), fun e h => (by cases h; exact ⟨h3 ▸ h2, h5.2⟩)⟩
 | n + 1, h1 =>
 rw [decide_eq_true (show ((n + 1 : Nat) : Int) > 0 by omega), cond_true]
 simp only [G7, bsm]
 by_cases c1 : ¬ ((v5 : Nat) : Int) ≤ 1048576
 ·rw [decide_eq_false c1, cond_false]
  have h3 : o = T := by rw [← h3]; exact (AL (by omega)).symm
  exact ⟨_, rfl, fun s' h => (by cases h), fun e h => (by cases h; exact ⟨h3 ▸ h2, h5.2⟩)⟩
 have c1 := Decidable.not_not.1 c1
 rw [decide_eq_true c1, cond_true]
 have hbig : ¬ 1048576 < o.length := by omega
 obtain ⟨t, es', rfl, p2, p3, p5⟩ := h1.pop
 have hl := p5.len_le
 have hct := p3.txt
 have hdp := p3.dep
 have htx : t.kind = 0 ∨ t.text.size = 0 := p3.ok.txt
 have hkd : 0 ≤ t.kind ∧ t.kind ≤ 5 := p3.ok.kd
 have hfew : t.kind < 3 → t.kids = [] := p3.ok.few
 have hn : 0 ≤ t.n ∧ t.n ≤ 100 := p3.ok.nn
 have hfl := Lh t.depth t.way (bt t)
 have e1 : (bt t).text = t.text := rfl
 have e2 : (bt t).kids = t.kids := rfl
 have e3 : (bt t).kind = t.kind := rfl
 have e4 : (bt t).n = t.n := rfl
 rw [e1, e2, e3, e4] at hfl
 simp only [msA] at h4
 have h3 : R wi (fl t.depth t.way (bt t) ++ flS es') o v7 v8 = T := h3
 simp only [wd (show n < 4611686018427387904 by omega), UA, if_pos (Nat.lt_succ_self n), bsm, p2, show slOk (n : Int) (n + 1) v2.length = true from decide_eq_true ⟨by omega, by have := p5.le; omega, h1.le⟩, cond_true, Int.toNat_natCast]
 have fin : ∀ {d w : Int} {g' len' : Nat} {row' : Tqq} (f : Bool) (g l : Nat) (c : Int) (fr : Bool) (r : Iqq) (o' : List UInt8), Put S Ls d w t v2 n row' len' → Buf r l o' → R wi (fls d w t.kids ++ flS es') o' c fr = T →
   l ≤ v5 + 2430000 → (0 ≤ c ∧ c ≤ 2400000 + (l : Int)) → ∃ k', k' < k ∧ J27 S Ls wi T k' (g', row', f, g, l, len', c, fr, r) := by
  intro d w g' len' row' f g l c fr r o' a1 a2 a3 a4 a5
  obtain ⟨q1, q2⟩ := Ur d w t.kids
  refine ⟨_, ?_, RB d w t.kids ++ es', o', p5.push a1, a2, ?_, rfl, ⟨?_, ?_⟩, a5⟩
  ·rw [YJ, q1]; omega
  ·rw [CM, KM]; exact a3
  ·rw [YJ, q1]; omega
  ·dsimp only; omega
 have hd0 : 0 ≤ t.depth ∧ t.depth + 100 * (cnts t.kids : Int) ≤ 2400000 := ⟨hdp.1, by omega⟩
 have hn3 : n ≤ 24000 := by omega
 have nokids : t.kind < 3 → ∀ d w, fls d w t.kids = [] := fun h d w => by rw [hfew h]; simp [fls]
 by_cases c0 : t.kind = 0
 ·obtain ⟨f, g, l, r, m1, m2, m3⟩ := q32x t v3 v4 v7 v8 h2 ⟨hdp.1, by omega⟩ hct.1 (by omega) (by omega)
  obtain ⟨g', len', row', k1, k2⟩ := q37 (w := t.way) (d := t.depth) v1 p3 hS hd0 p5.le hn3
  have hR : R wi (fls t.depth t.way t.kids ++ flS es') (txo t.text t.depth o v8) (txc t.text t.depth v7) (txf t.text v8) = T := by
   rw [nokids (by omega), List.nil_append]
   rw [show (t.kind == 0) = true by rw [c0]; rfl, cond_true] at hfl
   cases hz : t.text.size == 0 with
   | true =>
    rw [hz, cond_true] at hfl
    rw [hfl] at h3
    unfold txo txc txf
    rw [hz]
    exact h3
   | false =>
    rw [hz, cond_false] at hfl
    rw [hfl] at h3
    rw [← h3]
    exact (R_tx (b := bt t) hbig c0).symm
  obtain ⟨z1, z2⟩ := BW t v7 hct.1 ⟨hdp.1, by omega⟩ h6.1
  have hl2 := m2.len
  have hge := BX (t := t) (fr := v8) (o := o)
  rw [c0, m1]
  simp only [show ((0 : Int) == 0) = true from rfl, cond_true, bsm, k1]
  exact ⟨_, rfl, fun s' h => (by cases h; exact fin f g l _ _ r _ k2 m2 hR m3 ⟨z1, by omega⟩), fun e h => (by cases h)⟩
 rw [Zh c0, cond_false] at hfl ⊢
 by_cases c1 : t.kind = 1
 ·rw [c1] at hfl
  have hfl : fl t.depth t.way (bt t) = [(bt t, t.depth, t.way)] := hfl
  rw [hfl] at h3
  have h3 : R wi ((bt t, t.depth, t.way) :: flS es') o v7 v8 = T := h3
  rw [c1, show ((1 : Int) == 1) = true from rfl, cond_true]
  by_cases cw : t.way = 0
  ·obtain ⟨f, g, r, m1, m2⟩ := q33 v3 v4 h2 (by omega)
   rw [BU (b := bt t) hbig c1 cw] at h3
   rw [cw, m1]
   exact ⟨_, rfl, fun s' h => (by cases h; exact ⟨msA es', by omega, es', o ++ [10], p5, m2, h3, rfl, ⟨by omega, by dsimp only; omega⟩, hdp.1, by dsimp only; omega⟩), fun e h => (by cases h)⟩
  ·obtain ⟨s, m1, m2, m3⟩ := q35x (n := t.n) (by omega)
   obtain ⟨nn, f, g, r, m4, m5⟩ := BT s v3 v4 h2 (by omega)
   obtain ⟨g', len', row', k1, k2⟩ := q37 (w := t.way) (d := t.depth) v1 p3 hS hd0 p5.le hn3
   rw [BV (b := bt t) hbig c1 cw] at h3
   rw [Zh cw, cond_false, m1]
   simp only [bsm, m4, k1, Q6]
   rw [m3] at m5
   exact ⟨_, rfl, fun s' h => (by cases h; exact fin _ _ _ _ _ _ _ k2 m5 (by rw [nokids (by omega), List.nil_append, w_id (by omega)]; exact h3) (by omega) (by rw [w_id (by omega)]; omega)), fun e h => (by cases h)⟩
 rw [Zh c1, cond_false]
 by_cases c2 : t.kind = 2
 ·obtain ⟨f, g, r, m1, m2⟩ := q33 v3 v4 h2 (by omega)
  obtain ⟨g', len', row', k1, k2⟩ := BO (w := t.way) (d := t.depth) v1 p3 hS hd0 p5.le hn3
  rw [c2] at hfl
  have hfl : fl t.depth t.way (bt t) = [(bt t, t.depth, t.way)] := hfl
  rw [hfl] at h3
  have h3 : R wi ((bt t, t.depth, t.way) :: flS es') o v7 v8 = T := h3
  rw [R_ln (b := bt t) hbig c2] at h3
  rw [show (t.kind == 2) = true by rw [c2]; rfl, cond_true, m1]
  simp only [bsm, k1]
  exact ⟨_, rfl, fun s' h => (by cases h; exact fin _ _ _ _ _ _ _ k2 m2 (by rw [nokids (by omega), List.nil_append]; exact h3) (by omega) (by omega)), fun e h => (by cases h)⟩
 rw [Zh c2, cond_false]
 by_cases c4 : t.kind = 4
 ·rw [c4] at hfl
  have hfl : fl t.depth t.way (bt t) = [(bt t, t.depth, t.way)] := hfl
  rw [hfl] at h3
  have h3 : R wi ((bt t, t.depth, t.way) :: flS es') o v7 v8 = T := h3
  rw [R_gr (b := bt t) hbig c4, H1] at h3
  rw [show (t.kind == 4) = true by rw [c4]; rfl, cond_true]
  have thru : ∀ {w : Int} {g' len' : Nat} {row' : Tqq}, gw wi t.way (bt t) (lvA es') v7 = w → Put S Ls t.depth w t v2 n row' len' → ∃ k', k' < k ∧ J27 S Ls wi T k' (g', row', v3, v4, v5, len', v7, v8, v9) :=
   fun hw hp => fin v3 v4 v5 v7 v8 v9 o hp h2 (by rw [← hw]; exact h3) (by omega) h6
  by_cases cw : t.way = 1
  ·obtain ⟨g', len', row', k1, k2⟩ := q37 (w := 1) (d := t.depth) v1 p3 hS hd0 p5.le hn3
   have hg : gw wi t.way (bt t) (lvA es') v7 = 1 := by unfold gw; rw [cw]; rfl
   rw [show (t.way == 1) = true by rw [cw]; rfl, cond_true, k1]
   exact ⟨_, rfl, fun s' h => (by cases h; exact thru hg k2), fun e h => (by cases h)⟩
  ·have hy : getI Ls t.at_ = some (hasL (bt t)) := by
    obtain ⟨a, _, rest, z1, _, z2⟩ := p3.pos
    rw [z1, Zj, ← List.head?_drop, z2, NX]
    rfl
   have hg : gw wi t.way (bt t) (lvA es') v7 = bif !(hasL (bt t)) && Ym wi (lvs 1 t.kids ++ lvA es') v7 then 1 else 0 := by unfold gw; rw [Zh cw, Bool.false_or, e2]
   rw [Zh cw, cond_false, hy]
   simp only [bsm]
   cases hh : hasL (bt t) with
   | true =>
    obtain ⟨g', len', row', k1, k2⟩ := q37 (w := 0) (d := t.depth) v1 p3 hS hd0 p5.le hn3
    rw [hh] at hg
    rw [cond_true, k1]
    exact ⟨_, rfl, fun s' h => (by cases h; exact thru hg k2), fun e h => (by cases h)⟩
   | false =>
    obtain ⟨e, he, hf⟩ := q36x wi v7 p3 hS p5 (by omega) (by omega)
    rw [hh, ← hf] at hg
    rw [cond_false, he]
    simp only [bsm]
    cases e with
    | k0 x0 =>
     have hg : gw wi t.way (bt t) (lvA es') v7 = bif x0 then 1 else 0 := hg
     cases x0 with
     | true =>
      obtain ⟨g', len', row', k1, k2⟩ := Ey (w := 1) (d := t.depth) v1 p3 hS hd0 p5.le hn3
      simp only [cond_true, k1, bsm]
      exact ⟨_, rfl, fun s' h => (by cases h; exact thru hg k2), fun e h => (by cases h)⟩
     | false =>
      obtain ⟨g', len', row', k1, k2⟩ := Ey (w := 0) (d := t.depth) v1 p3 hS hd0 p5.le hn3
      simp only [cond_false, k1, bsm]
      exact ⟨_, rfl, fun s' h => (by cases h; exact thru hg k2), fun e h => (by cases h)⟩
    | k1 x0 =>
     have hg : gw wi t.way (bt t) (lvA es') v7 = bif x0 then 1 else 0 := hg
     cases x0 with
     | true =>
      obtain ⟨g', len', row', k1, k2⟩ := Ez (w := 1) (d := t.depth) v1 p3 hS hd0 p5.le hn3
      simp only [cond_true, k1, bsm]
      exact ⟨_, rfl, fun s' h => (by cases h; exact thru hg k2), fun e h => (by cases h)⟩
     | false =>
      obtain ⟨g', len', row', k1, k2⟩ := Ez (w := 0) (d := t.depth) v1 p3 hS hd0 p5.le hn3
      simp only [cond_false, k1, bsm]
      exact ⟨_, rfl, fun s' h => (by cases h; exact thru hg k2), fun e h => (by cases h)⟩
    | k2 x0 =>
     have hg : gw wi t.way (bt t) (lvA es') v7 = bif x0 then 1 else 0 := hg
     cases x0 with
     | true =>
      obtain ⟨g', len', row', k1, k2⟩ := EA (w := 1) (d := t.depth) v1 p3 hS hd0 p5.le hn3
      simp only [cond_true, k1, bsm]
      exact ⟨_, rfl, fun s' h => (by cases h; exact thru hg k2), fun e h => (by cases h)⟩
     | false =>
      obtain ⟨g', len', row', k1, k2⟩ := EA (w := 0) (d := t.depth) v1 p3 hS hd0 p5.le hn3
      simp only [cond_false, k1, bsm]
      exact ⟨_, rfl, fun s' h => (by cases h; exact thru hg k2), fun e h => (by cases h)⟩
    | k3 x0 =>
     have hg : gw wi t.way (bt t) (lvA es') v7 = bif x0 then 1 else 0 := hg
     cases x0 with
     | true =>
      obtain ⟨g', len', row', k1, k2⟩ := EB (w := 1) (d := t.depth) v1 p3 hS hd0 p5.le hn3
      simp only [cond_true, k1, bsm]
      exact ⟨_, rfl, fun s' h => (by cases h; exact thru hg k2), fun e h => (by cases h)⟩
     | false =>
      obtain ⟨g', len', row', k1, k2⟩ := EB (w := 0) (d := t.depth) v1 p3 hS hd0 p5.le hn3
      simp only [cond_false, k1, bsm]
      exact ⟨_, rfl, fun s' h => (by cases h; exact thru hg k2), fun e h => (by cases h)⟩
 have c3 : t.kind = 3 ∨ t.kind = 5 := by omega
 rw [Zh c4, cond_false]
 rw [Zh c1, Zh c2, Zh c4] at hfl
 by_cases c5 : t.kind = 5
 ·obtain ⟨g', len', row', k1, k2⟩ := q37 (w := t.way) (d := t.depth + t.n) v1 p3 hS ⟨by omega, by omega⟩ p5.le hn3
  have hc5 : (t.kind == 5) = true := by rw [c5]; rfl
  rw [hc5] at hfl
  have hfl : fl t.depth t.way (bt t) = fls (t.depth + t.n) t.way t.kids := hfl
  rw [hfl] at h3
  rw [hc5, cond_true, w_id (by omega), k1]
  exact ⟨_, rfl, fun s' h => (by cases h; exact fin v3 v4 v5 v7 v8 v9 o k2 h2 h3 (by omega) h6), fun e h => (by cases h)⟩
 ·obtain ⟨g', len', row', k1, k2⟩ := q37 (w := t.way) (d := t.depth) v1 p3 hS hd0 p5.le hn3
  rw [Zh c5] at hfl
  have hfl : fl t.depth t.way (bt t) = fls t.depth t.way t.kids := hfl
  rw [hfl] at h3
  rw [Zh c5, cond_false, k1]
  exact ⟨_, rfl, fun s' h => (by cases h; exact fin v3 v4 v5 v7 v8 v9 o k2 h2 h3 (by omega) h6), fun e h => (by cases h)⟩
theorem q38x {row : Iqq} {n : Nat} {o : List UInt8} (h : Buf row n o) (hb : n ≤ 4000000) : F38 n row = some (.k0 ⟨o.toArray⟩) ∨ (o = [] ∧ F38 n row = some (.k1 ByteArray.empty)) := by
 unfold F38
 by_cases c : 0 < n
 ·rw [decide_eq_true c, cond_true, show usOk n row.length = true from decide_eq_true ⟨h.le, by omega⟩, h.is, NZ]
  exact .inl rfl
 ·rw [decide_eq_false c]
  exact .inr ⟨enz (by rw [h.len]; omega), rfl⟩
noncomputable def laid (b : BoxD) (wi w : Int) : List UInt8 := R wi (fl 0 w b) [] 0 false
theorem q17x (N : Nat) (b : BoxD) (wi w : Int) (h : cnt b ≤ N) (hn : cnt b ≤ 4000) (hc : wt b ≤ 24000) (ho : Ok b) : F17 N b wi w = some ⟨(laid b wi w).toArray⟩ ∧ (laid b wi w).length ≤ 4000000 := by
 have hcw := HV _ b (Nat.le_refl _)
 have hT : TOk (szs b) (lns b) ⟨b.kind, b.text, b.n, b.kids, 0, w, 0⟩ := by
  refine ⟨by rw [To]; exact ho, ⟨0, [], [], rfl, by rw [To]; simp, by rw [To]; simp⟩, ?_, by rw [To]; exact hc⟩
  rw [To]
  show (0 : Int) ≤ 0 ∧ 0 + 100 * (cnt b : Int) ≤ 2400000
  omega
 have hi : J27 (szs b) (lns b) wi (laid b wi w) (cnt b) (0, [(⟨b.kind, b.text, b.n, b.kids, 0, w, 0⟩ : ThingD)], false, 0, 0, 1, 0, false, []) := by
  refine ⟨[(b, 0, w)], [], ⟨Nat.le_refl _, fun t ht => ?_, by simp [en, To]⟩, ⟨Nat.le_refl _, rfl⟩, by simp [laid, flS, flE], by simp [msA], ⟨by omega, by dsimp only; omega⟩, by dsimp only; omega, by dsimp only; omega⟩
  simp only [List.take_succ_cons, List.take_zero, List.mem_singleton] at ht
  subst ht
  exact hT
 have hlen := PZ b
 obtain ⟨e, k1, k2⟩ := N0 (fun k s => s27x (show (szs b).length ≤ 24000 by omega) k s) _ _ _ (Nat.le_refl _) hi
 unfold F17 F27
 rw [q18 N b h (by omega), q26 N b h (by omega)]
 simp only [bsm]
 rw [k1]
 cases e with
 | k0 x0 x1 x2 x3 x4 x5 x6 x7 x8 =>
 obtain ⟨m1, m3⟩ := k2
 have hz := m1.len
 simp only [bsm]
 refine ⟨?_, by omega⟩
 rcases q38x m1 m3 with h1 | ⟨h0, h1⟩
 ·rw [h1]; rfl
 ·rw [h1, h0]; rfl
noncomputable def G25 (a1 : BoxD) (A : Bool) : Option Bool :=
 (bif (a1.kind == 0) then (bif (!(a1.text.toList == a1.text.toList)) then (some false) else (bif (a1.n != 0) then (some false) else (bif ((a1.kids.length : Int) != 0) then (some false) else (bif (decide (a1.n < 0)) then (some false) else (bif (decide (a1.n > 100)) then (some false) else (some A)))))) else (bif (a1.kind == 5) then (bif (!(a1.text.toList == Eqq.toList)) then (some false) else (bif (a1.n != a1.n) then (some false) else (bif ((a1.kids.length : Int) != (a1.kids.length : Int)) then (some false) else (bif (decide (a1.n < 0)) then (some false) else (bif (decide (a1.n > 100)) then (some false) else (some A)))))) else (bif (a1.kind == 1) then (bif (!(a1.text.toList == Eqq.toList)) then (some false) else (bif (a1.n != a1.n) then (some false) else (bif ((a1.kids.length : Int) != 0) then (some false) else (bif (decide (a1.n < 0)) then (some false) else (bif (decide (a1.n > 100)) then (some false) else (some A)))))) else (bif (a1.kind == 3) then (bif (!(a1.text.toList == Eqq.toList)) then (some false) else (bif (a1.n != 0) then (some false) else (bif ((a1.kids.length : Int) != (a1.kids.length : Int)) then (some false) else (bif (decide (a1.n < 0)) then (some false) else (bif (decide (a1.n > 100)) then (some false) else (some A)))))) else (bif (a1.kind == 4) then (bif (!(a1.text.toList == Eqq.toList)) then (some false) else (bif (a1.n != 0) then (some false) else (bif ((a1.kids.length : Int) != (a1.kids.length : Int)) then (some false) else (bif (decide (a1.n < 0)) then (some false) else (bif (decide (a1.n > 100)) then (some false) else (some A)))))) else (bif (a1.kind == 2) then (bif (!(a1.text.toList == Eqq.toList)) then (some false) else (bif (a1.n != 0) then (some false) else (bif ((a1.kids.length : Int) != 0) then (some false) else (bif (decide (a1.n < 0)) then (some false) else (bif (decide (a1.n > 100)) then (some false) else (some A)))))) else (some false)))))))
theorem q25g : ∀ (N : Nat) (b : BoxD), cnt b ≤ N + 1 → cnt b ≤ 4000000 → F25 (N + 1) b = G25 b (allF (fun _ x => ok25 N x) 0 b.kids)
 | N, b, h, hc => by
  show MK (F25 N) b = _
  have hcb := Z9 b
  have hkl := XE b.kids
  have ih : ∀ x ∈ b.kids, F25 N x = some (ok25 N x) := fun x hx => by
   obtain ⟨v, h1, _⟩ := q25 N x (by have := Yz hx; omega) (by have := Yz hx; omega)
   unfold ok25
   rw [h1]
   rfl
  have kids1 : runL (fun s => UD (F25 N) b (b.kids.length : Int) s) 0 = some (bif allF (fun _ x => ok25 N x) 0 b.kids then .k1 else .k0) := by
   refine Z7 (step := fun s => UD (F25 N) b (b.kids.length : Int) s) (l := b.kids) (fun _ x => ok25 N x) (bad := E_L25_0.k0) (fin := .k1) (fun i x hx => ?_) (by simp [UD])
   have hi : i < b.kids.length := (gei.1 hx).1
   simp only [UD, Zj, hx, bsm, decide_eq_true (show (i : Int) < (b.kids.length : Int) by omega), cond_true, ih x (mog hx), w_S (show i < 4611686018427387904 by omega)]
   cases ok25 N x <;> rfl
  have kids2 : runL (fun s => YG (F25 N) b (b.kids.length : Int) s) 0 = some (bif allF (fun _ x => ok25 N x) 0 b.kids then .k1 else .k0) := by
   refine Z7 (step := fun s => YG (F25 N) b (b.kids.length : Int) s) (l := b.kids) (fun _ x => ok25 N x) (bad := E_L25_0_2.k0) (fin := .k1) (fun i x hx => ?_) (by simp [YG])
   have hi : i < b.kids.length := (gei.1 hx).1
   simp only [YG, Zj, hx, bsm, decide_eq_true (show (i : Int) < (b.kids.length : Int) by omega), cond_true, ih x (mog hx), w_S (show i < 4611686018427387904 by omega)]
   cases ok25 N x <;> rfl
  have kids3 : runL (fun s => YH (F25 N) b (b.kids.length : Int) s) 0 = some (bif allF (fun _ x => ok25 N x) 0 b.kids then .k1 else .k0) := by
   refine Z7 (step := fun s => YH (F25 N) b (b.kids.length : Int) s) (l := b.kids) (fun _ x => ok25 N x) (bad := E_L25_0_3.k0) (fin := .k1) (fun i x hx => ?_) (by simp [YH])
   have hi : i < b.kids.length := (gei.1 hx).1
   simp only [YH, Zj, hx, bsm, decide_eq_true (show (i : Int) < (b.kids.length : Int) by omega), cond_true, ih x (mog hx), w_S (show i < 4611686018427387904 by omega)]
   cases ok25 N x <;> rfl
  have kids4 : runL (fun s => Ys (F25 N) b (b.kids.length : Int) s) 0 = some (bif allF (fun _ x => ok25 N x) 0 b.kids then .k1 else .k0) := by
   refine Z7 (step := fun s => Ys (F25 N) b (b.kids.length : Int) s) (l := b.kids) (fun _ x => ok25 N x) (bad := E_L25_0_4.k0) (fin := .k1) (fun i x hx => ?_) (by simp [Ys])
   have hi : i < b.kids.length := (gei.1 hx).1
   simp only [Ys, Zj, hx, bsm, decide_eq_true (show (i : Int) < (b.kids.length : Int) by omega), cond_true, ih x (mog hx), w_S (show i < 4611686018427387904 by omega)]
   cases ok25 N x <;> rfl
  have kids5 : runL (fun s => YI (F25 N) b (b.kids.length : Int) s) 0 = some (bif allF (fun _ x => ok25 N x) 0 b.kids then .k1 else .k0) := by
   refine Z7 (step := fun s => YI (F25 N) b (b.kids.length : Int) s) (l := b.kids) (fun _ x => ok25 N x) (bad := E_L25_0_5.k0) (fin := .k1) (fun i x hx => ?_) (by simp [YI])
   have hi : i < b.kids.length := (gei.1 hx).1
   simp only [YI, Zj, hx, bsm, decide_eq_true (show (i : Int) < (b.kids.length : Int) by omega), cond_true, ih x (mog hx), w_S (show i < 4611686018427387904 by omega)]
   cases ok25 N x <;> rfl
  unfold MK G25
  rw [kids1, kids2, kids3, kids4, kids5]
  simp only [bsm]
  cases allF (fun _ x => ok25 N x) 0 b.kids <;> rfl
theorem Lj {N : Nat} {b : BoxD} (h : cnt b ≤ N) (hc : cnt b ≤ 4000000) : F25 N b = some (ok25 N b) ∧ (ok25 N b = true → Ok b) := by
 obtain ⟨v, h1, h2⟩ := q25 N b h hc
 unfold ok25
 rw [h1]
 exact ⟨rfl, h2⟩
theorem CN {N : Nat} {l : Bqq} : allF (fun _ x => ok25 N x) 0 l = true ↔ ∀ x ∈ l, ok25 N x = true := by
 rw [PF]
 exact ⟨fun h x hx => by obtain ⟨j, hj⟩ := List.getElem?_of_mem hx; exact h j x hj, fun h j x hj => h x (mog hj)⟩
abbrev bE : ByteArray := ⟨([] : List UInt8).toArray⟩
theorem q16x (N : Nat) (b : BoxD) (h : cnt b ≤ N) (hc : cnt b ≤ 4000) : F16 N b = some (bif ok25 N b then 0 else 260) := by
 obtain ⟨d, h3, h4, h5⟩ := q21 N b h hc
 unfold F16
 rw [(Lj h (by omega)).1]
 cases ok25 N b with
 | false => rfl
 | true =>
  simp only [bsm, cond_true]
  rw [h3]
  simp only [bsm, decide_eq_false (show ¬ (cnt b : Int) > 65536 by omega), decide_eq_false (show ¬ d > 16384 by omega), cond_false]
theorem q7x (N : Nat) (b : BoxD) (m : Int) (h : cnt b ≤ N) (hn : cnt b ≤ 4000) (hc : wt b ≤ 24000) :
  F7 N b m = some (bif ok25 N b then (bif decide (m < 1) then .k0 bE 2 else bif decide (((laid b m 0).length : Int) > 1048576) then .k0 bE 3 else .k0 ⟨(laid b m 0).toArray⟩ 0) else .k0 bE 260) := by
 have hcw := HV _ b (Nat.le_refl _)
 have h16 := q16x N b h (by omega)
 unfold F7
 rw [h16]
 cases hv : ok25 N b with
 | false => rfl
 | true =>
  simp only [cond_true, bsm, show ((0 : Int) != 0) = false from rfl, cond_false]
  have ho := (Lj h (by omega)).2 hv
  rw [(q17x N b m 0 h hn hc ho).1]
  simp only [bsm]
  have hz : (⟨(laid b m 0).toArray⟩ : ByteArray).size = (laid b m 0).length := List.size_toArray ..
  rw [hz]
  cases decide (m < 1) with
  | true => rfl
  | false =>
   simp only [cond_false]
   cases decide (((laid b m 0).length : Int) > 1048576) <;> rfl
inductive Ln (B : Nat) : List UInt8 → Prop
 | one {x : List UInt8} (h : (10 : UInt8) ∉ x) (hl : x.length ≤ B) : Ln B x
 | cons {x r : List UInt8} (h : (10 : UInt8) ∉ x) (hl : x.length ≤ B) (hr : Ln B r) : Ln B (x ++ 10 :: r)
theorem q39 (s : ByteArray) : (JQ s = some (-1) ∧ (10 : UInt8) ∉ s.data.toList) ∨ ∃ p r, s.data.toList = p ++ 10 :: r ∧ (10 : UInt8) ∉ p ∧ JQ s = some (p.length : Int) := by
 unfold JQ JN
 by_cases he : (⟨([10] : List UInt8).toArray⟩ : ByteArray) = s
 ·subst he
  refine .inr ⟨[], [], rfl, by simp, ?_⟩
  rw [Zu, decide_eq_true rfl]
  rfl
 ·rw [Zu, decide_eq_false he]
  have g0 : getI (⟨([10] : List UInt8).toArray⟩ : ByteArray).data.toList 0 = some (10 : UInt8) := rfl
  have e1 : (Int.toNat (((10 : UInt8).toNat : Nat) : Int)).toUInt8 = 10 := by decide
  simp only [cond_false, g0, bsm, HJ, e1, Go.Lib.firstIdx_eq]
  rcases TM 10 s.data.toList with ⟨h1, h2⟩ | ⟨p, r, h1, h2, h3⟩
  ·exact .inl ⟨by rw [h1], h2⟩
  ·exact .inr ⟨p, r, h1, h2, by rw [h3]⟩
theorem BY : ∀ {p x r t : List UInt8}, p ++ 10 :: r = x ++ 10 :: t → (10 : UInt8) ∉ p → (10 : UInt8) ∉ x → p = x ∧ r = t
 | [], [], r, t, h, _, _ => by simpa using h
 | [], y :: x, r, t, h, _, h2 => by
  simp only [List.nil_append, List.cons_append, List.cons.injEq] at h
  exact absurd (by rw [h.1]; simp) h2
 | y :: p, [], r, t, h, h1, _ => by
  simp only [List.nil_append, List.cons_append, List.cons.injEq] at h
  exact absurd (by rw [h.1]; simp) h1
 | y :: p, z :: x, r, t, h, h1, h2 => by
  simp only [List.cons_append, List.cons.injEq] at h
  obtain ⟨q1, q2⟩ := BY h.2 (fun k => h1 (by simp [k])) (fun k => h2 (by simp [k]))
  exact ⟨by rw [h.1, q1], q2⟩
theorem l157 {B : Nat} {l : List UInt8} (h : Ln B l) : ∀ (s : ByteArray) (v : Int), s.data.toList = l → s.size ≤ 8000000 → v ≤ (B : Int) →
  ∃ x t, runL (fun s => Uo s.1 s.2) (v, s) = some (.k0 x t) ∧ (if x < (t.size : Int) then (t.size : Int) else x) ≤ (B : Int) := by
 induction h with
 | @one x h hl =>
  intro s v e hs hv
  rcases q39 s with ⟨h1, h2⟩ | ⟨p, r, h1, h2, h3⟩
  ·refine ⟨v, s, Zr ?_, ?_⟩
   ·simp only [Uo, h1, bsm]
    rfl
   ·have := ZV s
    rw [e] at this
    split <;> omega
  ·rw [e] at h1
   exact absurd (by rw [h1]; simp) h
 | @cons x r h hl hr ih =>
  intro s v e hs hv
  rcases q39 s with ⟨h1, h2⟩ | ⟨p, t, h1, h2, h3⟩
  ·rw [e] at h2
   exact absurd (by simp) h2
  ·rw [e] at h1
   obtain ⟨rfl, rfl⟩ := BY h1.symm h2 h
   have hz := ZV s
   rw [e, lap, lcn] at hz
   have w0 : IntKind.wrap .i64 ((p.length : Int) + 0) = (p.length : Int) := by rw [w_id (by omega)]; omega
   have hp : (s.extract 0 p.length).size = p.length := by
    rw [← ZV, Li, e]; simp
   have ht : (s.extract (p.length + 1) s.size).data.toList = t := by
    rw [Li, e, tol (by rw [lap, lcn]; omega)]
    simp [List.drop_append]
   have hts : (s.extract (p.length + 1) s.size).size = t.length := by rw [← ZV, ht]
   obtain ⟨x, y, k1, k2⟩ := ih (s.extract (p.length + 1) s.size) (if v < (p.length : Int) then (p.length : Int) else v) ht (by omega) (by split <;> omega)
   refine ⟨x, y, ?_, k2⟩
   rw [← k1]
   refine ZG (step := fun s : Int × ByteArray => Uo s.1 s.2) ?_
   simp only [Uo, h3, bsm, decide_eq_false (show ¬ (p.length : Int) < 0 by omega), cond_false, w0,
    show PE 0 (p.length : Int) s.size = true from decide_eq_true ⟨by omega, by omega, by omega⟩, cond_true, TK, w_S (show p.length < 4611686018427387904 by omega),
    show PE ((p.length + 1 : Nat) : Int) (s.size : Int) s.size = true from decide_eq_true ⟨by omega, by omega, by omega⟩, Int.toNat_natCast, Int.toNat_zero, hp]
theorem q110 {B : Nat} {s : ByteArray} (h : Ln B s.data.toList) (hs : s.size ≤ 8000000) : ∃ x, F110 s = some x ∧ x ≤ (B : Int) := by
 obtain ⟨x, t, h1, h2⟩ := l157 h s 0 rfl hs (by omega)
 refine ⟨_, ?_, h2⟩
 simp only [F110, F126, F142, F157, bsm, h1, TL]
def lw : List LF → Nat
 | [] => 0
 | .tx s :: l => s.size + lw l
 | .br n _ :: l => n.toNat + lw l
 | .ln :: l => lw l
def flt : List LF → List UInt8
 | [] => []
 | .tx s :: l => s.data.toList ++ flt l
 | .br n _ :: l => List.replicate n.toNat 32 ++ flt l
 | .ln :: l => flt l
theorem P2 : ∀ l, (flt l).length = lw l
 | [] => rfl
 | .tx s :: l => by simp only [flt, lw, lap, ZV, P2 l]
 | .br n w :: l => by simp only [flt, lw, lap, lrp, P2 l]
 | .ln :: l => P2 l
theorem N2 : ∀ a b, lw (a ++ b) = lw a + lw b
 | [], b => by simp [lw]
 | .tx s :: l, b => by simp only [List.cons_append, lw, N2 l b]; omega
 | .br n w :: l, b => by simp only [List.cons_append, lw, N2 l b]; omega
 | .ln :: l, b => by simp only [List.cons_append, lw, N2 l b]
theorem RC : ∀ a b, flt (a ++ b) = flt a ++ flt b
 | [], b => by simp [flt]
 | .tx s :: l, b => by simp only [List.cons_append, flt, RC l b, List.append_assoc]
 | .br n w :: l, b => by simp only [List.cons_append, flt, RC l b, List.append_assoc]
 | .ln :: l, b => by simp only [List.cons_append, flt, RC l b]
def flOk : LF → Prop
 | .tx s => Yl s = false ∧ s.size ≤ 4000000
 | .br n w => w = 1 ∧ 0 ≤ n
 | .ln => False
theorem RD {wd : Int} : ∀ (l : List LF) (c : Int), (∀ x ∈ l, flOk x) → Ym wd l c = decide (c + (lw l : Int) ≤ wd)
 | [], c, _ => by simp [Ym, lw]
 | .tx s :: l, c, h => by
  obtain ⟨h1, h2⟩ : Yl s = false ∧ s.size ≤ 4000000 := h (.tx s) (by simp)
  obtain ⟨a, b, _, _, _, k4⟩ := FD s (by omega)
  obtain ⟨k5, k6⟩ := k4 h1
  simp only [Ym, lw, k5, k6, cond_false, RD l _ (fun x hx => h x (by simp [hx]))]
  by_cases c1 : c ≤ wd
  ·rw [decide_eq_true c1, Bool.true_and]
   exact decide_eq_decide.2 (by omega)
  ·rw [decide_eq_false c1, Bool.false_and]
   exact (decide_eq_false (by omega)).symm
 | .br n w :: l, c, h => by
  obtain ⟨h1, h2⟩ : w = 1 ∧ 0 ≤ n := h (.br n w) (by simp)
  subst h1
  simp only [Ym, lw, show ((1 : Int) == 0) = false from rfl, cond_false, RD l _ (fun x hx => h x (by simp [hx]))]
  by_cases c1 : c ≤ wd
  ·rw [decide_eq_true c1, Bool.true_and]
   exact decide_eq_decide.2 (by omega)
  ·rw [decide_eq_false c1, Bool.false_and]
   exact (decide_eq_false (by omega)).symm
 | .ln :: l, c, h => (h .ln (by simp)).elim
theorem WG {x : BoxD} : ∀ {l : Bqq}, Wp l = false → x ∈ l → hasL x = false
 | [], _, h => by simp at h
 | y :: l, h, hx => by
  simp only [Wp, Bool.or_eq_false_iff] at h
  rcases List.mem_cons.1 hx with rfl | hx
  ·exact h.1
  ·exact WG h.2 hx
theorem P3 {b : BoxD} : ∀ {l : Bqq}, b ∈ l → wt b ≤ wts l
 | [], h => by simp at h
 | u :: l, h => by
  simp only [wts]
  rcases List.mem_cons.1 h with rfl | h
  ·omega
  ·have := P3 h; omega
def flA (x : At) : Prop := Ok x.1 ∧ hasL x.1 = false ∧ x.2.2 = 1 ∧ (x.1.kind = 0 ∨ x.1.kind = 1 ∨ x.1.kind = 4) ∧ wt x.1 ≤ 4000000
theorem EE : ∀ (N : Nat) (b : BoxD) (d : Int), cnt b ≤ N → Ok b → hasL b = false → wt b ≤ 4000000 → ∀ x ∈ fl d 1 b, flA x
 | 0, b, _, h, _, _, _ => by have := ZY b; omega
 | N + 1, b, d, h, ho, hl, hw => by
  have hwb := JX b
  have hl0 := hl
  rw [VW] at hl
  simp only [Bool.or_eq_false_iff] at hl
  obtain ⟨⟨l1, l2⟩, l3⟩ := hl
  have key : ∀ (l : Bqq) (d : Int), (∀ x ∈ l, cnt x ≤ N ∧ Ok x ∧ hasL x = false ∧ wt x ≤ 4000000) → ∀ x ∈ fls d 1 l, flA x := by
   intro l d
   induction l with
   | nil => intro _; simp [fls]
   | cons x l ih =>
    intro hl y hy
    obtain ⟨q1, q2, q3, q4⟩ := hl x (by simp)
    simp only [fls] at hy
    rcases List.mem_append.1 hy with hy | hy
    ·exact EE N x d q1 q2 q3 q4 y hy
    ·exact ih (fun y hy => hl y (by simp [hy])) y hy
  have hk : ∀ x ∈ b.kids, cnt x ≤ N ∧ Ok x ∧ hasL x = false ∧ wt x ≤ 4000000 := fun x hx =>
   ⟨by have := Yz hx; have := Z9 b; omega, ho.kid hx, WG l3 hx, by have := P3 hx; omega⟩
  have e1 := Lh d 1 b
  by_cases k0 : b.kind = 0
  ·rw [show (b.kind == 0) = true by rw [k0]; rfl, cond_true] at e1
   rw [e1]
   cases b.text.size == 0 with
   | true => simp
   | false => simp only [cond_false, List.mem_singleton]; rintro x rfl; exact ⟨ho, hl0, rfl, .inl k0, hw⟩
  rw [Zh k0, cond_false] at e1
  by_cases k1 : b.kind = 1
  ·rw [show (b.kind == 1) = true by rw [k1]; rfl] at e1
   rw [e1]
   simp only [Bool.true_or, cond_true, List.mem_singleton]; rintro x rfl; exact ⟨ho, hl0, rfl, .inr (.inl k1), hw⟩
  by_cases k4 : b.kind = 4
  ·rw [show (b.kind == 4) = true by rw [k4]; rfl, Bool.or_true] at e1
   rw [e1]
   simp only [cond_true, List.mem_singleton]; rintro x rfl; exact ⟨ho, hl0, rfl, .inr (.inr k4), hw⟩
  rw [Zh k1, l1, Zh k4] at e1
  rw [e1]
  cases b.kind == 5 with
  | true => exact key b.kids (d + b.n) hk
  | false => exact key b.kids d hk
theorem H3 (l : Bqq) (d : Int) (h : ∀ x ∈ l, Ok x ∧ hasL x = false ∧ wt x ≤ 4000000) : ∀ x ∈ fls d 1 l, flA x := by
 induction l with
 | nil => simp [fls]
 | cons y l ih =>
  intro x hx
  simp only [fls] at hx
  obtain ⟨q1, q2, q3⟩ := h y (by simp)
  rcases List.mem_append.1 hx with hx | hx
  ·exact EE _ y d (Nat.le_refl _) q1 q2 q3 x hx
  ·exact ih (fun z hz => h z (by simp [hz])) x hx
theorem KN {s : ByteArray} {d : Int} {o : List UInt8} : txo s d o false = o ++ s.data.toList := by
 unfold txo
 cases hs : s.size == 0 with
 | true => rw [FA (by simpa using hs)]; simp
 | false => simp
theorem P4 {s : ByteArray} (fr : Bool) (h : Yl s = false) (hs : s.size ≤ 4000000) : txf s fr = (s.size == 0 && fr) := by
 unfold txf
 rw [FC (by omega) h]
 cases hz : s.size == 0 with
 | true => rfl
 | false =>
  have : ¬ s.size = 0 := by simpa using hz
  simp only [cond_false, Bool.false_and]
  simpa using (by omega : ¬ (-1 : Int) = (s.size : Int) - 1)
theorem CO {b : BoxD} {w : Int} (k0 : b.kind = 0) : flt (lv w b) = b.text.data.toList ∧ lw (lv w b) = b.text.size := by
 have e2 := N1 w b
 rw [show (b.kind == 0) = true by rw [k0]; rfl, cond_true] at e2
 rw [e2]
 cases hs : b.text.size == 0 with
 | true =>
  have h0 : b.text.size = 0 := by simpa using hs
  exact ⟨by rw [FA h0]; rfl, h0.symm⟩
 | false => exact ⟨by simp [flt], by simp [lw]⟩
theorem KO (wd : Int) : ∀ (N : Nat) (l : List At) (o : List UInt8) (col : Int), msA l ≤ N → (∀ x ∈ l, flA x) → o.length + lw (lvA l) ≤ 1048576 → R wd l o col false = o ++ flt (lvA l)
 | N, [], o, col, _, _, _ => by rw [HZ]; simp [lvA, flt]
 | 0, x :: l, o, col, h, _, _ => by simp only [msA] at h; have := ZY x.1; omega
 | N + 1, (b, d, w) :: l, o, col, h, ha, hb => by
  obtain ⟨h1, h2, h3, h4, h5⟩ := ha (b, d, w) (by simp)
  dsimp only at h1 h2 h3 h4 h5
  subst h3
  have hl : ∀ x ∈ l, flA x := fun x hx => ha x (by simp [hx])
  have ec : lvA ((b, d, 1) :: l) = lv 1 b ++ lvA l := rfl
  rw [ec, N2] at hb
  rw [ec, RC]
  simp only [msA] at h
  have hcp := ZY b
  have hbig : ¬ 1048576 < o.length := by omega
  have hh := h2
  rw [VW] at hh
  simp only [Bool.or_eq_false_iff] at hh
  have hwb := JX b
  rcases h4 with k | k | k
  ·obtain ⟨e1, e2⟩ := CO (w := 1) k
   rw [R_tx hbig k, KN, P4 false hh.1.2 (by omega), Bool.and_false, KO wd N l _ _ (by omega) hl (by rw [lap, ZV]; omega), e1, List.append_assoc]
  ·have e2 := N1 1 b
   rw [k] at e2
   have e2 : lv 1 b = [.br b.n 1] := e2
   rw [e2] at hb ⊢
   simp only [lw] at hb
   rw [BV hbig k (by decide), KO wd N l _ _ (by omega) hl (by rw [lap, lrp]; omega)]
   simp only [flt, List.append_nil, List.append_assoc]
  ·have e2 := N1 1 b
   rw [k] at e2
   have e2 : lv 1 b = lvs 1 b.kids := e2
   obtain ⟨m1, m2⟩ := KK b.kids d 1
   have hcb := Z9 b
   have hg : gw wd 1 b (lvA l) col = 1 := rfl
   have hm : lvA (fls d 1 b.kids ++ l) = lv 1 b ++ lvA l := by rw [Tb, m2, e2]
   rw [R_gr hbig k, hg, KO wd N _ o col (by rw [YJ]; omega) (fun x hx => ?_) (by rw [hm, N2]; omega), hm, RC]
   rcases List.mem_append.1 hx with hx | hx
   ·exact H3 b.kids d (fun y hy => ⟨h1.kid hy, WG hh.2 hy, by have := P3 hy; omega⟩) x hx
   ·exact hl x hx
abbrev nlB : ByteArray := ⟨([10] : List UInt8).toArray⟩
abbrev spB : ByteArray := ⟨([32] : List UInt8).toArray⟩
abbrev bkB : BoxD := .mk 1 bE 1 []
abbrev txB (s : ByteArray) : BoxD := .mk 0 s 0 []
def kds (l : List ByteArray) : Bqq := l.flatMap fun s => [bkB, txB s]
def tls (c : UInt8) (l : List ByteArray) : List UInt8 := l.flatMap fun s => c :: s.data.toList
def gd (s : ByteArray) : Prop := s.size ≤ 100 ∧ ¬ s.size = 0 ∧ Yl s = false
theorem CQ (a b : List ByteArray) : kds (a ++ b) = kds a ++ kds b := List.flatMap_append
theorem CR (c : UInt8) (a b : List ByteArray) : tls c (a ++ b) = tls c a ++ tls c b := List.flatMap_append
theorem Tc (c : UInt8) : ∀ l : List ByteArray, (∀ x ∈ l, gd x) → (tls c l).length ≤ 101 * l.length
 | [], _ => by simp [tls]
 | s :: l, h => by
  have h1 := Tc c l (fun x hx => h x (by simp [hx]))
  have h2 := (h s (by simp)).1
  show ((c :: s.data.toList) ++ tls c l).length ≤ _
  rw [lap, lcn, ZV, lcn]
  omega
theorem Lk : ∀ l : List ByteArray, (kds l).length = 2 * l.length
 | [] => rfl
 | s :: l => by
  show ([bkB, txB s] ++ kds l).length = _
  rw [lap, Lk l, lcn]
  simp
  omega
theorem FF {l : List ByteArray} {j : Nat} {x : ByteArray} (h : l[j]? = some x) : (kds (l.take (j + 1))).drop 1 = (kds (l.take j)).drop 1 ++ (if 0 < j then [bkB, txB x] else [txB x]) := by
 have ht : l.take (j + 1) = l.take j ++ [x] := by rw [List.take_add_one, h]; rfl
 have hj := (gei.1 h).1
 have hz := Lk (l.take j)
 rw [List.length_take] at hz
 rw [ht, CQ]
 by_cases c : 0 < j
 ·rw [if_pos c, List.drop_append_of_le_length (by omega)]; rfl
 ·obtain rfl : j = 0 := by omega
  rfl
theorem KQ (c : UInt8) {l : List ByteArray} {j : Nat} {x : ByteArray} (h : l[j]? = some x) : (tls c (l.take (j + 1))).drop 1 = (tls c (l.take j)).drop 1 ++ (if 0 < j then [c] else []) ++ x.data.toList := by
 have ht : l.take (j + 1) = l.take j ++ [x] := by rw [List.take_add_one, h]; rfl
 have hj := (gei.1 h).1
 rw [ht, CR]
 by_cases k : 0 < j
 ·rw [if_pos k, List.drop_append_of_le_length (by
   obtain ⟨y, r, e⟩ : ∃ y r, l.take j = y :: r := by
    cases hq : l.take j with
    | nil => have := congrArg List.length hq; rw [List.length_take, List.length_nil] at this; omega
    | cons y r => exact ⟨y, r, rfl⟩
   rw [e]
   show 1 ≤ ((c :: y.data.toList) ++ tls c r).length
   simp)]
  simp [tls]
 ·obtain rfl : j = 0 := by omega
  simp [tls]
def Res (l : List ByteArray) (e : E_L103_0) : Prop :=
 e = .k0 true ∨ ∃ g n a b row, e = .k1 g n a b row ∧ n ≤ row.length ∧ row.take n = (kds l).drop 1 ∧ a.data.toList = (tls 10 l).drop 1 ∧ b.data.toList = (tls 32 l).drop 1 ∧ ∀ x ∈ l, gd x
theorem BZ {s : ByteArray} (h : (⟨(brl s.data.toList).toArray⟩ : ByteArray) = s) : Yl s = false := by
 have h1 : brl s.data.toList = s.data.toList := by
  have := congrArg (fun x : ByteArray => x.data.toList) h
  exact this
 refine decide_eq_false (fun hm => ?_)
 rw [← h1] at hm
 unfold brl at hm
 have := (List.mem_filter.1 hm).2
 simp at this
theorem l103 (l : List ByteArray) (hl : l.length ≤ 200) : ∀ (k j g n : Nat) (a b : ByteArray) (row : Bqq), j + k = l.length → n ≤ row.length → row.take n = (kds (l.take j)).drop 1 → a.data.toList = (tls 10 (l.take j)).drop 1 → b.data.toList = (tls 32 (l.take j)).drop 1 → (∀ x ∈ l.take j, gd x) →
  ∃ e, runL (fun s => Z3 l s.1 s.2.1 s.2.2.1 s.2.2.2.1 s.2.2.2.2.1 s.2.2.2.2.2) (g, n, a, b, (j : Int), row) = some e ∧ Res l e
 | 0, j, g, n, a, b, row, hj, h1, h2, h3, h4, h5 => by
  obtain rfl : j = l.length := by omega
  rw [List.take_length] at h2 h3 h4 h5
  refine ⟨.k1 g n a b row, Zr ?_, .inr ⟨g, n, a, b, row, rfl, h1, h2, h3, h4, h5⟩⟩
  simp only [Z3, decide_eq_false (show ¬ (l.length : Int) < (l.length : Int) by omega), cond_false]
 | k + 1, j, g, n, a, b, row, hj, h1, h2, h3, h4, h5 => by
  have hx : l[j]? = some (l[j]'(by omega)) := geg _
  generalize l[j]'(by omega) = x at hx
  have ht : l.take (j + 1) = l.take j ++ [x] := by rw [List.take_add_one, hx]; rfl
  have bad : ∀ {s : Nat × Nat × ByteArray × ByteArray × Int × Bqq}, Z3 l s.1 s.2.1 s.2.2.1 s.2.2.2.1 s.2.2.2.2.1 s.2.2.2.2.2 = some (.inl (.k0 true)) → ∃ e, runL (fun s => Z3 l s.1 s.2.1 s.2.2.1 s.2.2.2.1 s.2.2.2.2.1 s.2.2.2.2.2) s = some e ∧ Res l e :=
   fun h => ⟨_, Zr h, .inl rfl⟩
  have lt : decide ((j : Int) < (l.length : Int)) = true := decide_eq_true (by omega)
  by_cases c1 : (x.size : Int) > 100
  ·refine bad ?_
   simp only [Z3, lt, cond_true, Zj, hx, bsm, decide_eq_true c1, F6]
  by_cases c2 : (x.size : Int) < 1
  ·refine bad ?_
   simp only [Z3, lt, cond_true, Zj, hx, bsm, decide_eq_false c1, decide_eq_true c2, cond_false, F6]
  have q := q10 x (by omega)
  by_cases c3 : (⟨(brl x.data.toList).toArray⟩ : ByteArray) = x
  case neg =>
   refine bad ?_
   simp only [Z3, lt, cond_true, Zj, hx, bsm, decide_eq_false c1, decide_eq_false c2, cond_false, q, Zu, decide_eq_false c3, Bool.not_false, F6]
  have hg : gd x := ⟨by omega, by omega, BZ c3⟩
  have h5' : ∀ y ∈ l.take (j + 1), gd y := fun y hy => by
   rw [ht] at hy
   rcases List.mem_append.1 hy with hy | hy
   ·exact h5 y hy
   ·rw [List.mem_singleton.1 hy]; exact hg
  have ha : a.size ≤ 20200 := by
   have e := congrArg List.length h3
   have := Tc 10 (l.take j) h5
   rw [List.length_drop, ZV] at e
   rw [List.length_take] at this
   omega
  have hb : b.size ≤ 20200 := by
   have e := congrArg List.length h4
   have := Tc 32 (l.take j) h5
   rw [List.length_drop, ZV] at e
   rw [List.length_take] at this
   omega
  have hn : n ≤ 400 := by
   have e := congrArg List.length h2
   have := Lk (l.take j)
   rw [List.length_drop, List.length_take] at e
   rw [List.length_take] at this
   omega
  have ks := FF hx
  have sa := KQ 10 hx
  have sb := KQ 32 hx
  rw [← h2] at ks
  rw [← h3] at sa
  rw [← h4] at sb
  have ih := l103 l hl k (j + 1)
  have z1 : nlB.size = 1 := rfl
  have z2 : spB.size = 1 := rfl
  have d1 : nlB.data.toList = [10] := rfl
  have d2 : spB.data.toList = [32] := rfl
  have start : ∀ r, Z3 l g n a b (j : Int) row = some (.inr r) → (∃ g' n' a' b' row', r = (g', n', a', b', ((j + 1 : Nat) : Int), row') ∧ n' ≤ row'.length ∧ row'.take n' = (kds (l.take (j + 1))).drop 1 ∧ a'.data.toList = (tls 10 (l.take (j + 1))).drop 1 ∧ b'.data.toList = (tls 32 (l.take (j + 1))).drop 1) →
    ∃ e, runL (fun s => Z3 l s.1 s.2.1 s.2.2.1 s.2.2.2.1 s.2.2.2.2.1 s.2.2.2.2.2) (g, n, a, b, (j : Int), row) = some e ∧ Res l e := by
   rintro r hr ⟨g', n', a', b', row', rfl, m1, m2, m3, m4⟩
   rw [ZG (step := fun s : Nat × Nat × ByteArray × ByteArray × Int × Bqq => Z3 l s.1 s.2.1 s.2.2.1 s.2.2.2.1 s.2.2.2.2.1 s.2.2.2.2.2) (s := (g, n, a, b, (j : Int), row)) hr]
   exact ih g' n' a' b' row' (by omega) m1 m2 m3 m4 h5'
  have hw := w_S (show j < 4611686018427387904 by omega)
  obtain ⟨p1, p2⟩ := put1 (row := row) bkB h1
  obtain ⟨o1, o2⟩ := put1 (row := row) (txB x) h1
  by_cases cj : 0 < j
  ·have cj' : decide ((j : Int) > 0) = true := decide_eq_true (by omega)
   rw [if_pos cj] at ks sa sb
   have y1 : a.size + nlB.size ≤ 9223372036854775807 := by omega
   have y2 : b.size + spB.size ≤ 9223372036854775807 := by omega
   have y3 : (a ++ nlB).size + x.size ≤ 9223372036854775807 := by rw [Ew]; omega
   have y4 : (b ++ spB).size + x.size ≤ 9223372036854775807 := by rw [Ew]; omega
   have ea : ((a ++ nlB) ++ x).data.toList = (tls 10 (l.take (j + 1))).drop 1 := by rw [RA, RA, sa]
   have eb : ((b ++ spB) ++ x).data.toList = (tls 32 (l.take (j + 1))).drop 1 := by rw [RA, RA, sb]
   have goA : ∀ R : Bqq, n + 1 ≤ R.length → R.take (n + 1) = row.take n ++ [bkB] →
     (n + 1 + 1 ≤ R.length → n + 1 + 1 ≤ (splice R (n + 1) [txB x]).length ∧ (splice R (n + 1) [txB x]).take (n + 1 + 1) = (kds (l.take (j + 1))).drop 1) ∧
     (n + 1 + 1 ≤ (R.take (n + 1) ++ [txB x]).length ∧ (R.take (n + 1) ++ [txB x]).take (n + 1 + 1) = (kds (l.take (j + 1))).drop 1) := fun R hR1 hR2 => by
    obtain ⟨u1, u2⟩ := put1 (row := R) (txB x) hR1
    have e : R.take (n + 1) ++ [txB x] = (kds (l.take (j + 1))).drop 1 := by rw [hR2, ks]; simp
    exact ⟨fun hh => ⟨(u1 hh).2, by rw [(u1 hh).1, e]⟩, u2.2, by rw [u2.1, e]⟩
   by_cases cA : n + 1 ≤ row.length
   ·obtain ⟨r1, r2⟩ := p1 cA
    obtain ⟨t1, t2⟩ := goA _ r2 r1
    by_cases cB : n + 1 + 1 ≤ (splice row n [bkB]).length
    ·refine start _ ?_ ⟨g, _, _, _, _, rfl, (t1 cB).1, (t1 cB).2, ea, eb⟩
     simp only [Z3, lt, cond_true, Zj, hx, bsm, decide_eq_false c1, decide_eq_false c2, cond_false, q, Zu, decide_eq_true c3, Bool.not_true, cj', ap1 h1 (show n ≤ 9000000 by omega) (show 56 ≤ 1000 by omega), decide_eq_true cA,
      decide_eq_true y1, decide_eq_true y2, ap1 r2 (show n + 1 ≤ 9000000 by omega) (show 56 ≤ 1000 by omega), decide_eq_true cB, decide_eq_true y3, decide_eq_true y4, hw]
    ·refine start _ ?_ ⟨g + 1, _, _, _, _, rfl, t2.1, t2.2, ea, eb⟩
     simp only [Z3, lt, cond_true, Zj, hx, bsm, decide_eq_false c1, decide_eq_false c2, cond_false, q, Zu, decide_eq_true c3, Bool.not_true, cj', ap1 h1 (show n ≤ 9000000 by omega) (show 56 ≤ 1000 by omega), decide_eq_true cA,
      decide_eq_true y1, decide_eq_true y2, ap1 r2 (show n + 1 ≤ 9000000 by omega) (show 56 ≤ 1000 by omega), decide_eq_false cB, decide_eq_true y3, decide_eq_true y4, hw]
   ·obtain ⟨r1, r2⟩ := p2
    obtain ⟨t1, t2⟩ := goA _ r2 r1
    by_cases cB : n + 1 + 1 ≤ (row.take n ++ [bkB]).length
    ·refine start _ ?_ ⟨g + 1, _, _, _, _, rfl, (t1 cB).1, (t1 cB).2, ea, eb⟩
     simp only [Z3, lt, cond_true, Zj, hx, bsm, decide_eq_false c1, decide_eq_false c2, cond_false, q, Zu, decide_eq_true c3, Bool.not_true, cj', ap1 h1 (show n ≤ 9000000 by omega) (show 56 ≤ 1000 by omega), decide_eq_false cA,
      decide_eq_true y1, decide_eq_true y2, ap1 r2 (show n + 1 ≤ 9000000 by omega) (show 56 ≤ 1000 by omega), decide_eq_true cB, decide_eq_true y3, decide_eq_true y4, hw]
    ·refine start _ ?_ ⟨g + 1 + 1, _, _, _, _, rfl, t2.1, t2.2, ea, eb⟩
     simp only [Z3, lt, cond_true, Zj, hx, bsm, decide_eq_false c1, decide_eq_false c2, cond_false, q, Zu, decide_eq_true c3, Bool.not_true, cj', ap1 h1 (show n ≤ 9000000 by omega) (show 56 ≤ 1000 by omega), decide_eq_false cA,
      decide_eq_true y1, decide_eq_true y2, ap1 r2 (show n + 1 ≤ 9000000 by omega) (show 56 ≤ 1000 by omega), decide_eq_false cB, decide_eq_true y3, decide_eq_true y4, hw]
  ·have cj' : decide ((j : Int) > 0) = false := decide_eq_false (by omega)
   rw [if_neg cj] at ks sa sb
   rw [List.append_nil] at sa sb
   have y3 : a.size + x.size ≤ 9223372036854775807 := by omega
   have y4 : b.size + x.size ≤ 9223372036854775807 := by omega
   have ea : (a ++ x).data.toList = (tls 10 (l.take (j + 1))).drop 1 := by rw [RA, sa]
   have eb : (b ++ x).data.toList = (tls 32 (l.take (j + 1))).drop 1 := by rw [RA, sb]
   by_cases cA : n + 1 ≤ row.length
   ·refine start _ ?_ ⟨g, _, _, _, _, rfl, (o1 cA).2, by rw [(o1 cA).1, ks], ea, eb⟩
    simp only [Z3, lt, cond_true, Zj, hx, bsm, decide_eq_false c1, decide_eq_false c2, cond_false, q, Zu, decide_eq_true c3, Bool.not_true, cj', ap1 h1 (show n ≤ 9000000 by omega) (show 56 ≤ 1000 by omega), decide_eq_true cA,
     decide_eq_true y3, decide_eq_true y4, hw]
   ·refine start _ ?_ ⟨g + 1, _, _, _, _, rfl, o2.2, by rw [o2.1, ks], ea, eb⟩
    simp only [Z3, lt, cond_true, Zj, hx, bsm, decide_eq_false c1, decide_eq_false c2, cond_false, q, Zu, decide_eq_true c3, Bool.not_true, cj', ap1 h1 (show n ≤ 9000000 by omega) (show 56 ≤ 1000 by omega), decide_eq_false cA,
     decide_eq_true y3, decide_eq_true y4, hw]
theorem B0 {s : ByteArray} (d w : Int) (h : ¬ s.size = 0) : fl d w (txB s) = [(txB s, d, w)] := by
 have hz : (s.size == 0) = false := by simpa using h
 rw [Lh]
 show (bif s.size == 0 then [] else [(txB s, d, w)]) = _
 rw [hz]; rfl
theorem AN (d w : Int) : fl d w bkB = [(bkB, d, w)] := by rw [Lh]; rfl
theorem AO {s : ByteArray} {o : List UInt8} {fr : Bool} : txo s 0 o fr = o ++ s.data.toList := by
 unfold txo
 cases hs : s.size == 0 with
 | true => rw [FA (by simpa using hs)]; simp
 | false => cases fr && s.data.toList.head? != some 10 <;> simp
theorem B1 (wd : Int) : ∀ (l : List ByteArray) (o : List UInt8) (col : Int), (∀ x ∈ l, gd x) → o.length + 101 * l.length ≤ 1048576 → R wd (fls 0 0 (kds l)) o col false = o ++ tls 10 l
 | [], o, col, _, _ => by
  show R wd [] o col false = _
  rw [HZ]; simp [tls]
 | s :: l, o, col, h, hb => by
  obtain ⟨g1, g2, g3⟩ := h s (by simp)
  rw [lcn] at hb
  have e : fls 0 0 (kds (s :: l)) = (bkB, 0, 0) :: (txB s, 0, 0) :: fls 0 0 (kds l) := by
   show fl 0 0 bkB ++ (fl 0 0 (txB s) ++ fls 0 0 (kds l)) = _
   rw [AN, B0 0 0 g2]; rfl
  have hz : (s.size == 0) = false := by simpa using g2
  rw [e, BU (by omega) rfl rfl, R_tx (by simp; omega) rfl]
  have ef : txf (txB s).text true = false := by
   show txf s true = false
   rw [P4 true g3 (by omega), hz]; rfl
  have eo : txo (txB s).text 0 (o ++ [10]) true = o ++ [10] ++ s.data.toList := AO
  rw [ef, eo, B1 wd l _ _ (fun x hx => h x (by simp [hx])) (by simp only [lap, List.length_singleton, ZV]; omega)]
  show _ = o ++ ((10 :: s.data.toList) ++ tls 10 l)
  simp
theorem CT (wd : Int) (l : List ByteArray) (h : ∀ x ∈ l, gd x) (hl : l.length ≤ 200) : R wd (fls 0 0 ((kds l).drop 1)) [] 0 false = (tls 10 l).drop 1 := by
 cases l with
 | nil => show R wd [] [] 0 false = []; rw [HZ]
 | cons s l =>
  obtain ⟨g1, g2, g3⟩ := h s (by simp)
  rw [lcn] at hl
  have e : fls 0 0 ((kds (s :: l)).drop 1) = (txB s, 0, 0) :: fls 0 0 (kds l) := by
   show fl 0 0 (txB s) ++ fls 0 0 (kds l) = _
   rw [B0 0 0 g2]; rfl
  rw [e, R_tx (by simp) rfl]
  have ef : txf (txB s).text false = false := by
   show txf s false = false
   rw [P4 false g3 (by omega), Bool.and_false]
  have eo : txo (txB s).text 0 [] false = s.data.toList := by
   show txo s 0 [] false = _
   rw [KN]; rfl
  rw [ef, eo, B1 wd l _ _ (fun x hx => h x (by simp [hx])) (by rw [ZV]; omega)]
  rfl
theorem EF : ∀ l : List ByteArray, (∀ x ∈ l, gd x) → (∀ x ∈ lvs 1 (kds l), flOk x) ∧ flt (lvs 1 (kds l)) = tls 32 l
 | [], _ => ⟨by simp [kds, lvs], rfl⟩
 | s :: l, h => by
  obtain ⟨g1, g2, g3⟩ := h s (by simp)
  obtain ⟨h1, h2⟩ := EF l (fun x hx => h x (by simp [hx]))
  have hz : (s.size == 0) = false := by simpa using g2
  have e : lvs 1 (kds (s :: l)) = .br 1 1 :: .tx s :: lvs 1 (kds l) := by
   show lv 1 bkB ++ (lv 1 (txB s) ++ lvs 1 (kds l)) = _
   rw [N1, N1]
   show [LF.br 1 1] ++ ((bif s.size == 0 then [] else [LF.tx s]) ++ _) = _
   rw [hz]; rfl
  rw [e]
  refine ⟨fun x hx => ?_, ?_⟩
  ·rcases List.mem_cons.1 hx with rfl | hx
   ·exact ⟨rfl, by omega⟩
   rcases List.mem_cons.1 hx with rfl | hx
   ·exact ⟨g3, by omega⟩
   ·exact h1 x hx
  ·simp only [flt, h2]
   rfl
theorem FG (l : List ByteArray) (h : ∀ x ∈ l, gd x) : (∀ x ∈ lvs 1 ((kds l).drop 1), flOk x) ∧ flt (lvs 1 ((kds l).drop 1)) = (tls 32 l).drop 1 := by
 cases l with
 | nil => exact ⟨by simp [kds, lvs], rfl⟩
 | cons s l =>
  obtain ⟨g1, g2, g3⟩ := h s (by simp)
  obtain ⟨h1, h2⟩ := EF l (fun x hx => h x (by simp [hx]))
  have hz : (s.size == 0) = false := by simpa using g2
  have e : lvs 1 ((kds (s :: l)).drop 1) = .tx s :: lvs 1 (kds l) := by
   show lv 1 (txB s) ++ lvs 1 (kds l) = _
   rw [N1]
   show (bif s.size == 0 then [] else [LF.tx s]) ++ _ = _
   rw [hz]; rfl
  rw [e]
  refine ⟨fun x hx => ?_, ?_⟩
  ·rcases List.mem_cons.1 hx with rfl | hx
   ·exact ⟨g3, by omega⟩
   ·exact h1 x hx
  ·simp only [flt, h2]
   rfl
theorem H4 (N : Nat) : ∀ l : List ByteArray, (∀ x ∈ kds l, ok25 (N + 1) x = true) ∧ cnts (kds l) = 2 * l.length
 | [] => ⟨by simp [kds], rfl⟩
 | s :: l => by
  obtain ⟨h1, h2⟩ := H4 N l
  have leaf : ∀ b : BoxD, b.kids = [] → (∀ A, G25 b A = some A) → ok25 (N + 1) b = true := fun b hb hg => by
   have hc : cnt b = 1 := by rw [Z9, hb]; rfl
   have e := q25g N b (by omega) (by omega)
   rw [hb, hg] at e
   unfold ok25
   rw [e]
   rfl
  constructor
  ·intro x hx
   have hx : x ∈ [bkB, txB s] ++ kds l := hx
   rcases List.mem_append.1 hx with hx | hx
   ·rcases List.mem_cons.1 hx with rfl | hx
    ·exact leaf _ rfl (fun A => by simp [G25, BoxD.kind, BoxD.text, BoxD.n, BoxD.kids])
    ·rw [List.mem_singleton.1 hx]
     exact leaf _ rfl (fun A => by simp [G25, BoxD.kind, BoxD.text, BoxD.n, BoxD.kids])
   ·exact h1 x hx
  ·show cnts ([bkB, txB s] ++ kds l) = _
   rw [Vh, h2]
   simp only [cnts, cnt, lcn]
   omega
theorem EG : ∀ l : List ByteArray, (∀ x ∈ l, gd x) → wts (kds l) ≤ 102 * l.length ∧ Wp (kds l) = false
 | [], _ => ⟨by simp [kds, wts], rfl⟩
 | s :: l, h => by
  obtain ⟨g1, g2, g3⟩ := h s (by simp)
  obtain ⟨h1, h2⟩ := EG l (fun x hx => h x (by simp [hx]))
  have e0 : bE.size = 0 := rfl
  have e1 : Yl bE = false := rfl
  show wts ([bkB, txB s] ++ kds l) ≤ _ ∧ Wp ([bkB, txB s] ++ kds l) = false
  refine ⟨?_, ?_⟩
  ·rw [Le]
   simp only [wts, wt, e0, lcn]
   omega
  ·show (hasL bkB || (hasL (txB s) || Wp (kds l))) = false
   rw [h2, VW, VW]
   show (((1 : Int) == 2 || Yl bE) || false || ((((0 : Int) == 2 || Yl s) || false) || false)) = false
   rw [e1, g3]
   rfl
theorem KR {α : Type} {l : List α} {x : α} {n : Nat} (h : x ∈ l.drop n) : x ∈ l := List.mem_of_mem_drop h
theorem H5 {l : Bqq} (h : ∀ x ∈ l, hasL x = false) : Wp l = false := by
 induction l with
 | nil => rfl
 | cons y l ih => simp only [Wp, h y (by simp), ih (fun x hx => h x (by simp [hx])), Bool.or_self]
theorem H6 (l : Bqq) (n : Nat) : cnts (l.drop n) ≤ cnts l ∧ wts (l.drop n) ≤ wts l := by
 have h1 := Vh (l.take n) (l.drop n)
 have h2 := Le (l.take n) (l.drop n)
 rw [List.take_append_drop] at h1 h2
 omega
theorem FH (l : List ByteArray) (h : ∀ x ∈ l, gd x) (hl : l.length ≤ 200) (m : Int) (hm : ¬ m < 1) :
  F7 5000 (.mk 3 bE 0 ((kds l).drop 1)) m = some (.k0 ⟨((tls 10 l).drop 1).toArray⟩ 0) ∧
  F7 5000 (.mk 4 bE 0 ((kds l).drop 1)) m = some (.k0 ⟨(if ((((tls 32 l).drop 1).length : Nat) : Int) ≤ m then (tls 32 l).drop 1 else (tls 10 l).drop 1).toArray⟩ 0) := by
 obtain ⟨k1, k2⟩ := H4 4998 l
 obtain ⟨k3, k4⟩ := EG l h
 obtain ⟨c1, c2⟩ := H6 (kds l) 1
 have hno : Wp ((kds l).drop 1) = false := H5 (fun x hx => WG k4 (KR hx))
 have hcn : ∀ k : Int, cnt (.mk k bE 0 ((kds l).drop 1)) = 1 + cnts ((kds l).drop 1) := fun k => Z9 _
 have hwt : ∀ k : Int, wt (.mk k bE 0 ((kds l).drop 1)) = 1 + wts ((kds l).drop 1) := fun k => by rw [JX]; rfl
 have hok : ∀ k : Int, k = 3 ∨ k = 4 → ok25 5000 (.mk k bE 0 ((kds l).drop 1)) = true := fun k hk => by
  have hcb := hcn k
  have e := q25g 4999 (.mk k bE 0 ((kds l).drop 1)) (by omega) (by omega)
  have e2 : ∀ A, G25 (.mk k bE 0 ((kds l).drop 1)) A = some A := fun A => by
   rcases hk with rfl | rfl <;> simp [G25, BoxD.kind, BoxD.text, BoxD.n, BoxD.kids]
  have e3 : (BoxD.mk k bE 0 ((kds l).drop 1)).kids = (kds l).drop 1 := rfl
  have e4 : allF (fun _ x => ok25 4999 x) 0 ((kds l).drop 1) = true := CN.2 (fun x hx => k1 x (KR hx))
  rw [e2, e3, e4] at e
  unfold ok25
  rw [e]
  rfl
 have hR := CT m l h hl
 have hlen := Tc 10 l h
 have hlen2 := Tc 32 l h
 obtain ⟨v1, v2⟩ := FG l h
 have hlw : lw (lvs 1 ((kds l).drop 1)) = ((tls 32 l).drop 1).length := by rw [← P2, v2]
 have d1 : ((tls 10 l).drop 1).length ≤ 101 * l.length := by rw [List.length_drop]; omega
 have d2 : ((tls 32 l).drop 1).length ≤ 101 * l.length := by rw [List.length_drop]; omega
 have row1 : laid (.mk 3 bE 0 ((kds l).drop 1)) m 0 = (tls 10 l).drop 1 := by
  unfold laid
  rw [Lh]
  exact hR
 have grp1 : laid (.mk 4 bE 0 ((kds l).drop 1)) m 0 = if ((((tls 32 l).drop 1).length : Nat) : Int) ≤ m then (tls 32 l).drop 1 else (tls 10 l).drop 1 := by
  have hh : hasL (.mk 4 bE 0 ((kds l).drop 1)) = false := by
   rw [VW]
   show (((4 : Int) == 2 || Yl bE) || Wp ((kds l).drop 1)) = false
   rw [hno]; rfl
  have hg : gw m 0 (.mk 4 bE 0 ((kds l).drop 1)) [] 0 = if ((((tls 32 l).drop 1).length : Nat) : Int) ≤ m then 1 else 0 := by
   unfold gw
   rw [hh, List.append_nil]
   have e : (BoxD.mk 4 bE 0 ((kds l).drop 1)).kids = (kds l).drop 1 := rfl
   rw [e, RD _ _ v1, hlw]
   by_cases c : ((((tls 32 l).drop 1).length : Nat) : Int) ≤ m
   ·rw [decide_eq_true (by omega), if_pos c]; rfl
   ·rw [decide_eq_false (by omega), if_neg c]; rfl
  have go : laid (.mk 4 bE 0 ((kds l).drop 1)) m 0 = R m (fls 0 (gw m 0 (.mk 4 bE 0 ((kds l).drop 1)) [] 0) ((kds l).drop 1)) [] 0 false := by
   unfold laid
   have ef : fl 0 0 (.mk 4 bE 0 ((kds l).drop 1)) = [(.mk 4 bE 0 ((kds l).drop 1), 0, 0)] := by rw [Lh]; rfl
   rw [ef, R_gr (by simp) rfl]
   simp only [List.append_nil]
   rfl
  rw [go, hg]
  by_cases c : ((((tls 32 l).drop 1).length : Nat) : Int) ≤ m
  ·rw [if_pos c, if_pos c]
   have ho := (Lj (show cnt (.mk 4 bE 0 ((kds l).drop 1)) ≤ 5000 by rw [hcn]; omega) (by rw [hcn]; omega)).2 (hok 4 (.inr rfl))
   have fA : ∀ x ∈ fls 0 1 ((kds l).drop 1), flA x := H3 _ 0 (fun y hy => ⟨ho.kid hy, WG hno hy, by have := P3 hy; omega⟩)
   obtain ⟨s1, s2⟩ := KK ((kds l).drop 1) 0 1
   rw [KO m _ _ [] 0 (Nat.le_refl _) fA (by rw [s2, hlw]; simp only [List.length_nil]; omega), s2, v2]
   rfl
  ·rw [if_neg c, if_neg c, hR]
 constructor
 ·rw [q7x 5000 _ m (by rw [hcn]; omega) (by rw [hcn]; omega) (by rw [hwt]; omega), hok 3 (.inl rfl), decide_eq_false hm, row1, decide_eq_false (by omega)]
  rfl
 ·rw [q7x 5000 _ m (by rw [hcn]; omega) (by rw [hcn]; omega) (by rw [hwt]; omega), hok 4 (.inr rfl), decide_eq_false hm, grp1, decide_eq_false (by split <;> omega)]
  rfl
theorem EH : ∀ l : List ByteArray, (∀ x ∈ l, gd x) → ¬ l = [] → Ln 100 ((tls 10 l).drop 1)
 | [], _, h => absurd rfl h
 | [s], h, _ => by
  obtain ⟨g1, g2, g3⟩ := h s (by simp)
  have e : (tls 10 [s]).drop 1 = s.data.toList := by simp [tls]
  rw [e]
  exact .one (of_decide_eq_false g3) (by rw [ZV]; exact g1)
 | s :: t :: l, h, _ => by
  obtain ⟨g1, g2, g3⟩ := h s (by simp)
  have h1 := EH (t :: l) (fun x hx => h x (by simp [hx])) (by simp)
  have e : (tls 10 (s :: t :: l)).drop 1 = s.data.toList ++ 10 :: (tls 10 (t :: l)).drop 1 := by simp [tls]
  rw [e]
  exact .cons (of_decide_eq_false g3) (by rw [ZV]; exact g1) h1
theorem law3 (l : List ByteArray) (m : Int) : F103 5000 l m = some true := by
 unfold F103
 by_cases c1 : (l.length : Int) > 200
 ·rw [decide_eq_true c1]; rfl
 rw [decide_eq_false c1, cond_false]
 by_cases c2 : (l.length : Int) < 1
 ·rw [decide_eq_true c2]; rfl
 rw [decide_eq_false c2, cond_false]
 by_cases c3 : m < 1
 ·rw [decide_eq_true c3]; rfl
 rw [decide_eq_false c3, cond_false]
 obtain ⟨e, h1, h2⟩ := l103 l (by omega) l.length 0 0 0 bE bE [] (by omega) (Nat.le_refl _) rfl rfl rfl (by simp)
 have h1 : runL (fun s : Nat × Nat × ByteArray × ByteArray × Int × Bqq => Z3 l s.1 s.2.1 s.2.2.1 s.2.2.2.1 s.2.2.2.2.1 s.2.2.2.2.2) (0, 0, bE, bE, 0, []) = some e := h1
 rw [h1]
 rcases h2 with rfl | ⟨g, n, a, b, row, rfl, m1, m2, m3, m4, m5⟩
 ·rfl
 have hab : ∀ (a : ByteArray) (q : List UInt8), a.data.toList = q → a = ⟨q.toArray⟩ := fun a q h => by subst h; rfl
 have ea := hab a _ m3
 have eb := hab b _ m4
 obtain ⟨f1, f2⟩ := FH l m5 (by omega) m c3
 simp only [bsm, decide_eq_true m1, cond_true, m2]
 rw [f1, f2]
 have hlen := Tc 10 l m5
 obtain ⟨x, w1, w2⟩ := q110 (s := a) (by rw [m3]; exact EH l m5 (fun h => by rw [h] at c2; simp at c2)) (by rw [← ZV, m3, List.length_drop]; omega)
 have w2 : x ≤ 100 := w2
 have hbs : (b.size : Int) = ((((tls 32 l).drop 1).length : Nat) : Int) := by rw [← ZV, m4]
 have w0 : IntKind.wrap .i64 ((0 : Int) + 0) = 0 := rfl
 by_cases c : ((((tls 32 l).drop 1).length : Nat) : Int) ≤ m
 ·rw [if_pos c, hbs, decide_eq_true c]
  simp only [bsm, cond_true, F9, w0, beq_self_eq_true, Zu, decide_eq_true ea.symm, decide_eq_true eb.symm, w1, decide_eq_true w2, F6]
 ·rw [if_neg c, hbs, decide_eq_false c]
  simp only [bsm, cond_true, cond_false, F9, w0, beq_self_eq_true, Zu, decide_eq_true ea.symm, w1, decide_eq_true w2, F6]
end Go.Proofs.Tryd
