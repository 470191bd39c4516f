/- Boxes: how many, how long, what is in them. Plain data alone. -/
import Derived.Test.YtefbhnhekkncpaaH43
import Derived.Test.YtefbhnhekkncpaaVE
open Option renaming bind_some → bsm
open List renaming getElem?_eq_some_iff → gei, eq_nil_of_length_eq_zero → enz, getElem?_eq_getElem → geg, mem_of_getElem? → mog, length_append → lap, length_cons → lcn
namespace Go.Proofs.Try
set_option linter.unusedSimpArgs false
set_option linter.unusedVariables false
open Go Go.Vs
def brl (l : List UInt8) : List UInt8 := l.filter fun c => !(c == 32 || c == 10)
def Wh (s : ByteArray) : Bool := decide ((10 : UInt8) ∈ s.data.toList)
mutual
def cnt : BoxD → Nat
 | .mk _ _ _ l => 1 + cnts l
def cnts : List BoxD → Nat
 | [] => 0
 | b :: l => cnt b + cnts l
end
mutual
def wt : BoxD → Nat
 | .mk _ t _ l => 1 + t.size + wts l
def wts : List BoxD → Nat
 | [] => 0
 | b :: l => wt b + wts l
end
mutual
def hasL : BoxD → Bool
 | .mk k t _ l => (k == 2 || Wh t) || Wy l
def Wy : List BoxD → Bool
 | [] => false
 | b :: l => hasL b || Wy l
end
mutual
def szs : BoxD → List Int
 | .mk _ _ _ l => ((1 + cnts l : Nat) : Int) :: szss l
def szss : List BoxD → List Int
 | [] => []
 | b :: l => szs b ++ szss l
end
mutual
def lns : BoxD → List Bool
 | .mk k t _ l => ((k == 2 || Wh t) || Wy l) :: lnss l
def lnss : List BoxD → List Bool
 | [] => []
 | b :: l => lns b ++ lnss l
end
theorem Z1 : ∀ b : BoxD, cnt b = 1 + cnts b.kids
 | .mk _ _ _ _ => by simp only [cnt, BoxD.kids]
theorem IN : ∀ b : BoxD, wt b = 1 + b.text.size + wts b.kids
 | .mk _ _ _ _ => by simp only [wt, BoxD.kids, BoxD.text]
theorem MC : ∀ b : BoxD, hasL b = ((b.kind == 2 || Wh b.text) || Wy b.kids)
 | .mk _ _ _ _ => by simp only [hasL, BoxD.kids, BoxD.text, BoxD.kind]
theorem Nn : ∀ b : BoxD, szs b = (cnt b : Int) :: szss b.kids
 | .mk _ _ _ _ => by simp only [szs, cnt, BoxD.kids]
theorem QM : ∀ b : BoxD, lns b = hasL b :: lnss b.kids
 | .mk _ _ _ _ => by simp only [lns, hasL, BoxD.kids]
theorem Z8 {b : BoxD} : ∀ {l : List BoxD}, b ∈ l → cnt b ≤ cnts l
 | [], h => by simp at h
 | u :: l, h => by
  simp only [cnts]
  rcases List.mem_cons.1 h with rfl | h
  ·omega
  ·have := Z8 h; omega
theorem W8 : ∀ (a b : List BoxD), cnts (a ++ b) = cnts a + cnts b
 | [], b => by simp [cnts]
 | t :: a, b => by simp only [List.cons_append, cnts, W8 a b]; omega
theorem ZZ (b : BoxD) : 1 ≤ cnt b := by rw [Z1]; omega
theorem YM : ∀ (l : List BoxD), l.length ≤ cnts l
 | [] => by simp
 | t :: a => by have := YM a; have := ZZ t; simp only [lcn, cnts]; omega
theorem MD : ∀ (a b : List BoxD), wts (a ++ b) = wts a + wts b
 | [], b => by simp [wts]
 | t :: a, b => by simp only [List.cons_append, wts, MD a b]; omega
theorem Np : ∀ (N : Nat) (b : BoxD), cnt b ≤ N → cnt b ≤ wt b
 | 0, b, h => by have := ZZ b; omega
 | N + 1, b, h => by
  have key : ∀ l : List BoxD, (∀ x ∈ l, cnt x ≤ N) → cnts l ≤ wts l := by
   intro l
   induction l with
   | nil => intro _; simp [cnts]
   | cons x l ih =>
    intro hl
    have h1 := Np N x (hl x (by simp))
    have h2 := ih (fun y hy => hl y (by simp [hy]))
    simp only [cnts, wts]
    omega
  have h1 := key b.kids (fun x hx => by have := Z8 hx; have := Z1 b; omega)
  rw [Z1, IN]
  omega
theorem Ug : ∀ (N : Nat) (l : List BoxD), cnts l ≤ N → (szss l).length = cnts l ∧ (lnss l).length = cnts l
 | N, [], h => by simp [szss, lnss, cnts]
 | 0, b :: l, h => by have := ZZ b; simp only [cnts] at h; omega
 | N + 1, b :: l, h => by
  simp only [cnts] at h
  have hb := ZZ b
  have h1 := Ug N l (by omega)
  have h2 := Ug N b.kids (by have := Z1 b; omega)
  simp only [szss, lnss, cnts, Nn, QM, lap, lcn, h1.1, h1.2, h2.1, h2.2]
  have := Z1 b
  omega
theorem PC (b : BoxD) : (szs b).length = cnt b ∧ (lns b).length = cnt b := by
 have := Ug (cnts b.kids) b.kids (Nat.le_refl _)
 rw [Nn, QM, lcn, lcn, this.1, this.2, Z1]
 omega
inductive Ok : BoxD → Prop
 | mk {k n : Int} {t : ByteArray} {l : List BoxD} (h1 : k = 0 ∨ t.size = 0) (h2 : k < 3 → l = []) (h3 : 0 ≤ n ∧ n ≤ 100) (h4 : 0 ≤ k ∧ k ≤ 5) (h5 : ∀ x ∈ l, Ok x) : Ok (.mk k t n l)
theorem Ok.txt {b : BoxD} (h : Ok b) : b.kind = 0 ∨ b.text.size = 0 := by cases h with | mk h1 h2 h3 h4 h5 => exact h1
theorem Ok.few {b : BoxD} (h : Ok b) : b.kind < 3 → b.kids = [] := by cases h with | mk h1 h2 h3 h4 h5 => exact h2
theorem Ok.nn {b : BoxD} (h : Ok b) : 0 ≤ b.n ∧ b.n ≤ 100 := by cases h with | mk h1 h2 h3 h4 h5 => exact h3
theorem Ok.kd {b : BoxD} (h : Ok b) : 0 ≤ b.kind ∧ b.kind ≤ 5 := by cases h with | mk h1 h2 h3 h4 h5 => exact h4
theorem Ok.kid {b x : BoxD} (h : Ok b) (hx : x ∈ b.kids) : Ok x := by cases h with | mk h1 h2 h3 h4 h5 => exact h5 x hx
theorem Ok.of : ∀ {b : BoxD}, (b.kind = 0 ∨ b.text.size = 0) → (b.kind < 3 → b.kids = []) → (0 ≤ b.n ∧ b.n ≤ 100) → (0 ≤ b.kind ∧ b.kind ≤ 5) → (∀ x ∈ b.kids, Ok x) → Ok b
 | .mk _ _ _ _, h1, h2, h3, h4, h5 => .mk h1 h2 h3 h4 h5
theorem U1 (a : ByteArray) : a.data.toList.length = a.size := by rw [Array.length_toList]; rfl
theorem Bg {a : ByteArray} (h : a.size = 0) : a.data.toList = [] := enz (by rw [U1]; exact h)
theorem QN {α : Type} {l y : List α} {n : Nat} (h : n + y.length ≤ l.length) : (splice l n y).take (n + y.length) = l.take n ++ y ∧ (splice l n y).length = l.length := by
 unfold splice
 refine ⟨?_, by simp; omega⟩
 have : (l.take n ++ y).length = n + y.length := by simp; omega
 rw [← this, List.take_left]
theorem put1 {α : Type} {row : List α} {len : Nat} (e : α) (hl : len ≤ row.length) :
  (len + 1 ≤ row.length → (splice row len [e]).take (len + 1) = row.take len ++ [e] ∧ len + 1 ≤ (splice row len [e]).length) ∧
  ((row.take len ++ [e]).take (len + 1) = row.take len ++ [e] ∧ len + 1 ≤ (row.take len ++ [e]).length) := by
 refine ⟨fun h => ?_, ?_, ?_⟩
 ·obtain ⟨h1, h2⟩ := QN (l := row) (y := [e]) (n := len) h
  exact ⟨h1, by rw [h2]; exact h⟩
 ·exact List.take_of_length_le (by simp; omega)
 ·simp; omega
theorem ap1 {len n b : Nat} (h : len ≤ n) (hb : len ≤ 5000000) (hk : b ≤ 1000) : apOk len 1 n b = true := by
 refine decide_eq_true ⟨h, ?_, by unfold Zm; omega⟩
 have := Nat.mul_le_mul (show len + 1 ≤ 5000001 by omega) hk
 unfold Zm
 omega
theorem Uh {α : Type} {row pre post : List α} {x y : α} {n : Nat} (h : row.take n = pre ++ x :: post) (hn : pre.length + 1 ≤ n) : (row.set pre.length y).take n = pre ++ y :: post := by
 rw [List.take_set, h, List.set_append_right _ _ (Nat.le_refl _), Nat.sub_self]
 rfl
theorem PD {α : Type} {row pre post : List α} {x : α} {n : Nat} (h : row.take n = pre ++ x :: post) (hn : pre.length < n) : row[pre.length]? = some x := by
 have : (row.take n)[pre.length]? = some x := by rw [h, List.getElem?_append_right (Nat.le_refl _)]; simp
 rw [List.getElem?_take, if_pos hn] at this
 exact this
theorem l30 {N : Nat} {b : BoxD} {a2 : BoxD} {a3 : Nat} {a4 : List Int} (ih : ∀ x ∈ b.kids, ∀ (gen : Nat) (row : List Int) (len : Nat), len ≤ row.length → len + cnt x ≤ 4000000 →
   ∃ g' row', Ry N x a2 a3 a4 gen row len = some (.k0 g' row' (len + cnt x)) ∧ row'.take (len + cnt x) = row.take len ++ szs x ∧ len + cnt x ≤ row'.length) (hb : b.kids.length ≤ 4000000) :
  ∀ (k j gen : Nat) (row : List Int) (len : Nat), j + k = b.kids.length → len ≤ row.length → len + cnts (b.kids.drop j) ≤ 4000000 →
   ∃ g' row', runL (fun s => XH (Ry N) b (b.kids.length : Int) a2 a3 a4 s.1 s.2.1 s.2.2.1 s.2.2.2) ((j : Int), gen, row, len) = some (.k0 g' row' (len + cnts (b.kids.drop j))) ∧ row'.take (len + cnts (b.kids.drop j)) = row.take len ++ szss (b.kids.drop j) ∧ len + cnts (b.kids.drop j) ≤ row'.length
 | 0, j, gen, row, len, hj, hl, hc => by
  obtain rfl : j = b.kids.length := by omega
  rw [List.drop_length]
  refine ⟨gen, row, ZA ?_, by simp [cnts, szss], by simp [cnts]; exact hl⟩
  simp only [XH, decide_eq_false (show ¬ (b.kids.length : Int) < (b.kids.length : Int) by omega), cond_false, cnts, Nat.add_zero]
 | k + 1, j, gen, row, len, hj, hl, hc => by
  have hx : b.kids[j]? = some (b.kids[j]'(by omega)) := geg _
  have hd : b.kids.drop j = b.kids[j]'(by omega) :: b.kids.drop (j + 1) := List.drop_eq_getElem_cons (by omega)
  generalize b.kids[j]'(by omega) = x at hx hd
  rw [hd] at hc ⊢
  simp only [cnts] at hc ⊢
  obtain ⟨g1, row1, h1, h2, h3⟩ := ih x (mog hx) gen row len hl (by omega)
  obtain ⟨g2, row2, k1, k2, k3⟩ := l30 ih hb k (j + 1) g1 row1 (len + cnt x) (by omega) h3 (by omega)
  refine ⟨g2, row2, ?_, ?_, by omega⟩
  ·rw [ZX (s' := (((j + 1 : Nat) : Int), g1, row1, len + cnt x)) (by
    simp only [XH, decide_eq_true (show (j : Int) < (b.kids.length : Int) by omega), cond_true, Zt, hx, bsm, h1, w_S (show j < 4611686018427387904 by omega)])]
   rw [k1, Nat.add_assoc]
  ·rw [← Nat.add_assoc, k2, h2]
   simp only [szss, List.append_assoc]
theorem q30 (a2 : BoxD) (a3 : Nat) (a4 : List Int) : ∀ (N : Nat) (b : BoxD) (gen : Nat) (row : List Int) (len : Nat), cnt b ≤ N → len ≤ row.length → len + cnt b ≤ 4000000 →
  ∃ g' row', Ry N b a2 a3 a4 gen row len = some (.k0 g' row' (len + cnt b)) ∧ row'.take (len + cnt b) = row.take len ++ szs b ∧ len + cnt b ≤ row'.length
 | 0, b, _, _, _, h, _, _ => by have := ZZ b; omega
 | N + 1, b, gen, row, len, h, hl, hc => by
  show ∃ g' row', Uw (Ry N) b a2 a3 a4 gen row len = _ ∧ _
  have hcb := Z1 b
  have hkl := YM b.kids
  obtain ⟨p1, p2⟩ := put1 (row := row) (0 : Int) hl
  have ih : ∀ x ∈ b.kids, ∀ (gen : Nat) (row : List Int) (len : Nat), len ≤ row.length → len + cnt x ≤ 4000000 →
    ∃ g' row', Ry N x a2 a3 a4 gen row len = some (.k0 g' row' (len + cnt x)) ∧ row'.take (len + cnt x) = row.take len ++ szs x ∧ len + cnt x ≤ row'.length :=
   fun x hx gen row len h1 h2 => q30 a2 a3 a4 N x gen row len (by have := Z8 hx; omega) h1 h2
  have go : ∀ (g1 : Nat) (row1 : List Int), row1.take (len + 1) = row.take len ++ [0] → len + 1 ≤ row1.length →
    ∃ g2 row2 row', runL (fun s => XH (Ry N) b (b.kids.length : Int) a2 a3 a4 s.1 s.2.1 s.2.2.1 s.2.2.2) (0, g1, row1, len + 1) = some (.k0 g2 row2 (len + cnt b)) ∧ ixN (len + cnt b) ((len : Nat) : Int) = some len ∧ (∃ z, row2[len]? = some z) ∧
     row' = row2.set len (cnt b : Int) ∧ IntKind.wrap .i64 (((len + cnt b : Nat) : Int) - ((len : Nat) : Int)) = (cnt b : Int) ∧ row'.take (len + cnt b) = row.take len ++ szs b ∧ len + cnt b ≤ row'.length := by
   intro g1 row1 h1 h2
   have e0 : ((0 : Nat) : Int) = 0 := rfl
   obtain ⟨g2, row2, k1, k2, k3⟩ := l30 ih (by omega) b.kids.length 0 g1 row1 (len + 1) (by omega) h2 (by rw [List.drop_zero]; omega)
   rw [List.drop_zero] at k1 k2 k3
   rw [e0, show len + 1 + cnts b.kids = len + cnt b by omega] at k1
   rw [show len + 1 + cnts b.kids = len + cnt b by omega] at k2 k3
   rw [h1, List.append_assoc] at k2
   have hpl : (row.take len).length = len := by rw [List.length_take]; omega
   have k2' : row2.take (len + cnt b) = row.take len ++ 0 :: szss b.kids := k2
   have h3 := PD k2' (by omega)
   rw [hpl] at h3
   have h4 := Uh (y := (cnt b : Int)) k2' (by omega)
   rw [hpl] at h4
   refine ⟨g2, row2, _, k1, by rw [Ur, if_pos (by omega)], ⟨_, h3⟩, rfl, by rw [w_id (by omega)]; omega, ?_, by rw [List.length_set]; exact k3⟩
   rw [h4, Nn]
  by_cases hc1 : len + 1 ≤ row.length
  ·obtain ⟨g2, row2, row', m1, m2, ⟨z, m3⟩, m4, m5, m6, m7⟩ := go gen (splice row len [0]) (p1 hc1).1 (p1 hc1).2
   refine ⟨g2, row', ?_, m6, m7⟩
   unfold Uw
   rw [ap1 hl (by omega) (by omega), decide_eq_true hc1]
   simp only [cond_true, m1, bsm, m2, m3, m5, m4]
  ·obtain ⟨g2, row2, row', m1, m2, ⟨z, m3⟩, m4, m5, m6, m7⟩ := go (gen + 1) (row.take len ++ [0]) p2.1 p2.2
   refine ⟨g2, row', ?_, m6, m7⟩
   unfold Uw
   rw [ap1 hl (by omega) (by omega), decide_eq_false hc1]
   simp only [cond_true, cond_false, m1, bsm, m2, m3, m5, m4]
theorem q26 (N : Nat) (b : BoxD) (h : cnt b ≤ N) (hc : cnt b ≤ 4000) : F26 N b = some (szs b) := by
 obtain ⟨g', row', h1, h2, h3⟩ := q30 b 0 [] N b 0 [] 0 h (Nat.le_refl _) (by omega)
 rw [Nat.zero_add] at h1 h2 h3
 unfold F26
 rw [h1]
 simp only [bsm, decide_eq_true h3, cond_true, h2, List.take_nil, List.nil_append]
theorem PE (c : UInt8) : ∀ l : List UInt8, (Go.Lib.indexByte l c = -1 ∧ c ∉ l) ∨ ∃ p r, l = p ++ c :: r ∧ c ∉ p ∧ Go.Lib.indexByte l c = (p.length : Int)
 | [] => .inl ⟨rfl, by simp⟩
 | b :: l => by
  unfold Go.Lib.indexByte
  by_cases hb : b = c
  ·subst hb
   exact .inr ⟨[], l, rfl, by simp, by simp⟩
  ·have hb' : (b == c) = false := by simpa using hb
   rw [hb']
   rcases PE c l with ⟨h1, h2⟩ | ⟨p, r, h1, h2, h3⟩
   ·rw [h1]
    refine .inl ⟨rfl, ?_⟩
    simp only [List.mem_cons, not_or]
    exact ⟨fun h => hb h.symm, h2⟩
   ·rw [h3]
    refine .inr ⟨b :: p, r, by rw [h1]; rfl, ?_, ?_⟩
    ·simp only [List.mem_cons, not_or]
     exact ⟨fun h => hb h.symm, h2⟩
    ·have : ((p.length : Int) == -1) = false := by simp
     simp only [this, Bool.false_eq_true, if_false, lcn]
     omega
theorem q29 (b : BoxD) : F29 b = some (Wh b.text) := by
 have g0 : getI (⟨([10] : List UInt8).toArray⟩ : ByteArray).data.toList 0 = some (10 : UInt8) := rfl
 have e1 : (Int.toNat (((10 : UInt8).toNat : Nat) : Int)).toUInt8 = 10 := by decide
 unfold F29 F39 F48
 by_cases he : (⟨([10] : List UInt8).toArray⟩ : ByteArray) = b.text
 ·rw [Yw, decide_eq_true he]
  have : Wh b.text = true := by rw [← he]; decide
  rw [this]
  rfl
 ·rw [Yw, decide_eq_false he]
  simp only [cond_false, g0, bsm, F56, e1, Go.Lib.firstIdx_eq]
  unfold Wh
  rcases PE 10 b.text.data.toList with ⟨h1, h2⟩ | ⟨p, r, h1, h2, h3⟩
  ·rw [h1, decide_eq_false h2]; rfl
  ·rw [h3, decide_eq_true (show (p.length : Int) ≥ 0 by omega), decide_eq_true (by rw [h1]; simp)]
theorem K3 {x : BoxD} {l : List BoxD} : Wy (x :: l) = (hasL x || Wy l) := by simp only [Wy]
theorem Dp {N : Nat} {b : BoxD} {a2 : BoxD} {a3 : Nat} {a4 : List Bool} (ih : ∀ x ∈ b.kids, ∀ (gen : Nat) (row : List Bool) (len : Nat), len ≤ row.length → len + cnt x ≤ 4000000 →
   ∃ g' row', SC N x a2 a3 a4 gen row len = some (.k0 (hasL x) g' row' (len + cnt x)) ∧ row'.take (len + cnt x) = row.take len ++ lns x ∧ len + cnt x ≤ row'.length) (hb : b.kids.length ≤ 4000000) :
  ∀ (k j gen : Nat) (row : List Bool) (len : Nat), j + k = b.kids.length → len ≤ row.length → len + cnts (b.kids.drop j) ≤ 4000000 →
   ∃ g' row', runL (fun s => Wd (SC N) b (b.kids.length : Int) a2 a3 a4 s.1 s.2.1 s.2.2.1 s.2.2.2) ((j : Int), gen, row, len) = some (.k0 g' row' (len + cnts (b.kids.drop j))) ∧ row'.take (len + cnts (b.kids.drop j)) = row.take len ++ lnss (b.kids.drop j) ∧ len + cnts (b.kids.drop j) ≤ row'.length
 | 0, j, gen, row, len, hj, hl, hc => by
  obtain rfl : j = b.kids.length := by omega
  rw [List.drop_length]
  refine ⟨gen, row, ZA ?_, by simp [cnts, lnss], by simp [cnts]; exact hl⟩
  simp only [Wd, decide_eq_false (show ¬ (b.kids.length : Int) < (b.kids.length : Int) by omega), cond_false, cnts, Nat.add_zero]
 | k + 1, j, gen, row, len, hj, hl, hc => by
  have hx : b.kids[j]? = some (b.kids[j]'(by omega)) := geg _
  have hd : b.kids.drop j = b.kids[j]'(by omega) :: b.kids.drop (j + 1) := List.drop_eq_getElem_cons (by omega)
  generalize b.kids[j]'(by omega) = x at hx hd
  rw [hd] at hc ⊢
  simp only [cnts] at hc ⊢
  obtain ⟨g1, row1, h1, h2, h3⟩ := ih x (mog hx) gen row len hl (by omega)
  obtain ⟨g2, row2, k1, k2, k3⟩ := Dp ih hb k (j + 1) g1 row1 (len + cnt x) (by omega) h3 (by omega)
  refine ⟨g2, row2, ?_, ?_, by omega⟩
  ·rw [ZX (s' := (((j + 1 : Nat) : Int), g1, row1, len + cnt x)) (by
    simp only [Wd, decide_eq_true (show (j : Int) < (b.kids.length : Int) by omega), cond_true, Zt, hx, bsm, h1, w_S (show j < 4611686018427387904 by omega)]
    cases hasL x <;> rfl)]
   rw [k1, Nat.add_assoc]
  ·rw [← Nat.add_assoc, k2, h2]
   simp only [lnss, List.append_assoc]
theorem Dq {N : Nat} {b : BoxD} {a2 : BoxD} {a3 : Nat} {a4 : List Bool} (ih : ∀ x ∈ b.kids, ∀ (gen : Nat) (row : List Bool) (len : Nat), len ≤ row.length → len + cnt x ≤ 4000000 →
   ∃ g' row', SC N x a2 a3 a4 gen row len = some (.k0 (hasL x) g' row' (len + cnt x)) ∧ row'.take (len + cnt x) = row.take len ++ lns x ∧ len + cnt x ≤ row'.length) (hb : b.kids.length ≤ 4000000) :
  ∀ (k j gen : Nat) (row : List Bool) (len : Nat) (v : Bool), j + k = b.kids.length → len ≤ row.length → len + cnts (b.kids.drop j) ≤ 4000000 →
   ∃ g' row', runL (fun s => We (SC N) b (b.kids.length : Int) a2 a3 a4 s.1 s.2.1 s.2.2.1 s.2.2.2.1 s.2.2.2.2) (v, (j : Int), gen, row, len) = some (.k0 (v || Wy (b.kids.drop j)) g' row' (len + cnts (b.kids.drop j))) ∧ row'.take (len + cnts (b.kids.drop j)) = row.take len ++ lnss (b.kids.drop j) ∧ len + cnts (b.kids.drop j) ≤ row'.length
 | 0, j, gen, row, len, v, hj, hl, hc => by
  obtain rfl : j = b.kids.length := by omega
  rw [List.drop_length]
  refine ⟨gen, row, ZA ?_, by simp [cnts, lnss], by simp [cnts]; exact hl⟩
  simp only [We, decide_eq_false (show ¬ (b.kids.length : Int) < (b.kids.length : Int) by omega), cond_false, cnts, Nat.add_zero, Wy, Bool.or_false]
 | k + 1, j, gen, row, len, v, hj, hl, hc => by
  have hx : b.kids[j]? = some (b.kids[j]'(by omega)) := geg _
  have hd : b.kids.drop j = b.kids[j]'(by omega) :: b.kids.drop (j + 1) := List.drop_eq_getElem_cons (by omega)
  generalize b.kids[j]'(by omega) = x at hx hd
  rw [hd] at hc ⊢
  simp only [cnts] at hc ⊢
  obtain ⟨g1, row1, h1, h2, h3⟩ := ih x (mog hx) gen row len hl (by omega)
  obtain ⟨g2, row2, k1, k2, k3⟩ := Dq ih hb k (j + 1) g1 row1 (len + cnt x) (v || hasL x) (by omega) h3 (by omega)
  refine ⟨g2, row2, ?_, ?_, by omega⟩
  ·rw [ZX (s' := ((v || hasL x), ((j + 1 : Nat) : Int), g1, row1, len + cnt x)) (by
    simp only [We, decide_eq_true (show (j : Int) < (b.kids.length : Int) by omega), cond_true, Zt, hx, bsm, h1, w_S (show j < 4611686018427387904 by omega)]
    cases hasL x <;> cases v <;> rfl)]
   rw [k1, Nat.add_assoc, K3, Bool.or_assoc]
  ·rw [← Nat.add_assoc, k2, h2]
   simp only [lnss, List.append_assoc]
theorem q28 (a2 : BoxD) (a3 : Nat) (a4 : List Bool) : ∀ (N : Nat) (b : BoxD) (gen : Nat) (row : List Bool) (len : Nat), cnt b ≤ N → len ≤ row.length → len + cnt b ≤ 4000000 →
  ∃ g' row', SC N b a2 a3 a4 gen row len = some (.k0 (hasL b) g' row' (len + cnt b)) ∧ row'.take (len + cnt b) = row.take len ++ lns b ∧ len + cnt b ≤ row'.length
 | 0, b, _, _, _, h, _, _ => by have := ZZ b; omega
 | N + 1, b, gen, row, len, h, hl, hc => by
  show ∃ g' row', Wx (SC N) b a2 a3 a4 gen row len = _ ∧ _
  have hcb := Z1 b
  have hkl := YM b.kids
  have e0 : ((0 : Nat) : Int) = 0 := rfl
  have hpl : (row.take len).length = len := by rw [List.length_take]; omega
  have ih : ∀ x ∈ b.kids, ∀ (gen : Nat) (row : List Bool) (len : Nat), len ≤ row.length → len + cnt x ≤ 4000000 →
    ∃ g' row', SC N x a2 a3 a4 gen row len = some (.k0 (hasL x) g' row' (len + cnt x)) ∧ row'.take (len + cnt x) = row.take len ++ lns x ∧ len + cnt x ≤ row'.length :=
   fun x hx gen row len h1 h2 => q28 a2 a3 a4 N x gen row len (by have := Z8 hx; omega) h1 h2
  have fin : ∀ (row1 row2 : List Bool) (v : Bool), row1.take (len + 1) = row.take len ++ [v] → row2.take (len + 1 + cnts b.kids) = row1.take (len + 1) ++ lnss b.kids → len + 1 + cnts b.kids ≤ row2.length →
    ixN (len + cnt b) ((len : Nat) : Int) = some len ∧ (∃ z, row2[len]? = some z) ∧ (row2.set len (hasL b)).take (len + cnt b) = row.take len ++ lns b ∧ len + cnt b ≤ (row2.set len (hasL b)).length := by
   intro row1 row2 v h1 k2 k3
   rw [show len + 1 + cnts b.kids = len + cnt b by omega] at k2 k3
   rw [h1, List.append_assoc] at k2
   have k2' : row2.take (len + cnt b) = row.take len ++ v :: lnss b.kids := k2
   have h3 := PD k2' (by omega)
   rw [hpl] at h3
   have h4 := Uh (y := hasL b) k2' (by omega)
   rw [hpl] at h4
   refine ⟨by rw [Ur, if_pos (by omega)], ⟨_, h3⟩, by rw [h4, QM], by rw [List.length_set]; exact k3⟩
  have hlc : len + 1 + cnts b.kids = len + cnt b := by omega
  by_cases hk : b.kind = 2
  ·have hkt : (b.kind == 2) = true := by rw [hk]; rfl
   have hh : hasL b = true := by rw [MC, hkt]; rfl
   obtain ⟨p1, p2⟩ := put1 (row := row) true hl
   by_cases hc1 : len + 1 ≤ row.length
   ·obtain ⟨g2, row2, k1, k2, k3⟩ := Dp ih (by omega) b.kids.length 0 gen (splice row len [true]) (len + 1) (by omega) (p1 hc1).2 (by rw [List.drop_zero]; omega)
    rw [List.drop_zero] at k1 k2 k3
    obtain ⟨m1, ⟨z, m2⟩, m3, m4⟩ := fin _ row2 true (p1 hc1).1 k2 k3
    rw [e0, hlc] at k1
    refine ⟨g2, row2.set len (hasL b), ?_, m3, m4⟩
    unfold Wx
    rw [hkt, ap1 hl (by omega) (by omega), decide_eq_true hc1]
    simp only [cond_true, k1, bsm, m1, m2, hh]
   ·obtain ⟨g2, row2, k1, k2, k3⟩ := Dp ih (by omega) b.kids.length 0 (gen + 1) (row.take len ++ [true]) (len + 1) (by omega) p2.2 (by rw [List.drop_zero]; omega)
    rw [List.drop_zero] at k1 k2 k3
    obtain ⟨m1, ⟨z, m2⟩, m3, m4⟩ := fin _ row2 true p2.1 k2 k3
    rw [e0, hlc] at k1
    refine ⟨g2, row2.set len (hasL b), ?_, m3, m4⟩
    unfold Wx
    rw [hkt, ap1 hl (by omega) (by omega), decide_eq_false hc1]
    simp only [cond_true, cond_false, k1, bsm, m1, m2, hh]
  ·have hkf : (b.kind == 2) = false := by simpa using hk
   have hh : hasL b = (Wh b.text || Wy b.kids) := by rw [MC, hkf, Bool.false_or]
   obtain ⟨p1, p2⟩ := put1 (row := row) (Wh b.text) hl
   by_cases hc1 : len + 1 ≤ row.length
   ·obtain ⟨g2, row2, k1, k2, k3⟩ := Dq ih (by omega) b.kids.length 0 gen (splice row len [Wh b.text]) (len + 1) (Wh b.text) (by omega) (p1 hc1).2 (by rw [List.drop_zero]; omega)
    rw [List.drop_zero] at k1 k2 k3
    obtain ⟨m1, ⟨z, m2⟩, m3, m4⟩ := fin _ row2 _ (p1 hc1).1 k2 k3
    rw [e0, hlc, ← hh] at k1
    refine ⟨g2, row2.set len (hasL b), ?_, m3, m4⟩
    unfold Wx
    rw [hkf, ap1 hl (by omega) (by omega), decide_eq_true hc1, q29]
    simp only [cond_true, cond_false, bsm, k1, m1, m2]
   ·obtain ⟨g2, row2, k1, k2, k3⟩ := Dq ih (by omega) b.kids.length 0 (gen + 1) (row.take len ++ [Wh b.text]) (len + 1) (Wh b.text) (by omega) p2.2 (by rw [List.drop_zero]; omega)
    rw [List.drop_zero] at k1 k2 k3
    obtain ⟨m1, ⟨z, m2⟩, m3, m4⟩ := fin _ row2 _ p2.1 k2 k3
    rw [e0, hlc, ← hh] at k1
    refine ⟨g2, row2.set len (hasL b), ?_, m3, m4⟩
    unfold Wx
    rw [hkf, ap1 hl (by omega) (by omega), decide_eq_false hc1, q29]
    simp only [cond_true, cond_false, bsm, k1, m1, m2]
theorem q18 (N : Nat) (b : BoxD) (h : cnt b ≤ N) (hc : cnt b ≤ 4000) : F18 N b = some (lns b) := by
 obtain ⟨g', row', h1, h2, h3⟩ := q28 b 0 [] N b 0 [] 0 h (Nat.le_refl _) (by omega)
 rw [Nat.zero_add] at h1 h2 h3
 unfold F18
 rw [h1]
 simp only [bsm, decide_eq_true h3, cond_true, h2, List.take_nil, List.nil_append]
inductive Bd : BoxD → Prop
 | mk {k n : Int} {t : ByteArray} {l : List BoxD} (h1 : t.size ≤ 140737488355328) (h5 : ∀ x ∈ l, Bd x) : Bd (.mk k t n l)
theorem Bd.txt {b : BoxD} (h : Bd b) : b.text.size ≤ 140737488355328 := by cases h with | mk h1 h5 => exact h1
theorem Bd.kid {b x : BoxD} (h : Bd b) (hx : x ∈ b.kids) : Bd x := by cases h with | mk h1 h5 => exact h5 x hx
theorem Gu {l : List BoxD} {j : Nat} {x : BoxD} (h : l[j]? = some x) : wts (l.take (j + 1)) = wts (l.take j) + wt x := by
 have hj := (gei.1 h)
 obtain ⟨h1, h2⟩ := hj
 rw [List.take_succ_eq_append_getElem h1, MD, h2]
 simp [wts]
theorem Nq {l : List BoxD} {j : Nat} {x : BoxD} (h : l[j]? = some x) : cnts (l.take (j + 1)) = cnts (l.take j) + cnt x := by
 have hj := (gei.1 h)
 obtain ⟨h1, h2⟩ := hj
 rw [List.take_succ_eq_append_getElem h1, W8, h2]
 simp [cnts]
theorem q12 : ∀ (N : Nat) (b : BoxD) (left : Int), Bd b → 0 ≤ left ∧ left ≤ 3000 → left < (N : Int) → ∃ v, N8 N b left = some v ∧ 1 ≤ v ∧ v ≤ left + 140737488355329 ∧ (v ≤ left → v = (wt b : Int))
 | 0, b, left, _, h1, h2 => by omega
 | N + 1, b, left, hB, h1, h2 => by
  show ∃ v, Sj (N8 N) b left = some v ∧ _
  have ht := hB.txt
  have key : ∀ (k j : Nat) (v : Int), j + k = b.kids.length → (j : Int) + 1 ≤ v → v ≤ left + 140737488355329 → (v ≤ left → v = ((1 + b.text.size + wts (b.kids.take j) : Nat) : Int)) →
    ∃ v', runL (fun s => Wa (N8 N) left b s.1 s.2) (v, (j : Int)) = some (.k0 v') ∧ 1 ≤ v' ∧ v' ≤ left + 140737488355329 ∧ (v' ≤ left → v' = (wt b : Int)) := by
   intro k
   induction k with
   | zero =>
    intro j v hj hv1 hv2 he
    obtain rfl : j = b.kids.length := by omega
    rw [List.take_length] at he
    exact ⟨v, ZA (by simp [Wa]), by omega, hv2, fun h => by rw [he h, IN]⟩
   | succ k ih =>
    intro j v hj hv1 hv2 he
    have hx : b.kids[j]? = some (b.kids[j]'(by omega)) := geg _
    generalize b.kids[j]'(by omega) = x at hx
    have hlt : decide ((j : Int) < (b.kids.length : Int)) = true := decide_eq_true (by omega)
    by_cases hle : v ≤ left
    ·have hlw : IntKind.wrap .i64 (left - v) = left - v := w_id (by omega)
     obtain ⟨u, u1, u2, u3, u4⟩ := q12 N x (left - v) (hB.kid (mog hx)) (by omega) (by omega)
     have hvw : IntKind.wrap .i64 (v + u) = v + u := w_id (by omega)
     obtain ⟨v', k1, k2, k3, k4⟩ := ih (j + 1) (v + u) (by omega) (by omega) (by omega) (fun h => by
      rw [Gu hx, he hle, u4 (by omega)]; omega)
     refine ⟨v', ?_, k2, k3, k4⟩
     rw [ZX (s' := (v + u, ((j + 1 : Nat) : Int))) (by
      simp only [Wa, hlt, cond_true, decide_eq_true hle, Zt, hx, bsm, hlw, u1, hvw, w_S (show j < 4611686018427387904 by omega)])]
     exact k1
    ·exact ⟨v, ZA (by simp only [Wa, hlt, cond_true, decide_eq_false hle, cond_false]), by omega, hv2, fun h => absurd h hle⟩
  have hw : IntKind.wrap .i64 (1 + (b.text.size : Int)) = 1 + (b.text.size : Int) := w_id (by omega)
  have e0 : ((0 : Nat) : Int) = 0 := rfl
  obtain ⟨v, k1, k2, k3, k4⟩ := key b.kids.length 0 (1 + (b.text.size : Int)) (by omega) (by omega) (by omega) (fun _ => by simp [wts])
  rw [e0] at k1
  refine ⟨v, ?_, k2, k3, k4⟩
  unfold Sj
  rw [hw, k1]
  rfl
theorem q5 (N : Nat) (b : BoxD) (hB : Bd b) (hN : 3000 < N) : ∃ v, F5 N b = some v ∧ (v = true → wt b ≤ 3000) := by
 obtain ⟨v, h1, h2, h3, h4⟩ := q12 N b 3000 hB (by omega) (by omega)
 unfold F5
 rw [h1]
 refine ⟨_, rfl, fun h => ?_⟩
 have h := of_decide_eq_true h
 have := h4 h
 omega
noncomputable def ok25 (N : Nat) (x : BoxD) : Bool := (F25 N x).getD false
theorem Zh {a b : Int} (h : ¬ a = b) : (a == b) = false := by simpa using h
theorem q25 : ∀ (N : Nat) (b : BoxD), cnt b ≤ N → cnt b ≤ 4000000 → ∃ v, F25 N b = some v ∧ (v = true → Ok b)
 | 0, b, h, _ => by have := ZZ b; omega
 | N + 1, b, h, hc => by
  show ∃ v, Mb (F25 N) b = some v ∧ _
  have hcb := Z1 b
  have hkl := YM b.kids
  have ih : ∀ x ∈ b.kids, F25 N x = some (ok25 N x) ∧ (ok25 N x = true → Ok x) := fun x hx => by
   obtain ⟨v, h1, h2⟩ := q25 N x (by have := Z8 hx; omega) (by have := Z8 hx; omega)
   unfold ok25
   rw [h1]
   exact ⟨rfl, h2⟩
  have hall : allF (fun _ x => ok25 N x) 0 b.kids = true → ∀ x ∈ b.kids, Ok x := fun ha x hx => by
   obtain ⟨j, hj⟩ := List.getElem?_of_mem hx
   exact (ih x hx).2 ((Pl _ _).1 ha j x hj)
  have kids1 : runL (fun s => Ut (F25 N) b (b.kids.length : Int) s) 0 = some (bif allF (fun _ x => ok25 N x) 0 b.kids then .k1 else .k0) := by
   refine Z5 (step := fun s => Ut (F25 N) b (b.kids.length : Int) s) (l := b.kids) (fun _ x => ok25 N x) (bad := E_L25_0.k0) (fin := .k1) (fun i x hx => ?_) (by simp [Ut])
   have hi : i < b.kids.length := (gei.1 hx).1
   simp only [Ut, Zt, hx, bsm, decide_eq_true (show (i : Int) < (b.kids.length : Int) by omega), cond_true, (ih x (mog hx)).1, w_S (show i < 4611686018427387904 by omega)]
   cases ok25 N x <;> rfl
  have kids2 : runL (fun s => Yx (F25 N) b (b.kids.length : Int) s) 0 = some (bif allF (fun _ x => ok25 N x) 0 b.kids then .k1 else .k0) := by
   refine Z5 (step := fun s => Yx (F25 N) b (b.kids.length : Int) s) (l := b.kids) (fun _ x => ok25 N x) (bad := E_L25_0_2.k0) (fin := .k1) (fun i x hx => ?_) (by simp [Yx])
   have hi : i < b.kids.length := (gei.1 hx).1
   simp only [Yx, Zt, hx, bsm, decide_eq_true (show (i : Int) < (b.kids.length : Int) by omega), cond_true, (ih x (mog hx)).1, w_S (show i < 4611686018427387904 by omega)]
   cases ok25 N x <;> rfl
  have kids3 : runL (fun s => Yy (F25 N) b (b.kids.length : Int) s) 0 = some (bif allF (fun _ x => ok25 N x) 0 b.kids then .k1 else .k0) := by
   refine Z5 (step := fun s => Yy (F25 N) b (b.kids.length : Int) s) (l := b.kids) (fun _ x => ok25 N x) (bad := E_L25_0_3.k0) (fin := .k1) (fun i x hx => ?_) (by simp [Yy])
   have hi : i < b.kids.length := (gei.1 hx).1
   simp only [Yy, Zt, hx, bsm, decide_eq_true (show (i : Int) < (b.kids.length : Int) by omega), cond_true, (ih x (mog hx)).1, w_S (show i < 4611686018427387904 by omega)]
   cases ok25 N x <;> rfl
  have kids4 : runL (fun s => Yk (F25 N) b (b.kids.length : Int) s) 0 = some (bif allF (fun _ x => ok25 N x) 0 b.kids then .k1 else .k0) := by
   refine Z5 (step := fun s => Yk (F25 N) b (b.kids.length : Int) s) (l := b.kids) (fun _ x => ok25 N x) (bad := E_L25_0_4.k0) (fin := .k1) (fun i x hx => ?_) (by simp [Yk])
   have hi : i < b.kids.length := (gei.1 hx).1
   simp only [Yk, Zt, hx, bsm, decide_eq_true (show (i : Int) < (b.kids.length : Int) by omega), cond_true, (ih x (mog hx)).1, w_S (show i < 4611686018427387904 by omega)]
   cases ok25 N x <;> rfl
  have kids5 : runL (fun s => Yz (F25 N) b (b.kids.length : Int) s) 0 = some (bif allF (fun _ x => ok25 N x) 0 b.kids then .k1 else .k0) := by
   refine Z5 (step := fun s => Yz (F25 N) b (b.kids.length : Int) s) (l := b.kids) (fun _ x => ok25 N x) (bad := E_L25_0_5.k0) (fin := .k1) (fun i x hx => ?_) (by simp [Yz])
   have hi : i < b.kids.length := (gei.1 hx).1
   simp only [Yz, Zt, hx, bsm, decide_eq_true (show (i : Int) < (b.kids.length : Int) by omega), cond_true, (ih x (mog hx)).1, w_S (show i < 4611686018427387904 by omega)]
   cases ok25 N x <;> rfl
  unfold Mb
  have tN : (¬ b.n < 0 → ¬ b.n > 100 → 0 ≤ b.n ∧ b.n ≤ 100) := fun h1 h2 => by omega
  have tK : ((b.kids.length : Int) != 0) = false → b.kids = [] := fun h => by
   have : (b.kids.length : Int) = 0 := by simpa using h
   exact enz (by omega)
  have tT : (b.text.toList == (⟨([] : List UInt8).toArray⟩ : ByteArray).toList) = true → b.text.size = 0 := fun h => by
   rw [Yw] at h
   rw [of_decide_eq_true h]
   rfl
  by_cases k0 : b.kind = 0
  ·have q0 : (b.kind == 0) = true := by rw [k0]; rfl
   rw [q0]
   simp only [cond_true, beq_self_eq_true, Bool.not_true, cond_false]
   cases c1 : (b.n != 0) with
   | true => exact ⟨false, rfl, fun e => by cases e⟩
   | false =>
    cases c2 : ((b.kids.length : Int) != 0) with
    | true => exact ⟨false, rfl, fun e => by cases e⟩
    | false =>
     have hk := tK c2
     have hn : b.n = 0 := by simpa using c1
     rw [decide_eq_false (show ¬ b.n < 0 by omega), decide_eq_false (show ¬ b.n > 100 by omega), kids1]
     simp only [cond_false, bsm]
     cases allF (fun _ x => ok25 N x) 0 b.kids with
     | false => exact ⟨false, rfl, fun e => by cases e⟩
     | true => exact ⟨true, rfl, fun _ => Ok.of (.inl k0) (fun _ => hk) (by omega) (by omega) (by rw [hk]; simp)⟩
  rw [Zh k0]
  simp only [cond_false]
  have fin : ∀ (T : Bool), (b.text.toList == (⟨([] : List UInt8).toArray⟩ : ByteArray).toList) = true → (b.kind < 3 → b.kids = []) → ¬ b.n < 0 → ¬ b.n > 100 → 0 ≤ b.kind ∧ b.kind ≤ 5 → T = allF (fun _ x => ok25 N x) 0 b.kids → T = true → Ok b :=
   fun T h1 h2 h3 h4 h5 h6 h7 => Ok.of (.inr (tT h1)) h2 (tN h3 h4) h5 (hall (by rw [← h6]; exact h7))
  cases ct : (b.text.toList == (⟨([] : List UInt8).toArray⟩ : ByteArray).toList) with
  | false =>
   simp only [Bool.not_false, cond_true]
   cases b.kind == 5 <;> cases b.kind == 1 <;> cases b.kind == 3 <;> cases b.kind == 4 <;> cases b.kind == 2 <;> exact ⟨false, rfl, fun e => by cases e⟩
  | true =>
   simp only [Bool.not_true, cond_false, bne_self_eq_false]
   have fail : ∃ v, (some false : Option Bool) = some v ∧ (v = true → Ok b) := ⟨false, rfl, fun e => by cases e⟩
   have rng : ∀ {α : Type} (X : Option Bool), (¬ b.n < 0 → ¬ b.n > 100 → ∃ v, X = some v ∧ (v = true → Ok b)) → ∃ v, (bif decide (b.n < 0) then some false else (bif decide (b.n > 100) then some false else X)) = some v ∧ (v = true → Ok b) := by
    intro _ X hX
    by_cases n1 : b.n < 0
    ·rw [decide_eq_true n1]; exact fail
    ·rw [decide_eq_false n1]
     by_cases n2 : b.n > 100
     ·rw [decide_eq_true n2]; exact fail
     ·rw [decide_eq_false n2]; exact hX n1 n2
   by_cases k5 : b.kind = 5
   ·rw [show (b.kind == 5) = true by rw [k5]; rfl]
    simp only [cond_true]
    refine rng (α := Unit) _ (fun n1 n2 => ?_)
    rw [kids2]
    cases hA : allF (fun _ x => ok25 N x) 0 b.kids with
    | false => exact fail
    | true => exact ⟨true, rfl, fun _ => fin true ct (fun h => by omega) n1 n2 (by omega) hA.symm rfl⟩
   rw [Zh k5]
   simp only [cond_false]
   by_cases k1 : b.kind = 1
   ·rw [show (b.kind == 1) = true by rw [k1]; rfl]
    simp only [cond_true]
    cases c2 : ((b.kids.length : Int) != 0) with
    | true => exact fail
    | false =>
     simp only [cond_false]
     refine rng (α := Unit) _ (fun n1 n2 => ?_)
     rw [kids3]
     cases hA : allF (fun _ x => ok25 N x) 0 b.kids with
     | false => exact fail
     | true => exact ⟨true, rfl, fun _ => fin true ct (fun h => tK c2) n1 n2 (by omega) hA.symm rfl⟩
   rw [Zh k1]
   simp only [cond_false]
   by_cases k3 : b.kind = 3
   ·rw [show (b.kind == 3) = true by rw [k3]; rfl]
    simp only [cond_true]
    cases c1 : (b.n != 0) with
    | true => exact fail
    | false =>
     simp only [cond_false]
     refine rng (α := Unit) _ (fun n1 n2 => ?_)
     rw [kids4]
     cases hA : allF (fun _ x => ok25 N x) 0 b.kids with
     | false => exact fail
     | true => exact ⟨true, rfl, fun _ => fin true ct (fun h => by omega) n1 n2 (by omega) hA.symm rfl⟩
   rw [Zh k3]
   simp only [cond_false]
   by_cases k4 : b.kind = 4
   ·rw [show (b.kind == 4) = true by rw [k4]; rfl]
    simp only [cond_true]
    cases c1 : (b.n != 0) with
    | true => exact fail
    | false =>
     simp only [cond_false]
     refine rng (α := Unit) _ (fun n1 n2 => ?_)
     rw [kids4]
     cases hA : allF (fun _ x => ok25 N x) 0 b.kids with
     | false => exact fail
     | true => exact ⟨true, rfl, fun _ => fin true ct (fun h => by omega) n1 n2 (by omega) hA.symm rfl⟩
   rw [Zh k4]
   simp only [cond_false]
   by_cases k2 : b.kind = 2
   ·rw [show (b.kind == 2) = true by rw [k2]; rfl]
    simp only [cond_true]
    cases c1 : (b.n != 0) with
    | true => exact fail
    | false =>
     simp only [cond_false]
     cases c2 : ((b.kids.length : Int) != 0) with
     | true => exact fail
     | false =>
      simp only [cond_false]
      refine rng (α := Unit) _ (fun n1 n2 => ?_)
      rw [kids5]
      cases hA : allF (fun _ x => ok25 N x) 0 b.kids with
      | false => exact fail
      | true => exact ⟨true, rfl, fun _ => fin true ct (fun h => tK c2) n1 n2 (by omega) hA.symm rfl⟩
   rw [Zh k2]
   exact fail
theorem q21 : ∀ (N : Nat) (b : BoxD), cnt b ≤ N → cnt b ≤ 4000 → ∃ d : Int, F21 N b = some (.k0 (cnt b : Int) d) ∧ 1 ≤ d ∧ d ≤ (cnt b : Int)
 | 0, b, h, _ => by have := ZZ b; omega
 | N + 1, b, h, hc => by
  show ∃ d : Int, Ir (F21 N) b = _ ∧ _
  have hcb := Z1 b
  have hkl := YM b.kids
  have key : ∀ (k j : Nat) (d : Int), j + k = b.kids.length → 0 ≤ d → d ≤ (cnts (b.kids.take j) : Int) → cnts (b.kids.take j) ≤ 4000 →
    ∃ d' : Int, runL (fun s => Po (F21 N) b (b.kids.length : Int) s.1 s.2.1 s.2.2) (((1 + cnts (b.kids.take j) : Nat) : Int), d, (j : Int)) = some (.k0 (cnt b : Int) d') ∧ 0 ≤ d' ∧ d' ≤ (cnts b.kids : Int) := by
   intro k
   induction k with
   | zero =>
    intro j d hj h1 h2 h3
    obtain rfl : j = b.kids.length := by omega
    rw [List.take_length] at h2 ⊢
    exact ⟨d, ZA (by simp [Po, hcb]), h1, h2⟩
   | succ k ih =>
    intro j d hj h1 h2 h3
    have hx : b.kids[j]? = some (b.kids[j]'(by omega)) := geg _
    generalize b.kids[j]'(by omega) = x at hx
    have hm := Z8 (mog hx)
    have ht := Nq hx
    have hle : cnts (b.kids.take (j + 1)) ≤ cnts b.kids := by
     have := W8 (b.kids.take (j + 1)) (b.kids.drop (j + 1))
     rw [List.take_append_drop] at this
     omega
    obtain ⟨d2, q1, q2, q3⟩ := q21 N x (by omega) (by omega)
    obtain ⟨d', k1, k2, k3⟩ := ih (j + 1) (if d < d2 then d2 else d) (by omega) (by split <;> omega) (by split <;> omega) (by omega)
    refine ⟨d', ?_, k2, k3⟩
    rw [ZX (s' := (((1 + cnts (b.kids.take (j + 1)) : Nat) : Int), (if d < d2 then d2 else d), ((j + 1 : Nat) : Int))) (by
     simp only [Po, decide_eq_true (show (j : Int) < (b.kids.length : Int) by omega), cond_true, Zt, hx, bsm, q1, w_S (show j < 4611686018427387904 by omega)]
     rw [w_id (by omega), show ((1 + cnts (b.kids.take j) : Nat) : Int) + (cnt x : Int) = ((1 + cnts (b.kids.take (j + 1)) : Nat) : Int) by omega])]
    exact k1
  have e0 : ((0 : Nat) : Int) = 0 := rfl
  obtain ⟨d, k1, k2, k3⟩ := key b.kids.length 0 0 (by omega) (by omega) (by simp [cnts]) (by simp [cnts])
  have k1' : runL (fun s => Po (F21 N) b (b.kids.length : Int) s.1 s.2.1 s.2.2) (1, 0, 0) = some (.k0 (cnt b : Int) d) := k1
  refine ⟨d + 1, ?_, by omega, by omega⟩
  unfold Ir
  rw [k1']
  simp only [bsm]
  rw [w_id (by omega)]
abbrev ints (l : List UInt8) : List Int := l.map fun b => ((b.toNat : Nat) : Int)
theorem IO (l : List UInt8) : bstr (ints l) = ⟨l.toArray⟩ := by
 unfold bstr
 congr 2
 rw [List.map_map]
 conv => rhs; rw [← List.map_id l]
 refine List.map_congr_left (fun x _ => ?_)
 simp
abbrev bt (t : ThingD) : BoxD := .mk t.kind t.text t.n t.kids
theorem bt_k (t : ThingD) : (bt t).kids = t.kids := rfl
def kts (d w : Int) : Nat → List BoxD → List ThingD
 | _, [] => []
 | a, x :: l => ⟨x.kind, x.text, x.n, x.kids, d, w, (a : Int)⟩ :: kts d w (a + cnt x) l
theorem Tc (x : BoxD) (d w a : Int) : bt ⟨x.kind, x.text, x.n, x.kids, d, w, a⟩ = x := by cases x; rfl
theorem IP (d w : Int) : ∀ (l : List BoxD) (a : Nat), (kts d w a l).map bt = l
 | [], _ => rfl
 | x :: l, a => by rw [kts, List.map_cons, Tc, IP d w l]
structure TOk (S : List Int) (Ls : List Bool) (t : ThingD) : Prop where
 ok : Ok (bt t)
 pos : ∃ (a : Nat) (rest : List Int) (rest2 : List Bool), t.at_ = (a : Int) ∧ S.drop a = szs (bt t) ++ rest ∧ Ls.drop a = lns (bt t) ++ rest2
 dep : 0 ≤ t.depth ∧ t.depth + 100 * (cnt (bt t) : Int) ≤ 400000
 wtl : wt (bt t) ≤ 4000
theorem LY : ∀ (a b : List BoxD), szss (a ++ b) = szss a ++ szss b
 | [], b => by simp [szss]
 | t :: a, b => by simp only [List.cons_append, szss, LY a b, List.append_assoc]
theorem LZ {S : List Int} {a : Nat} {b : BoxD} {rest : List Int} (h : S.drop a = szs b ++ rest) (l r : List BoxD) (hk : b.kids = l ++ r) : S.drop (a + 1 + cnts l) = szss r ++ rest := by
 rw [Nat.add_assoc, ← List.drop_drop, h, Nn, hk, LY, Nat.add_comm 1]
 show ((szss l ++ szss r) ++ rest).drop (cnts l) = _
 rw [List.append_assoc, ← (Ug _ l (Nat.le_refl _)).1, List.drop_left]
theorem L0 : ∀ (a b : List BoxD), lnss (a ++ b) = lnss a ++ lnss b
 | [], b => by simp [lnss]
 | t :: a, b => by simp only [List.cons_append, lnss, L0 a b, List.append_assoc]
theorem IQ {S : List Bool} {a : Nat} {b : BoxD} {rest : List Bool} (h : S.drop a = lns b ++ rest) (l r : List BoxD) (hk : b.kids = l ++ r) : S.drop (a + 1 + cnts l) = lnss r ++ rest := by
 rw [Nat.add_assoc, ← List.drop_drop, h, QM, hk, L0, Nat.add_comm 1]
 show ((lnss l ++ lnss r) ++ rest).drop (cnts l) = _
 rw [List.append_assoc, ← (Ug _ l (Nat.le_refl _)).2, List.drop_left]
theorem Fh {S : List Int} {Ls : List Bool} {d w : Int} : ∀ (l : List BoxD) (a : Nat) (rest : List Int) (rest2 : List Bool), S.drop a = szss l ++ rest → Ls.drop a = lnss l ++ rest2 → (∀ x ∈ l, Ok x) → 0 ≤ d ∧ d + 100 * (cnts l : Int) ≤ 400000 → wts l ≤ 4000 →
  ∀ t ∈ kts d w a l, TOk S Ls t ∧ t.depth = d ∧ t.way = w
 | [], _, _, _, _, _, _, _, _, t, ht => by simp [kts] at ht
 | x :: l, a, rest, rest2, h, hh, ho, hd, hw, t, ht => by
  simp only [szss, lnss, cnts, wts, List.append_assoc] at h hh hd hw
  rcases List.mem_cons.1 ht with rfl | ht
  ·refine ⟨⟨by rw [Tc]; exact ho x (by simp), ⟨a, _, _, rfl, by rw [Tc]; exact h, by rw [Tc]; exact hh⟩, ⟨hd.1, ?_⟩, by rw [Tc]; omega⟩, rfl, rfl⟩
   rw [Tc]
   have h2 := hd.2
   show d + _ ≤ _
   omega
  ·refine Fh l (a + cnt x) rest rest2 ?_ ?_ (fun y hy => ho y (by simp [hy])) ⟨hd.1, by omega⟩ (by omega) t ht
   ·rw [← List.drop_drop, h, ← (PC x).1, List.drop_left]
   ·rw [← List.drop_drop, hh, ← (PC x).2, List.drop_left]
noncomputable def p1 {E : Type} (k0 : Nat → Nat → List ThingD → E) (a3 a4 : Int) (a7 : ThingD) (a8 : Int) (a16 : List Int) (v1 v2 : Nat) (v3 v4 : Int) (v5 : List ThingD) : Option (E ⊕ (Nat × Nat × Int × Int × (List ThingD))) :=
 (bif (decide (v4 < a8)) then ((getI a7.kids v4).bind fun x2 => (bif (apOk v2 1 v5.length 80) then (bif (decide (v2 + 1 ≤ v5.length)) then ((getI a16 v3).bind fun x5 => (some (.inr (v1, v2 + 1, (IntKind.wrap .i64 (v3 + x5)), (IntKind.wrap .i64 (v4 + 1)), (splice v5 v2 [(⟨x2.kind, x2.text, x2.n, x2.kids, a3, a4, v3⟩ : ThingD)]))))) else ((getI a16 v3).bind fun x5 => (some (.inr ((v1 + 1), v2 + 1, (IntKind.wrap .i64 (v3 + x5)), (IntKind.wrap .i64 (v4 + 1)), (v5.take v2 ++ [(⟨x2.kind, x2.text, x2.n, x2.kids, a3, a4, v3⟩ : ThingD)])))))) else none)) else (some (.inl (k0 v1 v2 v5))))
noncomputable def p0 {E : Type} (k0 : List ThingD → E) (a2 : Nat) (v1 v2 : Int) (v3 : List ThingD) : Option (E ⊕ (Int × Int × (List ThingD))) :=
 (bif (decide (v1 < v2)) then ((ixN a2 v2).bind fun x2 => ((v3[x2]?).bind fun x3 => ((ixN a2 v1).bind fun x4 => ((v3[x4]?).bind fun x5 => (((v3.set x4 (⟨x3.kind, x3.text, x3.n, x3.kids, x3.depth, x3.way, x3.at_⟩ : ThingD))[x2]?).bind fun x6 => (some (.inr ((IntKind.wrap .i64 (v1 + 1)), (IntKind.wrap .i64 (v2 - 1)), ((v3.set x4 (⟨x3.kind, x3.text, x3.n, x3.kids, x3.depth, x3.way, x3.at_⟩ : ThingD)).set x2 (⟨x5.kind, x5.text, x5.n, x5.kids, x5.depth, x5.way, x5.at_⟩ : ThingD)))))))))) else (some (.inl (k0 v3))))
theorem l1 {E : Type} (k0 : Nat → Nat → List ThingD → E) {d w : Int} {t : ThingD} {S : List Int} {a : Nat} {rest : List Int} (hS : S.drop a = szs (bt t) ++ rest) (ha : a + cnt (bt t) ≤ 4000000) :
  ∀ (k j gen len : Nat) (row : List ThingD), j + k = t.kids.length → len ≤ row.length → len + k ≤ 4000000 →
   ∃ g' row', runL (fun s => p1 k0 d w t (t.kids.length : Int) S s.1 s.2.1 s.2.2.1 s.2.2.2.1 s.2.2.2.2) (gen, len, ((a + 1 + cnts (t.kids.take j) : Nat) : Int), (j : Int), row) = some (k0 g' (len + k) row') ∧
    row'.take (len + k) = row.take len ++ kts d w (a + 1 + cnts (t.kids.take j)) (t.kids.drop j) ∧ len + k ≤ row'.length
 | 0, j, gen, len, row, hj, hl, hc => by
  obtain rfl : j = t.kids.length := by omega
  refine ⟨gen, row, ZA ?_, by rw [List.drop_length]; simp [kts], hl⟩
  simp only [p1, decide_eq_false (show ¬ (t.kids.length : Int) < (t.kids.length : Int) by omega), cond_false, Nat.add_zero]
 | k + 1, j, gen, len, row, hj, hl, hc => by
  have hx : t.kids[j]? = some (t.kids[j]'(by omega)) := geg _
  have hd : t.kids.drop j = t.kids[j]'(by omega) :: t.kids.drop (j + 1) := List.drop_eq_getElem_cons (by omega)
  generalize t.kids[j]'(by omega) = x at hx hd
  have ht := Nq hx
  have hs := LZ hS (t.kids.take j) (t.kids.drop j) (List.take_append_drop j t.kids).symm
  have hkl := YM t.kids
  have hle : cnts (t.kids.take j) + cnts (t.kids.drop j) = cnts t.kids := by rw [← W8, List.take_append_drop]
  have hct := Z1 (bt t)
  rw [bt_k] at hct
  rw [hd] at hs hle ⊢
  simp only [cnts] at hle
  have hi : getI S ((a + 1 + cnts (t.kids.take j) : Nat) : Int) = some ((cnt x : Nat) : Int) := by
   rw [Zt, ← List.head?_drop, hs, szss, Nn]
   rfl
  obtain ⟨q1, q2⟩ := put1 (row := row) (⟨x.kind, x.text, x.n, x.kids, d, w, ((a + 1 + cnts (t.kids.take j) : Nat) : Int)⟩ : ThingD) hl
  have hw : IntKind.wrap .i64 (((a + 1 + cnts (t.kids.take j) : Nat) : Int) + ((cnt x : Nat) : Int)) = ((a + 1 + cnts (t.kids.take (j + 1)) : Nat) : Int) := by rw [w_id (by omega), ht]; omega
  have hlt : decide ((j : Int) < (t.kids.length : Int)) = true := decide_eq_true (by omega)
  have hS1 := w_S (show j < 4611686018427387904 by omega)
  by_cases hr : len + 1 ≤ row.length
  ·obtain ⟨g2, row2, k1, k2, k3⟩ := l1 k0 hS ha k (j + 1) gen (len + 1) _ (by omega) (q1 hr).2 (by omega)
   rw [show len + 1 + k = len + (k + 1) by omega] at k1 k2 k3
   refine ⟨g2, row2, ?_, ?_, k3⟩
   ·rw [ZX (s' := (gen, len + 1, ((a + 1 + cnts (t.kids.take (j + 1)) : Nat) : Int), ((j + 1 : Nat) : Int), splice row len [(⟨x.kind, x.text, x.n, x.kids, d, w, ((a + 1 + cnts (t.kids.take j) : Nat) : Int)⟩ : ThingD)])) (by
     simp only [p1, hlt, cond_true, Zt, hx, bsm, ap1 hl (show len ≤ 5000000 by omega) (show 80 ≤ 1000 by omega), decide_eq_true hr, hS1]
     rw [← Zt, hi]
     simp only [bsm, hw])]
    exact k1
   ·rw [k2, (q1 hr).1, List.append_assoc, ht, ← Nat.add_assoc]
    rfl
  ·obtain ⟨g2, row2, k1, k2, k3⟩ := l1 k0 hS ha k (j + 1) (gen + 1) (len + 1) _ (by omega) q2.2 (by omega)
   rw [show len + 1 + k = len + (k + 1) by omega] at k1 k2 k3
   refine ⟨g2, row2, ?_, ?_, k3⟩
   ·rw [ZX (s' := (gen + 1, len + 1, ((a + 1 + cnts (t.kids.take (j + 1)) : Nat) : Int), ((j + 1 : Nat) : Int), row.take len ++ [(⟨x.kind, x.text, x.n, x.kids, d, w, ((a + 1 + cnts (t.kids.take j) : Nat) : Int)⟩ : ThingD)])) (by
     simp only [p1, hlt, cond_true, Zt, hx, bsm, ap1 hl (show len ≤ 5000000 by omega) (show 80 ≤ 1000 by omega), decide_eq_false hr, cond_false, hS1]
     rw [← Zt, hi]
     simp only [bsm, hw])]
    exact k1
   ·rw [k2, q2.1, List.append_assoc, ht, ← Nat.add_assoc]
    rfl
theorem ME {α : Type} {row pre post : List α} {x : α} {n i : Nat} (h : row.take n = pre ++ x :: post) (hi : i = pre.length) : i < n ∧ row[i]? = some x := by
 subst hi
 have hl := congrArg List.length h
 rw [List.length_take, lap, lcn] at hl
 have hn : pre.length < n := by omega
 exact ⟨hn, PD h hn⟩
theorem l0 {E : Type} (k0 : List ThingD → E) : ∀ (k n : Nat) (row pre m post : List ThingD), m.length ≤ k → row.take n = pre ++ m ++ post → n ≤ row.length → n ≤ 4000000 →
  ∃ row', runL (fun s => p0 k0 n s.1 s.2.1 s.2.2) (((pre.length : Nat) : Int), (((pre.length + m.length : Nat) : Int) - 1), row) = some (k0 row') ∧ row'.take n = pre ++ m.reverse ++ post ∧ row'.length = row.length := by
 intro k
 induction k with
 | zero =>
  intro n row pre m post hm h hn hn2
  obtain rfl : m = [] := enz (by omega)
  refine ⟨row, ZA ?_, h, rfl⟩
  simp only [p0, decide_eq_false (show ¬ ((pre.length : Nat) : Int) < ((pre.length + ([] : List ThingD).length : Nat) : Int) - 1 by simp; omega), cond_false]
 | succ k ih =>
  intro n row pre m post hm h hn hn2
  match m, hm, h with
  | [], hm, h =>
   refine ⟨row, ZA ?_, h, rfl⟩
   simp only [p0, decide_eq_false (show ¬ ((pre.length : Nat) : Int) < ((pre.length + ([] : List ThingD).length : Nat) : Int) - 1 by simp; omega), cond_false]
  | [x], hm, h =>
   refine ⟨row, ZA ?_, h, rfl⟩
   simp only [p0, decide_eq_false (show ¬ ((pre.length : Nat) : Int) < ((pre.length + [x].length : Nat) : Int) - 1 by simp), cond_false]
  | x :: y :: r, hm, h =>
   obtain ⟨m', z, hz⟩ : ∃ m' z, y :: r = m' ++ [z] := ⟨(y :: r).dropLast, (y :: r).getLast (by simp), (List.dropLast_concat_getLast (by simp)).symm⟩
   rw [hz] at h hm ⊢
   have hm2 : m'.length + 1 ≤ k := by simp only [lcn, lap, List.length_nil] at hm; omega
   have e1 : row.take n = pre ++ x :: (m' ++ z :: post) := by rw [h]; simp
   have e2 : row.take n = (pre ++ x :: m') ++ z :: post := by rw [h]; simp
   obtain ⟨i1, i2⟩ := ME e1 rfl
   obtain ⟨j1, j2⟩ := ME e2 (show pre.length + 1 + m'.length = _ by simp; omega)
   have e3 := Uh (y := z) e1 (by omega)
   have e4 : (row.set pre.length z).take n = (pre ++ z :: m') ++ z :: post := by rw [e3]; simp
   obtain ⟨_, j3⟩ := ME e4 (show pre.length + 1 + m'.length = _ by simp; omega)
   have e5 := Uh (y := x) e4 (by simp; omega)
   rw [show (pre ++ z :: m').length = pre.length + 1 + m'.length by simp; omega] at e5
   have e6 : ((row.set pre.length z).set (pre.length + 1 + m'.length) x).take n = (pre ++ [z]) ++ m' ++ (x :: post) := by rw [e5]; simp
   obtain ⟨row', k1, k2, k3⟩ := ih n _ (pre ++ [z]) m' (x :: post) (by omega) e6 (by simp only [List.length_set]; exact hn) hn2
   refine ⟨row', ?_, by rw [k2]; simp, by rw [k3]; simp⟩
   have w1 : ((pre.length + (x :: (m' ++ [z])).length : Nat) : Int) - 1 = ((pre.length + 1 + m'.length : Nat) : Int) := by simp; omega
   rw [w1, ZX (s' := ((((pre ++ [z]).length : Nat) : Int), (((pre ++ [z]).length + m'.length : Nat) : Int) - 1, (row.set pre.length z).set (pre.length + 1 + m'.length) x)) (by
    have hp : (pre ++ [z]).length = pre.length + 1 := by simp
    simp only [p0, decide_eq_true (show ((pre.length : Nat) : Int) < ((pre.length + 1 + m'.length : Nat) : Int) by omega), cond_true, Ur, if_pos i1, if_pos j1, i2, j2, j3, bsm, hp, w_S (show pre.length < 4611686018427387904 by omega),
     w_id (show -9223372036854775808 ≤ ((pre.length + 1 + m'.length : Nat) : Int) - 1 ∧ ((pre.length + 1 + m'.length : Nat) : Int) - 1 ≤ 9223372036854775807 by omega)])]
   exact k1
structure Put (S : List Int) (Ls : List Bool) (d w : Int) (t : ThingD) (row : List ThingD) (len : Nat) (row' : List ThingD) (len' : Nat) : Prop where
 le : len' ≤ row'.length
 ex : ∃ K, row'.take len' = row.take len ++ K ∧ K.map bt = t.kids.reverse ∧ ∀ x ∈ K, TOk S Ls x ∧ x.depth = d ∧ x.way = w
theorem push {E F : Type} (k0 : Nat → Nat → List ThingD → E) (k1 : List ThingD → F) {d w : Int} {t : ThingD} {S : List Int} {Ls : List Bool} (gen : Nat) {len : Nat} {row : List ThingD} (hT : TOk S Ls t) (hS : S.length ≤ 4000) (hd : 0 ≤ d ∧ d + 100 * (cnts t.kids : Int) ≤ 400000)
  (hl : len ≤ row.length) (hc : len ≤ 4000) :
  ∃ g' len' row1 row', runL (fun s => p1 k0 d w t (t.kids.length : Int) S s.1 s.2.1 s.2.2.1 s.2.2.2.1 s.2.2.2.2) (gen, len, IntKind.wrap .i64 (t.at_ + 1), 0, row) = some (k0 g' len' row1) ∧
   runL (fun s => p0 k1 len' s.1 s.2.1 s.2.2) (((len : Nat) : Int), IntKind.wrap .i64 (((len' : Nat) : Int) - 1), row1) = some (k1 row') ∧ Put S Ls d w t row len row' len' := by
 obtain ⟨a, rest, rest2, h1, h2, h22⟩ := hT.pos
 have hlen := congrArg List.length h2
 rw [List.length_drop, lap, (PC _).1] at hlen
 have hcp := ZZ (bt t)
 have hce := Z1 (bt t)
 rw [bt_k] at hce
 have hkl := YM t.kids
 have e0 : ((0 : Nat) : Int) = 0 := rfl
 obtain ⟨g', row1, m1, m2, m3⟩ := l1 k0 (d := d) (w := w) h2 (by omega) t.kids.length 0 gen len row (by omega) hl (by omega)
 have hw : IntKind.wrap .i64 (t.at_ + 1) = ((a + 1 + cnts (t.kids.take 0) : Nat) : Int) := by rw [h1, w_id (by omega), List.take_zero]; simp [cnts]
 rw [e0, ← hw] at m1
 rw [List.drop_zero, List.take_zero] at m2
 have hpl : (row.take len).length = len := by rw [List.length_take]; omega
 have hkl2 : (kts d w (a + 1 + cnts []) t.kids).length = t.kids.length := by
  have := congrArg List.length (IP d w t.kids (a + 1 + cnts []))
  rwa [List.length_map] at this
 obtain ⟨row', n1, n2, n3⟩ := l0 k1 _ (len + t.kids.length) row1 (row.take len) (kts d w (a + 1 + cnts []) t.kids) [] (Nat.le_refl _) (by rw [m2, List.append_nil]) m3 (by omega)
 rw [hpl, hkl2] at n1
 refine ⟨g', _, row1, row', m1, ?_, by rw [n3]; exact m3, _, by rw [n2, List.append_nil], by rw [List.map_reverse, IP], ?_⟩
 ·rw [w_id (by omega)]
  exact n1
 ·intro x hx
  refine Fh t.kids (a + 1 + cnts []) rest rest2 (LZ h2 [] t.kids rfl) (IQ h22 [] t.kids rfl) (fun y hy => hT.ok.kid hy) hd (by have := hT.wtl; rw [IN] at this; have e : (bt t).kids = t.kids := rfl; rw [e] at this; omega) x (List.mem_reverse.1 hx)
section
variable {S : List Int} {Ls : List Bool} {d w : Int} {t : ThingD} {row : List ThingD} {len : Nat}
theorem q37 (gen : Nat) (hT : TOk S Ls t) (hS : S.length ≤ 4000) (hd : 0 ≤ d ∧ d + 100 * (cnts t.kids : Int) ≤ 400000) (hl : len ≤ row.length) (hc : len ≤ 4000) :
  ∃ g' len' row', F37 gen len t d w row S = some (.k0 g' len' row') ∧ Put S Ls d w t row len row' len' := by
 obtain ⟨g', len', row1, row', h1, h2, h3⟩ := push E_L37_1.k0 E_L37_0.k0 gen hT hS hd hl hc
 have h1' : runL (fun s => KX d w t (t.kids.length : Int) S s.1 s.2.1 s.2.2.1 s.2.2.2.1 s.2.2.2.2) (gen, len, IntKind.wrap .i64 (t.at_ + 1), 0, row) = some (.k0 g' len' row1) := h1
 have h2' : runL (fun s => KY len' s.1 s.2.1 s.2.2) (((len : Nat) : Int), IntKind.wrap .i64 (((len' : Nat) : Int) - 1), row1) = some (.k0 row') := h2
 refine ⟨g', len', row', ?_, h3⟩
 unfold F37
 rw [h1']
 simp only [bsm]
 rw [h2']
 rfl
theorem Cl (gen : Nat) (hT : TOk S Ls t) (hS : S.length ≤ 4000) (hd : 0 ≤ d ∧ d + 100 * (cnts t.kids : Int) ≤ 400000) (hl : len ≤ row.length) (hc : len ≤ 4000) :
  ∃ g' len' row', OG gen len t d w row S = some (.k0 g' len' row') ∧ Put S Ls d w t row len row' len' := by
 obtain ⟨g', len', row1, row', h1, h2, h3⟩ := push E_L37_1_10.k0 E_L37_0_10.k0 gen hT hS hd hl hc
 have h1' : runL (fun s => WO d w t (t.kids.length : Int) S s.1 s.2.1 s.2.2.1 s.2.2.2.1 s.2.2.2.2) (gen, len, IntKind.wrap .i64 (t.at_ + 1), 0, row) = some (.k0 g' len' row1) := h1
 have h2' : runL (fun s => WP len' s.1 s.2.1 s.2.2) (((len : Nat) : Int), IntKind.wrap .i64 (((len' : Nat) : Int) - 1), row1) = some (.k0 row') := h2
 refine ⟨g', len', row', ?_, h3⟩
 unfold OG
 rw [h1']
 simp only [bsm]
 rw [h2']
 rfl
theorem Cm (gen : Nat) (hT : TOk S Ls t) (hS : S.length ≤ 4000) (hd : 0 ≤ d ∧ d + 100 * (cnts t.kids : Int) ≤ 400000) (hl : len ≤ row.length) (hc : len ≤ 4000) :
  ∃ g' len' row', SV gen len t d w S row = some (.k0 g' len' row') ∧ Put S Ls d w t row len row' len' := by
 obtain ⟨g', len', row1, row', h1, h2, h3⟩ := push E_L37_1_12.k0 E_L37_0_12.k0 gen hT hS hd hl hc
 have h1' : runL (fun s => WS d w t (t.kids.length : Int) S s.1 s.2.1 s.2.2.1 s.2.2.2.1 s.2.2.2.2) (gen, len, IntKind.wrap .i64 (t.at_ + 1), 0, row) = some (.k0 g' len' row1) := h1
 have h2' : runL (fun s => WT len' s.1 s.2.1 s.2.2) (((len : Nat) : Int), IntKind.wrap .i64 (((len' : Nat) : Int) - 1), row1) = some (.k0 row') := h2
 refine ⟨g', len', row', ?_, h3⟩
 unfold SV
 rw [h1']
 simp only [bsm]
 rw [h2']
 rfl
theorem Cn (gen : Nat) (hT : TOk S Ls t) (hS : S.length ≤ 4000) (hd : 0 ≤ d ∧ d + 100 * (cnts t.kids : Int) ≤ 400000) (hl : len ≤ row.length) (hc : len ≤ 4000) :
  ∃ g' len' row', S2 gen len t d w S row = some (.k0 g' len' row') ∧ Put S Ls d w t row len row' len' := by
 obtain ⟨g', len', row1, row', h1, h2, h3⟩ := push E_L37_1_13.k0 E_L37_0_13.k0 gen hT hS hd hl hc
 have h1' : runL (fun s => WU d w t (t.kids.length : Int) S s.1 s.2.1 s.2.2.1 s.2.2.2.1 s.2.2.2.2) (gen, len, IntKind.wrap .i64 (t.at_ + 1), 0, row) = some (.k0 g' len' row1) := h1
 have h2' : runL (fun s => WV len' s.1 s.2.1 s.2.2) (((len : Nat) : Int), IntKind.wrap .i64 (((len' : Nat) : Int) - 1), row1) = some (.k0 row') := h2
 refine ⟨g', len', row', ?_, h3⟩
 unfold S2
 rw [h1']
 simp only [bsm]
 rw [h2']
 rfl
theorem Fi (gen : Nat) (hT : TOk S Ls t) (hS : S.length ≤ 4000) (hd : 0 ≤ d ∧ d + 100 * (cnts t.kids : Int) ≤ 400000) (hl : len ≤ row.length) (hc : len ≤ 4000) :
  ∃ g' len' row', Qy gen len t d w row S = some (.k0 g' len' row') ∧ Put S Ls d w t row len row' len' := by
 obtain ⟨g', len', row1, row', h1, h2, h3⟩ := push E_L37_1_14.k0 E_L37_0_14.k0 gen hT hS hd hl hc
 have h1' : runL (fun s => WY d w t (t.kids.length : Int) S s.1 s.2.1 s.2.2.1 s.2.2.2.1 s.2.2.2.2) (gen, len, IntKind.wrap .i64 (t.at_ + 1), 0, row) = some (.k0 g' len' row1) := h1
 have h2' : runL (fun s => WZ len' s.1 s.2.1 s.2.2) (((len : Nat) : Int), IntKind.wrap .i64 (((len' : Nat) : Int) - 1), row1) = some (.k0 row') := h2
 refine ⟨g', len', row', ?_, h3⟩
 unfold Qy
 rw [h1']
 simp only [bsm]
 rw [h2']
 rfl
theorem Fj (gen : Nat) (hT : TOk S Ls t) (hS : S.length ≤ 4000) (hd : 0 ≤ d ∧ d + 100 * (cnts t.kids : Int) ≤ 400000) (hl : len ≤ row.length) (hc : len ≤ 4000) :
  ∃ g' len' row', QC gen len t d w row S = some (.k0 g' len' row') ∧ Put S Ls d w t row len row' len' := by
 obtain ⟨g', len', row1, row', h1, h2, h3⟩ := push E_L37_1_15.k0 E_L37_0_15.k0 gen hT hS hd hl hc
 have h1' : runL (fun s => W0 d w t (t.kids.length : Int) S s.1 s.2.1 s.2.2.1 s.2.2.2.1 s.2.2.2.2) (gen, len, IntKind.wrap .i64 (t.at_ + 1), 0, row) = some (.k0 g' len' row1) := h1
 have h2' : runL (fun s => W1 len' s.1 s.2.1 s.2.2) (((len : Nat) : Int), IntKind.wrap .i64 (((len' : Nat) : Int) - 1), row1) = some (.k0 row') := h2
 refine ⟨g', len', row', ?_, h3⟩
 unfold QC
 rw [h1']
 simp only [bsm]
 rw [h2']
 rfl
theorem Fk (gen : Nat) (hT : TOk S Ls t) (hS : S.length ≤ 4000) (hd : 0 ≤ d ∧ d + 100 * (cnts t.kids : Int) ≤ 400000) (hl : len ≤ row.length) (hc : len ≤ 4000) :
  ∃ g' len' row', QG gen len t d w row S = some (.k0 g' len' row') ∧ Put S Ls d w t row len row' len' := by
 obtain ⟨g', len', row1, row', h1, h2, h3⟩ := push E_L37_1_16.k0 E_L37_0_16.k0 gen hT hS hd hl hc
 have h1' : runL (fun s => W3 d w t (t.kids.length : Int) S s.1 s.2.1 s.2.2.1 s.2.2.2.1 s.2.2.2.2) (gen, len, IntKind.wrap .i64 (t.at_ + 1), 0, row) = some (.k0 g' len' row1) := h1
 have h2' : runL (fun s => W4 len' s.1 s.2.1 s.2.2) (((len : Nat) : Int), IntKind.wrap .i64 (((len' : Nat) : Int) - 1), row1) = some (.k0 row') := h2
 refine ⟨g', len', row', ?_, h3⟩
 unfold QG
 rw [h1']
 simp only [bsm]
 rw [h2']
 rfl
theorem Fl (gen : Nat) (hT : TOk S Ls t) (hS : S.length ≤ 4000) (hd : 0 ≤ d ∧ d + 100 * (cnts t.kids : Int) ≤ 400000) (hl : len ≤ row.length) (hc : len ≤ 4000) :
  ∃ g' len' row', QK gen len t d w row S = some (.k0 g' len' row') ∧ Put S Ls d w t row len row' len' := by
 obtain ⟨g', len', row1, row', h1, h2, h3⟩ := push E_L37_1_17.k0 E_L37_0_17.k0 gen hT hS hd hl hc
 have h1' : runL (fun s => W5 d w t (t.kids.length : Int) S s.1 s.2.1 s.2.2.1 s.2.2.2.1 s.2.2.2.2) (gen, len, IntKind.wrap .i64 (t.at_ + 1), 0, row) = some (.k0 g' len' row1) := h1
 have h2' : runL (fun s => W6 len' s.1 s.2.1 s.2.2) (((len : Nat) : Int), IntKind.wrap .i64 (((len' : Nat) : Int) - 1), row1) = some (.k0 row') := h2
 refine ⟨g', len', row', ?_, h3⟩
 unfold QK
 rw [h1']
 simp only [bsm]
 rw [h2']
 rfl
theorem Co (hT : TOk S Ls t) (hS : S.length ≤ 4000) (hd : 0 ≤ d ∧ d + 100 * (cnts t.kids : Int) ≤ 400000) :
  ∃ g' len' row', OL t d w S = some (.k0 g' len' row') ∧ Put S Ls d w t [] 0 row' len' := by
 obtain ⟨g', len', row1, row', h1, h2, h3⟩ := push E_L37_1_11.k0 E_L37_0_11.k0 0 hT hS hd (row := []) (len := 0) (w := w) (Nat.le_refl _) (by omega)
 have h1' : runL (fun s => WQ d w t (t.kids.length : Int) S s.1 s.2.1 s.2.2.1 s.2.2.2.1 s.2.2.2.2) (0, 0, IntKind.wrap .i64 (t.at_ + 1), 0, []) = some (.k0 g' len' row1) := h1
 have h2' : runL (fun s => WR len' s.1 s.2.1 s.2.2) (0, IntKind.wrap .i64 (((len' : Nat) : Int) - 1), row1) = some (.k0 row') := h2
 refine ⟨g', len', row', ?_, h3⟩
 unfold OL
 rw [h1']
 simp only [bsm]
 rw [h2']
 rfl
end
structure Buf (row : List Int) (len : Nat) (o : List UInt8) : Prop where
 le : len ≤ row.length
 is : row.take len = ints o
theorem MF (s : ByteArray) : Zk s = ints s.data.toList := rfl
theorem QO (s : ByteArray) : (Zk s).length = s.size := by rw [MF, List.length_map, U1]
theorem apN {len k n : Nat} (h : len ≤ n) (hb : len + k ≤ 5000000) : apOk len k n 1 = true := decide_eq_true ⟨h, by unfold Zm; omega, by unfold Zm; omega⟩
theorem putN {row : List Int} {len : Nat} {o : List UInt8} (s : List UInt8) (h : Buf row len o) :
  (len + s.length ≤ row.length → Buf (splice row len (ints s)) (len + s.length) (o ++ s)) ∧ Buf (row.take len ++ ints s) (len + s.length) (o ++ s) := by
 have hs : (ints s).length = s.length := List.length_map _
 have ha : ints (o ++ s) = row.take len ++ ints s := by rw [h.is]; simp [ints]
 have hp : (row.take len).length = len := by rw [List.length_take]; have := h.le; omega
 refine ⟨fun hl => ?_, ⟨?_, ?_⟩⟩
 ·obtain ⟨h1, h2⟩ := QN (l := row) (y := ints s) (n := len) (by omega)
  rw [hs] at h1
  exact ⟨by rw [h2]; exact hl, by rw [h1, ha]⟩
 ·rw [lap, hp, hs]; exact Nat.le_refl _
 ·rw [ha]; exact List.take_of_length_le (by rw [lap, hp, hs]; exact Nat.le_refl _)
theorem q42 (v : Bool) : ∃ f, Me v = some f := by unfold Me; cases v <;> exact ⟨_, rfl⟩
section
variable {row : List Int} {len : Nat} {o : List UInt8}
theorem Cp (s : ByteArray) (v : Bool) (gen : Nat) (h : Buf row len o) (hb : len + s.size ≤ 5000000) :
  ∃ n fl g' row', KV s v gen len row = some (.k0 n fl g' row') ∧ Buf row' (len + s.size) (o ++ s.data.toList) := by
 obtain ⟨f, hf⟩ := q42 v
 obtain ⟨p1, p2⟩ := putN s.data.toList h
 rw [U1, ← MF] at p1 p2
 unfold KV
 rw [hf]
 simp only [bsm, QO, apN h.le hb, cond_true]
 by_cases hr : len + s.size ≤ row.length
 ·rw [decide_eq_true hr]; exact ⟨_, _, _, _, rfl, p1 hr⟩
 ·rw [decide_eq_false hr]; exact ⟨_, _, _, _, rfl, p2⟩
theorem Dr (t : ThingD) (v : Bool) (gen : Nat) (h : Buf row len o) (hb : len + t.text.size ≤ 5000000) :
  ∃ n fl g' row', Mf t v gen len row = some (.k0 n fl g' row') ∧ Buf row' (len + t.text.size) (o ++ t.text.data.toList) := by
 obtain ⟨f, hf⟩ := q42 v
 obtain ⟨p1, p2⟩ := putN t.text.data.toList h
 rw [U1, ← MF] at p1 p2
 unfold Mf
 rw [hf]
 simp only [bsm, QO, apN h.le hb, cond_true]
 by_cases hr : len + t.text.size ≤ row.length
 ·rw [decide_eq_true hr]; exact ⟨_, _, _, _, rfl, p1 hr⟩
 ·rw [decide_eq_false hr]; exact ⟨_, _, _, _, rfl, p2⟩
theorem q33 (v : Bool) (gen : Nat) (h : Buf row len o) (hb : len ≤ 4000000) :
  ∃ fl g' row', KZ v gen len row = some (.k0 fl g' row') ∧ Buf row' (len + 1) (o ++ [10]) := by
 obtain ⟨f, hf⟩ := q42 v
 obtain ⟨p1, p2⟩ := putN [10] h
 unfold KZ H5
 rw [hf]
 simp only [bsm, apN h.le (show len + 1 ≤ 5000000 by omega), cond_true]
 by_cases hr : len + 1 ≤ row.length
 ·rw [decide_eq_true hr]; exact ⟨_, _, _, rfl, p1 hr⟩
 ·rw [decide_eq_false hr]; exact ⟨_, _, _, rfl, p2⟩
end
abbrev sp1 : ByteArray := ⟨([32] : List UInt8).toArray⟩
theorem Gv : ∀ n, Lib.repeatL [32] n = List.replicate n 32
 | 0 => rfl
 | n + 1 => by rw [List.replicate_succ, ← Gv n]; rfl
theorem q35 {n : Int} (h : 0 ≤ n ∧ n ≤ 400000) : ∃ s, F35 sp1 n = some s ∧ s.size = n.toNat ∧ brl s.data.toList = [] := by
 have h1 : rpOk sp1 n = true := decide_eq_true ⟨h.1, by omega, by show ((1 : Nat) : Int) * n ≤ _; omega⟩
 have h2 : (repS sp1 n).data.toList = List.replicate n.toNat 32 := by
  show (Lib.repeatL [32] n.toNat).toArray.toList = _
  rw [List.toList_toArray, Gv]
 refine ⟨repS sp1 n, by unfold F35; rw [h1]; rfl, by rw [← U1, h2, List.length_replicate], ?_⟩
 rw [h2]
 unfold brl
 rw [List.filter_replicate]
 rfl
theorem emp {a : ByteArray} (h : a.size = 0) : a = ⟨([] : List UInt8).toArray⟩ := by
 cases a with | mk d => congr 1; exact Array.eq_empty_of_size_eq_zero h
theorem Nr {A E : Type} {step : A → Option (E ⊕ A)} {Inv : Nat → A → Prop} {Post : E → Prop}
  (h : ∀ k s, Inv k s → ∃ r, step s = some r ∧ (∀ s', r = .inr s' → ∃ k', k' < k ∧ Inv k' s') ∧ ∀ e, r = .inl e → Post e) :
  ∀ n k s, k ≤ n → Inv k s → ∃ e, runL step s = some e ∧ Post e := by
 intro n
 induction n with
 | zero =>
  intro k s hk hi
  obtain ⟨r, h1, h2, h3⟩ := h k s hi
  match r, h1, h2, h3 with
  | .inl e, h1, _, h3 => exact ⟨e, ZA h1, h3 e rfl⟩
  | .inr s', _, h2, _ => obtain ⟨k', h4, _⟩ := h2 s' rfl; omega
 | succ n ih =>
  intro k s hk hi
  obtain ⟨r, h1, h2, h3⟩ := h k s hi
  match r, h1, h2, h3 with
  | .inl e, h1, _, h3 => exact ⟨e, ZA h1, h3 e rfl⟩
  | .inr s', h1, h2, _ =>
   obtain ⟨k', h4, h5⟩ := h2 s' rfl
   obtain ⟨e, h6, h7⟩ := ih k' s' (by omega) h5
   exact ⟨e, (ZX h1).trans h6, h7⟩
section
variable {S : List Int} {Ls : List Bool} {fl : Bool} {row : List ThingD} {len : Nat} {bs : List BoxD}
end
theorem TOk.txt {S : List Int} {Ls : List Bool} {t : ThingD} (h : TOk S Ls t) : t.text.size ≤ 4000 ∧ cnt (bt t) = 1 + cnts t.kids := by
 have h1 := h.wtl
 rw [IN] at h1
 have e : (bt t).text = t.text := rfl
 rw [e] at h1
 exact ⟨by omega, Z1 (bt t)⟩
theorem wd {n : Nat} (h : n < 4611686018427387904) : IntKind.wrap .i64 (((n + 1 : Nat) : Int) - 1) = (n : Int) := by rw [w_id (by omega)]; omega
inductive LF where
 | tx (s : ByteArray) | br (n w : Int) | ln
mutual
def lv : Int → BoxD → List LF
 | w, .mk k t n l => bif k == 0 then (bif t.size == 0 then [] else [.tx t]) else bif k == 1 then [.br n w] else bif k == 2 then [.ln] else bif k == 4 then lvs 1 l else lvs w l
def lvs : Int → List BoxD → List LF
 | _, [] => []
 | w, b :: l => lv w b ++ lvs w l
end
abbrev At := BoxD × Int × Int
mutual
def fl : Int → Int → BoxD → List At
 | d, w, .mk k t n l => bif k == 0 then (bif t.size == 0 then [] else [(.mk k t n l, d, w)]) else bif k == 1 || k == 2 || k == 4 then [(.mk k t n l, d, w)] else bif k == 5 then fls (d + n) w l else fls d w l
def fls : Int → Int → List BoxD → List At
 | _, _, [] => []
 | d, w, b :: l => fl d w b ++ fls d w l
end
theorem Cq (w : Int) : ∀ b : BoxD, lv w b = bif b.kind == 0 then (bif b.text.size == 0 then [] else [.tx b.text]) else bif b.kind == 1 then [.br b.n w] else bif b.kind == 2 then [.ln] else bif b.kind == 4 then lvs 1 b.kids else lvs w b.kids
 | .mk _ _ _ _ => by simp only [lv, BoxD.kids, BoxD.text, BoxD.kind, BoxD.n]
theorem IR (d w : Int) : ∀ b : BoxD, fl d w b = bif b.kind == 0 then (bif b.text.size == 0 then [] else [(b, d, w)]) else bif b.kind == 1 || b.kind == 2 || b.kind == 4 then [(b, d, w)] else bif b.kind == 5 then fls (d + b.n) w b.kids else fls d w b.kids
 | .mk _ _ _ _ => by simp only [fl, BoxD.kids, BoxD.text, BoxD.kind, BoxD.n]
theorem IS (d w : Int) : ∀ (a b : List BoxD), fls d w (a ++ b) = fls d w a ++ fls d w b
 | [], b => by simp [fls]
 | t :: a, b => by simp only [List.cons_append, fls, IS d w a b, List.append_assoc]
def lvA (l : List At) : List LF := l.flatMap fun x => lv x.2.2 x.1
def msA : List At → Nat
 | [] => 0
 | x :: l => cnt x.1 + msA l
theorem Rl (a b : List At) : lvA (a ++ b) = lvA a ++ lvA b := List.flatMap_append
theorem YD : ∀ (a b : List At), msA (a ++ b) = msA a + msA b
 | [], b => by simp [msA]
 | t :: a, b => by simp only [List.cons_append, msA, YD a b]; omega
theorem Ds : ∀ (N : Nat) (b : BoxD) (d w : Int), cnt b ≤ N → msA (fl d w b) ≤ cnt b ∧ lvA (fl d w b) = lv w b
 | 0, b, _, _, h => by have := ZZ b; omega
 | N + 1, b, d, w, h => by
  have key : ∀ (l : List BoxD) (d w : Int), (∀ x ∈ l, cnt x ≤ N) → msA (fls d w l) ≤ cnts l ∧ lvA (fls d w l) = lvs w l := by
   intro l d w
   induction l with
   | nil => intro _; exact ⟨by simp [fls, msA], by simp [fls, lvA, lvs]⟩
   | cons x l ih =>
    intro hl
    obtain ⟨h1, h2⟩ := Ds N x d w (hl x (by simp))
    obtain ⟨h3, h4⟩ := ih (fun y hy => hl y (by simp [hy]))
    simp only [fls, cnts, lvs, YD, Rl, h2, h4]
    exact ⟨by omega, trivial⟩
  have hk : ∀ x ∈ b.kids, cnt x ≤ N := fun x hx => by have := Z8 hx; have := Z1 b; omega
  have hone : msA [(b, d, w)] ≤ cnt b ∧ lvA [(b, d, w)] = lv w b := ⟨by simp [msA], by simp [lvA]⟩
  have hce := Z1 b
  have e1 := IR d w b
  have e2 := Cq w b
  by_cases k0 : b.kind = 0
  ·rw [show (b.kind == 0) = true by rw [k0]; rfl] at e1 e2
   simp only [cond_true] at e1 e2
   cases hs : b.text.size == 0 with
   | true => rw [hs] at e1 e2; rw [e1, e2]; exact ⟨by simp [msA], rfl⟩
   | false => rw [hs] at e1; rw [e1]; exact hone
  rw [Zh k0] at e1 e2
  simp only [cond_false] at e1 e2
  by_cases k1 : b.kind = 1
  ·rw [e1, show (b.kind == 1) = true by rw [k1]; rfl]; exact hone
  by_cases k2 : b.kind = 2
  ·rw [e1, show (b.kind == 2) = true by rw [k2]; rfl, Bool.or_true]; exact hone
  by_cases k4 : b.kind = 4
  ·rw [e1, show (b.kind == 4) = true by rw [k4]; rfl, Bool.or_true]; exact hone
  rw [Zh k1, Zh k2, Zh k4] at e1 e2
  simp only [Bool.or_false, cond_false] at e1 e2
  rw [e1, e2]
  cases b.kind == 5 with
  | true =>
   obtain ⟨h1, h2⟩ := key b.kids (d + b.n) w hk
   exact ⟨by simp only [cond_true]; omega, h2⟩
  | false =>
   obtain ⟨h1, h2⟩ := key b.kids d w hk
   exact ⟨by simp only [cond_false]; omega, h2⟩
theorem Fm : ∀ (l : List BoxD) (d w : Int), msA (fls d w l) ≤ cnts l ∧ lvA (fls d w l) = lvs w l
 | [], _, _ => ⟨by simp [fls, msA], by simp [fls, lvA, lvs]⟩
 | x :: l, d, w => by
  obtain ⟨h1, h2⟩ := Ds _ x d w (Nat.le_refl _)
  obtain ⟨h3, h4⟩ := Fm l d w
  simp only [fls, cnts, lvs, YD, Rl, h2, h4]
  exact ⟨by omega, trivial⟩
noncomputable def ct (s : ByteArray) : Int × Bool := match F47 s with
 | some (.k0 a _ c) => ((a.size : Int), c)
 | none => (0, false)
noncomputable def lix (s : ByteArray) : Int := (Rz ⟨0, s, 0, [], 0, 0, 0⟩).getD (-1)
noncomputable def YC (wd : Int) : List LF → Int → Bool
 | [], c => decide (c ≤ wd)
 | .tx s :: l, c => decide (c ≤ wd) && (bif (ct s).2 then decide (c + (ct s).1 ≤ wd) else YC wd l (c + (ct s).1))
 | .br n w :: l, c => decide (c ≤ wd) && (bif w == 0 then true else YC wd l (c + n))
 | .ln :: _, c => decide (c ≤ wd)
noncomputable def txo (s : ByteArray) (d : Int) (o : List UInt8) (fr : Bool) : List UInt8 :=
 bif s.size == 0 then o else (o ++ (bif fr && s.data.toList.head? != some 10 then List.replicate d.toNat 32 else [])) ++ s.data.toList
noncomputable def txc (s : ByteArray) (d col : Int) : Int :=
 bif s.size == 0 then col else bif lix s == (s.size : Int) - 1 then d else bif decide (lix s ≥ 0) then (s.size : Int) - 1 - lix s else col + (s.size : Int)
noncomputable def txf (s : ByteArray) (fr : Bool) : Bool := bif s.size == 0 then fr else lix s == (s.size : Int) - 1
noncomputable def gw (wd w : Int) (b : BoxD) (l : List LF) (col : Int) : Int := bif w == 1 || (!(hasL b) && YC wd (lvs 1 b.kids ++ l) col) then 1 else 0
noncomputable def R (wd : Int) : List At → List UInt8 → Int → Bool → List UInt8
 | [], o, _, _ => o
 | x :: l, o, col, fr =>
  if 1048576 < o.length then o
  else if x.1.kind = 0 then R wd l (txo x.1.text x.2.1 o fr) (txc x.1.text x.2.1 col) (txf x.1.text fr)
  else if x.1.kind = 1 then (if x.2.2 = 0 then R wd l (o ++ [10]) x.2.1 true else R wd l (o ++ List.replicate x.1.n.toNat 32) (col + x.1.n) fr)
  else if x.1.kind = 2 then R wd l (o ++ [10]) x.2.1 true
  else R wd (fls x.2.1 (gw wd x.2.2 x.1 (lvA l) col) x.1.kids ++ l) o col fr
 termination_by l => msA l
 decreasing_by
  all_goals simp only [msA]
  ·have := ZZ x.1; omega
  ·have := ZZ x.1; omega
  ·have := ZZ x.1; omega
  ·have := ZZ x.1; omega
  ·rw [YD]
   have := (Fm x.1.kids x.2.1 (gw wd x.2.2 x.1 (lvA l) col)).1
   have := Z1 x.1
   omega
theorem Cr (wd : Int) (o : List UInt8) (col : Int) (fr : Bool) : R wd [] o col fr = o := by rw [R]
theorem Bh {wd : Int} {l : List At} {o : List UInt8} {col : Int} {fr : Bool} (h : 1048576 < o.length) : R wd l o col fr = o := by
 cases l with
 | nil => exact Cr ..
 | cons x l => rw [R, if_pos h]
section
variable {wd : Int} {l : List At} {o : List UInt8} {col : Int} {fr : Bool} {b : BoxD} {d w : Int}
theorem R_tx (h : ¬ 1048576 < o.length) (hk : b.kind = 0) : R wd ((b, d, w) :: l) o col fr = R wd l (txo b.text d o fr) (txc b.text d col) (txf b.text fr) := by
 rw [R, if_neg h, if_pos hk]
theorem Bi (h : ¬ 1048576 < o.length) (hk : b.kind = 1) (hw : w = 0) : R wd ((b, d, w) :: l) o col fr = R wd l (o ++ [10]) d true := by
 rw [R, if_neg h, if_neg (by rw [hk]; decide), if_pos hk, if_pos hw]
theorem Bj (h : ¬ 1048576 < o.length) (hk : b.kind = 1) (hw : ¬ w = 0) : R wd ((b, d, w) :: l) o col fr = R wd l (o ++ List.replicate b.n.toNat 32) (col + b.n) fr := by
 rw [R, if_neg h, if_neg (by rw [hk]; decide), if_pos hk, if_neg hw]
theorem R_ln (h : ¬ 1048576 < o.length) (hk : b.kind = 2) : R wd ((b, d, w) :: l) o col fr = R wd l (o ++ [10]) d true := by
 rw [R, if_neg h, if_neg (by rw [hk]; decide), if_neg (by rw [hk]; decide), if_pos hk]
theorem R_gr (h : ¬ 1048576 < o.length) (hk : b.kind = 4) : R wd ((b, d, w) :: l) o col fr = R wd (fls d (gw wd w b (lvA l) col) b.kids ++ l) o col fr := by
 rw [R, if_neg h, if_neg (by rw [hk]; decide), if_neg (by rw [hk]; decide), if_neg (by rw [hk]; decide)]
end
theorem l49x (t : ThingD) : ∀ k : Nat, k ≤ 4000000 → k ≤ t.text.size → ∃ v : Int, (runL (fun s => Xm t s) ((k : Int) - 1) = some (.k0 v) ∧ 0 ≤ v ∧ v < k) ∨ runL (fun s => Xm t s) ((k : Int) - 1) = some .k1
 | 0, _, _ => ⟨0, .inr (ZA rfl)⟩
 | k + 1, hb, h => by
  have hx : t.text.data.toList[k]? = some (t.text.data.toList[k]'(by rw [U1]; omega)) := geg _
  generalize t.text.data.toList[k]'(by rw [U1]; omega) = x at hx
  have e1 : ((k + 1 : Nat) : Int) - 1 = (k : Int) := by omega
  have ew : IntKind.wrap .i64 ((k : Int) - 1) = (k : Int) - 1 := w_id (by omega)
  rw [e1]
  cases hc : ((x.toNat : Int) == 10) with
  | true =>
   refine ⟨k, .inl ⟨ZA ?_, by omega, by omega⟩⟩
   simp only [Xm, decide_eq_true (show (k : Int) ≥ 0 by omega), cond_true, Zt, hx, bsm, hc]
  | false =>
   obtain ⟨v, hv⟩ := l49x t k (by omega) (by omega)
   have hn : runL (fun s => Xm t s) (k : Int) = runL (fun s => Xm t s) ((k : Int) - 1) := ZX (by
    simp only [Xm, decide_eq_true (show (k : Int) ≥ 0 by omega), cond_true, Zt, hx, bsm, hc, cond_false, ew])
   rw [hn]
   rcases hv with ⟨h1, h2, h3⟩ | h1
   ·exact ⟨v, .inl ⟨h1, h2, by omega⟩⟩
   ·exact ⟨v, .inr h1⟩
theorem Fn (t : ThingD) (h : t.text.size ≤ 4000000) : Rz t = some (lix t.text) ∧ -1 ≤ lix t.text ∧ lix t.text ≤ (t.text.size : Int) - 1 := by
 have e : Rz ⟨0, t.text, 0, [], 0, 0, 0⟩ = Rz t := rfl
 unfold lix
 rw [e]
 obtain ⟨v, hv⟩ := l49x t t.text.size h (Nat.le_refl _)
 have hw : IntKind.wrap .i64 ((t.text.size : Int) - 1) = (t.text.size : Int) - 1 := w_id (by omega)
 unfold Rz HZ
 rw [hw]
 rcases hv with ⟨h1, h2, h3⟩ | h1
 ·rw [h1]; exact ⟨rfl, by show -1 ≤ v; omega, by show v ≤ _; omega⟩
 ·rw [h1]; exact ⟨rfl, by show (-1 : Int) ≤ -1; omega, by show (-1 : Int) ≤ _; omega⟩
theorem is10 (x : UInt8) : ((x.toNat : Int) != 10) = (some x != some (10 : UInt8)) := by
 by_cases h : x = 10
 ·subst h; rfl
 ·have h1 : ¬ x.toNat = 10 := fun e => h (UInt8.toNat_inj.1 e)
  have h2 : ((x.toNat : Int) == 10) = false := by simpa using fun e => h1 (by omega)
  have h3 : (some x == some (10 : UInt8)) = false := by simpa using h
  simp only [bne, h2, h3]
theorem q32x {row : List Int} {len : Nat} {o : List UInt8} (t : ThingD) (v : Bool) (gen : Nat) (col : Int) (fresh : Bool) (h : Buf row len o) (hd : 0 ≤ t.depth ∧ t.depth ≤ 400000) (hs : t.text.size ≤ 4000) (hb : len ≤ 2000000) (hc : 0 ≤ col ∧ col ≤ 5000000) :
  ∃ fl g' len' row', IA t v gen len col fresh row = some (.k0 fl g' len' (txc t.text t.depth col) (txf t.text fresh) row') ∧ Buf row' len' (txo t.text t.depth o fresh) ∧ len' ≤ len + 410000 := by
 obtain ⟨hx, hx1, hx2⟩ := Fn t (by omega)
 have w1 : IntKind.wrap .i64 ((t.text.size : Int) - 1) = (t.text.size : Int) - 1 := w_id (by omega)
 have w2 : IntKind.wrap .i64 ((t.text.size : Int) - 1 - lix t.text) = (t.text.size : Int) - 1 - lix t.text := w_id (by omega)
 have w3 : IntKind.wrap .i64 (col + (t.text.size : Int)) = col + (t.text.size : Int) := w_id (by omega)
 have pick : ∀ (f : Bool) (g l : Nat) (r : List Int), ¬ t.text.size = 0 → (bif lix t.text == (t.text.size : Int) - 1 then some (R_F32_4.k0 f g l t.depth (lix t.text == (t.text.size : Int) - 1) r) else bif decide (lix t.text ≥ 0) then some (R_F32_4.k0 f g l ((t.text.size : Int) - 1 - lix t.text) (lix t.text == (t.text.size : Int) - 1) r) else some (R_F32_4.k0 f g l (col + (t.text.size : Int)) (lix t.text == (t.text.size : Int) - 1) r)) =
   some (R_F32_4.k0 f g l (txc t.text t.depth col) (txf t.text fresh) r) := by
  intro f g l r h0
  have hz : (t.text.size == 0) = false := by simpa using h0
  unfold txc txf
  rw [hz]
  cases lix t.text == (t.text.size : Int) - 1 <;> cases decide (lix t.text ≥ 0) <;> rfl
 unfold IA
 rw [Yw]
 by_cases he : t.text = (⟨([] : List UInt8).toArray⟩ : ByteArray)
 ·have hz : (t.text.size == 0) = true := by rw [he]; rfl
  rw [decide_eq_true he, cond_true]
  unfold txo txc txf
  rw [hz]
  exact ⟨_, _, _, _, rfl, h, by omega⟩
 ·have h0 : ¬ t.text.size = 0 := fun h0 => he (emp h0)
  have hz : (t.text.size == 0) = false := by simpa using h0
  rw [decide_eq_false he, cond_false]
  obtain ⟨y, hy, hy2⟩ : ∃ y, getI t.text.data.toList 0 = some y ∧ t.text.data.toList.head? = some y := by
   have : t.text.data.toList[0]? = some (t.text.data.toList[0]'(by rw [U1]; omega)) := geg _
   exact ⟨_, (Zt _ 0).trans this, by rw [List.head?_eq_getElem?]; exact this⟩
  have out : (bif fresh then bif ((y.toNat : Int) != 10) then true else false else false) = (fresh && t.text.data.toList.head? != some 10) := by
   rw [hy2, is10]
   cases fresh <;> cases (some y != some (10 : UInt8)) <;> rfl
  have ho : txo t.text t.depth o fresh = (o ++ (bif (bif fresh then bif ((y.toNat : Int) != 10) then true else false else false) then List.replicate t.depth.toNat 32 else [])) ++ t.text.data.toList := by
   unfold txo; rw [hz, out]; rfl
  rw [ho]
  cases hfr : fresh with
  | false =>
   obtain ⟨n1, f1, g1, r1, k1, k2⟩ := Dr t v gen h (by omega)
   rw [cond_false, k1]
   simp only [bsm, hx, QO, w1, w2, w3]
   rw [hfr] at pick
   rw [pick _ _ _ _ h0]
   exact ⟨_, _, _, _, rfl, by simpa using k2, by omega⟩
  | true =>
   rw [hfr] at pick
   rw [cond_true, hy]
   simp only [bsm]
   cases ((y.toNat : Int) != 10) with
   | false =>
    obtain ⟨n1, f1, g1, r1, k1, k2⟩ := Dr t v gen h (by omega)
    rw [cond_false, k1]
    simp only [bsm, hx, QO, w1, w2, w3]
    rw [pick _ _ _ _ h0]
    exact ⟨_, _, _, _, rfl, by simpa using k2, by omega⟩
   | true =>
    obtain ⟨s, e1, e2, e3⟩ := q35 hd
    have e4 : s.data.toList = List.replicate t.depth.toNat 32 := by
     have h1 : rpOk sp1 t.depth = true := decide_eq_true ⟨hd.1, by omega, by show ((1 : Nat) : Int) * t.depth ≤ _; omega⟩
     unfold F35 at e1
     rw [h1] at e1
     rw [← Option.some.inj e1]
     show (Lib.repeatL [32] t.depth.toNat).toArray.toList = _
     rw [List.toList_toArray, Gv]
    obtain ⟨n0, f0, g0, r0, m1, m2⟩ := Cp s v gen h (by omega)
    obtain ⟨n1, f1, g1, r1, k1, k2⟩ := Dr t f0 g0 m2 (by omega)
    rw [cond_true, e1]
    simp only [bsm]
    rw [m1]
    simp only [bsm, QO, k1, hx, w1, w2, w3]
    rw [pick _ _ _ _ h0]
    exact ⟨_, _, _, _, rfl, by rw [e4] at k2; exact k2, by omega⟩
theorem Dt (s : ByteArray) (i j : Nat) : (s.extract i j).data.toList = (s.data.toList.take j).drop i := by
 simp [List.drop_take]
theorem Du (s : ByteArray) (h : s.size ≤ 4000000) : ∃ a b, F47 s = some (.k0 a b (ct s).2) ∧ (a.size : Int) = (ct s).1 ∧ a.size ≤ s.size ∧ (Wh s = false → (ct s).2 = false ∧ (ct s).1 = (s.size : Int)) := by
 have g0 : getI (⟨([10] : List UInt8).toArray⟩ : ByteArray).data.toList 0 = some (10 : UInt8) := rfl
 have e1 : (Int.toNat (((10 : UInt8).toNat : Nat) : Int)).toUInt8 = 10 := by decide
 have key : ∃ a b c, F47 s = some (.k0 a b c) ∧ a.size ≤ s.size ∧ (Wh s = false → c = false ∧ a.size = s.size) := by
  unfold F47 F55 Gd
  by_cases he : (⟨([10] : List UInt8).toArray⟩ : ByteArray) = s
  ·rw [Yw, decide_eq_true he]
   subst he
   exact ⟨_, _, _, rfl, by decide, fun hn => by revert hn; decide⟩
  ·rw [Yw, decide_eq_false he]
   simp only [cond_false, g0, bsm, Gb, e1, Go.Lib.firstIdx_eq]
   rcases PE 10 s.data.toList with ⟨h1, h2⟩ | ⟨p, r, h1, h2, h3⟩
   ·rw [h1]
    exact ⟨_, _, _, rfl, Nat.le_refl _, fun _ => ⟨rfl, rfl⟩⟩
   ·have hl := congrArg List.length h1
    rw [U1, lap, lcn] at hl
    rw [h3]
    simp only [decide_eq_true (show (p.length : Int) ≥ 0 by omega), cond_true, w_S (show p.length < 4611686018427387904 by omega),
     show Ub 0 (p.length : Int) s.size = true from decide_eq_true ⟨by omega, by omega, by omega⟩, show Ub ((p.length + 1 : Nat) : Int) (s.size : Int) s.size = true from decide_eq_true ⟨by omega, by omega, by omega⟩, bsm]
    refine ⟨_, _, _, rfl, ?_, fun hn => ?_⟩
    ·rw [← U1, Dt, List.length_drop, List.length_take, U1]; simp; omega
    ·unfold Wh at hn
     exact absurd (by rw [h1]; simp) (of_decide_eq_false hn)
 obtain ⟨a, b, c, k1, k2, k3⟩ := key
 have e : ct s = ((a.size : Int), c) := by unfold ct; rw [k1]
 rw [e]
 exact ⟨a, b, k1, rfl, k2, fun hn => ⟨(k3 hn).1, by rw [(k3 hn).2]⟩⟩
theorem Fo {s : ByteArray} (h : s.size = 0) : ct s = (0, false) := by
 obtain ⟨a, b, h1, h2, h3, h4⟩ := Du s (by omega)
 have hn : Wh s = false := by unfold Wh; rw [Bg h]; rfl
 obtain ⟨h5, h6⟩ := h4 hn
 exact Prod.ext (by rw [h6, h]; rfl) h5
abbrev en (t : ThingD) : At := (bt t, t.depth, t.way)
structure Stq (S : List Int) (Ls : List Bool) (row : List ThingD) (len : Nat) (es : List At) : Prop where
 le : len ≤ row.length
 ok : ∀ t ∈ row.take len, TOk S Ls t
 is : ((row.take len).map en).reverse = es
abbrev Rm (d w : Int) (l : List BoxD) : List At := l.map fun x => (x, d, w)
theorem Ui (d w : Int) : ∀ l : List BoxD, msA (Rm d w l) = cnts l ∧ lvA (Rm d w l) = lvs w l
 | [] => ⟨rfl, by simp [lvA, lvs]⟩
 | x :: l => by
  obtain ⟨h1, h2⟩ := Ui d w l
  refine ⟨by simp only [cnts]; show cnt x + msA (Rm d w l) = _; rw [h1], ?_⟩
  show lv w x ++ lvA (Rm d w l) = _
  rw [h2]
  simp only [lvs]
section
variable {S : List Int} {Ls : List Bool} {row : List ThingD} {len : Nat} {es : List At}
theorem IT : ∀ l : List At, l.length ≤ msA l
 | [] => by simp
 | x :: l => by have := IT l; have := ZZ x.1; simp only [lcn, msA]; omega
theorem Stq.len_le (h : Stq S Ls row len es) : len = es.length ∧ len ≤ msA es := by
 have h1 := congrArg List.length h.is
 rw [List.length_reverse, List.length_map, List.length_take] at h1
 have := h.le
 have := IT es
 omega
theorem Stq.pop {n : Nat} (h : Stq S Ls row (n + 1) es) : ∃ t es', es = en t :: es' ∧ row[n]? = some t ∧ TOk S Ls t ∧ Stq S Ls row n es' := by
 have hx : row[n]? = some (row[n]'(by have := h.le; omega)) := geg _
 have ht : row.take (n + 1) = row.take n ++ [row[n]'(by have := h.le; omega)] := List.take_succ_eq_append_getElem (by have := h.le; omega)
 generalize row[n]'(by have := h.le; omega) = t at hx ht
 have h1 := h.is
 have h2 := h.ok t (by rw [ht]; simp)
 rw [ht] at h1
 refine ⟨t, _, by rw [← h1]; simp, hx, h2, ⟨by have := h.le; omega, fun y hy => h.ok y (by rw [ht]; simp [hy]), rfl⟩⟩
theorem Stq.push {d w : Int} {t : ThingD} {row' : List ThingD} {len' : Nat} (h : Stq S Ls row len es) (hp : Put S Ls d w t row len row' len') : Stq S Ls row' len' (Rm d w t.kids ++ es) := by
 obtain ⟨K, k1, k2, k3⟩ := hp.ex
 refine ⟨hp.le, fun y hy => ?_, ?_⟩
 ·rw [k1] at hy
  rcases List.mem_append.1 hy with hy | hy
  ·exact h.ok y hy
  ·exact (k3 y hy).1
 ·have e : K.map en = (K.map bt).map fun x => (x, d, w) := by
   rw [List.map_map]
   refine List.map_congr_left (fun x hx => ?_)
   obtain ⟨_, p2, p3⟩ := k3 x hx
   show (bt x, x.depth, x.way) = (bt x, d, w)
   rw [p2, p3]
  rw [k1, List.map_append, e, k2, List.reverse_append, ← List.map_reverse, List.reverse_reverse, h.is]
theorem Stq.nil : Stq S Ls [] 0 [] := ⟨Nat.le_refl _, fun t ht => by simp at ht, rfl⟩
end
theorem Gw {wd c : Int} (h : ¬ c ≤ wd) : ∀ l, YC wd l c = false
 | [] => decide_eq_false h
 | .tx s :: l => by unfold YC; rw [decide_eq_false h]; rfl
 | .br n w :: l => by unfold YC; rw [decide_eq_false h]; rfl
 | .ln :: l => decide_eq_false h
def J36 (S : List Int) (Ls : List Bool) (a4 : List ThingD) (a8 : Nat) (wd : Int) (T : Bool) (k : Nat) (s : Int × List ThingD × Nat × List ThingD × Nat × Int) : Prop :=
 ∃ ei eo m, Stq S Ls s.2.2.2.1 s.2.2.2.2.1 ei ∧ Stq S Ls a4 m eo ∧ m ≤ a8 ∧ s.2.2.2.2.2 = (m : Int) ∧ msA ei + msA eo = k ∧ k ≤ 4000 ∧ (YC wd (lvA ei ++ lvA eo) s.1 = T ∧ 0 ≤ s.1 ∧ s.1 + 5000 * k ≤ 30000000)
def P36 (wd : Int) (T : Bool) : E_L36_0_3 → Prop
 | .k0 x _ _ _ _ _ _ _ _ _ _ _ _ => decide (x ≤ wd) = T
 | .k1 x _ _ _ _ _ => decide (x ≤ wd) = T
 | .k2 x _ _ _ _ _ _ _ _ _ _ _ _ => decide (x ≤ wd) = T
 | .k3 x _ _ _ _ _ => decide (x ≤ wd) = T
theorem L1 {S : List Int} {Ls : List Bool} {t : ThingD} (h : TOk S Ls t) {wd c : Int} {l : List LF} {T : Bool} (hc : c ≤ wd) (hT : YC wd (lv t.way (bt t) ++ l) c = T) :
  (t.kind = 0 → (ct t.text).2 = true → decide (c + (ct t.text).1 ≤ wd) = T) ∧ (t.kind = 0 → (ct t.text).2 = false → YC wd l (c + (ct t.text).1) = T) ∧
  (t.kind = 1 → t.way = 0 → T = true) ∧ (t.kind = 1 → ¬ t.way = 0 → YC wd l (c + t.n) = T) ∧ (t.kind = 2 → T = true) ∧ (t.kind = 4 → YC wd (lvs 1 t.kids ++ l) c = T) ∧
  (¬ t.kind = 0 → ¬ t.kind = 1 → ¬ t.kind = 2 → ¬ t.kind = 4 → YC wd (lvs t.way t.kids ++ l) c = T) := by
 have e := Cq t.way (bt t)
 have e1 : (bt t).text = t.text := rfl
 have e2 : (bt t).kids = t.kids := rfl
 have e3 : (bt t).kind = t.kind := rfl
 have e4 : (bt t).n = t.n := rfl
 rw [e1, e2, e3, e4] at e
 rw [e] at hT
 refine ⟨fun k0 c1 => ?_, fun k0 c1 => ?_, fun k1 w0 => ?_, fun k1 w0 => ?_, fun k2 => ?_, fun k4 => ?_, fun k0 k1 k2 k4 => ?_⟩
 ·rw [show (t.kind == 0) = true by rw [k0]; rfl, cond_true] at hT
  cases hs : t.text.size == 0 with
  | true => rw [Fo (by simpa using hs)] at c1; cases c1
  | false =>
   rw [hs, cond_false] at hT
   have hT : (decide (c ≤ wd) && (bif (ct t.text).2 then decide (c + (ct t.text).1 ≤ wd) else YC wd l (c + (ct t.text).1))) = T := hT
   rw [c1, decide_eq_true hc] at hT
   exact hT
 ·rw [show (t.kind == 0) = true by rw [k0]; rfl, cond_true] at hT
  cases hs : t.text.size == 0 with
  | true =>
   rw [hs, cond_true] at hT
   rw [Fo (by simpa using hs), Int.add_zero]
   exact hT
  | false =>
   rw [hs, cond_false] at hT
   have hT : (decide (c ≤ wd) && (bif (ct t.text).2 then decide (c + (ct t.text).1 ≤ wd) else YC wd l (c + (ct t.text).1))) = T := hT
   rw [c1, decide_eq_true hc] at hT
   exact hT
 ·rw [k1, show ((1 : Int) == 0) = false from rfl, show ((1 : Int) == 1) = true from rfl, cond_false, cond_true] at hT
  have hT : (decide (c ≤ wd) && (bif t.way == 0 then true else YC wd l (c + t.n))) = T := hT
  rw [decide_eq_true hc, w0] at hT
  exact hT.symm
 ·rw [k1, show ((1 : Int) == 0) = false from rfl, show ((1 : Int) == 1) = true from rfl, cond_false, cond_true] at hT
  have hT : (decide (c ≤ wd) && (bif t.way == 0 then true else YC wd l (c + t.n))) = T := hT
  rw [decide_eq_true hc, Zh w0] at hT
  exact hT
 ·rw [k2, show ((2 : Int) == 0) = false from rfl, show ((2 : Int) == 1) = false from rfl, show ((2 : Int) == 2) = true from rfl, cond_false, cond_false, cond_true] at hT
  have hT : decide (c ≤ wd) = T := hT
  rw [decide_eq_true hc] at hT
  exact hT.symm
 ·rw [k4, show ((4 : Int) == 0) = false from rfl, show ((4 : Int) == 1) = false from rfl, show ((4 : Int) == 2) = false from rfl, show ((4 : Int) == 4) = true from rfl, cond_false, cond_false, cond_false, cond_true] at hT
  exact hT
 ·rw [Zh k0, Zh k1, Zh k2, Zh k4, cond_false, cond_false, cond_false, cond_false] at hT
  exact hT
theorem s36x {S : List Int} {Ls : List Bool} {a4 : List ThingD} {a8 : Nat} {a11 : Int} {T : Bool} (hS : S.length ≤ 4000) (h8 : a8 ≤ 4000) (k : Nat) (s : Int × List ThingD × Nat × List ThingD × Nat × Int) (hi : J36 S Ls a4 a8 a11 T k s) :
  ∃ r, VE a4 a8 S a11 s.1 s.2.1 s.2.2.1 s.2.2.2.1 s.2.2.2.2.1 s.2.2.2.2.2 = some r ∧ (∀ s', r = .inr s' → ∃ k', k' < k ∧ J36 S Ls a4 a8 a11 T k' s') ∧ ∀ e, r = .inl e → P36 a11 T e := by
 obtain ⟨v1, v2, v3, v4, v5, v6⟩ := s
 obtain ⟨bi, bo, m, h1, h2, h3, h4, h5, h6, h7, h9, h10⟩ := hi
 dsimp only at h1 h2 h3 h4 h5 h6 h7 h9 h10 ⊢
 subst h4
 unfold VE
 by_cases c1 : ¬ v1 ≤ a11
 ·rw [decide_eq_false c1]
  exact ⟨_, rfl, fun s' h => (by cases h), fun e h => (by cases h; show decide (v1 ≤ a11) = T; rw [decide_eq_false c1, ← h7, Gw c1])⟩
 have c1 := Decidable.not_not.1 c1
 rw [decide_eq_true c1, cond_true]
 match v5, h1 with
 | n + 1, h1 =>
  obtain ⟨t, bs', rfl, p2, p3, p5⟩ := h1.pop
  have hl := p5.len_le
  have hct := p3.txt
  have hn : 0 ≤ t.n ∧ t.n ≤ 100 := p3.ok.nn
  simp only [msA] at h5
  obtain ⟨f1, f2, f3, f4, f5, f6, f7⟩ := L1 p3 c1 (show YC a11 (lv t.way (bt t) ++ (lvA bs' ++ lvA bo)) v1 = T by rw [← List.append_assoc]; exact h7)
  have hpop : OO a4 a8 v4 (n + 1) (m : Int) = some (.k0 t.kind t.text t.n t.kids t.depth t.way t.at_) := by
   unfold OO
   simp only [decide_eq_true (show ((n + 1 : Nat) : Int) > 0 by omega), cond_true, wd (show n < 4611686018427387904 by omega), Ur, if_pos (Nat.lt_succ_self n), bsm, p2,
    show slOk (n : Int) (n + 1) v4.length = true from decide_eq_true ⟨by omega, by have := p5.le; omega, h1.le⟩]
  rw [hpop]
  simp only [bsm, wd (show n < 4611686018427387904 by omega), Int.toNat_natCast]
  have out : ∀ (v1' : Int), v1 ≤ v1' → v1' ≤ v1 + 4000 → YC a11 (lvA bs' ++ lvA bo) v1' = T → ∃ k', k' < k ∧ J36 S Ls a4 a8 a11 T k' (v1', v2, v3, v4, n, (m : Int)) :=
   fun v1' g1 g2 g3 => ⟨_, by omega, bs', bo, m, p5, h2, h3, rfl, rfl, by omega, g3, by dsimp only; omega, by dsimp only; omega⟩
  have psh : ∀ w : Int, YC a11 (lvs w t.kids ++ (lvA bs' ++ lvA bo)) v1 = T → ∃ g' len' row', SV v3 n t 0 w S v4 = some (.k0 g' len' row') ∧ ∃ k', k' < k ∧ J36 S Ls a4 a8 a11 T k' (v1, v2, g', row', len', (m : Int)) := fun w g3 => by
   obtain ⟨g', len', row', k1, k2⟩ := Cm (w := w) (d := 0) v3 p3 hS ⟨by omega, by have := p3.dep; omega⟩ p5.le (by omega)
   obtain ⟨q1, q2⟩ := Ui 0 w t.kids
   refine ⟨g', len', row', k1, _, ?_, Rm 0 w t.kids ++ bs', bo, m, p5.push k2, h2, h3, rfl, rfl, ?_, ?_, h9, ?_⟩
   ·rw [YD, q1]; omega
   ·rw [YD, q1]; omega
   ·rw [Rl, q2, List.append_assoc]; exact g3
   ·rw [YD, q1]; dsimp only; omega
  by_cases k0 : t.kind = 0
  ·obtain ⟨a, b, q1, q2, q3, _⟩ := Du t.text (by omega)
   rw [k0]
   simp only [show ((0 : Int) == 0) = true from rfl, cond_true, q1, bsm, q2, w_id (show -9223372036854775808 ≤ v1 + (ct t.text).1 ∧ v1 + (ct t.text).1 ≤ 9223372036854775807 by omega)]
   cases hc : (ct t.text).2 with
   | true => exact ⟨_, rfl, fun s' h => (by cases h), fun e h => (by cases h; exact f1 k0 hc)⟩
   | false => exact ⟨_, rfl, fun s' h => (by cases h; exact out _ (by omega) (by omega) (f2 k0 hc)), fun e h => (by cases h)⟩
  rw [Zh k0, cond_false]
  by_cases k1 : t.kind = 1
  ·rw [k1, show ((1 : Int) == 1) = true from rfl, cond_true]
   by_cases w0 : t.way = 0
   ·rw [w0]
    exact ⟨_, rfl, fun s' h => (by cases h), fun e h => (by cases h; show decide (v1 ≤ a11) = T; rw [decide_eq_true c1, f3 k1 w0])⟩
   ·rw [Zh w0, cond_false, w_id (by omega)]
    exact ⟨_, rfl, fun s' h => (by cases h; exact out _ (by omega) (by omega) (f4 k1 w0)), fun e h => (by cases h)⟩
  rw [Zh k1, cond_false]
  by_cases k2 : t.kind = 2
  ·rw [k2]
   exact ⟨_, rfl, fun s' h => (by cases h), fun e h => (by cases h; show decide (v1 ≤ a11) = T; rw [decide_eq_true c1, f5 k2])⟩
  rw [Zh k2, cond_false]
  by_cases k4 : t.kind = 4
  ·obtain ⟨g', len', row', q1, q2⟩ := psh 1 (f6 k4)
   rw [show (t.kind == 4) = true by rw [k4]; rfl, cond_true, q1]
   exact ⟨_, rfl, fun s' h => (by cases h; exact q2), fun e h => (by cases h)⟩
  ·obtain ⟨g', len', row', q1, q2⟩ := psh t.way (f7 k0 k1 k2 k4)
   rw [Zh k4, cond_false, q1]
   exact ⟨_, rfl, fun s' h => (by cases h; exact q2), fun e h => (by cases h)⟩
 | 0, h1 =>
  have hbi : bi = [] := enz h1.len_le.1.symm
  subst hbi
  match m, h2, h3 with
  | 0, h2, h3 =>
   have hbo : bo = [] := enz h2.len_le.1.symm
   subst hbo
   have hpop : OO a4 a8 v4 0 ((0 : Nat) : Int) = some .k1 := rfl
   rw [hpop]
   exact ⟨_, rfl, fun s' h => (by cases h), fun e h => (by cases h; exact h7)⟩
  | m + 1, h2, h3 =>
   obtain ⟨t, bs', rfl, p2, p3, p5⟩ := h2.pop
   have hl := h1.len_le
   have hct := p3.txt
   have hn : 0 ≤ t.n ∧ t.n ≤ 100 := p3.ok.nn
   simp only [msA] at h5
   obtain ⟨f1, f2, f3, f4, f5, f6, f7⟩ := L1 p3 c1 (show YC a11 (lv t.way (bt t) ++ lvA bs') v1 = T from h7)
   have hpop : OO a4 a8 v4 0 ((m + 1 : Nat) : Int) = some (.k2 t.kind t.text t.n t.kids t.depth t.way t.at_) := by
    unfold OO
    simp only [decide_eq_false (show ¬ ((0 : Nat) : Int) > 0 by omega), cond_false, Zh (show ¬ ((m + 1 : Nat) : Int) = 0 by omega), wd (show m < 4611686018427387904 by omega), Ur, if_pos (show m < a8 by omega), bsm, p2]
   rw [hpop]
   simp only [bsm, wd (show m < 4611686018427387904 by omega), Int.toNat_natCast]
   have out : ∀ (v1' : Int), v1 ≤ v1' → v1' ≤ v1 + 4000 → YC a11 (lvA bs') v1' = T → ∃ k', k' < k ∧ J36 S Ls a4 a8 a11 T k' (v1', v2, v3, v4, 0, (m : Int)) :=
    fun v1' g1 g2 g3 => ⟨msA bs', by omega, [], bs', m, h1, p5, by omega, rfl, Nat.zero_add _, by omega, g3, by dsimp only; omega, by dsimp only; omega⟩
   have psh : ∀ w : Int, YC a11 (lvs w t.kids ++ lvA bs') v1 = T → ∃ g' len' row', S2 v3 0 t 0 w S v4 = some (.k0 g' len' row') ∧ ∃ k', k' < k ∧ J36 S Ls a4 a8 a11 T k' (v1, v2, g', row', len', (m : Int)) := fun w g3 => by
    obtain ⟨g', len', row', k1, k2⟩ := Cn (w := w) (d := 0) v3 p3 hS ⟨by omega, by have := p3.dep; omega⟩ h1.le (by omega)
    obtain ⟨q1, q2⟩ := Ui 0 w t.kids
    refine ⟨g', len', row', k1, _, ?_, Rm 0 w t.kids ++ [], bs', m, h1.push k2, p5, by omega, rfl, rfl, ?_, ?_, h9, ?_⟩
    ·rw [YD, q1]; simp only [msA]; omega
    ·rw [YD, q1]; simp only [msA]; omega
    ·rw [Rl, q2, List.append_assoc]; exact g3
    ·rw [YD, q1]; simp only [msA]; omega
   by_cases k0 : t.kind = 0
   ·obtain ⟨a, b, q1, q2, q3, _⟩ := Du t.text (by omega)
    rw [k0]
    simp only [show ((0 : Int) == 0) = true from rfl, cond_true, q1, bsm, q2, w_id (show -9223372036854775808 ≤ v1 + (ct t.text).1 ∧ v1 + (ct t.text).1 ≤ 9223372036854775807 by omega)]
    cases hc : (ct t.text).2 with
    | true => exact ⟨_, rfl, fun s' h => (by cases h), fun e h => (by cases h; exact f1 k0 hc)⟩
    | false => exact ⟨_, rfl, fun s' h => (by cases h; exact out _ (by omega) (by omega) (f2 k0 hc)), fun e h => (by cases h)⟩
   rw [Zh k0, cond_false]
   by_cases k1 : t.kind = 1
   ·rw [k1, show ((1 : Int) == 1) = true from rfl, cond_true]
    by_cases w0 : t.way = 0
    ·rw [w0]
     exact ⟨_, rfl, fun s' h => (by cases h), fun e h => (by cases h; show decide (v1 ≤ a11) = T; rw [decide_eq_true c1, f3 k1 w0])⟩
    ·rw [Zh w0, cond_false, w_id (by omega)]
     exact ⟨_, rfl, fun s' h => (by cases h; exact out _ (by omega) (by omega) (f4 k1 w0)), fun e h => (by cases h)⟩
   rw [Zh k1, cond_false]
   by_cases k2 : t.kind = 2
   ·rw [k2]
    exact ⟨_, rfl, fun s' h => (by cases h), fun e h => (by cases h; show decide (v1 ≤ a11) = T; rw [decide_eq_true c1, f5 k2])⟩
   rw [Zh k2, cond_false]
   by_cases k4 : t.kind = 4
   ·obtain ⟨g', len', row', q1, q2⟩ := psh 1 (f6 k4)
    rw [show (t.kind == 4) = true by rw [k4]; rfl, cond_true, q1]
    exact ⟨_, rfl, fun s' h => (by cases h; exact q2), fun e h => (by cases h)⟩
   ·obtain ⟨g', len', row', q1, q2⟩ := psh t.way (f7 k0 k1 k2 k4)
    rw [Zh k4, cond_false, q1]
    exact ⟨_, rfl, fun s' h => (by cases h; exact q2), fun e h => (by cases h)⟩
def Bk : R_F36_3 → Bool
 | .k0 x _ _ _ _ _ _ _ _ _ _ _ _ => x
 | .k1 x _ _ _ _ _ => x
 | .k2 x _ _ _ _ _ _ _ _ _ _ _ _ => x
 | .k3 x _ _ _ _ _ => x
def fstE : E_L36_1_3 → Bool
 | .k0 x _ _ _ _ _ _ _ _ _ _ _ _ => x
 | .k1 x _ _ _ _ _ => x
 | .k2 x _ _ _ _ _ _ _ _ _ _ _ _ => x
 | .k3 x _ _ _ _ _ => x
theorem q36x {S : List Int} {Ls : List Bool} {t : ThingD} {row : List ThingD} {len : Nat} {es : List At} (a11 a12 : Int) (hT : TOk S Ls t) (hS : S.length ≤ 4000) (h : Stq S Ls row len es) (hc : cnt (bt t) + msA es ≤ 4000) (hcol : 0 ≤ a12 ∧ a12 ≤ 5000000) :
  ∃ e, IK t row len S a11 a12 = some e ∧ Bk e = YC a11 (lvs 1 t.kids ++ lvA es) a12 := by
 have hct := hT.txt
 have hl := h.len_le
 obtain ⟨q1, q2⟩ := Ui 0 1 t.kids
 obtain ⟨g', len', row', k1, k2⟩ := Co (w := 1) (d := 0) hT hS ⟨by omega, by have := hT.dep; omega⟩
 have hi : J36 S Ls row len a11 (YC a11 (lvs 1 t.kids ++ lvA es) a12) (cnts t.kids + msA es) (a12, [], g', row', len', (len : Int)) :=
  ⟨Rm 0 1 t.kids, es, len, by simpa using (Stq.nil (S := S) (Ls := Ls)).push k2, h, Nat.le_refl _, rfl, by rw [q1], by omega, by rw [q2], hcol.1, by dsimp only; omega⟩
 obtain ⟨e, m1, m2⟩ := Nr (fun k s => s36x (a11 := a11) hS (show len ≤ 4000 by omega) k s) _ _ _ (Nat.le_refl _) hi
 unfold IK
 rw [k1]
 simp only [bsm]
 have hz : ∃ y, VF a12 row len S a11 g' row' len' ((len : Nat) : Int) = some (.inl y) ∧ fstE y = YC a11 (lvs 1 t.kids ++ lvA es) a12 := by
  unfold VF
  rw [m1]
  cases e <;> exact ⟨_, rfl, m2⟩
 obtain ⟨y, hy, hf⟩ := hz
 rw [ZA hy]
 cases y <;> exact ⟨_, rfl, hf⟩
abbrev flE (x : At) : List At := fl x.2.1 x.2.2 x.1
def flS (l : List At) : List At := l.flatMap flE
theorem Dv (a b : List At) : flS (a ++ b) = flS a ++ flS b := List.flatMap_append
theorem L2 (d w : Int) : ∀ l : List BoxD, flS (Rm d w l) = fls d w l
 | [] => by simp [flS, fls]
 | x :: l => by
  show fl d w x ++ flS (Rm d w l) = _
  rw [L2 d w l]
  simp only [fls]
theorem IU : ∀ l : List At, lvA (flS l) = lvA l
 | [] => rfl
 | x :: l => by
  show lvA (fl x.2.1 x.2.2 x.1 ++ flS l) = lv x.2.2 x.1 ++ lvA l
  rw [Rl, (Ds _ x.1 _ _ (Nat.le_refl _)).2, IU l]
theorem Buf.len {row : List Int} {n : Nat} {o : List UInt8} (h : Buf row n o) : o.length = n := by
 have h1 := congrArg List.length h.is
 rw [List.length_take, List.length_map] at h1
 have := h.le
 omega
def J27 (S : List Int) (Ls : List Bool) (wi : Int) (T : List UInt8) (k : Nat) (s : Nat × List ThingD × Bool × Nat × Nat × Nat × Int × Bool × List Int) : Prop :=
 ∃ es o, Stq S Ls s.2.1 s.2.2.2.2.2.1 es ∧ Buf s.2.2.2.2.2.2.2.2 s.2.2.2.2.1 o ∧ R wi (flS es) o s.2.2.2.2.2.2.1 s.2.2.2.2.2.2.2.1 = T ∧ msA es = k ∧ (k ≤ 4000 ∧ s.2.2.2.2.1 ≤ 2000000) ∧
  (0 ≤ s.2.2.2.2.2.2.1 ∧ s.2.2.2.2.2.2.1 ≤ 400000 + (s.2.2.2.2.1 : Int))
def Q27 (T : List UInt8) (e : E_L27_0) : Prop := match e with
 | .k0 _ _ _ _ v5 _ _ _ v9 => Buf v9 v5 T ∧ v5 ≤ 2000000
theorem Cs (t : ThingD) (col : Int) (h : t.text.size ≤ 4000) (hd : 0 ≤ t.depth ∧ t.depth ≤ 400000) (hc : 0 ≤ col) : 0 ≤ txc t.text t.depth col ∧ (txc t.text t.depth col ≤ 400000 ∨ txc t.text t.depth col ≤ col + t.text.size) := by
 obtain ⟨_, h1, h2⟩ := Fn t (by omega)
 unfold txc
 cases t.text.size == 0 with
 | true => exact ⟨hc, .inr (by simp only [cond_true]; omega)⟩
 | false =>
  simp only [cond_false]
  cases lix t.text == (t.text.size : Int) - 1 with
  | true => exact ⟨hd.1, .inl hd.2⟩
  | false =>
   simp only [cond_false]
   by_cases h3 : lix t.text ≥ 0
   ·rw [decide_eq_true h3]; exact ⟨by simp only [cond_true]; omega, .inr (by simp only [cond_true]; omega)⟩
   ·rw [decide_eq_false h3]; exact ⟨by simp only [cond_false]; omega, .inr (by simp only [cond_false]; omega)⟩
theorem Ct {t : ThingD} {fr : Bool} {o : List UInt8} : o.length + t.text.size ≤ (txo t.text t.depth o fr).length := by
 unfold txo
 cases hz : t.text.size == 0 with
 | true =>
  have : t.text.size = 0 := by simpa using hz
  simp only [cond_true]
  omega
 | false =>
  simp only [cond_false, lap, U1]
  omega
theorem q35x {n : Int} (h : 0 ≤ n ∧ n ≤ 400000) : ∃ s, F35 sp1 n = some s ∧ s.size = n.toNat ∧ s.data.toList = List.replicate n.toNat 32 := by
 have h1 : rpOk sp1 n = true := decide_eq_true ⟨h.1, by omega, by show ((1 : Nat) : Int) * n ≤ _; omega⟩
 have h2 : (repS sp1 n).data.toList = List.replicate n.toNat 32 := by
  show (Lib.repeatL [32] n.toNat).toArray.toList = _
  rw [List.toList_toArray, Gv]
 exact ⟨repS sp1 n, by unfold F35; rw [h1]; rfl, by rw [← U1, h2, List.length_replicate], h2⟩
theorem s27x {S : List Int} {Ls : List Bool} {T : List UInt8} {wi : Int} (hS : S.length ≤ 4000) (k : Nat) (s : Nat × List ThingD × Bool × Nat × Nat × Nat × Int × Bool × List Int) (hi : J27 S Ls wi T k s) :
  ∃ r, Mz Ls S wi s.1 s.2.1 s.2.2.1 s.2.2.2.1 s.2.2.2.2.1 s.2.2.2.2.2.1 s.2.2.2.2.2.2.1 s.2.2.2.2.2.2.2.1 s.2.2.2.2.2.2.2.2 = some r ∧ (∀ s', r = .inr s' → ∃ k', k' < k ∧ J27 S Ls wi T k' s') ∧ ∀ e, r = .inl e → Q27 T e := by
 obtain ⟨v1, v2, v3, v4, v5, v6, v7, v8, v9⟩ := s
 obtain ⟨es, o, h1, h2, h3, h4, h5, h6⟩ := hi
 dsimp only at h1 h2 h3 h4 h5 h6 ⊢
 unfold Mz
 have ho := h2.len
 match v6, h1 with
 | 0, h1 =>
  have hb : es = [] := enz h1.len_le.1.symm
  subst hb
  have h3 : o = T := by rw [← h3]; exact (Cr ..).symm
  exact ⟨_, rfl, fun s' h => (by cases h), fun e h => (by cases h; exact ⟨h3 ▸ h2, h5.2⟩)⟩
 | n + 1, h1 =>
 rw [decide_eq_true (show ((n + 1 : Nat) : Int) > 0 by omega), cond_true]
 simp only [HX, bsm]
 by_cases c1 : ¬ ((v5 : Nat) : Int) ≤ 1048576
 ·rw [decide_eq_false c1, cond_false]
  have h3 : o = T := by rw [← h3]; exact (Bh (by omega)).symm
  exact ⟨_, rfl, fun s' h => (by cases h), fun e h => (by cases h; exact ⟨h3 ▸ h2, h5.2⟩)⟩
 have c1 := Decidable.not_not.1 c1
 rw [decide_eq_true c1, cond_true]
 have hbig : ¬ 1048576 < o.length := by omega
 obtain ⟨t, es', rfl, p2, p3, p5⟩ := h1.pop
 have hl := p5.len_le
 have hct := p3.txt
 have hdp := p3.dep
 have htx : t.kind = 0 ∨ t.text.size = 0 := p3.ok.txt
 have hkd : 0 ≤ t.kind ∧ t.kind ≤ 5 := p3.ok.kd
 have hfew : t.kind < 3 → t.kids = [] := p3.ok.few
 have hn : 0 ≤ t.n ∧ t.n ≤ 100 := p3.ok.nn
 have hfl := IR t.depth t.way (bt t)
 have e1 : (bt t).text = t.text := rfl
 have e2 : (bt t).kids = t.kids := rfl
 have e3 : (bt t).kind = t.kind := rfl
 have e4 : (bt t).n = t.n := rfl
 rw [e1, e2, e3, e4] at hfl
 simp only [msA] at h4
 have h3 : R wi (fl t.depth t.way (bt t) ++ flS es') o v7 v8 = T := h3
 simp only [wd (show n < 4611686018427387904 by omega), Ur, if_pos (Nat.lt_succ_self n), bsm, p2, show slOk (n : Int) (n + 1) v2.length = true from decide_eq_true ⟨by omega, by have := p5.le; omega, h1.le⟩, cond_true, Int.toNat_natCast]
 have fin : ∀ {d w : Int} {g' len' : Nat} {row' : List ThingD} (f : Bool) (g l : Nat) (c : Int) (fr : Bool) (r : List Int) (o' : List UInt8), Put S Ls d w t v2 n row' len' → Buf r l o' → R wi (fls d w t.kids ++ flS es') o' c fr = T →
   l ≤ v5 + 410000 → (0 ≤ c ∧ c ≤ 400000 + (l : Int)) → ∃ k', k' < k ∧ J27 S Ls wi T k' (g', row', f, g, l, len', c, fr, r) := by
  intro d w g' len' row' f g l c fr r o' a1 a2 a3 a4 a5
  obtain ⟨q1, q2⟩ := Ui d w t.kids
  refine ⟨_, ?_, Rm d w t.kids ++ es', o', p5.push a1, a2, ?_, rfl, ⟨?_, ?_⟩, a5⟩
  ·rw [YD, q1]; omega
  ·rw [Dv, L2]; exact a3
  ·rw [YD, q1]; omega
  ·dsimp only; omega
 have hd0 : 0 ≤ t.depth ∧ t.depth + 100 * (cnts t.kids : Int) ≤ 400000 := ⟨hdp.1, by omega⟩
 have hn3 : n ≤ 4000 := by omega
 have nokids : t.kind < 3 → ∀ d w, fls d w t.kids = [] := fun h d w => by rw [hfew h]; simp [fls]
 by_cases c0 : t.kind = 0
 ·obtain ⟨f, g, l, r, m1, m2, m3⟩ := q32x t v3 v4 v7 v8 h2 ⟨hdp.1, by omega⟩ hct.1 (by omega) (by omega)
  obtain ⟨g', len', row', k1, k2⟩ := q37 (w := t.way) (d := t.depth) v1 p3 hS hd0 p5.le hn3
  have hR : R wi (fls t.depth t.way t.kids ++ flS es') (txo t.text t.depth o v8) (txc t.text t.depth v7) (txf t.text v8) = T := by
   rw [nokids (by omega), List.nil_append]
   rw [show (t.kind == 0) = true by rw [c0]; rfl, cond_true] at hfl
   cases hz : t.text.size == 0 with
   | true =>
    rw [hz, cond_true] at hfl
    rw [hfl] at h3
    unfold txo txc txf
    rw [hz]
    exact h3
   | false =>
    rw [hz, cond_false] at hfl
    rw [hfl] at h3
    rw [← h3]
    exact (R_tx (b := bt t) hbig c0).symm
  obtain ⟨z1, z2⟩ := Cs t v7 hct.1 ⟨hdp.1, by omega⟩ h6.1
  have hl2 := m2.len
  have hge := Ct (t := t) (fr := v8) (o := o)
  rw [c0, m1]
  simp only [show ((0 : Int) == 0) = true from rfl, cond_true, bsm, k1]
  exact ⟨_, rfl, fun s' h => (by cases h; exact fin f g l _ _ r _ k2 m2 hR m3 ⟨z1, by omega⟩), fun e h => (by cases h)⟩
 rw [Zh c0, cond_false] at hfl ⊢
 by_cases c1 : t.kind = 1
 ·rw [c1] at hfl
  have hfl : fl t.depth t.way (bt t) = [(bt t, t.depth, t.way)] := hfl
  rw [hfl] at h3
  have h3 : R wi ((bt t, t.depth, t.way) :: flS es') o v7 v8 = T := h3
  rw [c1, show ((1 : Int) == 1) = true from rfl, cond_true]
  by_cases cw : t.way = 0
  ·obtain ⟨f, g, r, m1, m2⟩ := q33 v3 v4 h2 (by omega)
   rw [Bi (b := bt t) hbig c1 cw] at h3
   rw [cw, m1]
   exact ⟨_, rfl, fun s' h => (by cases h; exact ⟨msA es', by omega, es', o ++ [10], p5, m2, h3, rfl, ⟨by omega, by dsimp only; omega⟩, hdp.1, by dsimp only; omega⟩), fun e h => (by cases h)⟩
  ·obtain ⟨s, m1, m2, m3⟩ := q35x (n := t.n) (by omega)
   obtain ⟨nn, f, g, r, m4, m5⟩ := Cp s v3 v4 h2 (by omega)
   obtain ⟨g', len', row', k1, k2⟩ := q37 (w := t.way) (d := t.depth) v1 p3 hS hd0 p5.le hn3
   rw [Bj (b := bt t) hbig c1 cw] at h3
   rw [Zh cw, cond_false, m1]
   simp only [bsm, m4, k1, QO]
   rw [m3] at m5
   exact ⟨_, rfl, fun s' h => (by cases h; exact fin _ _ _ _ _ _ _ k2 m5 (by rw [nokids (by omega), List.nil_append, w_id (by omega)]; exact h3) (by omega) (by rw [w_id (by omega)]; omega)), fun e h => (by cases h)⟩
 rw [Zh c1, cond_false]
 by_cases c2 : t.kind = 2
 ·obtain ⟨f, g, r, m1, m2⟩ := q33 v3 v4 h2 (by omega)
  obtain ⟨g', len', row', k1, k2⟩ := Cl (w := t.way) (d := t.depth) v1 p3 hS hd0 p5.le hn3
  rw [c2] at hfl
  have hfl : fl t.depth t.way (bt t) = [(bt t, t.depth, t.way)] := hfl
  rw [hfl] at h3
  have h3 : R wi ((bt t, t.depth, t.way) :: flS es') o v7 v8 = T := h3
  rw [R_ln (b := bt t) hbig c2] at h3
  rw [show (t.kind == 2) = true by rw [c2]; rfl, cond_true, m1]
  simp only [bsm, k1]
  exact ⟨_, rfl, fun s' h => (by cases h; exact fin _ _ _ _ _ _ _ k2 m2 (by rw [nokids (by omega), List.nil_append]; exact h3) (by omega) (by omega)), fun e h => (by cases h)⟩
 rw [Zh c2, cond_false]
 by_cases c4 : t.kind = 4
 ·rw [c4] at hfl
  have hfl : fl t.depth t.way (bt t) = [(bt t, t.depth, t.way)] := hfl
  rw [hfl] at h3
  have h3 : R wi ((bt t, t.depth, t.way) :: flS es') o v7 v8 = T := h3
  rw [R_gr (b := bt t) hbig c4, IU] at h3
  rw [show (t.kind == 4) = true by rw [c4]; rfl, cond_true]
  have thru : ∀ {w : Int} {g' len' : Nat} {row' : List ThingD}, gw wi t.way (bt t) (lvA es') v7 = w → Put S Ls t.depth w t v2 n row' len' → ∃ k', k' < k ∧ J27 S Ls wi T k' (g', row', v3, v4, v5, len', v7, v8, v9) :=
   fun hw hp => fin v3 v4 v5 v7 v8 v9 o hp h2 (by rw [← hw]; exact h3) (by omega) h6
  by_cases cw : t.way = 1
  ·obtain ⟨g', len', row', k1, k2⟩ := q37 (w := 1) (d := t.depth) v1 p3 hS hd0 p5.le hn3
   have hg : gw wi t.way (bt t) (lvA es') v7 = 1 := by unfold gw; rw [cw]; rfl
   rw [show (t.way == 1) = true by rw [cw]; rfl, cond_true, k1]
   exact ⟨_, rfl, fun s' h => (by cases h; exact thru hg k2), fun e h => (by cases h)⟩
  ·have hy : getI Ls t.at_ = some (hasL (bt t)) := by
    obtain ⟨a, _, rest, z1, _, z2⟩ := p3.pos
    rw [z1, Zt, ← List.head?_drop, z2, QM]
    rfl
   have hg : gw wi t.way (bt t) (lvA es') v7 = bif !(hasL (bt t)) && YC wi (lvs 1 t.kids ++ lvA es') v7 then 1 else 0 := by unfold gw; rw [Zh cw, Bool.false_or, e2]
   rw [Zh cw, cond_false, hy]
   simp only [bsm]
   cases hh : hasL (bt t) with
   | true =>
    obtain ⟨g', len', row', k1, k2⟩ := q37 (w := 0) (d := t.depth) v1 p3 hS hd0 p5.le hn3
    rw [hh] at hg
    rw [cond_true, k1]
    exact ⟨_, rfl, fun s' h => (by cases h; exact thru hg k2), fun e h => (by cases h)⟩
   | false =>
    obtain ⟨e, he, hf⟩ := q36x wi v7 p3 hS p5 (by omega) (by omega)
    rw [hh, ← hf] at hg
    rw [cond_false, he]
    simp only [bsm]
    cases e with
    | k0 x0 =>
     have hg : gw wi t.way (bt t) (lvA es') v7 = bif x0 then 1 else 0 := hg
     cases x0 with
     | true =>
      obtain ⟨g', len', row', k1, k2⟩ := Fi (w := 1) (d := t.depth) v1 p3 hS hd0 p5.le hn3
      simp only [cond_true, k1, bsm]
      exact ⟨_, rfl, fun s' h => (by cases h; exact thru hg k2), fun e h => (by cases h)⟩
     | false =>
      obtain ⟨g', len', row', k1, k2⟩ := Fi (w := 0) (d := t.depth) v1 p3 hS hd0 p5.le hn3
      simp only [cond_false, k1, bsm]
      exact ⟨_, rfl, fun s' h => (by cases h; exact thru hg k2), fun e h => (by cases h)⟩
    | k1 x0 =>
     have hg : gw wi t.way (bt t) (lvA es') v7 = bif x0 then 1 else 0 := hg
     cases x0 with
     | true =>
      obtain ⟨g', len', row', k1, k2⟩ := Fj (w := 1) (d := t.depth) v1 p3 hS hd0 p5.le hn3
      simp only [cond_true, k1, bsm]
      exact ⟨_, rfl, fun s' h => (by cases h; exact thru hg k2), fun e h => (by cases h)⟩
     | false =>
      obtain ⟨g', len', row', k1, k2⟩ := Fj (w := 0) (d := t.depth) v1 p3 hS hd0 p5.le hn3
      simp only [cond_false, k1, bsm]
      exact ⟨_, rfl, fun s' h => (by cases h; exact thru hg k2), fun e h => (by cases h)⟩
    | k2 x0 =>
     have hg : gw wi t.way (bt t) (lvA es') v7 = bif x0 then 1 else 0 := hg
     cases x0 with
     | true =>
      obtain ⟨g', len', row', k1, k2⟩ := Fk (w := 1) (d := t.depth) v1 p3 hS hd0 p5.le hn3
      simp only [cond_true, k1, bsm]
      exact ⟨_, rfl, fun s' h => (by cases h; exact thru hg k2), fun e h => (by cases h)⟩
     | false =>
      obtain ⟨g', len', row', k1, k2⟩ := Fk (w := 0) (d := t.depth) v1 p3 hS hd0 p5.le hn3
      simp only [cond_false, k1, bsm]
      exact ⟨_, rfl, fun s' h => (by cases h; exact thru hg k2), fun e h => (by cases h)⟩
    | k3 x0 =>
     have hg : gw wi t.way (bt t) (lvA es') v7 = bif x0 then 1 else 0 := hg
     cases x0 with
     | true =>
      obtain ⟨g', len', row', k1, k2⟩ := Fl (w := 1) (d := t.depth) v1 p3 hS hd0 p5.le hn3
      simp only [cond_true, k1, bsm]
      exact ⟨_, rfl, fun s' h => (by cases h; exact thru hg k2), fun e h => (by cases h)⟩
     | false =>
      obtain ⟨g', len', row', k1, k2⟩ := Fl (w := 0) (d := t.depth) v1 p3 hS hd0 p5.le hn3
      simp only [cond_false, k1, bsm]
      exact ⟨_, rfl, fun s' h => (by cases h; exact thru hg k2), fun e h => (by cases h)⟩
 have c3 : t.kind = 3 ∨ t.kind = 5 := by omega
 rw [Zh c4, cond_false]
 rw [Zh c1, Zh c2, Zh c4] at hfl
 by_cases c5 : t.kind = 5
 ·obtain ⟨g', len', row', k1, k2⟩ := q37 (w := t.way) (d := t.depth + t.n) v1 p3 hS ⟨by omega, by omega⟩ p5.le hn3
  have hc5 : (t.kind == 5) = true := by rw [c5]; rfl
  rw [hc5] at hfl
  have hfl : fl t.depth t.way (bt t) = fls (t.depth + t.n) t.way t.kids := hfl
  rw [hfl] at h3
  rw [hc5, cond_true, w_id (by omega), k1]
  exact ⟨_, rfl, fun s' h => (by cases h; exact fin v3 v4 v5 v7 v8 v9 o k2 h2 h3 (by omega) h6), fun e h => (by cases h)⟩
 ·obtain ⟨g', len', row', k1, k2⟩ := q37 (w := t.way) (d := t.depth) v1 p3 hS hd0 p5.le hn3
  rw [Zh c5] at hfl
  have hfl : fl t.depth t.way (bt t) = fls t.depth t.way t.kids := hfl
  rw [hfl] at h3
  rw [Zh c5, cond_false, k1]
  exact ⟨_, rfl, fun s' h => (by cases h; exact fin v3 v4 v5 v7 v8 v9 o k2 h2 h3 (by omega) h6), fun e h => (by cases h)⟩
theorem q38x {row : List Int} {n : Nat} {o : List UInt8} (h : Buf row n o) (hb : n ≤ 2000000) : F38 n row = some (.k0 ⟨o.toArray⟩) ∨ (o = [] ∧ F38 n row = some (.k1 ByteArray.empty)) := by
 unfold F38
 by_cases c : 0 < n
 ·rw [decide_eq_true c, cond_true, show usOk n row.length = true from decide_eq_true ⟨h.le, by omega⟩, h.is, IO]
  exact .inl rfl
 ·rw [decide_eq_false c]
  exact .inr ⟨enz (by rw [h.len]; omega), rfl⟩
noncomputable def laid (b : BoxD) (wi w : Int) : List UInt8 := R wi (fl 0 w b) [] 0 false
theorem q17x (N : Nat) (b : BoxD) (wi w : Int) (h : cnt b ≤ N) (hc : wt b ≤ 4000) (ho : Ok b) : F17 N b wi w = some ⟨(laid b wi w).toArray⟩ ∧ (laid b wi w).length ≤ 2000000 := by
 have hcw := Np _ b (Nat.le_refl _)
 have hT : TOk (szs b) (lns b) ⟨b.kind, b.text, b.n, b.kids, 0, w, 0⟩ := by
  refine ⟨by rw [Tc]; exact ho, ⟨0, [], [], rfl, by rw [Tc]; simp, by rw [Tc]; simp⟩, ?_, by rw [Tc]; exact hc⟩
  rw [Tc]
  show (0 : Int) ≤ 0 ∧ 0 + 100 * (cnt b : Int) ≤ 400000
  omega
 have hi : J27 (szs b) (lns b) wi (laid b wi w) (cnt b) (0, [(⟨b.kind, b.text, b.n, b.kids, 0, w, 0⟩ : ThingD)], false, 0, 0, 1, 0, false, []) := by
  refine ⟨[(b, 0, w)], [], ⟨Nat.le_refl _, fun t ht => ?_, by simp [en, Tc]⟩, ⟨Nat.le_refl _, rfl⟩, by simp [laid, flS, flE], by simp [msA], ⟨by omega, by dsimp only; omega⟩, by dsimp only; omega, by dsimp only; omega⟩
  simp only [List.take_succ_cons, List.take_zero, List.mem_singleton] at ht
  subst ht
  exact hT
 have hlen := PC b
 obtain ⟨e, k1, k2⟩ := Nr (fun k s => s27x (show (szs b).length ≤ 4000 by omega) k s) _ _ _ (Nat.le_refl _) hi
 unfold F17 F27
 rw [q18 N b h (by omega), q26 N b h (by omega)]
 simp only [bsm]
 rw [k1]
 cases e with
 | k0 x0 x1 x2 x3 x4 x5 x6 x7 x8 =>
 obtain ⟨m1, m3⟩ := k2
 have hz := m1.len
 simp only [bsm]
 refine ⟨?_, by omega⟩
 rcases q38x m1 m3 with h1 | ⟨h0, h1⟩
 ·rw [h1]; rfl
 ·rw [h1, h0]; rfl
noncomputable def G25 (a1 : BoxD) (A : Bool) : Option Bool :=
 (bif (a1.kind == 0) then (bif (!(a1.text.toList == a1.text.toList)) then (some false) else (bif (a1.n != 0) then (some false) else (bif ((a1.kids.length : Int) != 0) then (some false) else (bif (decide (a1.n < 0)) then (some false) else (bif (decide (a1.n > 100)) then (some false) else (some A)))))) else (bif (a1.kind == 5) then (bif (!(a1.text.toList == (⟨([] : List UInt8).toArray⟩ : ByteArray).toList)) then (some false) else (bif (a1.n != a1.n) then (some false) else (bif ((a1.kids.length : Int) != (a1.kids.length : Int)) then (some false) else (bif (decide (a1.n < 0)) then (some false) else (bif (decide (a1.n > 100)) then (some false) else (some A)))))) else (bif (a1.kind == 1) then (bif (!(a1.text.toList == (⟨([] : List UInt8).toArray⟩ : ByteArray).toList)) then (some false) else (bif (a1.n != a1.n) then (some false) else (bif ((a1.kids.length : Int) != 0) then (some false) else (bif (decide (a1.n < 0)) then (some false) else (bif (decide (a1.n > 100)) then (some false) else (some A)))))) else (bif (a1.kind == 3) then (bif (!(a1.text.toList == (⟨([] : List UInt8).toArray⟩ : ByteArray).toList)) then (some false) else (bif (a1.n != 0) then (some false) else (bif ((a1.kids.length : Int) != (a1.kids.length : Int)) then (some false) else (bif (decide (a1.n < 0)) then (some false) else (bif (decide (a1.n > 100)) then (some false) else (some A)))))) else (bif (a1.kind == 4) then (bif (!(a1.text.toList == (⟨([] : List UInt8).toArray⟩ : ByteArray).toList)) then (some false) else (bif (a1.n != 0) then (some false) else (bif ((a1.kids.length : Int) != (a1.kids.length : Int)) then (some false) else (bif (decide (a1.n < 0)) then (some false) else (bif (decide (a1.n > 100)) then (some false) else (some A)))))) else (bif (a1.kind == 2) then (bif (!(a1.text.toList == (⟨([] : List UInt8).toArray⟩ : ByteArray).toList)) then (some false) else (bif (a1.n != 0) then (some false) else (bif ((a1.kids.length : Int) != 0) then (some false) else (bif (decide (a1.n < 0)) then (some false) else (bif (decide (a1.n > 100)) then (some false) else (some A)))))) else (some false)))))))
theorem q25g : ∀ (N : Nat) (b : BoxD), cnt b ≤ N + 1 → cnt b ≤ 4000000 → F25 (N + 1) b = G25 b (allF (fun _ x => ok25 N x) 0 b.kids)
 | N, b, h, hc => by
  show Mb (F25 N) b = _
  have hcb := Z1 b
  have hkl := YM b.kids
  have ih : ∀ x ∈ b.kids, F25 N x = some (ok25 N x) := fun x hx => by
   obtain ⟨v, h1, _⟩ := q25 N x (by have := Z8 hx; omega) (by have := Z8 hx; omega)
   unfold ok25
   rw [h1]
   rfl
  have kids1 : runL (fun s => Ut (F25 N) b (b.kids.length : Int) s) 0 = some (bif allF (fun _ x => ok25 N x) 0 b.kids then .k1 else .k0) := by
   refine Z5 (step := fun s => Ut (F25 N) b (b.kids.length : Int) s) (l := b.kids) (fun _ x => ok25 N x) (bad := E_L25_0.k0) (fin := .k1) (fun i x hx => ?_) (by simp [Ut])
   have hi : i < b.kids.length := (gei.1 hx).1
   simp only [Ut, Zt, hx, bsm, decide_eq_true (show (i : Int) < (b.kids.length : Int) by omega), cond_true, ih x (mog hx), w_S (show i < 4611686018427387904 by omega)]
   cases ok25 N x <;> rfl
  have kids2 : runL (fun s => Yx (F25 N) b (b.kids.length : Int) s) 0 = some (bif allF (fun _ x => ok25 N x) 0 b.kids then .k1 else .k0) := by
   refine Z5 (step := fun s => Yx (F25 N) b (b.kids.length : Int) s) (l := b.kids) (fun _ x => ok25 N x) (bad := E_L25_0_2.k0) (fin := .k1) (fun i x hx => ?_) (by simp [Yx])
   have hi : i < b.kids.length := (gei.1 hx).1
   simp only [Yx, Zt, hx, bsm, decide_eq_true (show (i : Int) < (b.kids.length : Int) by omega), cond_true, ih x (mog hx), w_S (show i < 4611686018427387904 by omega)]
   cases ok25 N x <;> rfl
  have kids3 : runL (fun s => Yy (F25 N) b (b.kids.length : Int) s) 0 = some (bif allF (fun _ x => ok25 N x) 0 b.kids then .k1 else .k0) := by
   refine Z5 (step := fun s => Yy (F25 N) b (b.kids.length : Int) s) (l := b.kids) (fun _ x => ok25 N x) (bad := E_L25_0_3.k0) (fin := .k1) (fun i x hx => ?_) (by simp [Yy])
   have hi : i < b.kids.length := (gei.1 hx).1
   simp only [Yy, Zt, hx, bsm, decide_eq_true (show (i : Int) < (b.kids.length : Int) by omega), cond_true, ih x (mog hx), w_S (show i < 4611686018427387904 by omega)]
   cases ok25 N x <;> rfl
  have kids4 : runL (fun s => Yk (F25 N) b (b.kids.length : Int) s) 0 = some (bif allF (fun _ x => ok25 N x) 0 b.kids then .k1 else .k0) := by
   refine Z5 (step := fun s => Yk (F25 N) b (b.kids.length : Int) s) (l := b.kids) (fun _ x => ok25 N x) (bad := E_L25_0_4.k0) (fin := .k1) (fun i x hx => ?_) (by simp [Yk])
   have hi : i < b.kids.length := (gei.1 hx).1
   simp only [Yk, Zt, hx, bsm, decide_eq_true (show (i : Int) < (b.kids.length : Int) by omega), cond_true, ih x (mog hx), w_S (show i < 4611686018427387904 by omega)]
   cases ok25 N x <;> rfl
  have kids5 : runL (fun s => Yz (F25 N) b (b.kids.length : Int) s) 0 = some (bif allF (fun _ x => ok25 N x) 0 b.kids then .k1 else .k0) := by
   refine Z5 (step := fun s => Yz (F25 N) b (b.kids.length : Int) s) (l := b.kids) (fun _ x => ok25 N x) (bad := E_L25_0_5.k0) (fin := .k1) (fun i x hx => ?_) (by simp [Yz])
   have hi : i < b.kids.length := (gei.1 hx).1
   simp only [Yz, Zt, hx, bsm, decide_eq_true (show (i : Int) < (b.kids.length : Int) by omega), cond_true, ih x (mog hx), w_S (show i < 4611686018427387904 by omega)]
   cases ok25 N x <;> rfl
  unfold Mb G25
  rw [kids1, kids2, kids3, kids4, kids5]
  simp only [bsm]
  cases allF (fun _ x => ok25 N x) 0 b.kids <;> rfl
theorem MG {N : Nat} {b : BoxD} (h : cnt b ≤ N) (hc : cnt b ≤ 4000000) : F25 N b = some (ok25 N b) ∧ (ok25 N b = true → Ok b) := by
 obtain ⟨v, h1, h2⟩ := q25 N b h hc
 unfold ok25
 rw [h1]
 exact ⟨rfl, h2⟩
theorem MH {N : Nat} {l : List BoxD} : allF (fun _ x => ok25 N x) 0 l = true ↔ ∀ x ∈ l, ok25 N x = true := by
 rw [Pl]
 exact ⟨fun h x hx => by obtain ⟨j, hj⟩ := List.getElem?_of_mem hx; exact h j x hj, fun h j x hj => h x (mog hj)⟩
theorem IV : ∀ (N M : Nat) (b : BoxD), cnt b ≤ N → cnt b ≤ M → cnt b ≤ 4000000 → ok25 N b = ok25 M b
 | 0, _, b, h, _, _ => by have := ZZ b; omega
 | _ + 1, 0, b, _, h, _ => by have := ZZ b; omega
 | N + 1, M + 1, b, h1, h2, h3 => by
  have hcb := Z1 b
  have e : allF (fun _ x => ok25 N x) 0 b.kids = allF (fun _ x => ok25 M x) 0 b.kids := by
   rw [Bool.eq_iff_iff, MH, MH]
   have key : ∀ x ∈ b.kids, ok25 N x = ok25 M x := fun x hx => by
    have := Z8 hx
    exact IV N M x (by omega) (by omega) (by omega)
   exact ⟨fun h x hx => by rw [← key x hx]; exact h x hx, fun h x hx => by rw [key x hx]; exact h x hx⟩
  unfold ok25
  rw [q25g N b h1 h3, q25g M b h2 h3, e]
abbrev bE : ByteArray := ⟨([] : List UInt8).toArray⟩
theorem L3 (N : Nat) (l : List BoxD) (k : Int) (hk : k = 3 ∨ k = 5) (h : cnts l ≤ N) (hc : cnts l < 4000000) : ok25 (N + 1) (.mk k bE 0 l) = true ↔ ∀ x ∈ l, ok25 N x = true := by
 have hcb : cnt (.mk k bE 0 l) = 1 + cnts l := Z1 _
 rw [← MH]
 have e := q25g N (.mk k bE 0 l) (by omega) (by omega)
 have e2 : ∀ A, G25 (.mk k bE 0 l) A = some A := fun A => by
  rcases hk with rfl | rfl <;> simp [G25, BoxD.kind, BoxD.text, BoxD.n, BoxD.kids]
 have e3 : (BoxD.mk k bE 0 l).kids = l := rfl
 unfold ok25 at e ⊢
 rw [e, e2, e3]
 rfl
theorem Dw (N : Nat) : ok25 (N + 1) (.mk 0 bE 0 []) = true := by
 have hcb : cnt (.mk 0 bE 0 []) = 1 + cnts [] := Z1 _
 have e := q25g N (.mk 0 bE 0 []) (by simp only [cnts] at hcb; omega) (by simp only [cnts] at hcb; omega)
 have e2 : ∀ A, G25 (.mk 0 bE 0 []) A = some A := fun A => by simp [G25, BoxD.kind, BoxD.text, BoxD.n, BoxD.kids]
 unfold ok25 at e ⊢
 rw [e, e2]
 rfl
theorem q16x (N : Nat) (b : BoxD) (h : cnt b ≤ N) (hc : cnt b ≤ 4000) : F16 N b = some (bif ok25 N b then 0 else 260) := by
 obtain ⟨d, h3, h4, h5⟩ := q21 N b h hc
 unfold F16
 rw [(MG h (by omega)).1]
 cases ok25 N b with
 | false => rfl
 | true =>
  simp only [bsm, cond_true]
  rw [h3]
  simp only [bsm, decide_eq_false (show ¬ (cnt b : Int) > 65536 by omega), decide_eq_false (show ¬ d > 16384 by omega), cond_false]
theorem q7x (N : Nat) (b : BoxD) (m : Int) (h : cnt b ≤ N) (hc : wt b ≤ 4000) :
  F7 N b m = some (bif ok25 N b then (bif decide (m < 1) then .k0 bE 2 else bif decide (((laid b m 0).length : Int) > 1048576) then .k0 bE 3 else .k0 ⟨(laid b m 0).toArray⟩ 0) else .k0 bE 260) := by
 have hcw := Np _ b (Nat.le_refl _)
 have h16 := q16x N b h (by omega)
 unfold F7
 rw [h16]
 cases hv : ok25 N b with
 | false => rfl
 | true =>
  simp only [cond_true, bsm, show ((0 : Int) != 0) = false from rfl, cond_false]
  have ho := (MG h (by omega)).2 hv
  rw [(q17x N b m 0 h hc ho).1]
  simp only [bsm]
  have hz : (⟨(laid b m 0).toArray⟩ : ByteArray).size = (laid b m 0).length := List.size_toArray ..
  rw [hz]
  cases decide (m < 1) with
  | true => rfl
  | false =>
   simp only [cond_false]
   cases decide (((laid b m 0).length : Int) > 1048576) <;> rfl
theorem q8x (N : Nat) (b : BoxD) (h : cnt b ≤ N) (hc : wt b ≤ 4000) :
  F8 N b = some (bif ok25 N b then (bif hasL b then .k0 bE false else .k0 ⟨(laid b 1 1).toArray⟩ true) else .k0 bE false) := by
 have hcw := Np _ b (Nat.le_refl _)
 have h16 := q16x N b h (by omega)
 have hg : getI (lns b) 0 = some (hasL b) := by rw [QM]; rfl
 unfold F8
 rw [h16]
 cases hv : ok25 N b with
 | false => rfl
 | true =>
  have ho := (MG h (by omega)).2 hv
  simp only [cond_true, bsm, show ((0 : Int) != 0) = false from rfl, cond_false, q18 N b h (by omega), hg, (q17x N b 1 1 h hc ho).1]
  cases hasL b <;> rfl
theorem QP : ∀ (a b : List BoxD), Wy (a ++ b) = (Wy a || Wy b)
 | [], b => by simp [Wy]
 | t :: a, b => by simp only [List.cons_append, Wy, QP a b, Bool.or_assoc]
section
variable (l : List BoxD) (k : Nat)
abbrev whole : BoxD := .mk 3 bE 0 l
abbrev prts : BoxD := .mk 5 bE 0 [.mk 3 bE 0 (l.take k), .mk 0 bE 0 [], .mk 5 bE 0 (l.drop k)]
theorem Dx : cnt (whole l) = 1 + cnts l ∧ wt (whole l) = 1 + wts l := by
 refine ⟨Z1 _, ?_⟩
 rw [IN]
 rfl
theorem Fp : cnt (prts l k) = 4 + cnts l ∧ wt (prts l k) = 4 + wts l := by
 have h1 := W8 (l.take k) (l.drop k)
 have h2 := MD (l.take k) (l.drop k)
 rw [List.take_append_drop] at h1 h2
 constructor
 ·simp only [cnt, cnts]; omega
 ·have e0 : bE.size = 0 := rfl
  simp only [wt, wts, e0]; omega
theorem Ns (wi w : Int) : laid (prts l k) wi w = laid (whole l) wi w := by
 have h := IS 0 w (l.take k) (l.drop k)
 rw [List.take_append_drop] at h
 have e1 : fl 0 w (whole l) = fls 0 w l := by rw [IR]; rfl
 have e2 : fl 0 w (prts l k) = fls 0 w l := by
  rw [IR, h]
  show fls (0 + 0) w [.mk 3 bE 0 (l.take k), .mk 0 bE 0 [], .mk 5 bE 0 (l.drop k)] = _
  simp only [fls, IR]
  show fls (0 + 0) w (l.take k) ++ ([] ++ (fls (0 + 0 + 0) w (l.drop k) ++ [])) = _
  simp
 unfold laid
 rw [e1, e2]
theorem IW : hasL (prts l k) = hasL (whole l) := by
 have h := QP (l.take k) (l.drop k)
 rw [List.take_append_drop] at h
 have e : Wh bE = false := rfl
 rw [MC (whole l)]
 show _ = ((false || Wh bE) || Wy l)
 rw [h, e]
 simp only [hasL, Wy, e]
 simp
theorem IX (hc : cnts l ≤ 3500) : ok25 5000 (prts l k) = ok25 5000 (whole l) := by
 obtain ⟨hp, _⟩ := Fp l k
 have h1 := W8 (l.take k) (l.drop k)
 rw [List.take_append_drop] at h1
 have ft : ∀ x ∈ l, ok25 4998 x = ok25 4999 x := fun x hx => by have := Z8 hx; exact IV _ _ x (by omega) (by omega) (by omega)
 have e0 : ok25 5000 (whole l) = true ↔ ∀ x ∈ l, ok25 4999 x = true := L3 4999 l 3 (.inl rfl) (by omega) (by omega)
 have hk3 : cnts [.mk 3 bE 0 (l.take k), .mk 0 bE 0 [], .mk 5 bE 0 (l.drop k)] = 3 + cnts l := by
  have h := Z1 (prts l k)
  have e : (prts l k).kids = [.mk 3 bE 0 (l.take k), .mk 0 bE 0 [], .mk 5 bE 0 (l.drop k)] := rfl
  rw [e] at h
  omega
 have e1 : ok25 5000 (prts l k) = true ↔ _ := L3 4999 _ 5 (.inr rfl) (by omega) (by omega)
 have e2 : ok25 4999 (.mk 3 bE 0 (l.take k)) = true ↔ _ := L3 4998 (l.take k) 3 (.inl rfl) (by omega) (by omega)
 have e3 : ok25 4999 (.mk 5 bE 0 (l.drop k)) = true ↔ _ := L3 4998 (l.drop k) 5 (.inr rfl) (by omega) (by omega)
 have e4 : ok25 4999 (.mk 0 bE 0 []) = true := Dw 4998
 rw [Bool.eq_iff_iff, e0, e1]
 simp only [List.mem_cons, List.not_mem_nil, or_false, forall_eq_or_imp, forall_eq, e2, e3, e4, true_and]
 constructor
 ·rintro ⟨q1, q2⟩ x hx
  rw [← ft x hx]
  rw [← List.take_append_drop k l] at hx
  rcases List.mem_append.1 hx with hx | hx
  ·exact q1 x hx
  ·exact q2 x hx
 ·intro q
  exact ⟨fun x hx => by rw [ft x (List.mem_of_mem_take hx)]; exact q x (List.mem_of_mem_take hx), fun x hx => by rw [ft x (List.mem_of_mem_drop hx)]; exact q x (List.mem_of_mem_drop hx)⟩
end
theorem Cu (n : Nat) (m : Int) (h : n ≤ 4000000) : IntKind.wrap .i64 ((n : Int) + 1) = (n : Int) + 1 ∧ ∃ k : Nat, k ≤ n ∧ Int.tmod (IntKind.wrap .i64 ((IntKind.wrap .i64 ((Int.tmod m ((n : Int) + 1)) + (n : Int))) + 1)) ((n : Int) + 1) = (k : Int) := by
 have hp : (0 : Int) < (n : Int) + 1 := by omega
 have h1 := Int.tmod_lt_of_pos m hp
 have h2 := Int.lt_tmod_of_pos m hp
 refine ⟨w_id (by omega), ?_⟩
 rw [w_id (x := Int.tmod m ((n : Int) + 1) + (n : Int)) (by omega), w_id (by omega)]
 have h3 := Int.tmod_lt_of_pos (Int.tmod m ((n : Int) + 1) + (n : Int) + 1) hp
 have h4 := Int.tmod_nonneg (a := Int.tmod m ((n : Int) + 1) + (n : Int) + 1) ((n : Int) + 1) (by omega)
 exact ⟨(Int.tmod (Int.tmod m ((n : Int) + 1) + (n : Int) + 1) ((n : Int) + 1)).toNat, by omega, by omega⟩
theorem law4 (l : List BoxD) (hB : ∀ x ∈ l, Bd x) (m w : Int) : F4 5000 l m w = some true := by
 obtain ⟨v, h1, h2⟩ := q5 5000 (whole l) (.mk (by decide) hB) (by omega)
 unfold F4
 rw [h1]
 simp only [bsm]
 cases v with
 | false => rfl
 | true =>
 rw [cond_true]
 cases decide (w < 1) with
 | true => rfl
 | false =>
 rw [cond_false]
 have hw := h2 rfl
 obtain ⟨w1, w2⟩ := Dx l
 have hcw := Np _ (whole l) (Nat.le_refl _)
 have hll := YM l
 obtain ⟨z1, k, z2, z3⟩ := Cu l.length m (by omega)
 obtain ⟨p1, p2⟩ := Fp l k
 rw [z1, z3, Zh (show ¬ (l.length : Int) + 1 = 0 by omega), cond_false, show Ub 0 (k : Int) l.length = true from decide_eq_true ⟨by omega, by omega, by omega⟩, cond_true,
  show Ub (k : Int) (l.length : Int) l.length = true from decide_eq_true ⟨by omega, by omega, by omega⟩, cond_true, Int.toNat_natCast]
 have e1 := q7x 5000 (whole l) w (by omega) (by omega)
 have e2 := q7x 5000 (prts l k) w (by omega) (by omega)
 have e3 := q8x 5000 (whole l) (by omega) (by omega)
 have e4 := q8x 5000 (prts l k) (by omega) (by omega)
 rw [IX l k (by omega), Ns, ← e1] at e2
 rw [IX l k (by omega), Ns, IW, ← e3] at e4
 have e2 : F7 5000 (.mk 5 bE 0 [.mk 3 bE 0 ((l.take k).drop (Int.toNat 0)), .mk 0 bE 0 [], .mk 5 bE 0 (l.drop k)]) w = F7 5000 (whole l) w := e2
 have e4 : F8 5000 (.mk 5 bE 0 [.mk 3 bE 0 ((l.take k).drop (Int.toNat 0)), .mk 0 bE 0 [], .mk 5 bE 0 (l.drop k)]) = F8 5000 (whole l) := e4
 obtain ⟨s, x, hx⟩ : ∃ s x, F7 5000 (whole l) w = some (.k0 s x) := by
  rw [e1]
  generalize (bif ok25 5000 (whole l) then _ else _ : R_F7) = r
  cases r with | k0 s x => exact ⟨s, x, rfl⟩
 obtain ⟨s2, x2, hx2⟩ : ∃ s x, F8 5000 (whole l) = some (.k0 s x) := by
  rw [e3]
  generalize (bif ok25 5000 (whole l) then _ else _ : R_F8) = r
  cases r with | k0 s x => exact ⟨s, x, rfl⟩
 rw [e2, e4, hx, hx2]
 have hbb : ∀ x : ByteArray, (x.toList == x.toList) = true := fun x => by rw [Yw]; exact decide_eq_true rfl
 simp only [bsm, F9, beq_self_eq_true, hbb, cond_true, Bool.and_true, F6]
end Go.Proofs.Try
