/- Boxes: how many, how long, what is in them. Plain data alone. -/
import Derived.Test.YtefbhnhekkncpaaDoorH53
import Derived.Test.YtefbhnhekkncpaaDoorVE
open Option renaming bind_some → bsm
open List renaming getElem?_eq_some_iff → gei, eq_nil_of_length_eq_zero → enz, getElem?_eq_getElem → geg, mem_of_getElem? → mog, length_append → lap, length_replicate → lrp, length_cons → lcn
namespace Go.Proofs.Tryd
set_option linter.unusedSimpArgs false
set_option linter.unusedVariables false
open Go Go.Vs
abbrev Uqq := List UInt8
def brl (l : Uqq) : Uqq := l.filter fun c => !(c == 32 || c == 10)
def YL (s : ByteArray) : Bool := decide ((10 : UInt8) ∈ s.data.toList)
mutual
def cnt : BoxD → Nat
 | .mk _ _ _ l => 1 + cnts l
def cnts : Bqq → Nat
 | [] => 0
 | b :: l => cnt b + cnts l
end
mutual
def wt : BoxD → Nat
 | .mk _ t _ l => 1 + t.size + wts l
def wts : Bqq → Nat
 | [] => 0
 | b :: l => wt b + wts l
end
mutual
def hasL : BoxD → Bool
 | .mk k t _ l => (k == 2 || YL t) || Tm l
def Tm : Bqq → Bool
 | [] => false
 | b :: l => hasL b || Tm l
end
mutual
def szs : BoxD → Iqq
 | .mk _ _ _ l => ((1 + cnts l : Nat) : Int) :: szss l
def szss : Bqq → Iqq
 | [] => []
 | b :: l => szs b ++ szss l
end
mutual
def lns : BoxD → Oqq
 | .mk k t _ l => ((k == 2 || YL t) || Tm l) :: lnss l
def lnss : Bqq → Oqq
 | [] => []
 | b :: l => lns b ++ lnss l
end
theorem Z6 : ∀ b : BoxD, cnt b = 1 + cnts b.kids
 | .mk _ _ _ _ => by simp only [cnt, BoxD.kids]
theorem NR : ∀ b : BoxD, wt b = 1 + b.text.size + wts b.kids
 | .mk _ _ _ _ => by simp only [wt, BoxD.kids, BoxD.text]
theorem U9 : ∀ b : BoxD, hasL b = ((b.kind == 2 || YL b.text) || Tm b.kids)
 | .mk _ _ _ _ => by simp only [hasL, BoxD.kids, BoxD.text, BoxD.kind]
theorem NS : ∀ b : BoxD, szs b = (cnt b : Int) :: szss b.kids
 | .mk _ _ _ _ => by simp only [szs, cnt, BoxD.kids]
theorem Q3 : ∀ b : BoxD, lns b = hasL b :: lnss b.kids
 | .mk _ _ _ _ => by simp only [lns, hasL, BoxD.kids]
theorem YA {b : BoxD} : ∀ {l : Bqq}, b ∈ l → cnt b ≤ cnts l
 | [], h => by simp at h
 | u :: l, h => by
  simp only [cnts]
  rcases List.mem_cons.1 h with rfl | h
  ·omega
  ·have := YA h; omega
theorem TM : ∀ (a b : Bqq), cnts (a ++ b) = cnts a + cnts b
 | [], b => by simp [cnts]
 | t :: a, b => by simp only [List.cons_append, cnts, TM a b]; omega
theorem ZN (b : BoxD) : 1 ≤ cnt b := by rw [Z6]; omega
theorem Xx : ∀ (l : Bqq), l.length ≤ cnts l
 | [] => by simp
 | t :: a => by have := Xx a; have := ZN t; simp only [lcn, cnts]; omega
theorem HU : ∀ (a b : Bqq), wts (a ++ b) = wts a + wts b
 | [], b => by simp [wts]
 | t :: a, b => by simp only [List.cons_append, wts, HU a b]; omega
theorem Q4 : ∀ (N : Nat) (b : BoxD), cnt b ≤ N → cnt b ≤ wt b
 | 0, b, h => by have := ZN b; omega
 | N + 1, b, h => by
  have key : ∀ l : Bqq, (∀ x ∈ l, cnt x ≤ N) → cnts l ≤ wts l := by
   intro l
   induction l with
   | nil => intro _; simp [cnts]
   | cons x l ih =>
    intro hl
    have h1 := Q4 N x (hl x (by simp))
    have h2 := ih (fun y hy => hl y (by simp [hy]))
    simp only [cnts, wts]
    omega
  have h1 := key b.kids (fun x hx => by have := YA hx; have := Z6 b; omega)
  rw [Z6, NR]
  omega
theorem Uo : ∀ (N : Nat) (l : Bqq), cnts l ≤ N → (szss l).length = cnts l ∧ (lnss l).length = cnts l
 | N, [], h => by simp [szss, lnss, cnts]
 | 0, b :: l, h => by have := ZN b; simp only [cnts] at h; omega
 | N + 1, b :: l, h => by
  simp only [cnts] at h
  have hb := ZN b
  have h1 := Uo N l (by omega)
  have h2 := Uo N b.kids (by have := Z6 b; omega)
  simp only [szss, lnss, cnts, NS, Q3, lap, lcn, h1.1, h1.2, h2.1, h2.2]
  have := Z6 b
  omega
theorem P4 (b : BoxD) : (szs b).length = cnt b ∧ (lns b).length = cnt b := by
 have := Uo (cnts b.kids) b.kids (Nat.le_refl _)
 rw [NS, Q3, lcn, lcn, this.1, this.2, Z6]
 omega
inductive Ok : BoxD → Prop
 | mk {k n : Int} {t : ByteArray} {l : Bqq} (h1 : k = 0 ∨ t.size = 0) (h2 : k < 3 → l = []) (h3 : 0 ≤ n ∧ n ≤ 100) (h4 : 0 ≤ k ∧ k ≤ 5) (h5 : ∀ x ∈ l, Ok x) : Ok (.mk k t n l)
theorem Ok.txt {b : BoxD} (h : Ok b) : b.kind = 0 ∨ b.text.size = 0 := by cases h with | mk h1 h2 h3 h4 h5 => exact h1
theorem Ok.few {b : BoxD} (h : Ok b) : b.kind < 3 → b.kids = [] := by cases h with | mk h1 h2 h3 h4 h5 => exact h2
theorem Ok.nn {b : BoxD} (h : Ok b) : 0 ≤ b.n ∧ b.n ≤ 100 := by cases h with | mk h1 h2 h3 h4 h5 => exact h3
theorem Ok.kd {b : BoxD} (h : Ok b) : 0 ≤ b.kind ∧ b.kind ≤ 5 := by cases h with | mk h1 h2 h3 h4 h5 => exact h4
theorem Ok.kid {b x : BoxD} (h : Ok b) (hx : x ∈ b.kids) : Ok x := by cases h with | mk h1 h2 h3 h4 h5 => exact h5 x hx
theorem Ok.of : ∀ {b : BoxD}, (b.kind = 0 ∨ b.text.size = 0) → (b.kind < 3 → b.kids = []) → (0 ≤ b.n ∧ b.n ≤ 100) → (0 ≤ b.kind ∧ b.kind ≤ 5) → (∀ x ∈ b.kids, Ok x) → Ok b
 | .mk _ _ _ _, h1, h2, h3, h4, h5 => .mk h1 h2 h3 h4 h5
theorem YM (a : ByteArray) : a.data.toList.length = a.size := by rw [Array.length_toList]; rfl
theorem CI {a : ByteArray} (h : a.size = 0) : a.data.toList = [] := enz (by rw [YM]; exact h)
theorem Q5 {α : Type} {l y : List α} {n : Nat} (h : n + y.length ≤ l.length) : (splice l n y).take (n + y.length) = l.take n ++ y ∧ (splice l n y).length = l.length := by
 unfold splice
 refine ⟨?_, by simp; omega⟩
 have : (l.take n ++ y).length = n + y.length := by simp; omega
 rw [← this, List.take_left]
theorem put1 {α : Type} {row : List α} {len : Nat} (e : α) (hl : len ≤ row.length) :
  (len + 1 ≤ row.length → (splice row len [e]).take (len + 1) = row.take len ++ [e] ∧ len + 1 ≤ (splice row len [e]).length) ∧
  ((row.take len ++ [e]).take (len + 1) = row.take len ++ [e] ∧ len + 1 ≤ (row.take len ++ [e]).length) := by
 refine ⟨fun h => ?_, ?_, ?_⟩
 ·obtain ⟨h1, h2⟩ := Q5 (l := row) (y := [e]) (n := len) h
  exact ⟨h1, by rw [h2]; exact h⟩
 ·exact List.take_of_length_le (by simp; omega)
 ·simp; omega
theorem ap1 {len n b : Nat} (h : len ≤ n) (hb : len ≤ 9000000) (hk : b ≤ 1000) : apOk len 1 n b = true := by
 refine decide_eq_true ⟨h, ?_, by unfold Zn; omega⟩
 have := Nat.mul_le_mul (show len + 1 ≤ 9000001 by omega) hk
 unfold Zn
 omega
theorem Up {α : Type} {row pre post : List α} {x y : α} {n : Nat} (h : row.take n = pre ++ x :: post) (hn : pre.length + 1 ≤ n) : (row.set pre.length y).take n = pre ++ y :: post := by
 rw [List.take_set, h, List.set_append_right _ _ (Nat.le_refl _), Nat.sub_self]
 rfl
theorem P5 {α : Type} {row pre post : List α} {x : α} {n : Nat} (h : row.take n = pre ++ x :: post) (hn : pre.length < n) : row[pre.length]? = some x := by
 have : (row.take n)[pre.length]? = some x := by rw [h, List.getElem?_append_right (Nat.le_refl _)]; simp
 rw [List.getElem?_take, if_pos hn] at this
 exact this
theorem l30 {N : Nat} {b : BoxD} {a2 : BoxD} {a3 : Nat} {a4 : Iqq} (ih : ∀ x ∈ b.kids, ∀ (gen : Nat) (row : Iqq) (len : Nat), len ≤ row.length → len + cnt x ≤ 9000000 →
   ∃ g' row', RQ N x a2 a3 a4 gen row len = some (.k0 g' row' (len + cnt x)) ∧ row'.take (len + cnt x) = row.take len ++ szs x ∧ len + cnt x ≤ row'.length) (hb : b.kids.length ≤ 9000000) :
  ∀ (k j gen : Nat) (row : Iqq) (len : Nat), j + k = b.kids.length → len ≤ row.length → len + cnts (b.kids.drop j) ≤ 9000000 →
   ∃ g' row', runL (fun s => XG (RQ N) b (b.kids.length : Int) a2 a3 a4 s.1 s.2.1 s.2.2.1 s.2.2.2) ((j : Int), gen, row, len) = some (.k0 g' row' (len + cnts (b.kids.drop j))) ∧ row'.take (len + cnts (b.kids.drop j)) = row.take len ++ szss (b.kids.drop j) ∧ len + cnts (b.kids.drop j) ≤ row'.length
 | 0, j, gen, row, len, hj, hl, hc => by
  obtain rfl : j = b.kids.length := by omega
  rw [List.drop_length]
  refine ⟨gen, row, Zq ?_, by simp [cnts, szss], by simp [cnts]; exact hl⟩
  simp only [XG, decide_eq_false (show ¬ (b.kids.length : Int) < (b.kids.length : Int) by omega), cond_false, cnts, Nat.add_zero]
 | k + 1, j, gen, row, len, hj, hl, hc => by
  have hx : b.kids[j]? = some (b.kids[j]'(by omega)) := geg _
  have hd : b.kids.drop j = b.kids[j]'(by omega) :: b.kids.drop (j + 1) := List.drop_eq_getElem_cons (by omega)
  generalize b.kids[j]'(by omega) = x at hx hd
  rw [hd] at hc ⊢
  simp only [cnts] at hc ⊢
  obtain ⟨g1, row1, h1, h2, h3⟩ := ih x (mog hx) gen row len hl (by omega)
  obtain ⟨g2, row2, k1, k2, k3⟩ := l30 ih hb k (j + 1) g1 row1 (len + cnt x) (by omega) h3 (by omega)
  refine ⟨g2, row2, ?_, ?_, by omega⟩
  ·rw [ZL (s' := (((j + 1 : Nat) : Int), g1, row1, len + cnt x)) (by
    simp only [XG, decide_eq_true (show (j : Int) < (b.kids.length : Int) by omega), cond_true, Zu, hx, bsm, h1, w_S (show j < 4611686018427387904 by omega)])]
   rw [k1, Nat.add_assoc]
  ·rw [← Nat.add_assoc, k2, h2]
   simp only [szss, List.append_assoc]
theorem q30 (a2 : BoxD) (a3 : Nat) (a4 : Iqq) : ∀ (N : Nat) (b : BoxD) (gen : Nat) (row : Iqq) (len : Nat), cnt b ≤ N → len ≤ row.length → len + cnt b ≤ 9000000 →
  ∃ g' row', RQ N b a2 a3 a4 gen row len = some (.k0 g' row' (len + cnt b)) ∧ row'.take (len + cnt b) = row.take len ++ szs b ∧ len + cnt b ≤ row'.length
 | 0, b, _, _, _, h, _, _ => by have := ZN b; omega
 | N + 1, b, gen, row, len, h, hl, hc => by
  show ∃ g' row', UE (RQ N) b a2 a3 a4 gen row len = _ ∧ _
  have hcb := Z6 b
  have hkl := Xx b.kids
  obtain ⟨p1, p2⟩ := put1 (row := row) (0 : Int) hl
  have ih : ∀ x ∈ b.kids, ∀ (gen : Nat) (row : Iqq) (len : Nat), len ≤ row.length → len + cnt x ≤ 9000000 →
    ∃ g' row', RQ N x a2 a3 a4 gen row len = some (.k0 g' row' (len + cnt x)) ∧ row'.take (len + cnt x) = row.take len ++ szs x ∧ len + cnt x ≤ row'.length :=
   fun x hx gen row len h1 h2 => q30 a2 a3 a4 N x gen row len (by have := YA hx; omega) h1 h2
  have go : ∀ (g1 : Nat) (row1 : Iqq), row1.take (len + 1) = row.take len ++ [0] → len + 1 ≤ row1.length →
    ∃ g2 row2 row', runL (fun s => XG (RQ N) b (b.kids.length : Int) a2 a3 a4 s.1 s.2.1 s.2.2.1 s.2.2.2) (0, g1, row1, len + 1) = some (.k0 g2 row2 (len + cnt b)) ∧ ixN (len + cnt b) ((len : Nat) : Int) = some len ∧ (∃ z, row2[len]? = some z) ∧
     row' = row2.set len (cnt b : Int) ∧ IntKind.wrap .i64 (((len + cnt b : Nat) : Int) - ((len : Nat) : Int)) = (cnt b : Int) ∧ row'.take (len + cnt b) = row.take len ++ szs b ∧ len + cnt b ≤ row'.length := by
   intro g1 row1 h1 h2
   have e0 : ((0 : Nat) : Int) = 0 := rfl
   obtain ⟨g2, row2, k1, k2, k3⟩ := l30 ih (by omega) b.kids.length 0 g1 row1 (len + 1) (by omega) h2 (by rw [List.drop_zero]; omega)
   rw [List.drop_zero] at k1 k2 k3
   rw [e0, show len + 1 + cnts b.kids = len + cnt b by omega] at k1
   rw [show len + 1 + cnts b.kids = len + cnt b by omega] at k2 k3
   rw [h1, List.append_assoc] at k2
   have hpl : (row.take len).length = len := by rw [List.length_take]; omega
   have k2' : row2.take (len + cnt b) = row.take len ++ 0 :: szss b.kids := k2
   have h3 := P5 k2' (by omega)
   rw [hpl] at h3
   have h4 := Up (y := (cnt b : Int)) k2' (by omega)
   rw [hpl] at h4
   refine ⟨g2, row2, _, k1, by rw [UA, if_pos (by omega)], ⟨_, h3⟩, rfl, by rw [w_id (by omega)]; omega, ?_, by rw [List.length_set]; exact k3⟩
   rw [h4, NS]
  by_cases hc1 : len + 1 ≤ row.length
  ·obtain ⟨g2, row2, row', m1, m2, ⟨z, m3⟩, m4, m5, m6, m7⟩ := go gen (splice row len [0]) (p1 hc1).1 (p1 hc1).2
   refine ⟨g2, row', ?_, m6, m7⟩
   unfold UE
   rw [ap1 hl (by omega) (by omega), decide_eq_true hc1]
   simp only [cond_true, m1, bsm, m2, m3, m5, m4]
  ·obtain ⟨g2, row2, row', m1, m2, ⟨z, m3⟩, m4, m5, m6, m7⟩ := go (gen + 1) (row.take len ++ [0]) p2.1 p2.2
   refine ⟨g2, row', ?_, m6, m7⟩
   unfold UE
   rw [ap1 hl (by omega) (by omega), decide_eq_false hc1]
   simp only [cond_true, cond_false, m1, bsm, m2, m3, m5, m4]
theorem q26 (N : Nat) (b : BoxD) (h : cnt b ≤ N) (hc : cnt b ≤ 4000) : F26 N b = some (szs b) := by
 obtain ⟨g', row', h1, h2, h3⟩ := q30 b 0 [] N b 0 [] 0 h (Nat.le_refl _) (by omega)
 rw [Nat.zero_add] at h1 h2 h3
 unfold F26
 rw [h1]
 simp only [bsm, decide_eq_true h3, cond_true, h2, List.take_nil, List.nil_append]
theorem Uq (c : UInt8) : ∀ l : Uqq, (Go.Lib.indexByte l c = -1 ∧ c ∉ l) ∨ ∃ p r, l = p ++ c :: r ∧ c ∉ p ∧ Go.Lib.indexByte l c = (p.length : Int)
 | [] => .inl ⟨rfl, by simp⟩
 | b :: l => by
  unfold Go.Lib.indexByte
  by_cases hb : b = c
  ·subst hb
   exact .inr ⟨[], l, rfl, by simp, by simp⟩
  ·have hb' : (b == c) = false := by simpa using hb
   rw [hb']
   rcases Uq c l with ⟨h1, h2⟩ | ⟨p, r, h1, h2, h3⟩
   ·rw [h1]
    refine .inl ⟨rfl, ?_⟩
    simp only [List.mem_cons, not_or]
    exact ⟨fun h => hb h.symm, h2⟩
   ·rw [h3]
    refine .inr ⟨b :: p, r, by rw [h1]; rfl, ?_, ?_⟩
    ·simp only [List.mem_cons, not_or]
     exact ⟨fun h => hb h.symm, h2⟩
    ·have : ((p.length : Int) == -1) = false := by simp
     simp only [this, Bool.false_eq_true, if_false, lcn]
     omega
theorem q29 (b : BoxD) : F29 b = some (YL b.text) := by
 have g0 : getI (⟨([10] : List UInt8).toArray⟩ : ByteArray).data.toList 0 = some (10 : UInt8) := rfl
 have e1 : (Int.toNat (((10 : UInt8).toNat : Nat) : Int)).toUInt8 = 10 := by decide
 unfold F29 F39 F48
 by_cases he : (⟨([10] : List UInt8).toArray⟩ : ByteArray) = b.text
 ·rw [Z0, decide_eq_true he]
  have : YL b.text = true := by rw [← he]; decide
  rw [this]
  rfl
 ·rw [Z0, decide_eq_false he]
  simp only [cond_false, g0, bsm, F56, e1, Go.Lib.firstIdx_eq]
  unfold YL
  rcases Uq 10 b.text.data.toList with ⟨h1, h2⟩ | ⟨p, r, h1, h2, h3⟩
  ·rw [h1, decide_eq_false h2]; rfl
  ·rw [h3, decide_eq_true (show (p.length : Int) ≥ 0 by omega), decide_eq_true (by rw [h1]; simp)]
theorem JQ {x : BoxD} {l : Bqq} : Tm (x :: l) = (hasL x || Tm l) := by simp only [Tm]
theorem CJ {N : Nat} {b : BoxD} {a2 : BoxD} {a3 : Nat} {a4 : Oqq} (ih : ∀ x ∈ b.kids, ∀ (gen : Nat) (row : Oqq) (len : Nat), len ≤ row.length → len + cnt x ≤ 9000000 →
   ∃ g' row', SU N x a2 a3 a4 gen row len = some (.k0 (hasL x) g' row' (len + cnt x)) ∧ row'.take (len + cnt x) = row.take len ++ lns x ∧ len + cnt x ≤ row'.length) (hb : b.kids.length ≤ 9000000) :
  ∀ (k j gen : Nat) (row : Oqq) (len : Nat), j + k = b.kids.length → len ≤ row.length → len + cnts (b.kids.drop j) ≤ 9000000 →
   ∃ g' row', runL (fun s => Wf (SU N) b (b.kids.length : Int) a2 a3 a4 s.1 s.2.1 s.2.2.1 s.2.2.2) ((j : Int), gen, row, len) = some (.k0 g' row' (len + cnts (b.kids.drop j))) ∧ row'.take (len + cnts (b.kids.drop j)) = row.take len ++ lnss (b.kids.drop j) ∧ len + cnts (b.kids.drop j) ≤ row'.length
 | 0, j, gen, row, len, hj, hl, hc => by
  obtain rfl : j = b.kids.length := by omega
  rw [List.drop_length]
  refine ⟨gen, row, Zq ?_, by simp [cnts, lnss], by simp [cnts]; exact hl⟩
  simp only [Wf, decide_eq_false (show ¬ (b.kids.length : Int) < (b.kids.length : Int) by omega), cond_false, cnts, Nat.add_zero]
 | k + 1, j, gen, row, len, hj, hl, hc => by
  have hx : b.kids[j]? = some (b.kids[j]'(by omega)) := geg _
  have hd : b.kids.drop j = b.kids[j]'(by omega) :: b.kids.drop (j + 1) := List.drop_eq_getElem_cons (by omega)
  generalize b.kids[j]'(by omega) = x at hx hd
  rw [hd] at hc ⊢
  simp only [cnts] at hc ⊢
  obtain ⟨g1, row1, h1, h2, h3⟩ := ih x (mog hx) gen row len hl (by omega)
  obtain ⟨g2, row2, k1, k2, k3⟩ := CJ ih hb k (j + 1) g1 row1 (len + cnt x) (by omega) h3 (by omega)
  refine ⟨g2, row2, ?_, ?_, by omega⟩
  ·rw [ZL (s' := (((j + 1 : Nat) : Int), g1, row1, len + cnt x)) (by
    simp only [Wf, decide_eq_true (show (j : Int) < (b.kids.length : Int) by omega), cond_true, Zu, hx, bsm, h1, w_S (show j < 4611686018427387904 by omega)]
    cases hasL x <;> rfl)]
   rw [k1, Nat.add_assoc]
  ·rw [← Nat.add_assoc, k2, h2]
   simp only [lnss, List.append_assoc]
theorem CK {N : Nat} {b : BoxD} {a2 : BoxD} {a3 : Nat} {a4 : Oqq} (ih : ∀ x ∈ b.kids, ∀ (gen : Nat) (row : Oqq) (len : Nat), len ≤ row.length → len + cnt x ≤ 9000000 →
   ∃ g' row', SU N x a2 a3 a4 gen row len = some (.k0 (hasL x) g' row' (len + cnt x)) ∧ row'.take (len + cnt x) = row.take len ++ lns x ∧ len + cnt x ≤ row'.length) (hb : b.kids.length ≤ 9000000) :
  ∀ (k j gen : Nat) (row : Oqq) (len : Nat) (v : Bool), j + k = b.kids.length → len ≤ row.length → len + cnts (b.kids.drop j) ≤ 9000000 →
   ∃ g' row', runL (fun s => Wg (SU N) b (b.kids.length : Int) a2 a3 a4 s.1 s.2.1 s.2.2.1 s.2.2.2.1 s.2.2.2.2) (v, (j : Int), gen, row, len) = some (.k0 (v || Tm (b.kids.drop j)) g' row' (len + cnts (b.kids.drop j))) ∧ row'.take (len + cnts (b.kids.drop j)) = row.take len ++ lnss (b.kids.drop j) ∧ len + cnts (b.kids.drop j) ≤ row'.length
 | 0, j, gen, row, len, v, hj, hl, hc => by
  obtain rfl : j = b.kids.length := by omega
  rw [List.drop_length]
  refine ⟨gen, row, Zq ?_, by simp [cnts, lnss], by simp [cnts]; exact hl⟩
  simp only [Wg, decide_eq_false (show ¬ (b.kids.length : Int) < (b.kids.length : Int) by omega), cond_false, cnts, Nat.add_zero, Tm, Bool.or_false]
 | k + 1, j, gen, row, len, v, hj, hl, hc => by
  have hx : b.kids[j]? = some (b.kids[j]'(by omega)) := geg _
  have hd : b.kids.drop j = b.kids[j]'(by omega) :: b.kids.drop (j + 1) := List.drop_eq_getElem_cons (by omega)
  generalize b.kids[j]'(by omega) = x at hx hd
  rw [hd] at hc ⊢
  simp only [cnts] at hc ⊢
  obtain ⟨g1, row1, h1, h2, h3⟩ := ih x (mog hx) gen row len hl (by omega)
  obtain ⟨g2, row2, k1, k2, k3⟩ := CK ih hb k (j + 1) g1 row1 (len + cnt x) (v || hasL x) (by omega) h3 (by omega)
  refine ⟨g2, row2, ?_, ?_, by omega⟩
  ·rw [ZL (s' := ((v || hasL x), ((j + 1 : Nat) : Int), g1, row1, len + cnt x)) (by
    simp only [Wg, decide_eq_true (show (j : Int) < (b.kids.length : Int) by omega), cond_true, Zu, hx, bsm, h1, w_S (show j < 4611686018427387904 by omega)]
    cases hasL x <;> cases v <;> rfl)]
   rw [k1, Nat.add_assoc, JQ, Bool.or_assoc]
  ·rw [← Nat.add_assoc, k2, h2]
   simp only [lnss, List.append_assoc]
theorem q28 (a2 : BoxD) (a3 : Nat) (a4 : Oqq) : ∀ (N : Nat) (b : BoxD) (gen : Nat) (row : Oqq) (len : Nat), cnt b ≤ N → len ≤ row.length → len + cnt b ≤ 9000000 →
  ∃ g' row', SU N b a2 a3 a4 gen row len = some (.k0 (hasL b) g' row' (len + cnt b)) ∧ row'.take (len + cnt b) = row.take len ++ lns b ∧ len + cnt b ≤ row'.length
 | 0, b, _, _, _, h, _, _ => by have := ZN b; omega
 | N + 1, b, gen, row, len, h, hl, hc => by
  show ∃ g' row', WA (SU N) b a2 a3 a4 gen row len = _ ∧ _
  have hcb := Z6 b
  have hkl := Xx b.kids
  have e0 : ((0 : Nat) : Int) = 0 := rfl
  have hpl : (row.take len).length = len := by rw [List.length_take]; omega
  have ih : ∀ x ∈ b.kids, ∀ (gen : Nat) (row : Oqq) (len : Nat), len ≤ row.length → len + cnt x ≤ 9000000 →
    ∃ g' row', SU N x a2 a3 a4 gen row len = some (.k0 (hasL x) g' row' (len + cnt x)) ∧ row'.take (len + cnt x) = row.take len ++ lns x ∧ len + cnt x ≤ row'.length :=
   fun x hx gen row len h1 h2 => q28 a2 a3 a4 N x gen row len (by have := YA hx; omega) h1 h2
  have fin : ∀ (row1 row2 : Oqq) (v : Bool), row1.take (len + 1) = row.take len ++ [v] → row2.take (len + 1 + cnts b.kids) = row1.take (len + 1) ++ lnss b.kids → len + 1 + cnts b.kids ≤ row2.length →
    ixN (len + cnt b) ((len : Nat) : Int) = some len ∧ (∃ z, row2[len]? = some z) ∧ (row2.set len (hasL b)).take (len + cnt b) = row.take len ++ lns b ∧ len + cnt b ≤ (row2.set len (hasL b)).length := by
   intro row1 row2 v h1 k2 k3
   rw [show len + 1 + cnts b.kids = len + cnt b by omega] at k2 k3
   rw [h1, List.append_assoc] at k2
   have k2' : row2.take (len + cnt b) = row.take len ++ v :: lnss b.kids := k2
   have h3 := P5 k2' (by omega)
   rw [hpl] at h3
   have h4 := Up (y := hasL b) k2' (by omega)
   rw [hpl] at h4
   refine ⟨by rw [UA, if_pos (by omega)], ⟨_, h3⟩, by rw [h4, Q3], by rw [List.length_set]; exact k3⟩
  have hlc : len + 1 + cnts b.kids = len + cnt b := by omega
  by_cases hk : b.kind = 2
  ·have hkt : (b.kind == 2) = true := by rw [hk]; rfl
   have hh : hasL b = true := by rw [U9, hkt]; rfl
   obtain ⟨p1, p2⟩ := put1 (row := row) true hl
   by_cases hc1 : len + 1 ≤ row.length
   ·obtain ⟨g2, row2, k1, k2, k3⟩ := CJ ih (by omega) b.kids.length 0 gen (splice row len [true]) (len + 1) (by omega) (p1 hc1).2 (by rw [List.drop_zero]; omega)
    rw [List.drop_zero] at k1 k2 k3
    obtain ⟨m1, ⟨z, m2⟩, m3, m4⟩ := fin _ row2 true (p1 hc1).1 k2 k3
    rw [e0, hlc] at k1
    refine ⟨g2, row2.set len (hasL b), ?_, m3, m4⟩
    unfold WA
    rw [hkt, ap1 hl (by omega) (by omega), decide_eq_true hc1]
    simp only [cond_true, k1, bsm, m1, m2, hh]
   ·obtain ⟨g2, row2, k1, k2, k3⟩ := CJ ih (by omega) b.kids.length 0 (gen + 1) (row.take len ++ [true]) (len + 1) (by omega) p2.2 (by rw [List.drop_zero]; omega)
    rw [List.drop_zero] at k1 k2 k3
    obtain ⟨m1, ⟨z, m2⟩, m3, m4⟩ := fin _ row2 true p2.1 k2 k3
    rw [e0, hlc] at k1
    refine ⟨g2, row2.set len (hasL b), ?_, m3, m4⟩
    unfold WA
    rw [hkt, ap1 hl (by omega) (by omega), decide_eq_false hc1]
    simp only [cond_true, cond_false, k1, bsm, m1, m2, hh]
  ·have hkf : (b.kind == 2) = false := by simpa using hk
   have hh : hasL b = (YL b.text || Tm b.kids) := by rw [U9, hkf, Bool.false_or]
   obtain ⟨p1, p2⟩ := put1 (row := row) (YL b.text) hl
   by_cases hc1 : len + 1 ≤ row.length
   ·obtain ⟨g2, row2, k1, k2, k3⟩ := CK ih (by omega) b.kids.length 0 gen (splice row len [YL b.text]) (len + 1) (YL b.text) (by omega) (p1 hc1).2 (by rw [List.drop_zero]; omega)
    rw [List.drop_zero] at k1 k2 k3
    obtain ⟨m1, ⟨z, m2⟩, m3, m4⟩ := fin _ row2 _ (p1 hc1).1 k2 k3
    rw [e0, hlc, ← hh] at k1
    refine ⟨g2, row2.set len (hasL b), ?_, m3, m4⟩
    unfold WA
    rw [hkf, ap1 hl (by omega) (by omega), decide_eq_true hc1, q29]
    simp only [cond_true, cond_false, bsm, k1, m1, m2]
   ·obtain ⟨g2, row2, k1, k2, k3⟩ := CK ih (by omega) b.kids.length 0 (gen + 1) (row.take len ++ [YL b.text]) (len + 1) (YL b.text) (by omega) p2.2 (by rw [List.drop_zero]; omega)
    rw [List.drop_zero] at k1 k2 k3
    obtain ⟨m1, ⟨z, m2⟩, m3, m4⟩ := fin _ row2 _ p2.1 k2 k3
    rw [e0, hlc, ← hh] at k1
    refine ⟨g2, row2.set len (hasL b), ?_, m3, m4⟩
    unfold WA
    rw [hkf, ap1 hl (by omega) (by omega), decide_eq_false hc1, q29]
    simp only [cond_true, cond_false, bsm, k1, m1, m2]
theorem q18 (N : Nat) (b : BoxD) (h : cnt b ≤ N) (hc : cnt b ≤ 4000) : F18 N b = some (lns b) := by
 obtain ⟨g', row', h1, h2, h3⟩ := q28 b 0 [] N b 0 [] 0 h (Nat.le_refl _) (by omega)
 rw [Nat.zero_add] at h1 h2 h3
 unfold F18
 rw [h1]
 simp only [bsm, decide_eq_true h3, cond_true, h2, List.take_nil, List.nil_append]
inductive Bd : BoxD → Prop
 | mk {k n : Int} {t : ByteArray} {l : Bqq} (h1 : t.size ≤ 140737488355328) (h5 : ∀ x ∈ l, Bd x) : Bd (.mk k t n l)
theorem Bd.txt {b : BoxD} (h : Bd b) : b.text.size ≤ 140737488355328 := by cases h with | mk h1 h5 => exact h1
theorem Bd.kid {b x : BoxD} (h : Bd b) (hx : x ∈ b.kids) : Bd x := by cases h with | mk h1 h5 => exact h5 x hx
theorem Fw {l : Bqq} {j : Nat} {x : BoxD} (h : l[j]? = some x) : wts (l.take (j + 1)) = wts (l.take j) + wt x := by
 have hj := (gei.1 h)
 obtain ⟨h1, h2⟩ := hj
 rw [List.take_succ_eq_append_getElem h1, HU, h2]
 simp [wts]
theorem NT {l : Bqq} {j : Nat} {x : BoxD} (h : l[j]? = some x) : cnts (l.take (j + 1)) = cnts (l.take j) + cnt x := by
 have hj := (gei.1 h)
 obtain ⟨h1, h2⟩ := hj
 rw [List.take_succ_eq_append_getElem h1, TM, h2]
 simp [cnts]
theorem q12 : ∀ (N : Nat) (b : BoxD) (left : Int), Bd b → 0 ≤ left ∧ left ≤ 3000 → left < (N : Int) → ∃ v, MD N b left = some v ∧ 1 ≤ v ∧ v ≤ left + 140737488355329 ∧ (v ≤ left → v = (wt b : Int))
 | 0, b, left, _, h1, h2 => by omega
 | N + 1, b, left, hB, h1, h2 => by
  show ∃ v, SC (MD N) b left = some v ∧ _
  have ht := hB.txt
  have key : ∀ (k j : Nat) (v : Int), j + k = b.kids.length → (j : Int) + 1 ≤ v → v ≤ left + 140737488355329 → (v ≤ left → v = ((1 + b.text.size + wts (b.kids.take j) : Nat) : Int)) →
    ∃ v', runL (fun s => X9 (MD N) left b s.1 s.2) (v, (j : Int)) = some (.k0 v') ∧ 1 ≤ v' ∧ v' ≤ left + 140737488355329 ∧ (v' ≤ left → v' = (wt b : Int)) := by
   intro k
   induction k with
   | zero =>
    intro j v hj hv1 hv2 he
    obtain rfl : j = b.kids.length := by omega
    rw [List.take_length] at he
    exact ⟨v, Zq (by simp [X9]), by omega, hv2, fun h => by rw [he h, NR]⟩
   | succ k ih =>
    intro j v hj hv1 hv2 he
    have hx : b.kids[j]? = some (b.kids[j]'(by omega)) := geg _
    generalize b.kids[j]'(by omega) = x at hx
    have hlt : decide ((j : Int) < (b.kids.length : Int)) = true := decide_eq_true (by omega)
    by_cases hle : v ≤ left
    ·have hlw : IntKind.wrap .i64 (left - v) = left - v := w_id (by omega)
     obtain ⟨u, u1, u2, u3, u4⟩ := q12 N x (left - v) (hB.kid (mog hx)) (by omega) (by omega)
     have hvw : IntKind.wrap .i64 (v + u) = v + u := w_id (by omega)
     obtain ⟨v', k1, k2, k3, k4⟩ := ih (j + 1) (v + u) (by omega) (by omega) (by omega) (fun h => by
      rw [Fw hx, he hle, u4 (by omega)]; omega)
     refine ⟨v', ?_, k2, k3, k4⟩
     rw [ZL (s' := (v + u, ((j + 1 : Nat) : Int))) (by
      simp only [X9, hlt, cond_true, decide_eq_true hle, Zu, hx, bsm, hlw, u1, hvw, w_S (show j < 4611686018427387904 by omega)])]
     exact k1
    ·exact ⟨v, Zq (by simp only [X9, hlt, cond_true, decide_eq_false hle, cond_false]), by omega, hv2, fun h => absurd h hle⟩
  have hw : IntKind.wrap .i64 (1 + (b.text.size : Int)) = 1 + (b.text.size : Int) := w_id (by omega)
  have e0 : ((0 : Nat) : Int) = 0 := rfl
  obtain ⟨v, k1, k2, k3, k4⟩ := key b.kids.length 0 (1 + (b.text.size : Int)) (by omega) (by omega) (by omega) (fun _ => by simp [wts])
  rw [e0] at k1
  refine ⟨v, ?_, k2, k3, k4⟩
  unfold SC
  rw [hw, k1]
  rfl
theorem q5 (N : Nat) (b : BoxD) (hB : Bd b) (hN : 3000 < N) : ∃ v, F5 N b = some v ∧ (v = true → wt b ≤ 3000) := by
 obtain ⟨v, h1, h2, h3, h4⟩ := q12 N b 3000 hB (by omega) (by omega)
 unfold F5
 rw [h1]
 refine ⟨_, rfl, fun h => ?_⟩
 have h := of_decide_eq_true h
 have := h4 h
 omega
noncomputable def ok25 (N : Nat) (x : BoxD) : Bool := (F25 N x).getD false
theorem Zh {a b : Int} (h : ¬ a = b) : (a == b) = false := by simpa using h
theorem q25 : ∀ (N : Nat) (b : BoxD), cnt b ≤ N → cnt b ≤ 4000000 → ∃ v, F25 N b = some v ∧ (v = true → Ok b)
 | 0, b, h, _ => by have := ZN b; omega
 | N + 1, b, h, hc => by
  show ∃ v, Hh (F25 N) b = some v ∧ _
  have hcb := Z6 b
  have hkl := Xx b.kids
  have ih : ∀ x ∈ b.kids, F25 N x = some (ok25 N x) ∧ (ok25 N x = true → Ok x) := fun x hx => by
   obtain ⟨v, h1, h2⟩ := q25 N x (by have := YA hx; omega) (by have := YA hx; omega)
   unfold ok25
   rw [h1]
   exact ⟨rfl, h2⟩
  have hall : allF (fun _ x => ok25 N x) 0 b.kids = true → ∀ x ∈ b.kids, Ok x := fun ha x hx => by
   obtain ⟨j, hj⟩ := List.getElem?_of_mem hx
   exact (ih x hx).2 ((LQ _ _).1 ha j x hj)
  have kids1 : runL (fun s => PJ (F25 N) b (b.kids.length : Int) s) 0 = some (bif allF (fun _ x => ok25 N x) 0 b.kids then .k1 else .k0) := by
   refine Wy (step := fun s => PJ (F25 N) b (b.kids.length : Int) s) (l := b.kids) (fun _ x => ok25 N x) (bad := E_L25_0.k0) (fin := .k1) (fun i x hx => ?_) (by simp [PJ])
   have hi : i < b.kids.length := (gei.1 hx).1
   simp only [PJ, Zu, hx, bsm, decide_eq_true (show (i : Int) < (b.kids.length : Int) by omega), cond_true, (ih x (mog hx)).1, w_S (show i < 4611686018427387904 by omega)]
   cases ok25 N x <;> rfl
  have kids2 : runL (fun s => Wb (F25 N) b (b.kids.length : Int) s) 0 = some (bif allF (fun _ x => ok25 N x) 0 b.kids then .k1 else .k0) := by
   refine Wy (step := fun s => Wb (F25 N) b (b.kids.length : Int) s) (l := b.kids) (fun _ x => ok25 N x) (bad := E_L25_0_2.k0) (fin := .k1) (fun i x hx => ?_) (by simp [Wb])
   have hi : i < b.kids.length := (gei.1 hx).1
   simp only [Wb, Zu, hx, bsm, decide_eq_true (show (i : Int) < (b.kids.length : Int) by omega), cond_true, (ih x (mog hx)).1, w_S (show i < 4611686018427387904 by omega)]
   cases ok25 N x <;> rfl
  have kids3 : runL (fun s => Wc (F25 N) b (b.kids.length : Int) s) 0 = some (bif allF (fun _ x => ok25 N x) 0 b.kids then .k1 else .k0) := by
   refine Wy (step := fun s => Wc (F25 N) b (b.kids.length : Int) s) (l := b.kids) (fun _ x => ok25 N x) (bad := E_L25_0_3.k0) (fin := .k1) (fun i x hx => ?_) (by simp [Wc])
   have hi : i < b.kids.length := (gei.1 hx).1
   simp only [Wc, Zu, hx, bsm, decide_eq_true (show (i : Int) < (b.kids.length : Int) by omega), cond_true, (ih x (mog hx)).1, w_S (show i < 4611686018427387904 by omega)]
   cases ok25 N x <;> rfl
  have kids4 : runL (fun s => XE (F25 N) b (b.kids.length : Int) s) 0 = some (bif allF (fun _ x => ok25 N x) 0 b.kids then .k1 else .k0) := by
   refine Wy (step := fun s => XE (F25 N) b (b.kids.length : Int) s) (l := b.kids) (fun _ x => ok25 N x) (bad := E_L25_0_4.k0) (fin := .k1) (fun i x hx => ?_) (by simp [XE])
   have hi : i < b.kids.length := (gei.1 hx).1
   simp only [XE, Zu, hx, bsm, decide_eq_true (show (i : Int) < (b.kids.length : Int) by omega), cond_true, (ih x (mog hx)).1, w_S (show i < 4611686018427387904 by omega)]
   cases ok25 N x <;> rfl
  have kids5 : runL (fun s => We (F25 N) b (b.kids.length : Int) s) 0 = some (bif allF (fun _ x => ok25 N x) 0 b.kids then .k1 else .k0) := by
   refine Wy (step := fun s => We (F25 N) b (b.kids.length : Int) s) (l := b.kids) (fun _ x => ok25 N x) (bad := E_L25_0_5.k0) (fin := .k1) (fun i x hx => ?_) (by simp [We])
   have hi : i < b.kids.length := (gei.1 hx).1
   simp only [We, Zu, hx, bsm, decide_eq_true (show (i : Int) < (b.kids.length : Int) by omega), cond_true, (ih x (mog hx)).1, w_S (show i < 4611686018427387904 by omega)]
   cases ok25 N x <;> rfl
  unfold Hh
  have tN : (¬ b.n < 0 → ¬ b.n > 100 → 0 ≤ b.n ∧ b.n ≤ 100) := fun h1 h2 => by omega
  have tK : ((b.kids.length : Int) != 0) = false → b.kids = [] := fun h => by
   have : (b.kids.length : Int) = 0 := by simpa using h
   exact enz (by omega)
  have tT : (b.text.toList == Eqq.toList) = true → b.text.size = 0 := fun h => by
   rw [Z0] at h
   rw [of_decide_eq_true h]
   rfl
  by_cases k0 : b.kind = 0
  ·have q0 : (b.kind == 0) = true := by rw [k0]; rfl
   rw [q0]
   simp only [cond_true, beq_self_eq_true, Bool.not_true, cond_false]
   cases c1 : (b.n != 0) with
   | true => exact ⟨false, rfl, fun e => by cases e⟩
   | false =>
    cases c2 : ((b.kids.length : Int) != 0) with
    | true => exact ⟨false, rfl, fun e => by cases e⟩
    | false =>
     have hk := tK c2
     have hn : b.n = 0 := by simpa using c1
     rw [decide_eq_false (show ¬ b.n < 0 by omega), decide_eq_false (show ¬ b.n > 100 by omega), kids1]
     simp only [cond_false, bsm]
     cases allF (fun _ x => ok25 N x) 0 b.kids with
     | false => exact ⟨false, rfl, fun e => by cases e⟩
     | true => exact ⟨true, rfl, fun _ => Ok.of (.inl k0) (fun _ => hk) (by omega) (by omega) (by rw [hk]; simp)⟩
  rw [Zh k0]
  simp only [cond_false]
  have fin : ∀ (T : Bool), (b.text.toList == Eqq.toList) = true → (b.kind < 3 → b.kids = []) → ¬ b.n < 0 → ¬ b.n > 100 → 0 ≤ b.kind ∧ b.kind ≤ 5 → T = allF (fun _ x => ok25 N x) 0 b.kids → T = true → Ok b :=
   fun T h1 h2 h3 h4 h5 h6 h7 => Ok.of (.inr (tT h1)) h2 (tN h3 h4) h5 (hall (by rw [← h6]; exact h7))
  cases ct : (b.text.toList == Eqq.toList) with
  | false =>
   simp only [Bool.not_false, cond_true]
   cases b.kind == 5 <;> cases b.kind == 1 <;> cases b.kind == 3 <;> cases b.kind == 4 <;> cases b.kind == 2 <;> exact ⟨false, rfl, fun e => by cases e⟩
  | true =>
   simp only [Bool.not_true, cond_false, bne_self_eq_false]
   have fail : ∃ v, (some false : Option Bool) = some v ∧ (v = true → Ok b) := ⟨false, rfl, fun e => by cases e⟩
   have rng : ∀ {α : Type} (X : Option Bool), (¬ b.n < 0 → ¬ b.n > 100 → ∃ v, X = some v ∧ (v = true → Ok b)) → ∃ v, (bif decide (b.n < 0) then some false else (bif decide (b.n > 100) then some false else X)) = some v ∧ (v = true → Ok b) := by
    intro _ X hX
    by_cases n1 : b.n < 0
    ·rw [decide_eq_true n1]; exact fail
    ·rw [decide_eq_false n1]
     by_cases n2 : b.n > 100
     ·rw [decide_eq_true n2]; exact fail
     ·rw [decide_eq_false n2]; exact hX n1 n2
   by_cases k5 : b.kind = 5
   ·rw [show (b.kind == 5) = true by rw [k5]; rfl]
    simp only [cond_true]
    refine rng (α := Unit) _ (fun n1 n2 => ?_)
    rw [kids2]
    cases hA : allF (fun _ x => ok25 N x) 0 b.kids with
    | false => exact fail
    | true => exact ⟨true, rfl, fun _ => fin true ct (fun h => by omega) n1 n2 (by omega) hA.symm rfl⟩
   rw [Zh k5]
   simp only [cond_false]
   by_cases k1 : b.kind = 1
   ·rw [show (b.kind == 1) = true by rw [k1]; rfl]
    simp only [cond_true]
    cases c2 : ((b.kids.length : Int) != 0) with
    | true => exact fail
    | false =>
     simp only [cond_false]
     refine rng (α := Unit) _ (fun n1 n2 => ?_)
     rw [kids3]
     cases hA : allF (fun _ x => ok25 N x) 0 b.kids with
     | false => exact fail
     | true => exact ⟨true, rfl, fun _ => fin true ct (fun h => tK c2) n1 n2 (by omega) hA.symm rfl⟩
   rw [Zh k1]
   simp only [cond_false]
   by_cases k3 : b.kind = 3
   ·rw [show (b.kind == 3) = true by rw [k3]; rfl]
    simp only [cond_true]
    cases c1 : (b.n != 0) with
    | true => exact fail
    | false =>
     simp only [cond_false]
     refine rng (α := Unit) _ (fun n1 n2 => ?_)
     rw [kids4]
     cases hA : allF (fun _ x => ok25 N x) 0 b.kids with
     | false => exact fail
     | true => exact ⟨true, rfl, fun _ => fin true ct (fun h => by omega) n1 n2 (by omega) hA.symm rfl⟩
   rw [Zh k3]
   simp only [cond_false]
   by_cases k4 : b.kind = 4
   ·rw [show (b.kind == 4) = true by rw [k4]; rfl]
    simp only [cond_true]
    cases c1 : (b.n != 0) with
    | true => exact fail
    | false =>
     simp only [cond_false]
     refine rng (α := Unit) _ (fun n1 n2 => ?_)
     rw [kids4]
     cases hA : allF (fun _ x => ok25 N x) 0 b.kids with
     | false => exact fail
     | true => exact ⟨true, rfl, fun _ => fin true ct (fun h => by omega) n1 n2 (by omega) hA.symm rfl⟩
   rw [Zh k4]
   simp only [cond_false]
   by_cases k2 : b.kind = 2
   ·rw [show (b.kind == 2) = true by rw [k2]; rfl]
    simp only [cond_true]
    cases c1 : (b.n != 0) with
    | true => exact fail
    | false =>
     simp only [cond_false]
     cases c2 : ((b.kids.length : Int) != 0) with
     | true => exact fail
     | false =>
      simp only [cond_false]
      refine rng (α := Unit) _ (fun n1 n2 => ?_)
      rw [kids5]
      cases hA : allF (fun _ x => ok25 N x) 0 b.kids with
      | false => exact fail
      | true => exact ⟨true, rfl, fun _ => fin true ct (fun h => tK c2) n1 n2 (by omega) hA.symm rfl⟩
   rw [Zh k2]
   exact fail
theorem q21 : ∀ (N : Nat) (b : BoxD), cnt b ≤ N → cnt b ≤ 4000 → ∃ d : Int, F21 N b = some (.k0 (cnt b : Int) d) ∧ 1 ≤ d ∧ d ≤ (cnt b : Int)
 | 0, b, h, _ => by have := ZN b; omega
 | N + 1, b, h, hc => by
  show ∃ d : Int, Hl (F21 N) b = _ ∧ _
  have hcb := Z6 b
  have hkl := Xx b.kids
  have key : ∀ (k j : Nat) (d : Int), j + k = b.kids.length → 0 ≤ d → d ≤ (cnts (b.kids.take j) : Int) → cnts (b.kids.take j) ≤ 4000 →
    ∃ d' : Int, runL (fun s => PK (F21 N) b (b.kids.length : Int) s.1 s.2.1 s.2.2) (((1 + cnts (b.kids.take j) : Nat) : Int), d, (j : Int)) = some (.k0 (cnt b : Int) d') ∧ 0 ≤ d' ∧ d' ≤ (cnts b.kids : Int) := by
   intro k
   induction k with
   | zero =>
    intro j d hj h1 h2 h3
    obtain rfl : j = b.kids.length := by omega
    rw [List.take_length] at h2 ⊢
    exact ⟨d, Zq (by simp [PK, hcb]), h1, h2⟩
   | succ k ih =>
    intro j d hj h1 h2 h3
    have hx : b.kids[j]? = some (b.kids[j]'(by omega)) := geg _
    generalize b.kids[j]'(by omega) = x at hx
    have hm := YA (mog hx)
    have ht := NT hx
    have hle : cnts (b.kids.take (j + 1)) ≤ cnts b.kids := by
     have := TM (b.kids.take (j + 1)) (b.kids.drop (j + 1))
     rw [List.take_append_drop] at this
     omega
    obtain ⟨d2, q1, q2, q3⟩ := q21 N x (by omega) (by omega)
    obtain ⟨d', k1, k2, k3⟩ := ih (j + 1) (if d < d2 then d2 else d) (by omega) (by split <;> omega) (by split <;> omega) (by omega)
    refine ⟨d', ?_, k2, k3⟩
    rw [ZL (s' := (((1 + cnts (b.kids.take (j + 1)) : Nat) : Int), (if d < d2 then d2 else d), ((j + 1 : Nat) : Int))) (by
     simp only [PK, decide_eq_true (show (j : Int) < (b.kids.length : Int) by omega), cond_true, Zu, hx, bsm, q1, w_S (show j < 4611686018427387904 by omega)]
     rw [w_id (by omega), show ((1 + cnts (b.kids.take j) : Nat) : Int) + (cnt x : Int) = ((1 + cnts (b.kids.take (j + 1)) : Nat) : Int) by omega])]
    exact k1
  have e0 : ((0 : Nat) : Int) = 0 := rfl
  obtain ⟨d, k1, k2, k3⟩ := key b.kids.length 0 0 (by omega) (by omega) (by simp [cnts]) (by simp [cnts])
  have k1' : runL (fun s => PK (F21 N) b (b.kids.length : Int) s.1 s.2.1 s.2.2) (1, 0, 0) = some (.k0 (cnt b : Int) d) := k1
  refine ⟨d + 1, ?_, by omega, by omega⟩
  unfold Hl
  rw [k1']
  simp only [bsm]
  rw [w_id (by omega)]
abbrev ints (l : Uqq) : Iqq := l.map fun b => ((b.toNat : Nat) : Int)
theorem HV (l : Uqq) : bstr (ints l) = ⟨l.toArray⟩ := by
 unfold bstr
 congr 2
 rw [List.map_map]
 conv => rhs; rw [← List.map_id l]
 refine List.map_congr_left (fun x _ => ?_)
 simp
abbrev bt (t : ThingD) : BoxD := .mk t.kind t.text t.n t.kids
theorem bt_k (t : ThingD) : (bt t).kids = t.kids := rfl
def kts (d w : Int) : Nat → Bqq → Tqq
 | _, [] => []
 | a, x :: l => ⟨x.kind, x.text, x.n, x.kids, d, w, (a : Int)⟩ :: kts d w (a + cnt x) l
theorem Tn (x : BoxD) (d w a : Int) : bt ⟨x.kind, x.text, x.n, x.kids, d, w, a⟩ = x := by cases x; rfl
theorem HW (d w : Int) : ∀ (l : Bqq) (a : Nat), (kts d w a l).map bt = l
 | [], _ => rfl
 | x :: l, a => by rw [kts, List.map_cons, Tn, HW d w l]
structure TOk (S : Iqq) (Ls : Oqq) (t : ThingD) : Prop where
 ok : Ok (bt t)
 pos : ∃ (a : Nat) (rest : Iqq) (rest2 : Oqq), t.at_ = (a : Int) ∧ S.drop a = szs (bt t) ++ rest ∧ Ls.drop a = lns (bt t) ++ rest2
 dep : 0 ≤ t.depth ∧ t.depth + 100 * (cnt (bt t) : Int) ≤ 2400000
 wtl : wt (bt t) ≤ 24000
theorem KD : ∀ (a b : Bqq), szss (a ++ b) = szss a ++ szss b
 | [], b => by simp [szss]
 | t :: a, b => by simp only [List.cons_append, szss, KD a b, List.append_assoc]
theorem KE {S : Iqq} {a : Nat} {b : BoxD} {rest : Iqq} (h : S.drop a = szs b ++ rest) (l r : Bqq) (hk : b.kids = l ++ r) : S.drop (a + 1 + cnts l) = szss r ++ rest := by
 rw [Nat.add_assoc, ← List.drop_drop, h, NS, hk, KD, Nat.add_comm 1]
 show ((szss l ++ szss r) ++ rest).drop (cnts l) = _
 rw [List.append_assoc, ← (Uo _ l (Nat.le_refl _)).1, List.drop_left]
theorem KF : ∀ (a b : Bqq), lnss (a ++ b) = lnss a ++ lnss b
 | [], b => by simp [lnss]
 | t :: a, b => by simp only [List.cons_append, lnss, KF a b, List.append_assoc]
theorem HX {S : Oqq} {a : Nat} {b : BoxD} {rest : Oqq} (h : S.drop a = lns b ++ rest) (l r : Bqq) (hk : b.kids = l ++ r) : S.drop (a + 1 + cnts l) = lnss r ++ rest := by
 rw [Nat.add_assoc, ← List.drop_drop, h, Q3, hk, KF, Nat.add_comm 1]
 show ((lnss l ++ lnss r) ++ rest).drop (cnts l) = _
 rw [List.append_assoc, ← (Uo _ l (Nat.le_refl _)).2, List.drop_left]
theorem Ex {S : Iqq} {Ls : Oqq} {d w : Int} : ∀ (l : Bqq) (a : Nat) (rest : Iqq) (rest2 : Oqq), S.drop a = szss l ++ rest → Ls.drop a = lnss l ++ rest2 → (∀ x ∈ l, Ok x) → 0 ≤ d ∧ d + 100 * (cnts l : Int) ≤ 2400000 → wts l ≤ 24000 →
  ∀ t ∈ kts d w a l, TOk S Ls t ∧ t.depth = d ∧ t.way = w
 | [], _, _, _, _, _, _, _, _, t, ht => by simp [kts] at ht
 | x :: l, a, rest, rest2, h, hh, ho, hd, hw, t, ht => by
  simp only [szss, lnss, cnts, wts, List.append_assoc] at h hh hd hw
  rcases List.mem_cons.1 ht with rfl | ht
  ·refine ⟨⟨by rw [Tn]; exact ho x (by simp), ⟨a, _, _, rfl, by rw [Tn]; exact h, by rw [Tn]; exact hh⟩, ⟨hd.1, ?_⟩, by rw [Tn]; omega⟩, rfl, rfl⟩
   rw [Tn]
   have h2 := hd.2
   show d + _ ≤ _
   omega
  ·refine Ex l (a + cnt x) rest rest2 ?_ ?_ (fun y hy => ho y (by simp [hy])) ⟨hd.1, by omega⟩ (by omega) t ht
   ·rw [← List.drop_drop, h, ← (P4 x).1, List.drop_left]
   ·rw [← List.drop_drop, hh, ← (P4 x).2, List.drop_left]
noncomputable def p1 {E : Type} (k0 : Nat → Nat → Tqq → E) (a3 a4 : Int) (a7 : ThingD) (a8 : Int) (a16 : Iqq) (v1 v2 : Nat) (v3 v4 : Int) (v5 : Tqq) : Option (E ⊕ (Nat × Nat × Int × Int × Tqq)) :=
 (bif (decide (v4 < a8)) then ((getI a7.kids v4).bind fun x2 => (bif (apOk v2 1 v5.length 80) then (bif (decide (v2 + 1 ≤ v5.length)) then ((getI a16 v3).bind fun x5 => (some (.inr (v1, v2 + 1, (IntKind.wrap .i64 (v3 + x5)), (IntKind.wrap .i64 (v4 + 1)), (splice v5 v2 [(⟨x2.kind, x2.text, x2.n, x2.kids, a3, a4, v3⟩ : ThingD)]))))) else ((getI a16 v3).bind fun x5 => (some (.inr ((v1 + 1), v2 + 1, (IntKind.wrap .i64 (v3 + x5)), (IntKind.wrap .i64 (v4 + 1)), (v5.take v2 ++ [(⟨x2.kind, x2.text, x2.n, x2.kids, a3, a4, v3⟩ : ThingD)])))))) else none)) else (some (.inl (k0 v1 v2 v5))))
noncomputable def p0 {E : Type} (k0 : Tqq → E) (a2 : Nat) (v1 v2 : Int) (v3 : Tqq) : Option (E ⊕ (Int × Int × Tqq)) :=
 (bif (decide (v1 < v2)) then ((ixN a2 v2).bind fun x2 => ((v3[x2]?).bind fun x3 => ((ixN a2 v1).bind fun x4 => ((v3[x4]?).bind fun x5 => (((v3.set x4 (⟨x3.kind, x3.text, x3.n, x3.kids, x3.depth, x3.way, x3.at_⟩ : ThingD))[x2]?).bind fun x6 => (some (.inr ((IntKind.wrap .i64 (v1 + 1)), (IntKind.wrap .i64 (v2 - 1)), ((v3.set x4 (⟨x3.kind, x3.text, x3.n, x3.kids, x3.depth, x3.way, x3.at_⟩ : ThingD)).set x2 (⟨x5.kind, x5.text, x5.n, x5.kids, x5.depth, x5.way, x5.at_⟩ : ThingD)))))))))) else (some (.inl (k0 v3))))
theorem l1 {E : Type} (k0 : Nat → Nat → Tqq → E) {d w : Int} {t : ThingD} {S : Iqq} {a : Nat} {rest : Iqq} (hS : S.drop a = szs (bt t) ++ rest) (ha : a + cnt (bt t) ≤ 8000000) :
  ∀ (k j gen len : Nat) (row : Tqq), j + k = t.kids.length → len ≤ row.length → len + k ≤ 8000000 →
   ∃ g' row', runL (fun s => p1 k0 d w t (t.kids.length : Int) S s.1 s.2.1 s.2.2.1 s.2.2.2.1 s.2.2.2.2) (gen, len, ((a + 1 + cnts (t.kids.take j) : Nat) : Int), (j : Int), row) = some (k0 g' (len + k) row') ∧
    row'.take (len + k) = row.take len ++ kts d w (a + 1 + cnts (t.kids.take j)) (t.kids.drop j) ∧ len + k ≤ row'.length
 | 0, j, gen, len, row, hj, hl, hc => by
  obtain rfl : j = t.kids.length := by omega
  refine ⟨gen, row, Zq ?_, by rw [List.drop_length]; simp [kts], hl⟩
  simp only [p1, decide_eq_false (show ¬ (t.kids.length : Int) < (t.kids.length : Int) by omega), cond_false, Nat.add_zero]
 | k + 1, j, gen, len, row, hj, hl, hc => by
  have hx : t.kids[j]? = some (t.kids[j]'(by omega)) := geg _
  have hd : t.kids.drop j = t.kids[j]'(by omega) :: t.kids.drop (j + 1) := List.drop_eq_getElem_cons (by omega)
  generalize t.kids[j]'(by omega) = x at hx hd
  have ht := NT hx
  have hs := KE hS (t.kids.take j) (t.kids.drop j) (List.take_append_drop j t.kids).symm
  have hkl := Xx t.kids
  have hle : cnts (t.kids.take j) + cnts (t.kids.drop j) = cnts t.kids := by rw [← TM, List.take_append_drop]
  have hct := Z6 (bt t)
  rw [bt_k] at hct
  rw [hd] at hs hle ⊢
  simp only [cnts] at hle
  have hi : getI S ((a + 1 + cnts (t.kids.take j) : Nat) : Int) = some ((cnt x : Nat) : Int) := by
   rw [Zu, ← List.head?_drop, hs, szss, NS]
   rfl
  obtain ⟨q1, q2⟩ := put1 (row := row) (⟨x.kind, x.text, x.n, x.kids, d, w, ((a + 1 + cnts (t.kids.take j) : Nat) : Int)⟩ : ThingD) hl
  have hw : IntKind.wrap .i64 (((a + 1 + cnts (t.kids.take j) : Nat) : Int) + ((cnt x : Nat) : Int)) = ((a + 1 + cnts (t.kids.take (j + 1)) : Nat) : Int) := by rw [w_id (by omega), ht]; omega
  have hlt : decide ((j : Int) < (t.kids.length : Int)) = true := decide_eq_true (by omega)
  have hS1 := w_S (show j < 4611686018427387904 by omega)
  by_cases hr : len + 1 ≤ row.length
  ·obtain ⟨g2, row2, k1, k2, k3⟩ := l1 k0 hS ha k (j + 1) gen (len + 1) _ (by omega) (q1 hr).2 (by omega)
   rw [show len + 1 + k = len + (k + 1) by omega] at k1 k2 k3
   refine ⟨g2, row2, ?_, ?_, k3⟩
   ·rw [ZL (s' := (gen, len + 1, ((a + 1 + cnts (t.kids.take (j + 1)) : Nat) : Int), ((j + 1 : Nat) : Int), splice row len [(⟨x.kind, x.text, x.n, x.kids, d, w, ((a + 1 + cnts (t.kids.take j) : Nat) : Int)⟩ : ThingD)])) (by
     simp only [p1, hlt, cond_true, Zu, hx, bsm, ap1 hl (show len ≤ 9000000 by omega) (show 80 ≤ 1000 by omega), decide_eq_true hr, hS1]
     rw [← Zu, hi]
     simp only [bsm, hw])]
    exact k1
   ·rw [k2, (q1 hr).1, List.append_assoc, ht, ← Nat.add_assoc]
    rfl
  ·obtain ⟨g2, row2, k1, k2, k3⟩ := l1 k0 hS ha k (j + 1) (gen + 1) (len + 1) _ (by omega) q2.2 (by omega)
   rw [show len + 1 + k = len + (k + 1) by omega] at k1 k2 k3
   refine ⟨g2, row2, ?_, ?_, k3⟩
   ·rw [ZL (s' := (gen + 1, len + 1, ((a + 1 + cnts (t.kids.take (j + 1)) : Nat) : Int), ((j + 1 : Nat) : Int), row.take len ++ [(⟨x.kind, x.text, x.n, x.kids, d, w, ((a + 1 + cnts (t.kids.take j) : Nat) : Int)⟩ : ThingD)])) (by
     simp only [p1, hlt, cond_true, Zu, hx, bsm, ap1 hl (show len ≤ 9000000 by omega) (show 80 ≤ 1000 by omega), decide_eq_false hr, cond_false, hS1]
     rw [← Zu, hi]
     simp only [bsm, hw])]
    exact k1
   ·rw [k2, q2.1, List.append_assoc, ht, ← Nat.add_assoc]
    rfl
theorem La {α : Type} {row pre post : List α} {x : α} {n i : Nat} (h : row.take n = pre ++ x :: post) (hi : i = pre.length) : i < n ∧ row[i]? = some x := by
 subst hi
 have hl := congrArg List.length h
 rw [List.length_take, lap, lcn] at hl
 have hn : pre.length < n := by omega
 exact ⟨hn, P5 h hn⟩
theorem l0 {E : Type} (k0 : Tqq → E) : ∀ (k n : Nat) (row pre m post : Tqq), m.length ≤ k → row.take n = pre ++ m ++ post → n ≤ row.length → n ≤ 8000000 →
  ∃ row', runL (fun s => p0 k0 n s.1 s.2.1 s.2.2) (((pre.length : Nat) : Int), (((pre.length + m.length : Nat) : Int) - 1), row) = some (k0 row') ∧ row'.take n = pre ++ m.reverse ++ post ∧ row'.length = row.length := by
 intro k
 induction k with
 | zero =>
  intro n row pre m post hm h hn hn2
  obtain rfl : m = [] := enz (by omega)
  refine ⟨row, Zq ?_, h, rfl⟩
  simp only [p0, decide_eq_false (show ¬ ((pre.length : Nat) : Int) < ((pre.length + ([] : Tqq).length : Nat) : Int) - 1 by simp; omega), cond_false]
 | succ k ih =>
  intro n row pre m post hm h hn hn2
  match m, hm, h with
  | [], hm, h =>
   refine ⟨row, Zq ?_, h, rfl⟩
   simp only [p0, decide_eq_false (show ¬ ((pre.length : Nat) : Int) < ((pre.length + ([] : Tqq).length : Nat) : Int) - 1 by simp; omega), cond_false]
  | [x], hm, h =>
   refine ⟨row, Zq ?_, h, rfl⟩
   simp only [p0, decide_eq_false (show ¬ ((pre.length : Nat) : Int) < ((pre.length + [x].length : Nat) : Int) - 1 by simp), cond_false]
  | x :: y :: r, hm, h =>
   obtain ⟨m', z, hz⟩ : ∃ m' z, y :: r = m' ++ [z] := ⟨(y :: r).dropLast, (y :: r).getLast (by simp), (List.dropLast_concat_getLast (by simp)).symm⟩
   rw [hz] at h hm ⊢
   have hm2 : m'.length + 1 ≤ k := by simp only [lcn, lap, List.length_nil] at hm; omega
   have e1 : row.take n = pre ++ x :: (m' ++ z :: post) := by rw [h]; simp
   have e2 : row.take n = (pre ++ x :: m') ++ z :: post := by rw [h]; simp
   obtain ⟨i1, i2⟩ := La e1 rfl
   obtain ⟨j1, j2⟩ := La e2 (show pre.length + 1 + m'.length = _ by simp; omega)
   have e3 := Up (y := z) e1 (by omega)
   have e4 : (row.set pre.length z).take n = (pre ++ z :: m') ++ z :: post := by rw [e3]; simp
   obtain ⟨_, j3⟩ := La e4 (show pre.length + 1 + m'.length = _ by simp; omega)
   have e5 := Up (y := x) e4 (by simp; omega)
   rw [show (pre ++ z :: m').length = pre.length + 1 + m'.length by simp; omega] at e5
   have e6 : ((row.set pre.length z).set (pre.length + 1 + m'.length) x).take n = (pre ++ [z]) ++ m' ++ (x :: post) := by rw [e5]; simp
   obtain ⟨row', k1, k2, k3⟩ := ih n _ (pre ++ [z]) m' (x :: post) (by omega) e6 (by simp only [List.length_set]; exact hn) hn2
   refine ⟨row', ?_, by rw [k2]; simp, by rw [k3]; simp⟩
   have w1 : ((pre.length + (x :: (m' ++ [z])).length : Nat) : Int) - 1 = ((pre.length + 1 + m'.length : Nat) : Int) := by simp; omega
   rw [w1, ZL (s' := ((((pre ++ [z]).length : Nat) : Int), (((pre ++ [z]).length + m'.length : Nat) : Int) - 1, (row.set pre.length z).set (pre.length + 1 + m'.length) x)) (by
    have hp : (pre ++ [z]).length = pre.length + 1 := by simp
    simp only [p0, decide_eq_true (show ((pre.length : Nat) : Int) < ((pre.length + 1 + m'.length : Nat) : Int) by omega), cond_true, UA, if_pos i1, if_pos j1, i2, j2, j3, bsm, hp, w_S (show pre.length < 4611686018427387904 by omega),
     w_id (show -9223372036854775808 ≤ ((pre.length + 1 + m'.length : Nat) : Int) - 1 ∧ ((pre.length + 1 + m'.length : Nat) : Int) - 1 ≤ 9223372036854775807 by omega)])]
   exact k1
structure Put (S : Iqq) (Ls : Oqq) (d w : Int) (t : ThingD) (row : Tqq) (len : Nat) (row' : Tqq) (len' : Nat) : Prop where
 le : len' ≤ row'.length
 ex : ∃ K, row'.take len' = row.take len ++ K ∧ K.map bt = t.kids.reverse ∧ ∀ x ∈ K, TOk S Ls x ∧ x.depth = d ∧ x.way = w
theorem push {E F : Type} (k0 : Nat → Nat → Tqq → E) (k1 : Tqq → F) {d w : Int} {t : ThingD} {S : Iqq} {Ls : Oqq} (gen : Nat) {len : Nat} {row : Tqq} (hT : TOk S Ls t) (hS : S.length ≤ 24000) (hd : 0 ≤ d ∧ d + 100 * (cnts t.kids : Int) ≤ 2400000)
  (hl : len ≤ row.length) (hc : len ≤ 24000) :
  ∃ g' len' row1 row', runL (fun s => p1 k0 d w t (t.kids.length : Int) S s.1 s.2.1 s.2.2.1 s.2.2.2.1 s.2.2.2.2) (gen, len, IntKind.wrap .i64 (t.at_ + 1), 0, row) = some (k0 g' len' row1) ∧
   runL (fun s => p0 k1 len' s.1 s.2.1 s.2.2) (((len : Nat) : Int), IntKind.wrap .i64 (((len' : Nat) : Int) - 1), row1) = some (k1 row') ∧ Put S Ls d w t row len row' len' := by
 obtain ⟨a, rest, rest2, h1, h2, h22⟩ := hT.pos
 have hlen := congrArg List.length h2
 rw [List.length_drop, lap, (P4 _).1] at hlen
 have hcp := ZN (bt t)
 have hce := Z6 (bt t)
 rw [bt_k] at hce
 have hkl := Xx t.kids
 have e0 : ((0 : Nat) : Int) = 0 := rfl
 obtain ⟨g', row1, m1, m2, m3⟩ := l1 k0 (d := d) (w := w) h2 (by omega) t.kids.length 0 gen len row (by omega) hl (by omega)
 have hw : IntKind.wrap .i64 (t.at_ + 1) = ((a + 1 + cnts (t.kids.take 0) : Nat) : Int) := by rw [h1, w_id (by omega), List.take_zero]; simp [cnts]
 rw [e0, ← hw] at m1
 rw [List.drop_zero, List.take_zero] at m2
 have hpl : (row.take len).length = len := by rw [List.length_take]; omega
 have hkl2 : (kts d w (a + 1 + cnts []) t.kids).length = t.kids.length := by
  have := congrArg List.length (HW d w t.kids (a + 1 + cnts []))
  rwa [List.length_map] at this
 obtain ⟨row', n1, n2, n3⟩ := l0 k1 _ (len + t.kids.length) row1 (row.take len) (kts d w (a + 1 + cnts []) t.kids) [] (Nat.le_refl _) (by rw [m2, List.append_nil]) m3 (by omega)
 rw [hpl, hkl2] at n1
 refine ⟨g', _, row1, row', m1, ?_, by rw [n3]; exact m3, _, by rw [n2, List.append_nil], by rw [List.map_reverse, HW], ?_⟩
 ·rw [w_id (by omega)]
  exact n1
 ·intro x hx
  refine Ex t.kids (a + 1 + cnts []) rest rest2 (KE h2 [] t.kids rfl) (HX h22 [] t.kids rfl) (fun y hy => hT.ok.kid hy) hd (by have := hT.wtl; rw [NR] at this; have e : (bt t).kids = t.kids := rfl; rw [e] at this; omega) x (List.mem_reverse.1 hx)
section
variable {S : Iqq} {Ls : Oqq} {d w : Int} {t : ThingD} {row : Tqq} {len : Nat}
theorem q37 (gen : Nat) (hT : TOk S Ls t) (hS : S.length ≤ 24000) (hd : 0 ≤ d ∧ d + 100 * (cnts t.kids : Int) ≤ 2400000) (hl : len ≤ row.length) (hc : len ≤ 24000) :
  ∃ g' len' row', F37 gen len t d w row S = some (.k0 g' len' row') ∧ Put S Ls d w t row len row' len' := by
 obtain ⟨g', len', row1, row', h1, h2, h3⟩ := push E_L37_1.k0 E_L37_0.k0 gen hT hS hd hl hc
 have h1' : runL (fun s => JC d w t (t.kids.length : Int) S s.1 s.2.1 s.2.2.1 s.2.2.2.1 s.2.2.2.2) (gen, len, IntKind.wrap .i64 (t.at_ + 1), 0, row) = some (.k0 g' len' row1) := h1
 have h2' : runL (fun s => JD len' s.1 s.2.1 s.2.2) (((len : Nat) : Int), IntKind.wrap .i64 (((len' : Nat) : Int) - 1), row1) = some (.k0 row') := h2
 refine ⟨g', len', row', ?_, h3⟩
 unfold F37
 rw [h1']
 simp only [bsm]
 rw [h2']
 rfl
theorem BI (gen : Nat) (hT : TOk S Ls t) (hS : S.length ≤ 24000) (hd : 0 ≤ d ∧ d + 100 * (cnts t.kids : Int) ≤ 2400000) (hl : len ≤ row.length) (hc : len ≤ 24000) :
  ∃ g' len' row', O7 gen len t d w row S = some (.k0 g' len' row') ∧ Put S Ls d w t row len row' len' := by
 obtain ⟨g', len', row1, row', h1, h2, h3⟩ := push E_L37_1_10.k0 E_L37_0_10.k0 gen hT hS hd hl hc
 have h1' : runL (fun s => WR d w t (t.kids.length : Int) S s.1 s.2.1 s.2.2.1 s.2.2.2.1 s.2.2.2.2) (gen, len, IntKind.wrap .i64 (t.at_ + 1), 0, row) = some (.k0 g' len' row1) := h1
 have h2' : runL (fun s => WS len' s.1 s.2.1 s.2.2) (((len : Nat) : Int), IntKind.wrap .i64 (((len' : Nat) : Int) - 1), row1) = some (.k0 row') := h2
 refine ⟨g', len', row', ?_, h3⟩
 unfold O7
 rw [h1']
 simp only [bsm]
 rw [h2']
 rfl
theorem BJ (gen : Nat) (hT : TOk S Ls t) (hS : S.length ≤ 24000) (hd : 0 ≤ d ∧ d + 100 * (cnts t.kids : Int) ≤ 2400000) (hl : len ≤ row.length) (hc : len ≤ 24000) :
  ∃ g' len' row', Re gen len t d w S row = some (.k0 g' len' row') ∧ Put S Ls d w t row len row' len' := by
 obtain ⟨g', len', row1, row', h1, h2, h3⟩ := push E_L37_1_12.k0 E_L37_0_12.k0 gen hT hS hd hl hc
 have h1' : runL (fun s => WV d w t (t.kids.length : Int) S s.1 s.2.1 s.2.2.1 s.2.2.2.1 s.2.2.2.2) (gen, len, IntKind.wrap .i64 (t.at_ + 1), 0, row) = some (.k0 g' len' row1) := h1
 have h2' : runL (fun s => WW len' s.1 s.2.1 s.2.2) (((len : Nat) : Int), IntKind.wrap .i64 (((len' : Nat) : Int) - 1), row1) = some (.k0 row') := h2
 refine ⟨g', len', row', ?_, h3⟩
 unfold Re
 rw [h1']
 simp only [bsm]
 rw [h2']
 rfl
theorem BK (gen : Nat) (hT : TOk S Ls t) (hS : S.length ≤ 24000) (hd : 0 ≤ d ∧ d + 100 * (cnts t.kids : Int) ≤ 2400000) (hl : len ≤ row.length) (hc : len ≤ 24000) :
  ∃ g' len' row', Rj gen len t d w S row = some (.k0 g' len' row') ∧ Put S Ls d w t row len row' len' := by
 obtain ⟨g', len', row1, row', h1, h2, h3⟩ := push E_L37_1_13.k0 E_L37_0_13.k0 gen hT hS hd hl hc
 have h1' : runL (fun s => WX d w t (t.kids.length : Int) S s.1 s.2.1 s.2.2.1 s.2.2.2.1 s.2.2.2.2) (gen, len, IntKind.wrap .i64 (t.at_ + 1), 0, row) = some (.k0 g' len' row1) := h1
 have h2' : runL (fun s => WY len' s.1 s.2.1 s.2.2) (((len : Nat) : Int), IntKind.wrap .i64 (((len' : Nat) : Int) - 1), row1) = some (.k0 row') := h2
 refine ⟨g', len', row', ?_, h3⟩
 unfold Rj
 rw [h1']
 simp only [bsm]
 rw [h2']
 rfl
theorem Ey (gen : Nat) (hT : TOk S Ls t) (hS : S.length ≤ 24000) (hd : 0 ≤ d ∧ d + 100 * (cnts t.kids : Int) ≤ 2400000) (hl : len ≤ row.length) (hc : len ≤ 24000) :
  ∃ g' len' row', QP gen len t d w row S = some (.k0 g' len' row') ∧ Put S Ls d w t row len row' len' := by
 obtain ⟨g', len', row1, row', h1, h2, h3⟩ := push E_L37_1_14.k0 E_L37_0_14.k0 gen hT hS hd hl hc
 have h1' : runL (fun s => W1 d w t (t.kids.length : Int) S s.1 s.2.1 s.2.2.1 s.2.2.2.1 s.2.2.2.2) (gen, len, IntKind.wrap .i64 (t.at_ + 1), 0, row) = some (.k0 g' len' row1) := h1
 have h2' : runL (fun s => W3 len' s.1 s.2.1 s.2.2) (((len : Nat) : Int), IntKind.wrap .i64 (((len' : Nat) : Int) - 1), row1) = some (.k0 row') := h2
 refine ⟨g', len', row', ?_, h3⟩
 unfold QP
 rw [h1']
 simp only [bsm]
 rw [h2']
 rfl
theorem Ez (gen : Nat) (hT : TOk S Ls t) (hS : S.length ≤ 24000) (hd : 0 ≤ d ∧ d + 100 * (cnts t.kids : Int) ≤ 2400000) (hl : len ≤ row.length) (hc : len ≤ 24000) :
  ∃ g' len' row', QT gen len t d w row S = some (.k0 g' len' row') ∧ Put S Ls d w t row len row' len' := by
 obtain ⟨g', len', row1, row', h1, h2, h3⟩ := push E_L37_1_15.k0 E_L37_0_15.k0 gen hT hS hd hl hc
 have h1' : runL (fun s => W4 d w t (t.kids.length : Int) S s.1 s.2.1 s.2.2.1 s.2.2.2.1 s.2.2.2.2) (gen, len, IntKind.wrap .i64 (t.at_ + 1), 0, row) = some (.k0 g' len' row1) := h1
 have h2' : runL (fun s => W5 len' s.1 s.2.1 s.2.2) (((len : Nat) : Int), IntKind.wrap .i64 (((len' : Nat) : Int) - 1), row1) = some (.k0 row') := h2
 refine ⟨g', len', row', ?_, h3⟩
 unfold QT
 rw [h1']
 simp only [bsm]
 rw [h2']
 rfl
theorem EA (gen : Nat) (hT : TOk S Ls t) (hS : S.length ≤ 24000) (hd : 0 ≤ d ∧ d + 100 * (cnts t.kids : Int) ≤ 2400000) (hl : len ≤ row.length) (hc : len ≤ 24000) :
  ∃ g' len' row', QX gen len t d w row S = some (.k0 g' len' row') ∧ Put S Ls d w t row len row' len' := by
 obtain ⟨g', len', row1, row', h1, h2, h3⟩ := push E_L37_1_16.k0 E_L37_0_16.k0 gen hT hS hd hl hc
 have h1' : runL (fun s => W6 d w t (t.kids.length : Int) S s.1 s.2.1 s.2.2.1 s.2.2.2.1 s.2.2.2.2) (gen, len, IntKind.wrap .i64 (t.at_ + 1), 0, row) = some (.k0 g' len' row1) := h1
 have h2' : runL (fun s => W7 len' s.1 s.2.1 s.2.2) (((len : Nat) : Int), IntKind.wrap .i64 (((len' : Nat) : Int) - 1), row1) = some (.k0 row') := h2
 refine ⟨g', len', row', ?_, h3⟩
 unfold QX
 rw [h1']
 simp only [bsm]
 rw [h2']
 rfl
theorem EB (gen : Nat) (hT : TOk S Ls t) (hS : S.length ≤ 24000) (hd : 0 ≤ d ∧ d + 100 * (cnts t.kids : Int) ≤ 2400000) (hl : len ≤ row.length) (hc : len ≤ 24000) :
  ∃ g' len' row', Q1 gen len t d w row S = some (.k0 g' len' row') ∧ Put S Ls d w t row len row' len' := by
 obtain ⟨g', len', row1, row', h1, h2, h3⟩ := push E_L37_1_17.k0 E_L37_0_17.k0 gen hT hS hd hl hc
 have h1' : runL (fun s => W8 d w t (t.kids.length : Int) S s.1 s.2.1 s.2.2.1 s.2.2.2.1 s.2.2.2.2) (gen, len, IntKind.wrap .i64 (t.at_ + 1), 0, row) = some (.k0 g' len' row1) := h1
 have h2' : runL (fun s => W9 len' s.1 s.2.1 s.2.2) (((len : Nat) : Int), IntKind.wrap .i64 (((len' : Nat) : Int) - 1), row1) = some (.k0 row') := h2
 refine ⟨g', len', row', ?_, h3⟩
 unfold Q1
 rw [h1']
 simp only [bsm]
 rw [h2']
 rfl
theorem BL (hT : TOk S Ls t) (hS : S.length ≤ 24000) (hd : 0 ≤ d ∧ d + 100 * (cnts t.kids : Int) ≤ 2400000) :
  ∃ g' len' row', Nc t d w S = some (.k0 g' len' row') ∧ Put S Ls d w t [] 0 row' len' := by
 obtain ⟨g', len', row1, row', h1, h2, h3⟩ := push E_L37_1_11.k0 E_L37_0_11.k0 0 hT hS hd (row := []) (len := 0) (w := w) (Nat.le_refl _) (by omega)
 have h1' : runL (fun s => WT d w t (t.kids.length : Int) S s.1 s.2.1 s.2.2.1 s.2.2.2.1 s.2.2.2.2) (0, 0, IntKind.wrap .i64 (t.at_ + 1), 0, []) = some (.k0 g' len' row1) := h1
 have h2' : runL (fun s => WU len' s.1 s.2.1 s.2.2) (0, IntKind.wrap .i64 (((len' : Nat) : Int) - 1), row1) = some (.k0 row') := h2
 refine ⟨g', len', row', ?_, h3⟩
 unfold Nc
 rw [h1']
 simp only [bsm]
 rw [h2']
 rfl
end
structure Buf (row : Iqq) (len : Nat) (o : Uqq) : Prop where
 le : len ≤ row.length
 is : row.take len = ints o
theorem Lb (s : ByteArray) : Zk s = ints s.data.toList := rfl
theorem Q6 (s : ByteArray) : (Zk s).length = s.size := by rw [Lb, List.length_map, YM]
theorem apN {len k n : Nat} (h : len ≤ n) (hb : len + k ≤ 9000000) : apOk len k n 1 = true := decide_eq_true ⟨h, by unfold Zn; omega, by unfold Zn; omega⟩
theorem putN {row : Iqq} {len : Nat} {o : Uqq} (s : Uqq) (h : Buf row len o) :
  (len + s.length ≤ row.length → Buf (splice row len (ints s)) (len + s.length) (o ++ s)) ∧ Buf (row.take len ++ ints s) (len + s.length) (o ++ s) := by
 have hs : (ints s).length = s.length := List.length_map _
 have ha : ints (o ++ s) = row.take len ++ ints s := by rw [h.is]; simp [ints]
 have hp : (row.take len).length = len := by rw [List.length_take]; have := h.le; omega
 refine ⟨fun hl => ?_, ⟨?_, ?_⟩⟩
 ·obtain ⟨h1, h2⟩ := Q5 (l := row) (y := ints s) (n := len) (by omega)
  rw [hs] at h1
  exact ⟨by rw [h2]; exact hl, by rw [h1, ha]⟩
 ·rw [lap, hp, hs]; exact Nat.le_refl _
 ·rw [ha]; exact List.take_of_length_le (by rw [lap, hp, hs]; exact Nat.le_refl _)
theorem q42 (v : Bool) : ∃ f, MI v = some f := by unfold MI; cases v <;> exact ⟨_, rfl⟩
section
variable {row : Iqq} {len : Nat} {o : Uqq}
theorem BM (s : ByteArray) (v : Bool) (gen : Nat) (h : Buf row len o) (hb : len + s.size ≤ 9000000) :
  ∃ n fl g' row', JA s v gen len row = some (.k0 n fl g' row') ∧ Buf row' (len + s.size) (o ++ s.data.toList) := by
 obtain ⟨f, hf⟩ := q42 v
 obtain ⟨p1, p2⟩ := putN s.data.toList h
 rw [YM, ← Lb] at p1 p2
 unfold JA
 rw [hf]
 simp only [bsm, Q6, apN h.le hb, cond_true]
 by_cases hr : len + s.size ≤ row.length
 ·rw [decide_eq_true hr]; exact ⟨_, _, _, _, rfl, p1 hr⟩
 ·rw [decide_eq_false hr]; exact ⟨_, _, _, _, rfl, p2⟩
theorem CL (t : ThingD) (v : Bool) (gen : Nat) (h : Buf row len o) (hb : len + t.text.size ≤ 9000000) :
  ∃ n fl g' row', MJ t v gen len row = some (.k0 n fl g' row') ∧ Buf row' (len + t.text.size) (o ++ t.text.data.toList) := by
 obtain ⟨f, hf⟩ := q42 v
 obtain ⟨p1, p2⟩ := putN t.text.data.toList h
 rw [YM, ← Lb] at p1 p2
 unfold MJ
 rw [hf]
 simp only [bsm, Q6, apN h.le hb, cond_true]
 by_cases hr : len + t.text.size ≤ row.length
 ·rw [decide_eq_true hr]; exact ⟨_, _, _, _, rfl, p1 hr⟩
 ·rw [decide_eq_false hr]; exact ⟨_, _, _, _, rfl, p2⟩
theorem q33 (v : Bool) (gen : Nat) (h : Buf row len o) (hb : len ≤ 8000000) :
  ∃ fl g' row', JE v gen len row = some (.k0 fl g' row') ∧ Buf row' (len + 1) (o ++ [10]) := by
 obtain ⟨f, hf⟩ := q42 v
 obtain ⟨p1, p2⟩ := putN [10] h
 unfold JE Fb
 rw [hf]
 simp only [bsm, apN h.le (show len + 1 ≤ 9000000 by omega), cond_true]
 by_cases hr : len + 1 ≤ row.length
 ·rw [decide_eq_true hr]; exact ⟨_, _, _, rfl, p1 hr⟩
 ·rw [decide_eq_false hr]; exact ⟨_, _, _, rfl, p2⟩
end
abbrev sp1 : ByteArray := ⟨([32] : List UInt8).toArray⟩
theorem Fx : ∀ n, Lib.repeatL [32] n = List.replicate n 32
 | 0 => rfl
 | n + 1 => by rw [List.replicate_succ, ← Fx n]; rfl
theorem q35 {n : Int} (h : 0 ≤ n ∧ n ≤ 2400000) : ∃ s, F35 sp1 n = some s ∧ s.size = n.toNat ∧ brl s.data.toList = [] := by
 have h1 : rpOk sp1 n = true := decide_eq_true ⟨h.1, by omega, by show ((1 : Nat) : Int) * n ≤ _; omega⟩
 have h2 : (repS sp1 n).data.toList = List.replicate n.toNat 32 := by
  show (Lib.repeatL [32] n.toNat).toArray.toList = _
  rw [List.toList_toArray, Fx]
 refine ⟨repS sp1 n, by unfold F35; rw [h1]; rfl, by rw [← YM, h2, lrp], ?_⟩
 rw [h2]
 unfold brl
 rw [List.filter_replicate]
 rfl
theorem l49 (t : ThingD) : ∀ k : Nat, k ≤ t.text.size → k ≤ 8000000 → ∃ e, runL (fun s => Yo t s) ((k : Int) - 1) = some e ∧ (YL t.text = false → e = .k1)
 | 0, _, _ => ⟨.k1, Zq rfl, fun _ => rfl⟩
 | k + 1, h, hb => by
  have hx : t.text.data.toList[k]? = some (t.text.data.toList[k]'(by rw [YM]; omega)) := geg _
  generalize t.text.data.toList[k]'(by rw [YM]; omega) = x at hx
  have e1 : ((k + 1 : Nat) : Int) - 1 = (k : Int) := by omega
  have ew : IntKind.wrap .i64 ((k : Int) - 1) = (k : Int) - 1 := w_id (by omega)
  rw [e1]
  by_cases hc : x = 10
  ·refine ⟨.k0 k, Zq ?_, fun hn => ?_⟩
   ·rw [hc] at hx
    simp only [Yo, decide_eq_true (show (k : Int) ≥ 0 by omega), cond_true, Zu, hx, bsm]
    rfl
   ·unfold YL at hn
    exact absurd (hc ▸ mog hx) (of_decide_eq_false hn)
  ·have hx10 : ((x.toNat : Int) == 10) = false := by
    have : ¬ x.toNat = 10 := fun e => hc (UInt8.toNat_inj.1 e)
    simpa using fun e => this (by omega)
   obtain ⟨e, k1, k2⟩ := l49 t k (by omega) (by omega)
   refine ⟨e, ?_, k2⟩
   rw [ZL (s' := (k : Int) - 1) (by
    simp only [Yo, decide_eq_true (show (k : Int) ≥ 0 by omega), cond_true, Zu, hx, bsm, hx10, cond_false, ew])]
   exact k1
theorem q40 (t : ThingD) (h : t.text.size ≤ 8000000) : ∃ v, Tl t = some v ∧ (YL t.text = false → v = -1) := by
 obtain ⟨e, k1, k2⟩ := l49 t t.text.size (Nat.le_refl _) h
 unfold Tl Hv
 rw [w_id (by omega), k1]
 cases e with
 | k0 x => exact ⟨x, rfl, fun hn => by cases k2 hn⟩
 | k1 => exact ⟨-1, rfl, fun _ => rfl⟩
theorem emp {a : ByteArray} (h : a.size = 0) : a = ⟨([] : List UInt8).toArray⟩ := by
 cases a with | mk d => congr 1; exact Array.eq_empty_of_size_eq_zero h
theorem NU {A E : Type} {step : A → Option (E ⊕ A)} {Inv : Nat → A → Prop} {Post : E → Prop}
  (h : ∀ k s, Inv k s → ∃ r, step s = some r ∧ (∀ s', r = .inr s' → ∃ k', k' < k ∧ Inv k' s') ∧ ∀ e, r = .inl e → Post e) :
  ∀ n k s, k ≤ n → Inv k s → ∃ e, runL step s = some e ∧ Post e := by
 intro n
 induction n with
 | zero =>
  intro k s hk hi
  obtain ⟨r, h1, h2, h3⟩ := h k s hi
  match r, h1, h2, h3 with
  | .inl e, h1, _, h3 => exact ⟨e, Zq h1, h3 e rfl⟩
  | .inr s', _, h2, _ => obtain ⟨k', h4, _⟩ := h2 s' rfl; omega
 | succ n ih =>
  intro k s hk hi
  obtain ⟨r, h1, h2, h3⟩ := h k s hi
  match r, h1, h2, h3 with
  | .inl e, h1, _, h3 => exact ⟨e, Zq h1, h3 e rfl⟩
  | .inr s', h1, h2, _ =>
   obtain ⟨k', h4, h5⟩ := h2 s' rfl
   obtain ⟨e, h6, h7⟩ := ih k' s' (by omega) h5
   exact ⟨e, (ZL h1).trans h6, h7⟩
section
variable {S : Iqq} {Ls : Oqq} {fl : Bool} {row : Tqq} {len : Nat} {bs : Bqq}
end
theorem TOk.txt {S : Iqq} {Ls : Oqq} {t : ThingD} (h : TOk S Ls t) : t.text.size ≤ 24000 ∧ cnt (bt t) = 1 + cnts t.kids := by
 have h1 := h.wtl
 rw [NR] at h1
 have e : (bt t).text = t.text := rfl
 rw [e] at h1
 exact ⟨by omega, Z6 (bt t)⟩
theorem wd {n : Nat} (h : n < 4611686018427387904) : IntKind.wrap .i64 (((n + 1 : Nat) : Int) - 1) = (n : Int) := by rw [w_id (by omega)]; omega
inductive LF where
 | tx (s : ByteArray) | br (n w : Int) | ln
mutual
def lv : Int → BoxD → List LF
 | w, .mk k t n l => bif k == 0 then (bif t.size == 0 then [] else [.tx t]) else bif k == 1 then [.br n w] else bif k == 2 then [.ln] else bif k == 4 then lvs 1 l else lvs w l
def lvs : Int → Bqq → List LF
 | _, [] => []
 | w, b :: l => lv w b ++ lvs w l
end
abbrev At := BoxD × Int × Int
mutual
def fl : Int → Int → BoxD → List At
 | d, w, .mk k t n l => bif k == 0 then (bif t.size == 0 then [] else [(.mk k t n l, d, w)]) else bif k == 1 || k == 2 || k == 4 then [(.mk k t n l, d, w)] else bif k == 5 then fls (d + n) w l else fls d w l
def fls : Int → Int → Bqq → List At
 | _, _, [] => []
 | d, w, b :: l => fl d w b ++ fls d w l
end
theorem Lc (w : Int) : ∀ b : BoxD, lv w b = bif b.kind == 0 then (bif b.text.size == 0 then [] else [.tx b.text]) else bif b.kind == 1 then [.br b.n w] else bif b.kind == 2 then [.ln] else bif b.kind == 4 then lvs 1 b.kids else lvs w b.kids
 | .mk _ _ _ _ => by simp only [lv, BoxD.kids, BoxD.text, BoxD.kind, BoxD.n]
theorem HY (d w : Int) : ∀ b : BoxD, fl d w b = bif b.kind == 0 then (bif b.text.size == 0 then [] else [(b, d, w)]) else bif b.kind == 1 || b.kind == 2 || b.kind == 4 then [(b, d, w)] else bif b.kind == 5 then fls (d + b.n) w b.kids else fls d w b.kids
 | .mk _ _ _ _ => by simp only [fl, BoxD.kids, BoxD.text, BoxD.kind, BoxD.n]
def lvA (l : List At) : List LF := l.flatMap fun x => lv x.2.2 x.1
def msA : List At → Nat
 | [] => 0
 | x :: l => cnt x.1 + msA l
theorem Ta (a b : List At) : lvA (a ++ b) = lvA a ++ lvA b := List.flatMap_append
theorem Yt : ∀ (a b : List At), msA (a ++ b) = msA a + msA b
 | [], b => by simp [msA]
 | t :: a, b => by simp only [List.cons_append, msA, Yt a b]; omega
theorem CM : ∀ (N : Nat) (b : BoxD) (d w : Int), cnt b ≤ N → msA (fl d w b) ≤ cnt b ∧ lvA (fl d w b) = lv w b
 | 0, b, _, _, h => by have := ZN b; omega
 | N + 1, b, d, w, h => by
  have key : ∀ (l : Bqq) (d w : Int), (∀ x ∈ l, cnt x ≤ N) → msA (fls d w l) ≤ cnts l ∧ lvA (fls d w l) = lvs w l := by
   intro l d w
   induction l with
   | nil => intro _; exact ⟨by simp [fls, msA], by simp [fls, lvA, lvs]⟩
   | cons x l ih =>
    intro hl
    obtain ⟨h1, h2⟩ := CM N x d w (hl x (by simp))
    obtain ⟨h3, h4⟩ := ih (fun y hy => hl y (by simp [hy]))
    simp only [fls, cnts, lvs, Yt, Ta, h2, h4]
    exact ⟨by omega, trivial⟩
  have hk : ∀ x ∈ b.kids, cnt x ≤ N := fun x hx => by have := YA hx; have := Z6 b; omega
  have hone : msA [(b, d, w)] ≤ cnt b ∧ lvA [(b, d, w)] = lv w b := ⟨by simp [msA], by simp [lvA]⟩
  have hce := Z6 b
  have e1 := HY d w b
  have e2 := Lc w b
  by_cases k0 : b.kind = 0
  ·rw [show (b.kind == 0) = true by rw [k0]; rfl] at e1 e2
   simp only [cond_true] at e1 e2
   cases hs : b.text.size == 0 with
   | true => rw [hs] at e1 e2; rw [e1, e2]; exact ⟨by simp [msA], rfl⟩
   | false => rw [hs] at e1; rw [e1]; exact hone
  rw [Zh k0] at e1 e2
  simp only [cond_false] at e1 e2
  by_cases k1 : b.kind = 1
  ·rw [e1, show (b.kind == 1) = true by rw [k1]; rfl]; exact hone
  by_cases k2 : b.kind = 2
  ·rw [e1, show (b.kind == 2) = true by rw [k2]; rfl, Bool.or_true]; exact hone
  by_cases k4 : b.kind = 4
  ·rw [e1, show (b.kind == 4) = true by rw [k4]; rfl, Bool.or_true]; exact hone
  rw [Zh k1, Zh k2, Zh k4] at e1 e2
  simp only [Bool.or_false, cond_false] at e1 e2
  rw [e1, e2]
  cases b.kind == 5 with
  | true =>
   obtain ⟨h1, h2⟩ := key b.kids (d + b.n) w hk
   exact ⟨by simp only [cond_true]; omega, h2⟩
  | false =>
   obtain ⟨h1, h2⟩ := key b.kids d w hk
   exact ⟨by simp only [cond_false]; omega, h2⟩
theorem NV : ∀ (l : Bqq) (d w : Int), msA (fls d w l) ≤ cnts l ∧ lvA (fls d w l) = lvs w l
 | [], _, _ => ⟨by simp [fls, msA], by simp [fls, lvA, lvs]⟩
 | x :: l, d, w => by
  obtain ⟨h1, h2⟩ := CM _ x d w (Nat.le_refl _)
  obtain ⟨h3, h4⟩ := NV l d w
  simp only [fls, cnts, lvs, Yt, Ta, h2, h4]
  exact ⟨by omega, trivial⟩
noncomputable def ct (s : ByteArray) : Int × Bool := match F47 s with
 | some (.k0 a _ c) => ((a.size : Int), c)
 | none => (0, false)
noncomputable def lix (s : ByteArray) : Int := (Tl ⟨0, s, 0, [], 0, 0, 0⟩).getD (-1)
noncomputable def Yh (wd : Int) : List LF → Int → Bool
 | [], c => decide (c ≤ wd)
 | .tx s :: l, c => decide (c ≤ wd) && (bif (ct s).2 then decide (c + (ct s).1 ≤ wd) else Yh wd l (c + (ct s).1))
 | .br n w :: l, c => decide (c ≤ wd) && (bif w == 0 then true else Yh wd l (c + n))
 | .ln :: _, c => decide (c ≤ wd)
noncomputable def txo (s : ByteArray) (d : Int) (o : Uqq) (fr : Bool) : Uqq :=
 bif s.size == 0 then o else (o ++ (bif fr && s.data.toList.head? != some 10 then List.replicate d.toNat 32 else [])) ++ s.data.toList
noncomputable def txc (s : ByteArray) (d col : Int) : Int :=
 bif s.size == 0 then col else bif lix s == (s.size : Int) - 1 then d else bif decide (lix s ≥ 0) then (s.size : Int) - 1 - lix s else col + (s.size : Int)
noncomputable def txf (s : ByteArray) (fr : Bool) : Bool := bif s.size == 0 then fr else lix s == (s.size : Int) - 1
noncomputable def gw (wd w : Int) (b : BoxD) (l : List LF) (col : Int) : Int := bif w == 1 || (!(hasL b) && Yh wd (lvs 1 b.kids ++ l) col) then 1 else 0
noncomputable def R (wd : Int) : List At → Uqq → Int → Bool → Uqq
 | [], o, _, _ => o
 | x :: l, o, col, fr =>
  if 1048576 < o.length then o
  else if x.1.kind = 0 then R wd l (txo x.1.text x.2.1 o fr) (txc x.1.text x.2.1 col) (txf x.1.text fr)
  else if x.1.kind = 1 then (if x.2.2 = 0 then R wd l (o ++ [10]) x.2.1 true else R wd l (o ++ List.replicate x.1.n.toNat 32) (col + x.1.n) fr)
  else if x.1.kind = 2 then R wd l (o ++ [10]) x.2.1 true
  else R wd (fls x.2.1 (gw wd x.2.2 x.1 (lvA l) col) x.1.kids ++ l) o col fr
 termination_by l => msA l
 decreasing_by
  all_goals simp only [msA]
  ·have := ZN x.1; omega
  ·have := ZN x.1; omega
  ·have := ZN x.1; omega
  ·have := ZN x.1; omega
  ·rw [Yt]
   have := (NV x.1.kids x.2.1 (gw wd x.2.2 x.1 (lvA l) col)).1
   have := Z6 x.1
   omega
theorem Fy (wd : Int) (o : Uqq) (col : Int) (fr : Bool) : R wd [] o col fr = o := by rw [R]
theorem BN {wd : Int} {l : List At} {o : Uqq} {col : Int} {fr : Bool} (h : 1048576 < o.length) : R wd l o col fr = o := by
 cases l with
 | nil => exact Fy ..
 | cons x l => rw [R, if_pos h]
section
variable {wd : Int} {l : List At} {o : Uqq} {col : Int} {fr : Bool} {b : BoxD} {d w : Int}
theorem R_tx (h : ¬ 1048576 < o.length) (hk : b.kind = 0) : R wd ((b, d, w) :: l) o col fr = R wd l (txo b.text d o fr) (txc b.text d col) (txf b.text fr) := by
 rw [R, if_neg h, if_pos hk]
theorem AE (h : ¬ 1048576 < o.length) (hk : b.kind = 1) (hw : w = 0) : R wd ((b, d, w) :: l) o col fr = R wd l (o ++ [10]) d true := by
 rw [R, if_neg h, if_neg (by rw [hk]; decide), if_pos hk, if_pos hw]
theorem BO (h : ¬ 1048576 < o.length) (hk : b.kind = 1) (hw : ¬ w = 0) : R wd ((b, d, w) :: l) o col fr = R wd l (o ++ List.replicate b.n.toNat 32) (col + b.n) fr := by
 rw [R, if_neg h, if_neg (by rw [hk]; decide), if_pos hk, if_neg hw]
theorem R_ln (h : ¬ 1048576 < o.length) (hk : b.kind = 2) : R wd ((b, d, w) :: l) o col fr = R wd l (o ++ [10]) d true := by
 rw [R, if_neg h, if_neg (by rw [hk]; decide), if_neg (by rw [hk]; decide), if_pos hk]
theorem R_gr (h : ¬ 1048576 < o.length) (hk : b.kind = 4) : R wd ((b, d, w) :: l) o col fr = R wd (fls d (gw wd w b (lvA l) col) b.kids ++ l) o col fr := by
 rw [R, if_neg h, if_neg (by rw [hk]; decide), if_neg (by rw [hk]; decide), if_neg (by rw [hk]; decide)]
end
theorem l49x (t : ThingD) : ∀ k : Nat, k ≤ 8000000 → k ≤ t.text.size → ∃ v : Int, (runL (fun s => Yo t s) ((k : Int) - 1) = some (.k0 v) ∧ 0 ≤ v ∧ v < k) ∨ runL (fun s => Yo t s) ((k : Int) - 1) = some .k1
 | 0, _, _ => ⟨0, .inr (Zq rfl)⟩
 | k + 1, hb, h => by
  have hx : t.text.data.toList[k]? = some (t.text.data.toList[k]'(by rw [YM]; omega)) := geg _
  generalize t.text.data.toList[k]'(by rw [YM]; omega) = x at hx
  have e1 : ((k + 1 : Nat) : Int) - 1 = (k : Int) := by omega
  have ew : IntKind.wrap .i64 ((k : Int) - 1) = (k : Int) - 1 := w_id (by omega)
  rw [e1]
  cases hc : ((x.toNat : Int) == 10) with
  | true =>
   refine ⟨k, .inl ⟨Zq ?_, by omega, by omega⟩⟩
   simp only [Yo, decide_eq_true (show (k : Int) ≥ 0 by omega), cond_true, Zu, hx, bsm, hc]
  | false =>
   obtain ⟨v, hv⟩ := l49x t k (by omega) (by omega)
   have hn : runL (fun s => Yo t s) (k : Int) = runL (fun s => Yo t s) ((k : Int) - 1) := ZL (by
    simp only [Yo, decide_eq_true (show (k : Int) ≥ 0 by omega), cond_true, Zu, hx, bsm, hc, cond_false, ew])
   rw [hn]
   rcases hv with ⟨h1, h2, h3⟩ | h1
   ·exact ⟨v, .inl ⟨h1, h2, by omega⟩⟩
   ·exact ⟨v, .inr h1⟩
theorem EC (t : ThingD) (h : t.text.size ≤ 8000000) : Tl t = some (lix t.text) ∧ -1 ≤ lix t.text ∧ lix t.text ≤ (t.text.size : Int) - 1 := by
 have e : Tl ⟨0, t.text, 0, [], 0, 0, 0⟩ = Tl t := rfl
 unfold lix
 rw [e]
 obtain ⟨v, hv⟩ := l49x t t.text.size h (Nat.le_refl _)
 have hw : IntKind.wrap .i64 ((t.text.size : Int) - 1) = (t.text.size : Int) - 1 := w_id (by omega)
 unfold Tl Hv
 rw [hw]
 rcases hv with ⟨h1, h2, h3⟩ | h1
 ·rw [h1]; exact ⟨rfl, by show -1 ≤ v; omega, by show v ≤ _; omega⟩
 ·rw [h1]; exact ⟨rfl, by show (-1 : Int) ≤ -1; omega, by show (-1 : Int) ≤ _; omega⟩
theorem FA {s : ByteArray} (h : s.size ≤ 8000000) (hn : YL s = false) : lix s = -1 := by
 obtain ⟨v, h1, h2⟩ := q40 ⟨0, s, 0, [], 0, 0, 0⟩ h
 unfold lix
 rw [h1]
 exact h2 hn
theorem is10 (x : UInt8) : ((x.toNat : Int) != 10) = (some x != some (10 : UInt8)) := by
 by_cases h : x = 10
 ·subst h; rfl
 ·have h1 : ¬ x.toNat = 10 := fun e => h (UInt8.toNat_inj.1 e)
  have h2 : ((x.toNat : Int) == 10) = false := by simpa using fun e => h1 (by omega)
  have h3 : (some x == some (10 : UInt8)) = false := by simpa using h
  simp only [bne, h2, h3]
theorem q32x {row : Iqq} {len : Nat} {o : Uqq} (t : ThingD) (v : Bool) (gen : Nat) (col : Int) (fresh : Bool) (h : Buf row len o) (hd : 0 ≤ t.depth ∧ t.depth ≤ 2400000) (hs : t.text.size ≤ 24000) (hb : len ≤ 4000000) (hc : 0 ≤ col ∧ col ≤ 9000000) :
  ∃ fl g' len' row', Hw t v gen len col fresh row = some (.k0 fl g' len' (txc t.text t.depth col) (txf t.text fresh) row') ∧ Buf row' len' (txo t.text t.depth o fresh) ∧ len' ≤ len + 2430000 := by
 obtain ⟨hx, hx1, hx2⟩ := EC t (by omega)
 have w1 : IntKind.wrap .i64 ((t.text.size : Int) - 1) = (t.text.size : Int) - 1 := w_id (by omega)
 have w2 : IntKind.wrap .i64 ((t.text.size : Int) - 1 - lix t.text) = (t.text.size : Int) - 1 - lix t.text := w_id (by omega)
 have w3 : IntKind.wrap .i64 (col + (t.text.size : Int)) = col + (t.text.size : Int) := w_id (by omega)
 have pick : ∀ (f : Bool) (g l : Nat) (r : Iqq), ¬ t.text.size = 0 → (bif lix t.text == (t.text.size : Int) - 1 then some (R_F32_4.k0 f g l t.depth (lix t.text == (t.text.size : Int) - 1) r) else bif decide (lix t.text ≥ 0) then some (R_F32_4.k0 f g l ((t.text.size : Int) - 1 - lix t.text) (lix t.text == (t.text.size : Int) - 1) r) else some (R_F32_4.k0 f g l (col + (t.text.size : Int)) (lix t.text == (t.text.size : Int) - 1) r)) =
   some (R_F32_4.k0 f g l (txc t.text t.depth col) (txf t.text fresh) r) := by
  intro f g l r h0
  have hz : (t.text.size == 0) = false := by simpa using h0
  unfold txc txf
  rw [hz]
  cases lix t.text == (t.text.size : Int) - 1 <;> cases decide (lix t.text ≥ 0) <;> rfl
 unfold Hw
 rw [Z0]
 by_cases he : t.text = Eqq
 ·have hz : (t.text.size == 0) = true := by rw [he]; rfl
  rw [decide_eq_true he, cond_true]
  unfold txo txc txf
  rw [hz]
  exact ⟨_, _, _, _, rfl, h, by omega⟩
 ·have h0 : ¬ t.text.size = 0 := fun h0 => he (emp h0)
  have hz : (t.text.size == 0) = false := by simpa using h0
  rw [decide_eq_false he, cond_false]
  obtain ⟨y, hy, hy2⟩ : ∃ y, getI t.text.data.toList 0 = some y ∧ t.text.data.toList.head? = some y := by
   have : t.text.data.toList[0]? = some (t.text.data.toList[0]'(by rw [YM]; omega)) := geg _
   exact ⟨_, (Zu _ 0).trans this, by rw [List.head?_eq_getElem?]; exact this⟩
  have out : (bif fresh then bif ((y.toNat : Int) != 10) then true else false else false) = (fresh && t.text.data.toList.head? != some 10) := by
   rw [hy2, is10]
   cases fresh <;> cases (some y != some (10 : UInt8)) <;> rfl
  have ho : txo t.text t.depth o fresh = (o ++ (bif (bif fresh then bif ((y.toNat : Int) != 10) then true else false else false) then List.replicate t.depth.toNat 32 else [])) ++ t.text.data.toList := by
   unfold txo; rw [hz, out]; rfl
  rw [ho]
  cases hfr : fresh with
  | false =>
   obtain ⟨n1, f1, g1, r1, k1, k2⟩ := CL t v gen h (by omega)
   rw [cond_false, k1]
   simp only [bsm, hx, Q6, w1, w2, w3]
   rw [hfr] at pick
   rw [pick _ _ _ _ h0]
   exact ⟨_, _, _, _, rfl, by simpa using k2, by omega⟩
  | true =>
   rw [hfr] at pick
   rw [cond_true, hy]
   simp only [bsm]
   cases ((y.toNat : Int) != 10) with
   | false =>
    obtain ⟨n1, f1, g1, r1, k1, k2⟩ := CL t v gen h (by omega)
    rw [cond_false, k1]
    simp only [bsm, hx, Q6, w1, w2, w3]
    rw [pick _ _ _ _ h0]
    exact ⟨_, _, _, _, rfl, by simpa using k2, by omega⟩
   | true =>
    obtain ⟨s, e1, e2, e3⟩ := q35 hd
    have e4 : s.data.toList = List.replicate t.depth.toNat 32 := by
     have h1 : rpOk sp1 t.depth = true := decide_eq_true ⟨hd.1, by omega, by show ((1 : Nat) : Int) * t.depth ≤ _; omega⟩
     unfold F35 at e1
     rw [h1] at e1
     rw [← Option.some.inj e1]
     show (Lib.repeatL [32] t.depth.toNat).toArray.toList = _
     rw [List.toList_toArray, Fx]
    obtain ⟨n0, f0, g0, r0, m1, m2⟩ := BM s v gen h (by omega)
    obtain ⟨n1, f1, g1, r1, k1, k2⟩ := CL t f0 g0 m2 (by omega)
    rw [cond_true, e1]
    simp only [bsm]
    rw [m1]
    simp only [bsm, Q6, k1, hx, w1, w2, w3]
    rw [pick _ _ _ _ h0]
    exact ⟨_, _, _, _, rfl, by rw [e4] at k2; exact k2, by omega⟩
theorem Ld (s : ByteArray) (i j : Nat) : (s.extract i j).data.toList = (s.data.toList.take j).drop i := by
 simp [List.drop_take]
theorem FB (s : ByteArray) (h : s.size ≤ 8000000) : ∃ a b, F47 s = some (.k0 a b (ct s).2) ∧ (a.size : Int) = (ct s).1 ∧ a.size ≤ s.size ∧ (YL s = false → (ct s).2 = false ∧ (ct s).1 = (s.size : Int)) := by
 have g0 : getI (⟨([10] : List UInt8).toArray⟩ : ByteArray).data.toList 0 = some (10 : UInt8) := rfl
 have e1 : (Int.toNat (((10 : UInt8).toNat : Nat) : Int)).toUInt8 = 10 := by decide
 have key : ∃ a b c, F47 s = some (.k0 a b c) ∧ a.size ≤ s.size ∧ (YL s = false → c = false ∧ a.size = s.size) := by
  unfold F47 F55 JF
  by_cases he : (⟨([10] : List UInt8).toArray⟩ : ByteArray) = s
  ·rw [Z0, decide_eq_true he]
   subst he
   exact ⟨_, _, _, rfl, by decide, fun hn => by revert hn; decide⟩
  ·rw [Z0, decide_eq_false he]
   simp only [cond_false, g0, bsm, HE, e1, Go.Lib.firstIdx_eq]
   rcases Uq 10 s.data.toList with ⟨h1, h2⟩ | ⟨p, r, h1, h2, h3⟩
   ·rw [h1]
    exact ⟨_, _, _, rfl, Nat.le_refl _, fun _ => ⟨rfl, rfl⟩⟩
   ·have hl := congrArg List.length h1
    rw [YM, lap, lcn] at hl
    rw [h3]
    simp only [decide_eq_true (show (p.length : Int) ≥ 0 by omega), cond_true, w_S (show p.length < 4611686018427387904 by omega),
     show PF 0 (p.length : Int) s.size = true from decide_eq_true ⟨by omega, by omega, by omega⟩, show PF ((p.length + 1 : Nat) : Int) (s.size : Int) s.size = true from decide_eq_true ⟨by omega, by omega, by omega⟩, bsm]
    refine ⟨_, _, _, rfl, ?_, fun hn => ?_⟩
    ·rw [← YM, Ld, List.length_drop, List.length_take, YM]; simp; omega
    ·unfold YL at hn
     exact absurd (by rw [h1]; simp) (of_decide_eq_false hn)
 obtain ⟨a, b, c, k1, k2, k3⟩ := key
 have e : ct s = ((a.size : Int), c) := by unfold ct; rw [k1]
 rw [e]
 exact ⟨a, b, k1, rfl, k2, fun hn => ⟨(k3 hn).1, by rw [(k3 hn).2]⟩⟩
theorem ED {s : ByteArray} (h : s.size = 0) : ct s = (0, false) := by
 obtain ⟨a, b, h1, h2, h3, h4⟩ := FB s (by omega)
 have hn : YL s = false := by unfold YL; rw [CI h]; rfl
 obtain ⟨h5, h6⟩ := h4 hn
 exact Prod.ext (by rw [h6, h]; rfl) h5
abbrev en (t : ThingD) : At := (bt t, t.depth, t.way)
structure Stq (S : Iqq) (Ls : Oqq) (row : Tqq) (len : Nat) (es : List At) : Prop where
 le : len ≤ row.length
 ok : ∀ t ∈ row.take len, TOk S Ls t
 is : ((row.take len).map en).reverse = es
abbrev RC (d w : Int) (l : Bqq) : List At := l.map fun x => (x, d, w)
theorem Ur (d w : Int) : ∀ l : Bqq, msA (RC d w l) = cnts l ∧ lvA (RC d w l) = lvs w l
 | [] => ⟨rfl, by simp [lvA, lvs]⟩
 | x :: l => by
  obtain ⟨h1, h2⟩ := Ur d w l
  refine ⟨by simp only [cnts]; show cnt x + msA (RC d w l) = _; rw [h1], ?_⟩
  show lv w x ++ lvA (RC d w l) = _
  rw [h2]
  simp only [lvs]
section
variable {S : Iqq} {Ls : Oqq} {row : Tqq} {len : Nat} {es : List At}
theorem HZ : ∀ l : List At, l.length ≤ msA l
 | [] => by simp
 | x :: l => by have := HZ l; have := ZN x.1; simp only [lcn, msA]; omega
theorem Stq.len_le (h : Stq S Ls row len es) : len = es.length ∧ len ≤ msA es := by
 have h1 := congrArg List.length h.is
 rw [List.length_reverse, List.length_map, List.length_take] at h1
 have := h.le
 have := HZ es
 omega
theorem Stq.pop {n : Nat} (h : Stq S Ls row (n + 1) es) : ∃ t es', es = en t :: es' ∧ row[n]? = some t ∧ TOk S Ls t ∧ Stq S Ls row n es' := by
 have hx : row[n]? = some (row[n]'(by have := h.le; omega)) := geg _
 have ht : row.take (n + 1) = row.take n ++ [row[n]'(by have := h.le; omega)] := List.take_succ_eq_append_getElem (by have := h.le; omega)
 generalize row[n]'(by have := h.le; omega) = t at hx ht
 have h1 := h.is
 have h2 := h.ok t (by rw [ht]; simp)
 rw [ht] at h1
 refine ⟨t, _, by rw [← h1]; simp, hx, h2, ⟨by have := h.le; omega, fun y hy => h.ok y (by rw [ht]; simp [hy]), rfl⟩⟩
theorem Stq.push {d w : Int} {t : ThingD} {row' : Tqq} {len' : Nat} (h : Stq S Ls row len es) (hp : Put S Ls d w t row len row' len') : Stq S Ls row' len' (RC d w t.kids ++ es) := by
 obtain ⟨K, k1, k2, k3⟩ := hp.ex
 refine ⟨hp.le, fun y hy => ?_, ?_⟩
 ·rw [k1] at hy
  rcases List.mem_append.1 hy with hy | hy
  ·exact h.ok y hy
  ·exact (k3 y hy).1
 ·have e : K.map en = (K.map bt).map fun x => (x, d, w) := by
   rw [List.map_map]
   refine List.map_congr_left (fun x hx => ?_)
   obtain ⟨_, p2, p3⟩ := k3 x hx
   show (bt x, x.depth, x.way) = (bt x, d, w)
   rw [p2, p3]
  rw [k1, List.map_append, e, k2, List.reverse_append, ← List.map_reverse, List.reverse_reverse, h.is]
theorem Stq.nil : Stq S Ls [] 0 [] := ⟨Nat.le_refl _, fun t ht => by simp at ht, rfl⟩
end
theorem FC {wd c : Int} (h : ¬ c ≤ wd) : ∀ l, Yh wd l c = false
 | [] => decide_eq_false h
 | .tx s :: l => by unfold Yh; rw [decide_eq_false h]; rfl
 | .br n w :: l => by unfold Yh; rw [decide_eq_false h]; rfl
 | .ln :: l => decide_eq_false h
def J36 (S : Iqq) (Ls : Oqq) (a4 : Tqq) (a8 : Nat) (wd : Int) (T : Bool) (k : Nat) (s : Int × Tqq × Nat × Tqq × Nat × Int) : Prop :=
 ∃ ei eo m, Stq S Ls s.2.2.2.1 s.2.2.2.2.1 ei ∧ Stq S Ls a4 m eo ∧ m ≤ a8 ∧ s.2.2.2.2.2 = (m : Int) ∧ msA ei + msA eo = k ∧ k ≤ 24000 ∧ (Yh wd (lvA ei ++ lvA eo) s.1 = T ∧ 0 ≤ s.1 ∧ s.1 + 25000 * k ≤ 700000000)
def P36 (wd : Int) (T : Bool) : E_L36_0_3 → Prop
 | .k0 x _ _ _ _ _ _ _ _ _ _ _ _ => decide (x ≤ wd) = T
 | .k1 x _ _ _ _ _ => decide (x ≤ wd) = T
 | .k2 x _ _ _ _ _ _ _ _ _ _ _ _ => decide (x ≤ wd) = T
 | .k3 x _ _ _ _ _ => decide (x ≤ wd) = T
theorem KG {S : Iqq} {Ls : Oqq} {t : ThingD} (h : TOk S Ls t) {wd c : Int} {l : List LF} {T : Bool} (hc : c ≤ wd) (hT : Yh wd (lv t.way (bt t) ++ l) c = T) :
  (t.kind = 0 → (ct t.text).2 = true → decide (c + (ct t.text).1 ≤ wd) = T) ∧ (t.kind = 0 → (ct t.text).2 = false → Yh wd l (c + (ct t.text).1) = T) ∧
  (t.kind = 1 → t.way = 0 → T = true) ∧ (t.kind = 1 → ¬ t.way = 0 → Yh wd l (c + t.n) = T) ∧ (t.kind = 2 → T = true) ∧ (t.kind = 4 → Yh wd (lvs 1 t.kids ++ l) c = T) ∧
  (¬ t.kind = 0 → ¬ t.kind = 1 → ¬ t.kind = 2 → ¬ t.kind = 4 → Yh wd (lvs t.way t.kids ++ l) c = T) := by
 have e := Lc t.way (bt t)
 have e1 : (bt t).text = t.text := rfl
 have e2 : (bt t).kids = t.kids := rfl
 have e3 : (bt t).kind = t.kind := rfl
 have e4 : (bt t).n = t.n := rfl
 rw [e1, e2, e3, e4] at e
 rw [e] at hT
 refine ⟨fun k0 c1 => ?_, fun k0 c1 => ?_, fun k1 w0 => ?_, fun k1 w0 => ?_, fun k2 => ?_, fun k4 => ?_, fun k0 k1 k2 k4 => ?_⟩
 ·rw [show (t.kind == 0) = true by rw [k0]; rfl, cond_true] at hT
  cases hs : t.text.size == 0 with
  | true => rw [ED (by simpa using hs)] at c1; cases c1
  | false =>
   rw [hs, cond_false] at hT
   have hT : (decide (c ≤ wd) && (bif (ct t.text).2 then decide (c + (ct t.text).1 ≤ wd) else Yh wd l (c + (ct t.text).1))) = T := hT
   rw [c1, decide_eq_true hc] at hT
   exact hT
 ·rw [show (t.kind == 0) = true by rw [k0]; rfl, cond_true] at hT
  cases hs : t.text.size == 0 with
  | true =>
   rw [hs, cond_true] at hT
   rw [ED (by simpa using hs), Int.add_zero]
   exact hT
  | false =>
   rw [hs, cond_false] at hT
   have hT : (decide (c ≤ wd) && (bif (ct t.text).2 then decide (c + (ct t.text).1 ≤ wd) else Yh wd l (c + (ct t.text).1))) = T := hT
   rw [c1, decide_eq_true hc] at hT
   exact hT
 ·rw [k1, show ((1 : Int) == 0) = false from rfl, show ((1 : Int) == 1) = true from rfl, cond_false, cond_true] at hT
  have hT : (decide (c ≤ wd) && (bif t.way == 0 then true else Yh wd l (c + t.n))) = T := hT
  rw [decide_eq_true hc, w0] at hT
  exact hT.symm
 ·rw [k1, show ((1 : Int) == 0) = false from rfl, show ((1 : Int) == 1) = true from rfl, cond_false, cond_true] at hT
  have hT : (decide (c ≤ wd) && (bif t.way == 0 then true else Yh wd l (c + t.n))) = T := hT
  rw [decide_eq_true hc, Zh w0] at hT
  exact hT
 ·rw [k2, show ((2 : Int) == 0) = false from rfl, show ((2 : Int) == 1) = false from rfl, show ((2 : Int) == 2) = true from rfl, cond_false, cond_false, cond_true] at hT
  have hT : decide (c ≤ wd) = T := hT
  rw [decide_eq_true hc] at hT
  exact hT.symm
 ·rw [k4, show ((4 : Int) == 0) = false from rfl, show ((4 : Int) == 1) = false from rfl, show ((4 : Int) == 2) = false from rfl, show ((4 : Int) == 4) = true from rfl, cond_false, cond_false, cond_false, cond_true] at hT
  exact hT
 ·rw [Zh k0, Zh k1, Zh k2, Zh k4, cond_false, cond_false, cond_false, cond_false] at hT
  exact hT
theorem s36x {S : Iqq} {Ls : Oqq} {a4 : Tqq} {a8 : Nat} {a11 : Int} {T : Bool} (hS : S.length ≤ 24000) (h8 : a8 ≤ 24000) (k : Nat) (s : Int × Tqq × Nat × Tqq × Nat × Int) (hi : J36 S Ls a4 a8 a11 T k s) :
  ∃ r, VK a4 a8 S a11 s.1 s.2.1 s.2.2.1 s.2.2.2.1 s.2.2.2.2.1 s.2.2.2.2.2 = some r ∧ (∀ s', r = .inr s' → ∃ k', k' < k ∧ J36 S Ls a4 a8 a11 T k' s') ∧ ∀ e, r = .inl e → P36 a11 T e := by
 obtain ⟨v1, v2, v3, v4, v5, v6⟩ := s
 obtain ⟨bi, bo, m, h1, h2, h3, h4, h5, h6, h7, h9, h10⟩ := hi
 dsimp only at h1 h2 h3 h4 h5 h6 h7 h9 h10 ⊢
 subst h4
 unfold VK
 by_cases c1 : ¬ v1 ≤ a11
 ·rw [decide_eq_false c1]
  exact ⟨_, rfl, fun s' h => (by cases h), fun e h => (by cases h; show decide (v1 ≤ a11) = T; rw [decide_eq_false c1, ← h7, FC c1])⟩
 have c1 := Decidable.not_not.1 c1
 rw [decide_eq_true c1, cond_true]
 match v5, h1 with
 | n + 1, h1 =>
  obtain ⟨t, bs', rfl, p2, p3, p5⟩ := h1.pop
  have hl := p5.len_le
  have hct := p3.txt
  have hn : 0 ≤ t.n ∧ t.n ≤ 100 := p3.ok.nn
  simp only [msA] at h5
  obtain ⟨f1, f2, f3, f4, f5, f6, f7⟩ := KG p3 c1 (show Yh a11 (lv t.way (bt t) ++ (lvA bs' ++ lvA bo)) v1 = T by rw [← List.append_assoc]; exact h7)
  have hpop : Nh a4 a8 v4 (n + 1) (m : Int) = some (.k0 t.kind t.text t.n t.kids t.depth t.way t.at_) := by
   unfold Nh
   simp only [decide_eq_true (show ((n + 1 : Nat) : Int) > 0 by omega), cond_true, wd (show n < 4611686018427387904 by omega), UA, if_pos (Nat.lt_succ_self n), bsm, p2,
    show slOk (n : Int) (n + 1) v4.length = true from decide_eq_true ⟨by omega, by have := p5.le; omega, h1.le⟩]
  rw [hpop]
  simp only [bsm, wd (show n < 4611686018427387904 by omega), Int.toNat_natCast]
  have out : ∀ (v1' : Int), v1 ≤ v1' → v1' ≤ v1 + 24000 → Yh a11 (lvA bs' ++ lvA bo) v1' = T → ∃ k', k' < k ∧ J36 S Ls a4 a8 a11 T k' (v1', v2, v3, v4, n, (m : Int)) :=
   fun v1' g1 g2 g3 => ⟨_, by omega, bs', bo, m, p5, h2, h3, rfl, rfl, by omega, g3, by dsimp only; omega, by dsimp only; omega⟩
  have psh : ∀ w : Int, Yh a11 (lvs w t.kids ++ (lvA bs' ++ lvA bo)) v1 = T → ∃ g' len' row', Re v3 n t 0 w S v4 = some (.k0 g' len' row') ∧ ∃ k', k' < k ∧ J36 S Ls a4 a8 a11 T k' (v1, v2, g', row', len', (m : Int)) := fun w g3 => by
   obtain ⟨g', len', row', k1, k2⟩ := BJ (w := w) (d := 0) v3 p3 hS ⟨by omega, by have := p3.dep; omega⟩ p5.le (by omega)
   obtain ⟨q1, q2⟩ := Ur 0 w t.kids
   refine ⟨g', len', row', k1, _, ?_, RC 0 w t.kids ++ bs', bo, m, p5.push k2, h2, h3, rfl, rfl, ?_, ?_, h9, ?_⟩
   ·rw [Yt, q1]; omega
   ·rw [Yt, q1]; omega
   ·rw [Ta, q2, List.append_assoc]; exact g3
   ·rw [Yt, q1]; dsimp only; omega
  by_cases k0 : t.kind = 0
  ·obtain ⟨a, b, q1, q2, q3, _⟩ := FB t.text (by omega)
   rw [k0]
   simp only [show ((0 : Int) == 0) = true from rfl, cond_true, q1, bsm, q2, w_id (show -9223372036854775808 ≤ v1 + (ct t.text).1 ∧ v1 + (ct t.text).1 ≤ 9223372036854775807 by omega)]
   cases hc : (ct t.text).2 with
   | true => exact ⟨_, rfl, fun s' h => (by cases h), fun e h => (by cases h; exact f1 k0 hc)⟩
   | false => exact ⟨_, rfl, fun s' h => (by cases h; exact out _ (by omega) (by omega) (f2 k0 hc)), fun e h => (by cases h)⟩
  rw [Zh k0, cond_false]
  by_cases k1 : t.kind = 1
  ·rw [k1, show ((1 : Int) == 1) = true from rfl, cond_true]
   by_cases w0 : t.way = 0
   ·rw [w0]
    exact ⟨_, rfl, fun s' h => (by cases h), fun e h => (by cases h; show decide (v1 ≤ a11) = T; rw [decide_eq_true c1, f3 k1 w0])⟩
   ·rw [Zh w0, cond_false, w_id (by omega)]
    exact ⟨_, rfl, fun s' h => (by cases h; exact out _ (by omega) (by omega) (f4 k1 w0)), fun e h => (by cases h)⟩
  rw [Zh k1, cond_false]
  by_cases k2 : t.kind = 2
  ·rw [k2]
   exact ⟨_, rfl, fun s' h => (by cases h), fun e h => (by cases h; show decide (v1 ≤ a11) = T; rw [decide_eq_true c1, f5 k2])⟩
  rw [Zh k2, cond_false]
  by_cases k4 : t.kind = 4
  ·obtain ⟨g', len', row', q1, q2⟩ := psh 1 (f6 k4)
   rw [show (t.kind == 4) = true by rw [k4]; rfl, cond_true, q1]
   exact ⟨_, rfl, fun s' h => (by cases h; exact q2), fun e h => (by cases h)⟩
  ·obtain ⟨g', len', row', q1, q2⟩ := psh t.way (f7 k0 k1 k2 k4)
   rw [Zh k4, cond_false, q1]
   exact ⟨_, rfl, fun s' h => (by cases h; exact q2), fun e h => (by cases h)⟩
 | 0, h1 =>
  have hbi : bi = [] := enz h1.len_le.1.symm
  subst hbi
  match m, h2, h3 with
  | 0, h2, h3 =>
   have hbo : bo = [] := enz h2.len_le.1.symm
   subst hbo
   have hpop : Nh a4 a8 v4 0 ((0 : Nat) : Int) = some .k1 := rfl
   rw [hpop]
   exact ⟨_, rfl, fun s' h => (by cases h), fun e h => (by cases h; exact h7)⟩
  | m + 1, h2, h3 =>
   obtain ⟨t, bs', rfl, p2, p3, p5⟩ := h2.pop
   have hl := h1.len_le
   have hct := p3.txt
   have hn : 0 ≤ t.n ∧ t.n ≤ 100 := p3.ok.nn
   simp only [msA] at h5
   obtain ⟨f1, f2, f3, f4, f5, f6, f7⟩ := KG p3 c1 (show Yh a11 (lv t.way (bt t) ++ lvA bs') v1 = T from h7)
   have hpop : Nh a4 a8 v4 0 ((m + 1 : Nat) : Int) = some (.k2 t.kind t.text t.n t.kids t.depth t.way t.at_) := by
    unfold Nh
    simp only [decide_eq_false (show ¬ ((0 : Nat) : Int) > 0 by omega), cond_false, Zh (show ¬ ((m + 1 : Nat) : Int) = 0 by omega), wd (show m < 4611686018427387904 by omega), UA, if_pos (show m < a8 by omega), bsm, p2]
   rw [hpop]
   simp only [bsm, wd (show m < 4611686018427387904 by omega), Int.toNat_natCast]
   have out : ∀ (v1' : Int), v1 ≤ v1' → v1' ≤ v1 + 24000 → Yh a11 (lvA bs') v1' = T → ∃ k', k' < k ∧ J36 S Ls a4 a8 a11 T k' (v1', v2, v3, v4, 0, (m : Int)) :=
    fun v1' g1 g2 g3 => ⟨msA bs', by omega, [], bs', m, h1, p5, by omega, rfl, Nat.zero_add _, by omega, g3, by dsimp only; omega, by dsimp only; omega⟩
   have psh : ∀ w : Int, Yh a11 (lvs w t.kids ++ lvA bs') v1 = T → ∃ g' len' row', Rj v3 0 t 0 w S v4 = some (.k0 g' len' row') ∧ ∃ k', k' < k ∧ J36 S Ls a4 a8 a11 T k' (v1, v2, g', row', len', (m : Int)) := fun w g3 => by
    obtain ⟨g', len', row', k1, k2⟩ := BK (w := w) (d := 0) v3 p3 hS ⟨by omega, by have := p3.dep; omega⟩ h1.le (by omega)
    obtain ⟨q1, q2⟩ := Ur 0 w t.kids
    refine ⟨g', len', row', k1, _, ?_, RC 0 w t.kids ++ [], bs', m, h1.push k2, p5, by omega, rfl, rfl, ?_, ?_, h9, ?_⟩
    ·rw [Yt, q1]; simp only [msA]; omega
    ·rw [Yt, q1]; simp only [msA]; omega
    ·rw [Ta, q2, List.append_assoc]; exact g3
    ·rw [Yt, q1]; simp only [msA]; omega
   by_cases k0 : t.kind = 0
   ·obtain ⟨a, b, q1, q2, q3, _⟩ := FB t.text (by omega)
    rw [k0]
    simp only [show ((0 : Int) == 0) = true from rfl, cond_true, q1, bsm, q2, w_id (show -9223372036854775808 ≤ v1 + (ct t.text).1 ∧ v1 + (ct t.text).1 ≤ 9223372036854775807 by omega)]
    cases hc : (ct t.text).2 with
    | true => exact ⟨_, rfl, fun s' h => (by cases h), fun e h => (by cases h; exact f1 k0 hc)⟩
    | false => exact ⟨_, rfl, fun s' h => (by cases h; exact out _ (by omega) (by omega) (f2 k0 hc)), fun e h => (by cases h)⟩
   rw [Zh k0, cond_false]
   by_cases k1 : t.kind = 1
   ·rw [k1, show ((1 : Int) == 1) = true from rfl, cond_true]
    by_cases w0 : t.way = 0
    ·rw [w0]
     exact ⟨_, rfl, fun s' h => (by cases h), fun e h => (by cases h; show decide (v1 ≤ a11) = T; rw [decide_eq_true c1, f3 k1 w0])⟩
    ·rw [Zh w0, cond_false, w_id (by omega)]
     exact ⟨_, rfl, fun s' h => (by cases h; exact out _ (by omega) (by omega) (f4 k1 w0)), fun e h => (by cases h)⟩
   rw [Zh k1, cond_false]
   by_cases k2 : t.kind = 2
   ·rw [k2]
    exact ⟨_, rfl, fun s' h => (by cases h), fun e h => (by cases h; show decide (v1 ≤ a11) = T; rw [decide_eq_true c1, f5 k2])⟩
   rw [Zh k2, cond_false]
   by_cases k4 : t.kind = 4
   ·obtain ⟨g', len', row', q1, q2⟩ := psh 1 (f6 k4)
    rw [show (t.kind == 4) = true by rw [k4]; rfl, cond_true, q1]
    exact ⟨_, rfl, fun s' h => (by cases h; exact q2), fun e h => (by cases h)⟩
   ·obtain ⟨g', len', row', q1, q2⟩ := psh t.way (f7 k0 k1 k2 k4)
    rw [Zh k4, cond_false, q1]
    exact ⟨_, rfl, fun s' h => (by cases h; exact q2), fun e h => (by cases h)⟩
def AF : R_F36_3 → Bool
 | .k0 x _ _ _ _ _ _ _ _ _ _ _ _ => x
 | .k1 x _ _ _ _ _ => x
 | .k2 x _ _ _ _ _ _ _ _ _ _ _ _ => x
 | .k3 x _ _ _ _ _ => x
def fstE : E_L36_1_3 → Bool
 | .k0 x _ _ _ _ _ _ _ _ _ _ _ _ => x
 | .k1 x _ _ _ _ _ => x
 | .k2 x _ _ _ _ _ _ _ _ _ _ _ _ => x
 | .k3 x _ _ _ _ _ => x
theorem q36x {S : Iqq} {Ls : Oqq} {t : ThingD} {row : Tqq} {len : Nat} {es : List At} (a11 a12 : Int) (hT : TOk S Ls t) (hS : S.length ≤ 24000) (h : Stq S Ls row len es) (hc : cnt (bt t) + msA es ≤ 24000) (hcol : 0 ≤ a12 ∧ a12 ≤ 9000000) :
  ∃ e, HG t row len S a11 a12 = some e ∧ AF e = Yh a11 (lvs 1 t.kids ++ lvA es) a12 := by
 have hct := hT.txt
 have hl := h.len_le
 obtain ⟨q1, q2⟩ := Ur 0 1 t.kids
 obtain ⟨g', len', row', k1, k2⟩ := BL (w := 1) (d := 0) hT hS ⟨by omega, by have := hT.dep; omega⟩
 have hi : J36 S Ls row len a11 (Yh a11 (lvs 1 t.kids ++ lvA es) a12) (cnts t.kids + msA es) (a12, [], g', row', len', (len : Int)) :=
  ⟨RC 0 1 t.kids, es, len, by simpa using (Stq.nil (S := S) (Ls := Ls)).push k2, h, Nat.le_refl _, rfl, by rw [q1], by omega, by rw [q2], hcol.1, by dsimp only; omega⟩
 obtain ⟨e, m1, m2⟩ := NU (fun k s => s36x (a11 := a11) hS (show len ≤ 24000 by omega) k s) _ _ _ (Nat.le_refl _) hi
 unfold HG
 rw [k1]
 simp only [bsm]
 have hz : ∃ y, VL a12 row len S a11 g' row' len' ((len : Nat) : Int) = some (.inl y) ∧ fstE y = Yh a11 (lvs 1 t.kids ++ lvA es) a12 := by
  unfold VL
  rw [m1]
  cases e <;> exact ⟨_, rfl, m2⟩
 obtain ⟨y, hy, hf⟩ := hz
 rw [Zq hy]
 cases y <;> exact ⟨_, rfl, hf⟩
abbrev flE (x : At) : List At := fl x.2.1 x.2.2 x.1
def flS (l : List At) : List At := l.flatMap flE
theorem CN (a b : List At) : flS (a ++ b) = flS a ++ flS b := List.flatMap_append
theorem KH (d w : Int) : ∀ l : Bqq, flS (RC d w l) = fls d w l
 | [] => by simp [flS, fls]
 | x :: l => by
  show fl d w x ++ flS (RC d w l) = _
  rw [KH d w l]
  simp only [fls]
theorem H0 : ∀ l : List At, lvA (flS l) = lvA l
 | [] => rfl
 | x :: l => by
  show lvA (fl x.2.1 x.2.2 x.1 ++ flS l) = lv x.2.2 x.1 ++ lvA l
  rw [Ta, (CM _ x.1 _ _ (Nat.le_refl _)).2, H0 l]
theorem Buf.len {row : Iqq} {n : Nat} {o : Uqq} (h : Buf row n o) : o.length = n := by
 have h1 := congrArg List.length h.is
 rw [List.length_take, List.length_map] at h1
 have := h.le
 omega
def J27 (S : Iqq) (Ls : Oqq) (wi : Int) (T : Uqq) (k : Nat) (s : Nat × Tqq × Bool × Nat × Nat × Nat × Int × Bool × Iqq) : Prop :=
 ∃ es o, Stq S Ls s.2.1 s.2.2.2.2.2.1 es ∧ Buf s.2.2.2.2.2.2.2.2 s.2.2.2.2.1 o ∧ R wi (flS es) o s.2.2.2.2.2.2.1 s.2.2.2.2.2.2.2.1 = T ∧ msA es = k ∧ (k ≤ 24000 ∧ s.2.2.2.2.1 ≤ 4000000) ∧
  (0 ≤ s.2.2.2.2.2.2.1 ∧ s.2.2.2.2.2.2.1 ≤ 2400000 + (s.2.2.2.2.1 : Int))
def Q27 (T : Uqq) (e : E_L27_0) : Prop := match e with
 | .k0 _ _ _ _ v5 _ _ _ v9 => Buf v9 v5 T ∧ v5 ≤ 4000000
theorem BP (t : ThingD) (col : Int) (h : t.text.size ≤ 24000) (hd : 0 ≤ t.depth ∧ t.depth ≤ 2400000) (hc : 0 ≤ col) : 0 ≤ txc t.text t.depth col ∧ (txc t.text t.depth col ≤ 2400000 ∨ txc t.text t.depth col ≤ col + t.text.size) := by
 obtain ⟨_, h1, h2⟩ := EC t (by omega)
 unfold txc
 cases t.text.size == 0 with
 | true => exact ⟨hc, .inr (by simp only [cond_true]; omega)⟩
 | false =>
  simp only [cond_false]
  cases lix t.text == (t.text.size : Int) - 1 with
  | true => exact ⟨hd.1, .inl hd.2⟩
  | false =>
   simp only [cond_false]
   by_cases h3 : lix t.text ≥ 0
   ·rw [decide_eq_true h3]; exact ⟨by simp only [cond_true]; omega, .inr (by simp only [cond_true]; omega)⟩
   ·rw [decide_eq_false h3]; exact ⟨by simp only [cond_false]; omega, .inr (by simp only [cond_false]; omega)⟩
theorem BQ {t : ThingD} {fr : Bool} {o : Uqq} : o.length + t.text.size ≤ (txo t.text t.depth o fr).length := by
 unfold txo
 cases hz : t.text.size == 0 with
 | true =>
  have : t.text.size = 0 := by simpa using hz
  simp only [cond_true]
  omega
 | false =>
  simp only [cond_false, lap, YM]
  omega
theorem q35x {n : Int} (h : 0 ≤ n ∧ n ≤ 2400000) : ∃ s, F35 sp1 n = some s ∧ s.size = n.toNat ∧ s.data.toList = List.replicate n.toNat 32 := by
 have h1 : rpOk sp1 n = true := decide_eq_true ⟨h.1, by omega, by show ((1 : Nat) : Int) * n ≤ _; omega⟩
 have h2 : (repS sp1 n).data.toList = List.replicate n.toNat 32 := by
  show (Lib.repeatL [32] n.toNat).toArray.toList = _
  rw [List.toList_toArray, Fx]
 exact ⟨repS sp1 n, by unfold F35; rw [h1]; rfl, by rw [← YM, h2, lrp], h2⟩
theorem s27x {S : Iqq} {Ls : Oqq} {T : Uqq} {wi : Int} (hS : S.length ≤ 24000) (k : Nat) (s : Nat × Tqq × Bool × Nat × Nat × Nat × Int × Bool × Iqq) (hi : J27 S Ls wi T k s) :
  ∃ r, M4 Ls S wi s.1 s.2.1 s.2.2.1 s.2.2.2.1 s.2.2.2.2.1 s.2.2.2.2.2.1 s.2.2.2.2.2.2.1 s.2.2.2.2.2.2.2.1 s.2.2.2.2.2.2.2.2 = some r ∧ (∀ s', r = .inr s' → ∃ k', k' < k ∧ J27 S Ls wi T k' s') ∧ ∀ e, r = .inl e → Q27 T e := by
 obtain ⟨v1, v2, v3, v4, v5, v6, v7, v8, v9⟩ := s
 obtain ⟨es, o, h1, h2, h3, h4, h5, h6⟩ := hi
 dsimp only at h1 h2 h3 h4 h5 h6 ⊢
 unfold M4
 have ho := h2.len
 match v6, h1 with
 | 0, h1 =>
  have hb : es = [] := enz h1.len_le.1.symm
  subst hb
  have h3 : o = T := by rw [← h3]; exact (Fy ..).symm
  exact ⟨_, rfl, fun s' h => (by cases h), fun e h => (by cases h; exact ⟨h3 ▸ h2, h5.2⟩)⟩
 | n + 1, h1 =>
 rw [decide_eq_true (show ((n + 1 : Nat) : Int) > 0 by omega), cond_true]
 simp only [G5, bsm]
 by_cases c1 : ¬ ((v5 : Nat) : Int) ≤ 1048576
 ·rw [decide_eq_false c1, cond_false]
  have h3 : o = T := by rw [← h3]; exact (BN (by omega)).symm
  exact ⟨_, rfl, fun s' h => (by cases h), fun e h => (by cases h; exact ⟨h3 ▸ h2, h5.2⟩)⟩
 have c1 := Decidable.not_not.1 c1
 rw [decide_eq_true c1, cond_true]
 have hbig : ¬ 1048576 < o.length := by omega
 obtain ⟨t, es', rfl, p2, p3, p5⟩ := h1.pop
 have hl := p5.len_le
 have hct := p3.txt
 have hdp := p3.dep
 have htx : t.kind = 0 ∨ t.text.size = 0 := p3.ok.txt
 have hkd : 0 ≤ t.kind ∧ t.kind ≤ 5 := p3.ok.kd
 have hfew : t.kind < 3 → t.kids = [] := p3.ok.few
 have hn : 0 ≤ t.n ∧ t.n ≤ 100 := p3.ok.nn
 have hfl := HY t.depth t.way (bt t)
 have e1 : (bt t).text = t.text := rfl
 have e2 : (bt t).kids = t.kids := rfl
 have e3 : (bt t).kind = t.kind := rfl
 have e4 : (bt t).n = t.n := rfl
 rw [e1, e2, e3, e4] at hfl
 simp only [msA] at h4
 have h3 : R wi (fl t.depth t.way (bt t) ++ flS es') o v7 v8 = T := h3
 simp only [wd (show n < 4611686018427387904 by omega), UA, if_pos (Nat.lt_succ_self n), bsm, p2, show slOk (n : Int) (n + 1) v2.length = true from decide_eq_true ⟨by omega, by have := p5.le; omega, h1.le⟩, cond_true, Int.toNat_natCast]
 have fin : ∀ {d w : Int} {g' len' : Nat} {row' : Tqq} (f : Bool) (g l : Nat) (c : Int) (fr : Bool) (r : Iqq) (o' : Uqq), Put S Ls d w t v2 n row' len' → Buf r l o' → R wi (fls d w t.kids ++ flS es') o' c fr = T →
   l ≤ v5 + 2430000 → (0 ≤ c ∧ c ≤ 2400000 + (l : Int)) → ∃ k', k' < k ∧ J27 S Ls wi T k' (g', row', f, g, l, len', c, fr, r) := by
  intro d w g' len' row' f g l c fr r o' a1 a2 a3 a4 a5
  obtain ⟨q1, q2⟩ := Ur d w t.kids
  refine ⟨_, ?_, RC d w t.kids ++ es', o', p5.push a1, a2, ?_, rfl, ⟨?_, ?_⟩, a5⟩
  ·rw [Yt, q1]; omega
  ·rw [CN, KH]; exact a3
  ·rw [Yt, q1]; omega
  ·dsimp only; omega
 have hd0 : 0 ≤ t.depth ∧ t.depth + 100 * (cnts t.kids : Int) ≤ 2400000 := ⟨hdp.1, by omega⟩
 have hn3 : n ≤ 24000 := by omega
 have nokids : t.kind < 3 → ∀ d w, fls d w t.kids = [] := fun h d w => by rw [hfew h]; simp [fls]
 by_cases c0 : t.kind = 0
 ·obtain ⟨f, g, l, r, m1, m2, m3⟩ := q32x t v3 v4 v7 v8 h2 ⟨hdp.1, by omega⟩ hct.1 (by omega) (by omega)
  obtain ⟨g', len', row', k1, k2⟩ := q37 (w := t.way) (d := t.depth) v1 p3 hS hd0 p5.le hn3
  have hR : R wi (fls t.depth t.way t.kids ++ flS es') (txo t.text t.depth o v8) (txc t.text t.depth v7) (txf t.text v8) = T := by
   rw [nokids (by omega), List.nil_append]
   rw [show (t.kind == 0) = true by rw [c0]; rfl, cond_true] at hfl
   cases hz : t.text.size == 0 with
   | true =>
    rw [hz, cond_true] at hfl
    rw [hfl] at h3
    unfold txo txc txf
    rw [hz]
    exact h3
   | false =>
    rw [hz, cond_false] at hfl
    rw [hfl] at h3
    rw [← h3]
    exact (R_tx (b := bt t) hbig c0).symm
  obtain ⟨z1, z2⟩ := BP t v7 hct.1 ⟨hdp.1, by omega⟩ h6.1
  have hl2 := m2.len
  have hge := BQ (t := t) (fr := v8) (o := o)
  rw [c0, m1]
  simp only [show ((0 : Int) == 0) = true from rfl, cond_true, bsm, k1]
  exact ⟨_, rfl, fun s' h => (by cases h; exact fin f g l _ _ r _ k2 m2 hR m3 ⟨z1, by omega⟩), fun e h => (by cases h)⟩
 rw [Zh c0, cond_false] at hfl ⊢
 by_cases c1 : t.kind = 1
 ·rw [c1] at hfl
  have hfl : fl t.depth t.way (bt t) = [(bt t, t.depth, t.way)] := hfl
  rw [hfl] at h3
  have h3 : R wi ((bt t, t.depth, t.way) :: flS es') o v7 v8 = T := h3
  rw [c1, show ((1 : Int) == 1) = true from rfl, cond_true]
  by_cases cw : t.way = 0
  ·obtain ⟨f, g, r, m1, m2⟩ := q33 v3 v4 h2 (by omega)
   rw [AE (b := bt t) hbig c1 cw] at h3
   rw [cw, m1]
   exact ⟨_, rfl, fun s' h => (by cases h; exact ⟨msA es', by omega, es', o ++ [10], p5, m2, h3, rfl, ⟨by omega, by dsimp only; omega⟩, hdp.1, by dsimp only; omega⟩), fun e h => (by cases h)⟩
  ·obtain ⟨s, m1, m2, m3⟩ := q35x (n := t.n) (by omega)
   obtain ⟨nn, f, g, r, m4, m5⟩ := BM s v3 v4 h2 (by omega)
   obtain ⟨g', len', row', k1, k2⟩ := q37 (w := t.way) (d := t.depth) v1 p3 hS hd0 p5.le hn3
   rw [BO (b := bt t) hbig c1 cw] at h3
   rw [Zh cw, cond_false, m1]
   simp only [bsm, m4, k1, Q6]
   rw [m3] at m5
   exact ⟨_, rfl, fun s' h => (by cases h; exact fin _ _ _ _ _ _ _ k2 m5 (by rw [nokids (by omega), List.nil_append, w_id (by omega)]; exact h3) (by omega) (by rw [w_id (by omega)]; omega)), fun e h => (by cases h)⟩
 rw [Zh c1, cond_false]
 by_cases c2 : t.kind = 2
 ·obtain ⟨f, g, r, m1, m2⟩ := q33 v3 v4 h2 (by omega)
  obtain ⟨g', len', row', k1, k2⟩ := BI (w := t.way) (d := t.depth) v1 p3 hS hd0 p5.le hn3
  rw [c2] at hfl
  have hfl : fl t.depth t.way (bt t) = [(bt t, t.depth, t.way)] := hfl
  rw [hfl] at h3
  have h3 : R wi ((bt t, t.depth, t.way) :: flS es') o v7 v8 = T := h3
  rw [R_ln (b := bt t) hbig c2] at h3
  rw [show (t.kind == 2) = true by rw [c2]; rfl, cond_true, m1]
  simp only [bsm, k1]
  exact ⟨_, rfl, fun s' h => (by cases h; exact fin _ _ _ _ _ _ _ k2 m2 (by rw [nokids (by omega), List.nil_append]; exact h3) (by omega) (by omega)), fun e h => (by cases h)⟩
 rw [Zh c2, cond_false]
 by_cases c4 : t.kind = 4
 ·rw [c4] at hfl
  have hfl : fl t.depth t.way (bt t) = [(bt t, t.depth, t.way)] := hfl
  rw [hfl] at h3
  have h3 : R wi ((bt t, t.depth, t.way) :: flS es') o v7 v8 = T := h3
  rw [R_gr (b := bt t) hbig c4, H0] at h3
  rw [show (t.kind == 4) = true by rw [c4]; rfl, cond_true]
  have thru : ∀ {w : Int} {g' len' : Nat} {row' : Tqq}, gw wi t.way (bt t) (lvA es') v7 = w → Put S Ls t.depth w t v2 n row' len' → ∃ k', k' < k ∧ J27 S Ls wi T k' (g', row', v3, v4, v5, len', v7, v8, v9) :=
   fun hw hp => fin v3 v4 v5 v7 v8 v9 o hp h2 (by rw [← hw]; exact h3) (by omega) h6
  by_cases cw : t.way = 1
  ·obtain ⟨g', len', row', k1, k2⟩ := q37 (w := 1) (d := t.depth) v1 p3 hS hd0 p5.le hn3
   have hg : gw wi t.way (bt t) (lvA es') v7 = 1 := by unfold gw; rw [cw]; rfl
   rw [show (t.way == 1) = true by rw [cw]; rfl, cond_true, k1]
   exact ⟨_, rfl, fun s' h => (by cases h; exact thru hg k2), fun e h => (by cases h)⟩
  ·have hy : getI Ls t.at_ = some (hasL (bt t)) := by
    obtain ⟨a, _, rest, z1, _, z2⟩ := p3.pos
    rw [z1, Zu, ← List.head?_drop, z2, Q3]
    rfl
   have hg : gw wi t.way (bt t) (lvA es') v7 = bif !(hasL (bt t)) && Yh wi (lvs 1 t.kids ++ lvA es') v7 then 1 else 0 := by unfold gw; rw [Zh cw, Bool.false_or, e2]
   rw [Zh cw, cond_false, hy]
   simp only [bsm]
   cases hh : hasL (bt t) with
   | true =>
    obtain ⟨g', len', row', k1, k2⟩ := q37 (w := 0) (d := t.depth) v1 p3 hS hd0 p5.le hn3
    rw [hh] at hg
    rw [cond_true, k1]
    exact ⟨_, rfl, fun s' h => (by cases h; exact thru hg k2), fun e h => (by cases h)⟩
   | false =>
    obtain ⟨e, he, hf⟩ := q36x wi v7 p3 hS p5 (by omega) (by omega)
    rw [hh, ← hf] at hg
    rw [cond_false, he]
    simp only [bsm]
    cases e with
    | k0 x0 =>
     have hg : gw wi t.way (bt t) (lvA es') v7 = bif x0 then 1 else 0 := hg
     cases x0 with
     | true =>
      obtain ⟨g', len', row', k1, k2⟩ := Ey (w := 1) (d := t.depth) v1 p3 hS hd0 p5.le hn3
      simp only [cond_true, k1, bsm]
      exact ⟨_, rfl, fun s' h => (by cases h; exact thru hg k2), fun e h => (by cases h)⟩
     | false =>
      obtain ⟨g', len', row', k1, k2⟩ := Ey (w := 0) (d := t.depth) v1 p3 hS hd0 p5.le hn3
      simp only [cond_false, k1, bsm]
      exact ⟨_, rfl, fun s' h => (by cases h; exact thru hg k2), fun e h => (by cases h)⟩
    | k1 x0 =>
     have hg : gw wi t.way (bt t) (lvA es') v7 = bif x0 then 1 else 0 := hg
     cases x0 with
     | true =>
      obtain ⟨g', len', row', k1, k2⟩ := Ez (w := 1) (d := t.depth) v1 p3 hS hd0 p5.le hn3
      simp only [cond_true, k1, bsm]
      exact ⟨_, rfl, fun s' h => (by cases h; exact thru hg k2), fun e h => (by cases h)⟩
     | false =>
      obtain ⟨g', len', row', k1, k2⟩ := Ez (w := 0) (d := t.depth) v1 p3 hS hd0 p5.le hn3
      simp only [cond_false, k1, bsm]
      exact ⟨_, rfl, fun s' h => (by cases h; exact thru hg k2), fun e h => (by cases h)⟩
    | k2 x0 =>
     have hg : gw wi t.way (bt t) (lvA es') v7 = bif x0 then 1 else 0 := hg
     cases x0 with
     | true =>
      obtain ⟨g', len', row', k1, k2⟩ := EA (w := 1) (d := t.depth) v1 p3 hS hd0 p5.le hn3
      simp only [cond_true, k1, bsm]
      exact ⟨_, rfl, fun s' h => (by cases h; exact thru hg k2), fun e h => (by cases h)⟩
     | false =>
      obtain ⟨g', len', row', k1, k2⟩ := EA (w := 0) (d := t.depth) v1 p3 hS hd0 p5.le hn3
      simp only [cond_false, k1, bsm]
      exact ⟨_, rfl, fun s' h => (by cases h; exact thru hg k2), fun e h => (by cases h)⟩
    | k3 x0 =>
     have hg : gw wi t.way (bt t) (lvA es') v7 = bif x0 then 1 else 0 := hg
     cases x0 with
     | true =>
      obtain ⟨g', len', row', k1, k2⟩ := EB (w := 1) (d := t.depth) v1 p3 hS hd0 p5.le hn3
      simp only [cond_true, k1, bsm]
      exact ⟨_, rfl, fun s' h => (by cases h; exact thru hg k2), fun e h => (by cases h)⟩
     | false =>
      obtain ⟨g', len', row', k1, k2⟩ := EB (w := 0) (d := t.depth) v1 p3 hS hd0 p5.le hn3
      simp only [cond_false, k1, bsm]
      exact ⟨_, rfl, fun s' h => (by cases h; exact thru hg k2), fun e h => (by cases h)⟩
 have c3 : t.kind = 3 ∨ t.kind = 5 := by omega
 rw [Zh c4, cond_false]
 rw [Zh c1, Zh c2, Zh c4] at hfl
 by_cases c5 : t.kind = 5
 ·obtain ⟨g', len', row', k1, k2⟩ := q37 (w := t.way) (d := t.depth + t.n) v1 p3 hS ⟨by omega, by omega⟩ p5.le hn3
  have hc5 : (t.kind == 5) = true := by rw [c5]; rfl
  rw [hc5] at hfl
  have hfl : fl t.depth t.way (bt t) = fls (t.depth + t.n) t.way t.kids := hfl
  rw [hfl] at h3
  rw [hc5, cond_true, w_id (by omega), k1]
  exact ⟨_, rfl, fun s' h => (by cases h; exact fin v3 v4 v5 v7 v8 v9 o k2 h2 h3 (by omega) h6), fun e h => (by cases h)⟩
 ·obtain ⟨g', len', row', k1, k2⟩ := q37 (w := t.way) (d := t.depth) v1 p3 hS hd0 p5.le hn3
  rw [Zh c5] at hfl
  have hfl : fl t.depth t.way (bt t) = fls t.depth t.way t.kids := hfl
  rw [hfl] at h3
  rw [Zh c5, cond_false, k1]
  exact ⟨_, rfl, fun s' h => (by cases h; exact fin v3 v4 v5 v7 v8 v9 o k2 h2 h3 (by omega) h6), fun e h => (by cases h)⟩
theorem q38x {row : Iqq} {n : Nat} {o : Uqq} (h : Buf row n o) (hb : n ≤ 4000000) : F38 n row = some (.k0 ⟨o.toArray⟩) ∨ (o = [] ∧ F38 n row = some (.k1 ByteArray.empty)) := by
 unfold F38
 by_cases c : 0 < n
 ·rw [decide_eq_true c, cond_true, show usOk n row.length = true from decide_eq_true ⟨h.le, by omega⟩, h.is, HV]
  exact .inl rfl
 ·rw [decide_eq_false c]
  exact .inr ⟨enz (by rw [h.len]; omega), rfl⟩
noncomputable def laid (b : BoxD) (wi w : Int) : Uqq := R wi (fl 0 w b) [] 0 false
theorem q17x (N : Nat) (b : BoxD) (wi w : Int) (h : cnt b ≤ N) (hn : cnt b ≤ 4000) (hc : wt b ≤ 24000) (ho : Ok b) : F17 N b wi w = some ⟨(laid b wi w).toArray⟩ ∧ (laid b wi w).length ≤ 4000000 := by
 have hcw := Q4 _ b (Nat.le_refl _)
 have hT : TOk (szs b) (lns b) ⟨b.kind, b.text, b.n, b.kids, 0, w, 0⟩ := by
  refine ⟨by rw [Tn]; exact ho, ⟨0, [], [], rfl, by rw [Tn]; simp, by rw [Tn]; simp⟩, ?_, by rw [Tn]; exact hc⟩
  rw [Tn]
  show (0 : Int) ≤ 0 ∧ 0 + 100 * (cnt b : Int) ≤ 2400000
  omega
 have hi : J27 (szs b) (lns b) wi (laid b wi w) (cnt b) (0, [(⟨b.kind, b.text, b.n, b.kids, 0, w, 0⟩ : ThingD)], false, 0, 0, 1, 0, false, []) := by
  refine ⟨[(b, 0, w)], [], ⟨Nat.le_refl _, fun t ht => ?_, by simp [en, Tn]⟩, ⟨Nat.le_refl _, rfl⟩, by simp [laid, flS, flE], by simp [msA], ⟨by omega, by dsimp only; omega⟩, by dsimp only; omega, by dsimp only; omega⟩
  simp only [List.take_succ_cons, List.take_zero, List.mem_singleton] at ht
  subst ht
  exact hT
 have hlen := P4 b
 obtain ⟨e, k1, k2⟩ := NU (fun k s => s27x (show (szs b).length ≤ 24000 by omega) k s) _ _ _ (Nat.le_refl _) hi
 unfold F17 F27
 rw [q18 N b h (by omega), q26 N b h (by omega)]
 simp only [bsm]
 rw [k1]
 cases e with
 | k0 x0 x1 x2 x3 x4 x5 x6 x7 x8 =>
 obtain ⟨m1, m3⟩ := k2
 have hz := m1.len
 simp only [bsm]
 refine ⟨?_, by omega⟩
 rcases q38x m1 m3 with h1 | ⟨h0, h1⟩
 ·rw [h1]; rfl
 ·rw [h1, h0]; rfl
theorem P6 {N : Nat} {b : BoxD} (h : cnt b ≤ N) (hc : cnt b ≤ 4000000) : F25 N b = some (ok25 N b) ∧ (ok25 N b = true → Ok b) := by
 obtain ⟨v, h1, h2⟩ := q25 N b h hc
 unfold ok25
 rw [h1]
 exact ⟨rfl, h2⟩
abbrev bE : ByteArray := ⟨([] : List UInt8).toArray⟩
theorem q16x (N : Nat) (b : BoxD) (h : cnt b ≤ N) (hc : cnt b ≤ 4000) : F16 N b = some (bif ok25 N b then 0 else 260) := by
 obtain ⟨d, h3, h4, h5⟩ := q21 N b h hc
 unfold F16
 rw [(P6 h (by omega)).1]
 cases ok25 N b with
 | false => rfl
 | true =>
  simp only [bsm, cond_true]
  rw [h3]
  simp only [bsm, decide_eq_false (show ¬ (cnt b : Int) > 65536 by omega), decide_eq_false (show ¬ d > 16384 by omega), cond_false]
theorem q7x (N : Nat) (b : BoxD) (m : Int) (h : cnt b ≤ N) (hn : cnt b ≤ 4000) (hc : wt b ≤ 24000) :
  F7 N b m = some (bif ok25 N b then (bif decide (m < 1) then .k0 bE 2 else bif decide (((laid b m 0).length : Int) > 1048576) then .k0 bE 3 else .k0 ⟨(laid b m 0).toArray⟩ 0) else .k0 bE 260) := by
 have hcw := Q4 _ b (Nat.le_refl _)
 have h16 := q16x N b h (by omega)
 unfold F7
 rw [h16]
 cases hv : ok25 N b with
 | false => rfl
 | true =>
  simp only [cond_true, bsm, show ((0 : Int) != 0) = false from rfl, cond_false]
  have ho := (P6 h (by omega)).2 hv
  rw [(q17x N b m 0 h hn hc ho).1]
  simp only [bsm]
  have hz : (⟨(laid b m 0).toArray⟩ : ByteArray).size = (laid b m 0).length := List.size_toArray ..
  rw [hz]
  cases decide (m < 1) with
  | true => rfl
  | false =>
   simp only [cond_false]
   cases decide (((laid b m 0).length : Int) > 1048576) <;> rfl
theorem q8x (N : Nat) (b : BoxD) (h : cnt b ≤ N) (hn : cnt b ≤ 4000) (hc : wt b ≤ 24000) :
  F8 N b = some (bif ok25 N b then (bif hasL b then .k0 bE false else .k0 ⟨(laid b 1 1).toArray⟩ true) else .k0 bE false) := by
 have hcw := Q4 _ b (Nat.le_refl _)
 have h16 := q16x N b h (by omega)
 have hg : getI (lns b) 0 = some (hasL b) := by rw [Q3]; rfl
 unfold F8
 rw [h16]
 cases hv : ok25 N b with
 | false => rfl
 | true =>
  have ho := (P6 h (by omega)).2 hv
  simp only [cond_true, bsm, show ((0 : Int) != 0) = false from rfl, cond_false, q18 N b h (by omega), hg, (q17x N b 1 1 h hn hc ho).1]
  cases hasL b <;> rfl
inductive Ln (B : Nat) : Uqq → Prop
 | one {x : Uqq} (h : (10 : UInt8) ∉ x) (hl : x.length ≤ B) : Ln B x
 | cons {x r : Uqq} (h : (10 : UInt8) ∉ x) (hl : x.length ≤ B) (hr : Ln B r) : Ln B (x ++ 10 :: r)
theorem Ln.any (B : Nat) : ∀ (n : Nat) (l : Uqq), l.length ≤ n → l.length ≤ B → Ln B l
 | 0, l, h, hb => by
  obtain rfl : l = [] := enz (by omega)
  exact .one (by simp) hb
 | n + 1, l, h, hb => by
  rcases Uq 10 l with ⟨_, h2⟩ | ⟨p, r, h1, h2, _⟩
  ·exact .one h2 hb
  ·subst h1
   simp only [lap, lcn] at h hb
   exact .cons h2 (by omega) (Ln.any B n r (by omega) (by omega))
theorem q39 (s : ByteArray) : (JI s = some (-1) ∧ (10 : UInt8) ∉ s.data.toList) ∨ ∃ p r, s.data.toList = p ++ 10 :: r ∧ (10 : UInt8) ∉ p ∧ JI s = some (p.length : Int) := by
 unfold JI JF
 by_cases he : (⟨([10] : List UInt8).toArray⟩ : ByteArray) = s
 ·subst he
  refine .inr ⟨[], [], rfl, by simp, ?_⟩
  rw [Z0, decide_eq_true rfl]
  rfl
 ·rw [Z0, decide_eq_false he]
  have g0 : getI (⟨([10] : List UInt8).toArray⟩ : ByteArray).data.toList 0 = some (10 : UInt8) := rfl
  have e1 : (Int.toNat (((10 : UInt8).toNat : Nat) : Int)).toUInt8 = 10 := by decide
  simp only [cond_false, g0, bsm, HE, e1, Go.Lib.firstIdx_eq]
  rcases Uq 10 s.data.toList with ⟨h1, h2⟩ | ⟨p, r, h1, h2, h3⟩
  ·exact .inl ⟨by rw [h1], h2⟩
  ·exact .inr ⟨p, r, h1, h2, by rw [h3]⟩
theorem BS : ∀ {p x r t : Uqq}, p ++ 10 :: r = x ++ 10 :: t → (10 : UInt8) ∉ p → (10 : UInt8) ∉ x → p = x ∧ r = t
 | [], [], r, t, h, _, _ => by simpa using h
 | [], y :: x, r, t, h, _, h2 => by
  simp only [List.nil_append, List.cons_append, List.cons.injEq] at h
  exact absurd (by rw [h.1]; simp) h2
 | y :: p, [], r, t, h, h1, _ => by
  simp only [List.nil_append, List.cons_append, List.cons.injEq] at h
  exact absurd (by rw [h.1]; simp) h1
 | y :: p, z :: x, r, t, h, h1, h2 => by
  simp only [List.cons_append, List.cons.injEq] at h
  obtain ⟨q1, q2⟩ := BS h.2 (fun k => h1 (by simp [k])) (fun k => h2 (by simp [k]))
  exact ⟨by rw [h.1, q1], q2⟩
theorem l157 {B : Nat} {l : Uqq} (h : Ln B l) : ∀ (s : ByteArray) (v : Int), s.data.toList = l → s.size ≤ 8000000 → v ≤ (B : Int) →
  ∃ x t, runL (fun s => Ul s.1 s.2) (v, s) = some (.k0 x t) ∧ (if x < (t.size : Int) then (t.size : Int) else x) ≤ (B : Int) := by
 induction h with
 | @one x h hl =>
  intro s v e hs hv
  rcases q39 s with ⟨h1, h2⟩ | ⟨p, r, h1, h2, h3⟩
  ·refine ⟨v, s, Zq ?_, ?_⟩
   ·simp only [Ul, h1, bsm]
    rfl
   ·have := YM s
    rw [e] at this
    split <;> omega
  ·rw [e] at h1
   exact absurd (by rw [h1]; simp) h
 | @cons x r h hl hr ih =>
  intro s v e hs hv
  rcases q39 s with ⟨h1, h2⟩ | ⟨p, t, h1, h2, h3⟩
  ·rw [e] at h2
   exact absurd (by simp) h2
  ·rw [e] at h1
   obtain ⟨rfl, rfl⟩ := BS h1.symm h2 h
   have hz := YM s
   rw [e, lap, lcn] at hz
   have w0 : IntKind.wrap .i64 ((p.length : Int) + 0) = (p.length : Int) := by rw [w_id (by omega)]; omega
   have hp : (s.extract 0 p.length).size = p.length := by
    rw [← YM, Ld, e]; simp
   have ht : (s.extract (p.length + 1) s.size).data.toList = t := by
    rw [Ld, e, List.take_of_length_le (by rw [lap, lcn]; omega)]
    simp [List.drop_append]
   have hts : (s.extract (p.length + 1) s.size).size = t.length := by rw [← YM, ht]
   obtain ⟨x, y, k1, k2⟩ := ih (s.extract (p.length + 1) s.size) (if v < (p.length : Int) then (p.length : Int) else v) ht (by omega) (by split <;> omega)
   refine ⟨x, y, ?_, k2⟩
   rw [← k1]
   refine ZL (step := fun s : Int × ByteArray => Ul s.1 s.2) ?_
   simp only [Ul, h3, bsm, decide_eq_false (show ¬ (p.length : Int) < 0 by omega), cond_false, w0,
    show PF 0 (p.length : Int) s.size = true from decide_eq_true ⟨by omega, by omega, by omega⟩, cond_true, TJ, w_S (show p.length < 4611686018427387904 by omega),
    show PF ((p.length + 1 : Nat) : Int) (s.size : Int) s.size = true from decide_eq_true ⟨by omega, by omega, by omega⟩, Int.toNat_natCast, Int.toNat_zero, hp]
theorem q110 {B : Nat} {s : ByteArray} (h : Ln B s.data.toList) (hs : s.size ≤ 8000000) : ∃ x, F110 s = some x ∧ x ≤ (B : Int) := by
 obtain ⟨x, t, h1, h2⟩ := l157 h s 0 rfl hs (by omega)
 refine ⟨_, ?_, h2⟩
 simp only [F110, F126, F142, F157, bsm, h1, TK]
def lw : List LF → Nat
 | [] => 0
 | .tx s :: l => s.size + lw l
 | .br n _ :: l => n.toNat + lw l
 | .ln :: l => lw l
def flt : List LF → Uqq
 | [] => []
 | .tx s :: l => s.data.toList ++ flt l
 | .br n _ :: l => List.replicate n.toNat 32 ++ flt l
 | .ln :: l => flt l
theorem P7 : ∀ l, (flt l).length = lw l
 | [] => rfl
 | .tx s :: l => by simp only [flt, lw, lap, YM, P7 l]
 | .br n w :: l => by simp only [flt, lw, lap, lrp, P7 l]
 | .ln :: l => P7 l
theorem Q7 : ∀ a b, lw (a ++ b) = lw a + lw b
 | [], b => by simp [lw]
 | .tx s :: l, b => by simp only [List.cons_append, lw, Q7 l b]; omega
 | .br n w :: l, b => by simp only [List.cons_append, lw, Q7 l b]; omega
 | .ln :: l, b => by simp only [List.cons_append, lw, Q7 l b]
theorem RD : ∀ a b, flt (a ++ b) = flt a ++ flt b
 | [], b => by simp [flt]
 | .tx s :: l, b => by simp only [List.cons_append, flt, RD l b, List.append_assoc]
 | .br n w :: l, b => by simp only [List.cons_append, flt, RD l b, List.append_assoc]
 | .ln :: l, b => by simp only [List.cons_append, flt, RD l b]
def flOk : LF → Prop
 | .tx s => YL s = false ∧ s.size ≤ 4000000
 | .br n w => w = 1 ∧ 0 ≤ n
 | .ln => False
theorem RE {wd : Int} : ∀ (l : List LF) (c : Int), (∀ x ∈ l, flOk x) → Yh wd l c = decide (c + (lw l : Int) ≤ wd)
 | [], c, _ => by simp [Yh, lw]
 | .tx s :: l, c, h => by
  obtain ⟨h1, h2⟩ : YL s = false ∧ s.size ≤ 4000000 := h (.tx s) (by simp)
  obtain ⟨a, b, _, _, _, k4⟩ := FB s (by omega)
  obtain ⟨k5, k6⟩ := k4 h1
  simp only [Yh, lw, k5, k6, cond_false, RE l _ (fun x hx => h x (by simp [hx]))]
  by_cases c1 : c ≤ wd
  ·rw [decide_eq_true c1, Bool.true_and]
   exact decide_eq_decide.2 (by omega)
  ·rw [decide_eq_false c1, Bool.false_and]
   exact (decide_eq_false (by omega)).symm
 | .br n w :: l, c, h => by
  obtain ⟨h1, h2⟩ : w = 1 ∧ 0 ≤ n := h (.br n w) (by simp)
  subst h1
  simp only [Yh, lw, show ((1 : Int) == 0) = false from rfl, cond_false, RE l _ (fun x hx => h x (by simp [hx]))]
  by_cases c1 : c ≤ wd
  ·rw [decide_eq_true c1, Bool.true_and]
   exact decide_eq_decide.2 (by omega)
  ·rw [decide_eq_false c1, Bool.false_and]
   exact (decide_eq_false (by omega)).symm
 | .ln :: l, c, h => (h .ln (by simp)).elim
theorem WB {x : BoxD} : ∀ {l : Bqq}, Tm l = false → x ∈ l → hasL x = false
 | [], _, h => by simp at h
 | y :: l, h, hx => by
  simp only [Tm, Bool.or_eq_false_iff] at h
  rcases List.mem_cons.1 hx with rfl | hx
  ·exact h.1
  ·exact WB h.2 hx
theorem RF {b : BoxD} : ∀ {l : Bqq}, b ∈ l → wt b ≤ wts l
 | [], h => by simp at h
 | u :: l, h => by
  simp only [wts]
  rcases List.mem_cons.1 h with rfl | h
  ·omega
  ·have := RF h; omega
theorem H1 : ∀ (N : Nat) (b : BoxD), cnt b ≤ N → Ok b → hasL b = false → wt b ≤ 4000000 → (∀ x ∈ lv 1 b, flOk x) ∧ lw (lv 1 b) ≤ 101 * wt b
 | 0, b, h, _, _, _ => by have := ZN b; omega
 | N + 1, b, h, ho, hl, hw => by
  have hwb := NR b
  rw [U9] at hl
  simp only [Bool.or_eq_false_iff] at hl
  obtain ⟨⟨l1, l2⟩, l3⟩ := hl
  have key : ∀ l : Bqq, (∀ x ∈ l, cnt x ≤ N ∧ Ok x ∧ hasL x = false ∧ wt x ≤ 4000000) → (∀ x ∈ lvs 1 l, flOk x) ∧ lw (lvs 1 l) ≤ 101 * wts l := by
   intro l
   induction l with
   | nil => intro _; exact ⟨by simp [lvs], by simp [lvs, lw]⟩
   | cons x l ih =>
    intro hl
    obtain ⟨q1, q2, q3, q4⟩ := hl x (by simp)
    obtain ⟨h1, h2⟩ := H1 N x q1 q2 q3 q4
    obtain ⟨h3, h4⟩ := ih (fun y hy => hl y (by simp [hy]))
    simp only [lvs, wts, Q7]
    refine ⟨fun y hy => ?_, by omega⟩
    rcases List.mem_append.1 hy with hy | hy
    ·exact h1 y hy
    ·exact h3 y hy
  have hk : ∀ x ∈ b.kids, cnt x ≤ N ∧ Ok x ∧ hasL x = false ∧ wt x ≤ 4000000 := fun x hx =>
   ⟨by have := YA hx; have := Z6 b; omega, ho.kid hx, WB l3 hx, by have := RF hx; omega⟩
  obtain ⟨k1, k2⟩ := key b.kids hk
  have e2 := Lc 1 b
  have hn := ho.nn
  by_cases k0 : b.kind = 0
  ·rw [show (b.kind == 0) = true by rw [k0]; rfl, cond_true] at e2
   rw [e2]
   cases b.text.size == 0 with
   | true => exact ⟨by simp, by simp [lw]⟩
   | false => exact ⟨by simp only [cond_false, List.mem_singleton]; rintro x rfl; exact ⟨l2, by omega⟩, by simp only [cond_false, lw]; omega⟩
  rw [Zh k0, cond_false] at e2
  by_cases c1 : b.kind = 1
  ·rw [show (b.kind == 1) = true by rw [c1]; rfl, cond_true] at e2
   rw [e2]
   exact ⟨by simp only [List.mem_singleton]; rintro x rfl; exact ⟨rfl, hn.1⟩, by simp only [lw]; omega⟩
  rw [Zh c1, cond_false, l1, cond_false] at e2
  have e3 : lv 1 b = lvs 1 b.kids := by
   rw [e2]; cases b.kind == 4 <;> rfl
  rw [e3]
  exact ⟨k1, by omega⟩
def flA (x : At) : Prop := Ok x.1 ∧ hasL x.1 = false ∧ x.2.2 = 1 ∧ (x.1.kind = 0 ∨ x.1.kind = 1 ∨ x.1.kind = 4) ∧ wt x.1 ≤ 4000000
theorem EE : ∀ (N : Nat) (b : BoxD) (d : Int), cnt b ≤ N → Ok b → hasL b = false → wt b ≤ 4000000 → ∀ x ∈ fl d 1 b, flA x
 | 0, b, _, h, _, _, _ => by have := ZN b; omega
 | N + 1, b, d, h, ho, hl, hw => by
  have hwb := NR b
  have hl0 := hl
  rw [U9] at hl
  simp only [Bool.or_eq_false_iff] at hl
  obtain ⟨⟨l1, l2⟩, l3⟩ := hl
  have key : ∀ (l : Bqq) (d : Int), (∀ x ∈ l, cnt x ≤ N ∧ Ok x ∧ hasL x = false ∧ wt x ≤ 4000000) → ∀ x ∈ fls d 1 l, flA x := by
   intro l d
   induction l with
   | nil => intro _; simp [fls]
   | cons x l ih =>
    intro hl y hy
    obtain ⟨q1, q2, q3, q4⟩ := hl x (by simp)
    simp only [fls] at hy
    rcases List.mem_append.1 hy with hy | hy
    ·exact EE N x d q1 q2 q3 q4 y hy
    ·exact ih (fun y hy => hl y (by simp [hy])) y hy
  have hk : ∀ x ∈ b.kids, cnt x ≤ N ∧ Ok x ∧ hasL x = false ∧ wt x ≤ 4000000 := fun x hx =>
   ⟨by have := YA hx; have := Z6 b; omega, ho.kid hx, WB l3 hx, by have := RF hx; omega⟩
  have e1 := HY d 1 b
  by_cases k0 : b.kind = 0
  ·rw [show (b.kind == 0) = true by rw [k0]; rfl, cond_true] at e1
   rw [e1]
   cases b.text.size == 0 with
   | true => simp
   | false => simp only [cond_false, List.mem_singleton]; rintro x rfl; exact ⟨ho, hl0, rfl, .inl k0, hw⟩
  rw [Zh k0, cond_false] at e1
  by_cases k1 : b.kind = 1
  ·rw [show (b.kind == 1) = true by rw [k1]; rfl] at e1
   rw [e1]
   simp only [Bool.true_or, cond_true, List.mem_singleton]; rintro x rfl; exact ⟨ho, hl0, rfl, .inr (.inl k1), hw⟩
  by_cases k4 : b.kind = 4
  ·rw [show (b.kind == 4) = true by rw [k4]; rfl, Bool.or_true] at e1
   rw [e1]
   simp only [cond_true, List.mem_singleton]; rintro x rfl; exact ⟨ho, hl0, rfl, .inr (.inr k4), hw⟩
  rw [Zh k1, l1, Zh k4] at e1
  rw [e1]
  cases b.kind == 5 with
  | true => exact key b.kids (d + b.n) hk
  | false => exact key b.kids d hk
theorem H3 (l : Bqq) (d : Int) (h : ∀ x ∈ l, Ok x ∧ hasL x = false ∧ wt x ≤ 4000000) : ∀ x ∈ fls d 1 l, flA x := by
 induction l with
 | nil => simp [fls]
 | cons y l ih =>
  intro x hx
  simp only [fls] at hx
  obtain ⟨q1, q2, q3⟩ := h y (by simp)
  rcases List.mem_append.1 hx with hx | hx
  ·exact EE _ y d (Nat.le_refl _) q1 q2 q3 x hx
  ·exact ih (fun z hz => h z (by simp [hz])) x hx
theorem FD {s : ByteArray} {d : Int} {o : Uqq} : txo s d o false = o ++ s.data.toList := by
 unfold txo
 cases hs : s.size == 0 with
 | true => rw [CI (by simpa using hs)]; simp
 | false => simp
theorem FE {s : ByteArray} (fr : Bool) (h : YL s = false) (hs : s.size ≤ 4000000) : txf s fr = (s.size == 0 && fr) := by
 unfold txf
 rw [FA (by omega) h]
 cases hz : s.size == 0 with
 | true => rfl
 | false =>
  have : ¬ s.size = 0 := by simpa using hz
  simp only [cond_false, Bool.false_and]
  simpa using (by omega : ¬ (-1 : Int) = (s.size : Int) - 1)
theorem CO {b : BoxD} {w : Int} (k0 : b.kind = 0) : flt (lv w b) = b.text.data.toList ∧ lw (lv w b) = b.text.size := by
 have e2 := Lc w b
 rw [show (b.kind == 0) = true by rw [k0]; rfl, cond_true] at e2
 rw [e2]
 cases hs : b.text.size == 0 with
 | true =>
  have h0 : b.text.size = 0 := by simpa using hs
  exact ⟨by rw [CI h0]; rfl, h0.symm⟩
 | false => exact ⟨by simp [flt], by simp [lw]⟩
theorem KI (wd : Int) : ∀ (N : Nat) (l : List At) (o : Uqq) (col : Int), msA l ≤ N → (∀ x ∈ l, flA x) → o.length + lw (lvA l) ≤ 1048576 → R wd l o col false = o ++ flt (lvA l)
 | N, [], o, col, _, _, _ => by rw [Fy]; simp [lvA, flt]
 | 0, x :: l, o, col, h, _, _ => by simp only [msA] at h; have := ZN x.1; omega
 | N + 1, (b, d, w) :: l, o, col, h, ha, hb => by
  obtain ⟨h1, h2, h3, h4, h5⟩ := ha (b, d, w) (by simp)
  dsimp only at h1 h2 h3 h4 h5
  subst h3
  have hl : ∀ x ∈ l, flA x := fun x hx => ha x (by simp [hx])
  have ec : lvA ((b, d, 1) :: l) = lv 1 b ++ lvA l := rfl
  rw [ec, Q7] at hb
  rw [ec, RD]
  simp only [msA] at h
  have hcp := ZN b
  have hbig : ¬ 1048576 < o.length := by omega
  have hh := h2
  rw [U9] at hh
  simp only [Bool.or_eq_false_iff] at hh
  have hwb := NR b
  rcases h4 with k | k | k
  ·obtain ⟨e1, e2⟩ := CO (w := 1) k
   rw [R_tx hbig k, FD, FE false hh.1.2 (by omega), Bool.and_false, KI wd N l _ _ (by omega) hl (by rw [lap, YM]; omega), e1, List.append_assoc]
  ·have e2 := Lc 1 b
   rw [k] at e2
   have e2 : lv 1 b = [.br b.n 1] := e2
   rw [e2] at hb ⊢
   simp only [lw] at hb
   rw [BO hbig k (by decide), KI wd N l _ _ (by omega) hl (by rw [lap, lrp]; omega)]
   simp only [flt, List.append_nil, List.append_assoc]
  ·have e2 := Lc 1 b
   rw [k] at e2
   have e2 : lv 1 b = lvs 1 b.kids := e2
   obtain ⟨m1, m2⟩ := NV b.kids d 1
   have hcb := Z6 b
   have hg : gw wd 1 b (lvA l) col = 1 := rfl
   have hm : lvA (fls d 1 b.kids ++ l) = lv 1 b ++ lvA l := by rw [Ta, m2, e2]
   rw [R_gr hbig k, hg, KI wd N _ o col (by rw [Yt]; omega) (fun x hx => ?_) (by rw [hm, Q7]; omega), hm, RD]
   rcases List.mem_append.1 hx with hx | hx
   ·exact H3 b.kids d (fun y hy => ⟨h1.kid hy, WB hh.2 hy, by have := RF hy; omega⟩) x hx
   ·exact hl x hx
theorem JS (wd : Int) : ∀ (N : Nat) (l : List At) (o : Uqq) (col : Int) (fr : Bool), msA l ≤ N → ((10 : UInt8) ∈ o ∨ ∃ x ∈ l, x.1.kind = 1 ∧ x.2.2 = 0) → (R wd l o col fr).length ≤ 1048576 → (10 : UInt8) ∈ R wd l o col fr
 | N, [], o, col, fr, _, ho, hb => by
  rw [Fy] at hb ⊢
  rcases ho with h | ⟨x, hx, _⟩
  ·exact h
  ·simp at hx
 | 0, x :: l, o, col, fr, h, _, _ => by simp only [msA] at h; have := ZN x.1; omega
 | N + 1, (b, d, w) :: l, o, col, fr, h, ho, hb => by
  simp only [msA] at h
  have hcp := ZN b
  by_cases hbig : 1048576 < o.length
  ·rw [BN hbig] at hb
   omega
  have ho : (10 : UInt8) ∈ o ∨ (b.kind = 1 ∧ w = 0) ∨ ∃ x ∈ l, x.1.kind = 1 ∧ x.2.2 = 0 := by
   rcases ho with ho | ⟨x, hx, h1, h2⟩
   ·exact .inl ho
   ·rcases List.mem_cons.1 hx with rfl | hx
    ·exact .inr (.inl ⟨h1, h2⟩)
    ·exact .inr (.inr ⟨x, hx, h1, h2⟩)
  rw [R] at hb ⊢
  rw [if_neg hbig] at hb ⊢
  dsimp only at hb ⊢
  by_cases k0 : b.kind = 0
  ·rw [if_pos k0] at hb ⊢
   refine JS wd N l _ _ _ (by omega) ?_ hb
   rcases ho with ho | ⟨h1, _⟩ | ho
   ·left
    unfold txo
    cases b.text.size == 0 <;> simp [ho]
   ·omega
   ·exact .inr ho
  rw [if_neg k0] at hb ⊢
  by_cases k1 : b.kind = 1
  ·rw [if_pos k1] at hb ⊢
   by_cases w0 : w = 0
   ·rw [if_pos w0] at hb ⊢
    exact JS wd N l _ _ _ (by omega) (.inl (by simp)) hb
   ·rw [if_neg w0] at hb ⊢
    refine JS wd N l _ _ _ (by omega) ?_ hb
    rcases ho with ho | ⟨_, h2⟩ | ho
    ·exact .inl (by simp [ho])
    ·exact absurd h2 w0
    ·exact .inr ho
  rw [if_neg k1] at hb ⊢
  have ho : (10 : UInt8) ∈ o ∨ ∃ x ∈ l, x.1.kind = 1 ∧ x.2.2 = 0 := by
   rcases ho with ho | ⟨h1, _⟩ | ho
   ·exact .inl ho
   ·exact absurd h1 k1
   ·exact .inr ho
  by_cases k2 : b.kind = 2
  ·rw [if_pos k2] at hb ⊢
   exact JS wd N l _ _ _ (by omega) (.inl (by simp)) hb
  rw [if_neg k2] at hb ⊢
  have hm := (NV b.kids d (gw wd w b (lvA l) col)).1
  have hcb := Z6 b
  refine JS wd N _ o col fr (by rw [Yt]; omega) ?_ hb
  rcases ho with ho | ⟨x, hx, h1⟩
  ·exact .inl ho
  ·exact .inr ⟨x, by simp [hx], h1⟩
abbrev grp (l : Bqq) : BoxD := .mk 4 bE 0 l
theorem BT (l : Bqq) : cnt (grp l) = 1 + cnts l ∧ wt (grp l) = 1 + wts l := by
 refine ⟨Z6 _, ?_⟩
 rw [NR]
 rfl
theorem BU (l : Bqq) (hl : l.length ≤ 4000000) : runL (fun s => Um l s.1 s.2) (false, 0) = some (.k0 (l.any fun x => x.kind == 1)) := by
 have h := OM (l := l) (step := fun s : Bool × Int => Um l s.1 s.2) (emb := fun i a => (a, (i : Int))) (fun a => E_L105_1.k0 a) (fun i a => a = (l.take i).any fun x => x.kind == 1)
  (fun i x a hx ha => by
   have hi := (gei.1 hx).1
   have ht : l.take (i + 1) = l.take i ++ [x] := by rw [List.take_add_one, hx]; rfl
   refine ⟨a || x.kind == 1, ?_, by rw [ht, List.any_append, ← ha]; simp⟩
   simp only [Um, decide_eq_true (show (i : Int) < (l.length : Int) by omega), cond_true, Zu, hx, bsm, w_S (show i < 4611686018427387904 by omega)]
   cases a <;> cases x.kind == 1 <;> rfl)
  (fun a ha => by simp only [Um, decide_eq_false (show ¬ (l.length : Int) < (l.length : Int) by omega), cond_false]) (a := false) (by simp)
 obtain ⟨b, h1, h2⟩ := h
 rw [List.take_length] at h2
 rw [← h2]
 exact h1
theorem BV (s : ByteArray) (hs : s.size ≤ 4000000) : runL (fun t => Un s t.1 t.2) (0, 0) = some (.k0 ((s.data.toList.count 10 : Nat) : Int)) := by
 have h := OM (l := s.data.toList) (step := fun t : Int × Int => Un s t.1 t.2) (emb := fun i a => (a, (i : Int))) (fun a => E_L105_0.k0 a) (fun i a => a = (((s.data.toList.take i).count 10 : Nat) : Int))
  (fun i x a hx ha => by
   have hi := (gei.1 hx).1
   have hz := YM s
   have ht : s.data.toList.take (i + 1) = s.data.toList.take i ++ [x] := by rw [List.take_add_one, hx]; rfl
   have hc : (s.data.toList.take i).count 10 ≤ i := Nat.le_trans List.count_le_length (by rw [List.length_take]; omega)
   have e10 : ((x.toNat : Int) == 10) = (x == 10) := by
    have := is10 x
    have h2 : (some x != some (10 : UInt8)) = !(x == 10) := by
     cases hx : x == 10 with
     | true => rw [beq_iff_eq.1 hx]; rfl
     | false => simp [bne, hx]
    rw [h2] at this
    simpa [bne] using this
   refine ⟨a + (bif x == 10 then 1 else 0), ?_, ?_⟩
   ·simp only [Un, decide_eq_true (show (i : Int) < (s.size : Int) by omega), cond_true, Zu, hx, bsm, w_S (show i < 4611686018427387904 by omega), e10, ha]
    cases x == 10 with
    | true => simp only [cond_true]; rw [w_id (by omega)]
    | false => simp
   ·rw [ht, List.count_append, ha, List.count_singleton]
    cases x == 10 <;> simp)
  (fun a ha => by
   have hz := YM s
   simp only [Un, decide_eq_false (show ¬ (s.data.toList.length : Int) < (s.size : Int) by omega), cond_false]) (a := 0) (by simp)
 obtain ⟨b, h1, h2⟩ := h
 rw [List.take_length] at h2
 rw [← h2]
 exact h1
theorem FF (l : Bqq) (wi : Int) (ho : Ok (grp l)) (hl : hasL (grp l) = false) (hw : wt (grp l) ≤ 4000) :
  (laid (grp l) 1 1) = flt (lvs 1 l) ∧ ((lw (lvs 1 l) : Int) ≤ wi → laid (grp l) wi 0 = flt (lvs 1 l)) ∧ (wi < (lw (lvs 1 l) : Int) → (∃ x ∈ l, x.kind = 1) → (laid (grp l) wi 0).length ≤ 1048576 → (10 : UInt8) ∈ laid (grp l) wi 0) := by
 obtain ⟨v1, v2⟩ := H1 _ (grp l) (Nat.le_refl _) ho hl (by omega)
 have e1 : lv 1 (grp l) = lvs 1 l := by rw [Lc]; rfl
 rw [e1] at v1 v2
 have hcw := Q4 _ (grp l) (Nat.le_refl _)
 have hh := hl
 rw [U9] at hh
 simp only [Bool.or_eq_false_iff] at hh
 obtain ⟨m1, m2⟩ := BT l
 have fA : ∀ x ∈ fls 0 1 l, flA x := H3 l 0 (fun y hy => ⟨ho.kid hy, WB hh.2 hy, by have := RF hy; omega⟩)
 obtain ⟨s1, s2⟩ := NV l 0 1
 have out : ∀ wd : Int, R wd (fls 0 1 l) [] 0 false = flt (lvs 1 l) := fun wd => by
  rw [KI wd _ _ [] 0 (Nat.le_refl _) fA (by rw [s2]; simp; omega), s2]
  rfl
 have k4 : (grp l).kind = 4 := rfl
 have big : ¬ 1048576 < ([] : Uqq).length := by simp
 have ef : ∀ w : Int, fl 0 w (grp l) = [(grp l, 0, w)] := fun w => by rw [HY]; rfl
 have go : ∀ wd w : Int, laid (grp l) wd w = R wd (fls 0 (gw wd w (grp l) [] 0) l) [] 0 false := fun wd w => by
  unfold laid
  rw [ef, R_gr big k4]
  simp only [List.append_nil]
  rfl
 have hg : gw wi 0 (grp l) [] 0 = if (lw (lvs 1 l) : Int) ≤ wi then 1 else 0 := by
  unfold gw
  rw [hl, List.append_nil]
  have e : (grp l).kids = l := rfl
  rw [e, RE _ _ v1]
  by_cases c : (lw (lvs 1 l) : Int) ≤ wi
  ·rw [decide_eq_true (by omega), if_pos c]; rfl
  ·rw [decide_eq_false (by omega), if_neg c]; rfl
 refine ⟨?_, fun c => ?_, fun c hd hb => ?_⟩
 ·rw [go, show gw 1 1 (grp l) [] 0 = 1 from rfl, out]
 ·rw [go, hg, if_pos c, out]
 ·rw [go, hg, if_neg (by omega)] at hb ⊢
  refine JS wi _ _ _ _ _ (Nat.le_refl _) (.inr ?_) hb
  obtain ⟨x, hx, hk⟩ := hd
  refine ⟨(x, 0, 0), ?_, hk, rfl⟩
  clear hb c go out hg ef k4 big s1 s2 fA m1 m2 hh hcw e1 v1 v2 hw hl ho
  induction l with
  | nil => simp at hx
  | cons y l ih =>
   simp only [fls]
   rcases List.mem_cons.1 hx with rfl | hx
   ·rw [HY]
    rw [hk]
    simp
   ·exact List.mem_append_right _ (ih hx)
theorem wid (s : ByteArray) (h : s.size ≤ 8000000) : ∃ x, F110 s = some x ∧ x ≤ (s.size : Int) := q110 (Ln.any _ _ _ (Nat.le_refl _) (by rw [YM]; omega)) h
theorem law5 (l : Bqq) (hB : ∀ x ∈ l, Bd x) (m : Int) : F105 5000 l m = some true := by
 obtain ⟨v, h1, h2⟩ := q5 5000 (grp l) (.mk (by decide) hB) (by omega)
 unfold F105
 rw [h1]
 simp only [bsm]
 cases v with
 | false => rfl
 | true =>
 rw [cond_true]
 by_cases hm : m < 1
 ·rw [decide_eq_true hm]; rfl
 rw [decide_eq_false hm, cond_false]
 have hw := h2 rfl
 obtain ⟨w1, w2⟩ := BT l
 have hcw := Q4 _ (grp l) (Nat.le_refl _)
 have hll := Xx l
 have e1 := q7x 5000 (grp l) m (by omega) (by omega) (by omega)
 have e3 := q8x 5000 (grp l) (by omega) (by omega) (by omega)
 rw [e1, e3, decide_eq_false hm]
 cases hv : ok25 5000 (grp l) with
 | false => rfl
 | true =>
  have ho := (P6 (show cnt (grp l) ≤ 5000 by omega) (by omega)).2 hv
  have hlen : (laid (grp l) m 0).length ≤ 4000000 := (q17x 5000 (grp l) m 0 (by omega) (by omega) (by omega) ho).2
  simp only [cond_true, cond_false]
  by_cases hb : ((laid (grp l) m 0).length : Int) > 1048576
  ·rw [decide_eq_true hb]
   cases hasL (grp l) <;> rfl
  rw [decide_eq_false hb]
  have hz : ∀ q : Uqq, (⟨q.toArray⟩ : ByteArray).size = q.length := fun q => List.size_toArray ..
  cases hh : hasL (grp l) with
  | true =>
   obtain ⟨x, k1, k2⟩ := wid ⟨(laid (grp l) m 0).toArray⟩ (by rw [hz]; omega)
   simp only [cond_true, cond_false, bsm, F9, show ((0 : Int) != 0) = false from rfl, k1, decide_eq_true k2, F6]
  | false =>
   obtain ⟨g1, g2, g3⟩ := FF l m ho hh (by omega)
   simp only [cond_true, cond_false, bsm, F9, show ((0 : Int) != 0) = false from rfl, hz, g1, P7, F6]
   by_cases c : (lw (lvs 1 l) : Int) ≤ m
   ·rw [decide_eq_true c, g2 c, Z0, decide_eq_true rfl]
    rfl
   ·rw [decide_eq_false c, BU l (by omega), BV _ (by rw [hz]; omega)]
    simp only [cond_false, bsm]
    cases hd : l.any fun x => x.kind == 1 with
    | false => rfl
    | true =>
     obtain ⟨x, hx, hk⟩ := List.any_eq_true.1 hd
     have h10 := g3 (by omega) ⟨x, hx, by simpa using hk⟩ (by omega)
     have hc : 0 < (laid (grp l) m 0).count 10 := List.count_pos_iff.2 h10
     rw [decide_eq_true (show (((laid (grp l) m 0).count 10 : Nat) : Int) > 0 by omega)]
     rfl
end Go.Proofs.Tryd
