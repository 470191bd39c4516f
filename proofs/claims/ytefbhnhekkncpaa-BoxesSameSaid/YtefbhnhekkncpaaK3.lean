/- Boxes: how many, how long, what is in them. Plain data alone. -/
import Derived.Test.YtefbhnhekkncpaaH34
import Derived.Test.YtefbhnhekkncpaaVE
open Option renaming bind_some → bsm
open List renaming getElem?_eq_some_iff → gei, eq_nil_of_length_eq_zero → enz, getElem?_eq_getElem → geg, mem_of_getElem? → mog, length_append → lap, length_cons → lcn
namespace Go.Proofs.Try
set_option linter.unusedSimpArgs false
set_option linter.unusedVariables false
open Go Go.Vs
def brl (l : List UInt8) : List UInt8 := l.filter fun c => !(c == 32 || c == 10)
def XY (s : ByteArray) : Bool := decide ((10 : UInt8) ∈ s.data.toList)
mutual
def cnt : BoxD → Nat
 | .mk _ _ _ l => 1 + cnts l
def cnts : List BoxD → Nat
 | [] => 0
 | b :: l => cnt b + cnts l
end
mutual
def wt : BoxD → Nat
 | .mk _ t _ l => 1 + t.size + wts l
def wts : List BoxD → Nat
 | [] => 0
 | b :: l => wt b + wts l
end
mutual
def hasL : BoxD → Bool
 | .mk k t _ l => (k == 2 || XY t) || XZ l
def XZ : List BoxD → Bool
 | [] => false
 | b :: l => hasL b || XZ l
end
mutual
def szs : BoxD → List Int
 | .mk _ _ _ l => ((1 + cnts l : Nat) : Int) :: szss l
def szss : List BoxD → List Int
 | [] => []
 | b :: l => szs b ++ szss l
end
mutual
def lns : BoxD → List Bool
 | .mk k t _ l => ((k == 2 || XY t) || XZ l) :: lnss l
def lnss : List BoxD → List Bool
 | [] => []
 | b :: l => lns b ++ lnss l
end
mutual
def tb : BoxD → List UInt8
 | .mk _ t _ l => brl t.data.toList ++ tbs l
def tbs : List BoxD → List UInt8
 | [] => []
 | b :: l => tb b ++ tbs l
end
mutual
def txs : BoxD → List ByteArray
 | .mk k t _ l => bif k == 0 then [t] else txss l
def txss : List BoxD → List ByteArray
 | [] => []
 | b :: l => txs b ++ txss l
end
theorem Yo : ∀ b : BoxD, cnt b = 1 + cnts b.kids
 | .mk _ _ _ _ => by simp only [cnt, BoxD.kids]
theorem Jr : ∀ b : BoxD, wt b = 1 + b.text.size + wts b.kids
 | .mk _ _ _ _ => by simp only [wt, BoxD.kids, BoxD.text]
theorem MW : ∀ b : BoxD, hasL b = ((b.kind == 2 || XY b.text) || XZ b.kids)
 | .mk _ _ _ _ => by simp only [hasL, BoxD.kids, BoxD.text, BoxD.kind]
theorem NC : ∀ b : BoxD, szs b = (cnt b : Int) :: szss b.kids
 | .mk _ _ _ _ => by simp only [szs, cnt, BoxD.kids]
theorem Kn : ∀ b : BoxD, lns b = hasL b :: lnss b.kids
 | .mk _ _ _ _ => by simp only [lns, hasL, BoxD.kids]
theorem CV : ∀ b : BoxD, tb b = brl b.text.data.toList ++ tbs b.kids
 | .mk _ _ _ _ => by simp only [tb, BoxD.kids, BoxD.text]
theorem ND : ∀ b : BoxD, txs b = bif b.kind == 0 then [b.text] else txss b.kids
 | .mk _ _ _ _ => by simp only [txs, BoxD.kids, BoxD.text, BoxD.kind]
theorem Yv {b : BoxD} : ∀ {l : List BoxD}, b ∈ l → cnt b ≤ cnts l
 | [], h => by simp at h
 | u :: l, h => by
  simp only [cnts]
  rcases List.mem_cons.1 h with rfl | h
  ·omega
  ·have := Yv h; omega
theorem Yw : ∀ (a b : List BoxD), cnts (a ++ b) = cnts a + cnts b
 | [], b => by simp [cnts]
 | t :: a, b => by simp only [List.cons_append, cnts, Yw a b]; omega
theorem Z9 (b : BoxD) : 1 ≤ cnt b := by rw [Yo]; omega
theorem YH : ∀ (l : List BoxD), l.length ≤ cnts l
 | [] => by simp
 | t :: a => by have := YH a; have := Z9 t; simp only [lcn, cnts]; omega
theorem MX : ∀ (a b : List BoxD), wts (a ++ b) = wts a + wts b
 | [], b => by simp [wts]
 | t :: a, b => by simp only [List.cons_append, wts, MX a b]; omega
theorem Ko : ∀ (N : Nat) (b : BoxD), cnt b ≤ N → cnt b ≤ wt b
 | 0, b, h => by have := Z9 b; omega
 | N + 1, b, h => by
  have key : ∀ l : List BoxD, (∀ x ∈ l, cnt x ≤ N) → cnts l ≤ wts l := by
   intro l
   induction l with
   | nil => intro _; simp [cnts]
   | cons x l ih =>
    intro hl
    have h1 := Ko N x (hl x (by simp))
    have h2 := ih (fun y hy => hl y (by simp [hy]))
    simp only [cnts, wts]
    omega
  have h1 := key b.kids (fun x hx => by have := Yv hx; have := Yo b; omega)
  rw [Yo, Jr]
  omega
theorem TA : ∀ (N : Nat) (l : List BoxD), cnts l ≤ N → (szss l).length = cnts l ∧ (lnss l).length = cnts l
 | N, [], h => by simp [szss, lnss, cnts]
 | 0, b :: l, h => by have := Z9 b; simp only [cnts] at h; omega
 | N + 1, b :: l, h => by
  simp only [cnts] at h
  have hb := Z9 b
  have h1 := TA N l (by omega)
  have h2 := TA N b.kids (by have := Yo b; omega)
  simp only [szss, lnss, cnts, NC, Kn, lap, lcn, h1.1, h1.2, h2.1, h2.2]
  have := Yo b
  omega
theorem PL (b : BoxD) : (szs b).length = cnt b ∧ (lns b).length = cnt b := by
 have := TA (cnts b.kids) b.kids (Nat.le_refl _)
 rw [NC, Kn, lcn, lcn, this.1, this.2, Yo]
 omega
inductive Ok : BoxD → Prop
 | mk {k n : Int} {t : ByteArray} {l : List BoxD} (h1 : k = 0 ∨ t.size = 0) (h2 : k < 3 → l = []) (h3 : 0 ≤ n ∧ n ≤ 100) (h4 : 0 ≤ k ∧ k ≤ 5) (h5 : ∀ x ∈ l, Ok x) : Ok (.mk k t n l)
theorem Ok.txt {b : BoxD} (h : Ok b) : b.kind = 0 ∨ b.text.size = 0 := by cases h with | mk h1 h2 h3 h4 h5 => exact h1
theorem Ok.few {b : BoxD} (h : Ok b) : b.kind < 3 → b.kids = [] := by cases h with | mk h1 h2 h3 h4 h5 => exact h2
theorem Ok.nn {b : BoxD} (h : Ok b) : 0 ≤ b.n ∧ b.n ≤ 100 := by cases h with | mk h1 h2 h3 h4 h5 => exact h3
theorem Ok.kd {b : BoxD} (h : Ok b) : 0 ≤ b.kind ∧ b.kind ≤ 5 := by cases h with | mk h1 h2 h3 h4 h5 => exact h4
theorem Ok.kid {b x : BoxD} (h : Ok b) (hx : x ∈ b.kids) : Ok x := by cases h with | mk h1 h2 h3 h4 h5 => exact h5 x hx
theorem Ok.of : ∀ {b : BoxD}, (b.kind = 0 ∨ b.text.size = 0) → (b.kind < 3 → b.kids = []) → (0 ≤ b.n ∧ b.n ≤ 100) → (0 ≤ b.kind ∧ b.kind ≤ 5) → (∀ x ∈ b.kids, Ok x) → Ok b
 | .mk _ _ _ _, h1, h2, h3, h4, h5 => .mk h1 h2 h3 h4 h5
theorem XD (a b : List UInt8) : brl (a ++ b) = brl a ++ brl b := List.filter_append ..
theorem Wl (a : ByteArray) : a.data.toList.length = a.size := by rw [Array.length_toList]; rfl
theorem CW {a : ByteArray} (h : a.size = 0) : a.data.toList = [] := enz (by rw [Wl]; exact h)
theorem CX : ∀ (N : Nat) (b : BoxD), cnt b ≤ N → Ok b → brl ((txs b).flatMap fun s => s.data.toList) = tb b
 | 0, b, h, _ => by have := Z9 b; omega
 | N + 1, b, h, ho => by
  have key : ∀ l : List BoxD, (∀ x ∈ l, cnt x ≤ N ∧ Ok x) → brl ((txss l).flatMap fun s => s.data.toList) = tbs l := by
   intro l
   induction l with
   | nil => intro _; rfl
   | cons x l ih =>
    intro hl
    have h1 := CX N x (hl x (by simp)).1 (hl x (by simp)).2
    have h2 := ih (fun y hy => hl y (by simp [hy]))
    simp only [txss, tbs, List.flatMap_append, XD, h1, h2]
  have h1 := key b.kids (fun x hx => ⟨by have := Yv hx; have := Yo b; omega, ho.kid hx⟩)
  rw [ND, CV]
  by_cases c : b.kind = 0
  ·rw [c, ho.few (by omega)]
   simp [tbs]
  ·have cf : (b.kind == 0) = false := by simpa using c
   have ht := (ho.txt).resolve_left c
   rw [cf, CW ht]
   simpa [brl] using h1
theorem QT {α : Type} {l y : List α} {n : Nat} (h : n + y.length ≤ l.length) : (splice l n y).take (n + y.length) = l.take n ++ y ∧ (splice l n y).length = l.length := by
 unfold splice
 refine ⟨?_, by simp; omega⟩
 have : (l.take n ++ y).length = n + y.length := by simp; omega
 rw [← this, List.take_left]
theorem put1 {α : Type} {row : List α} {len : Nat} (e : α) (hl : len ≤ row.length) :
  (len + 1 ≤ row.length → (splice row len [e]).take (len + 1) = row.take len ++ [e] ∧ len + 1 ≤ (splice row len [e]).length) ∧
  ((row.take len ++ [e]).take (len + 1) = row.take len ++ [e] ∧ len + 1 ≤ (row.take len ++ [e]).length) := by
 refine ⟨fun h => ?_, ?_, ?_⟩
 ·obtain ⟨h1, h2⟩ := QT (l := row) (y := [e]) (n := len) h
  exact ⟨h1, by rw [h2]; exact h⟩
 ·exact List.take_of_length_le (by simp; omega)
 ·simp; omega
theorem ap1 {len n b : Nat} (h : len ≤ n) (hb : len ≤ 5000000) (hk : b ≤ 1000) : apOk len 1 n b = true := by
 refine decide_eq_true ⟨h, ?_, by unfold Zm; omega⟩
 have := Nat.mul_le_mul (show len + 1 ≤ 5000001 by omega) hk
 unfold Zm
 omega
theorem Un {α : Type} {row pre post : List α} {x y : α} {n : Nat} (h : row.take n = pre ++ x :: post) (hn : pre.length + 1 ≤ n) : (row.set pre.length y).take n = pre ++ y :: post := by
 rw [List.take_set, h, List.set_append_right _ _ (Nat.le_refl _), Nat.sub_self]
 rfl
theorem PM {α : Type} {row pre post : List α} {x : α} {n : Nat} (h : row.take n = pre ++ x :: post) (hn : pre.length < n) : row[pre.length]? = some x := by
 have : (row.take n)[pre.length]? = some x := by rw [h, List.getElem?_append_right (Nat.le_refl _)]; simp
 rw [List.getElem?_take, if_pos hn] at this
 exact this
theorem l30 {N : Nat} {b : BoxD} {a2 : BoxD} {a3 : Nat} {a4 : List Int} (ih : ∀ x ∈ b.kids, ∀ (gen : Nat) (row : List Int) (len : Nat), len ≤ row.length → len + cnt x ≤ 4000000 →
   ∃ g' row', RC N x a2 a3 a4 gen row len = some (.k0 g' row' (len + cnt x)) ∧ row'.take (len + cnt x) = row.take len ++ szs x ∧ len + cnt x ≤ row'.length) (hb : b.kids.length ≤ 4000000) :
  ∀ (k j gen : Nat) (row : List Int) (len : Nat), j + k = b.kids.length → len ≤ row.length → len + cnts (b.kids.drop j) ≤ 4000000 →
   ∃ g' row', runL (fun s => XC (RC N) b (b.kids.length : Int) a2 a3 a4 s.1 s.2.1 s.2.2.1 s.2.2.2) ((j : Int), gen, row, len) = some (.k0 g' row' (len + cnts (b.kids.drop j))) ∧ row'.take (len + cnts (b.kids.drop j)) = row.take len ++ szss (b.kids.drop j) ∧ len + cnts (b.kids.drop j) ≤ row'.length
 | 0, j, gen, row, len, hj, hl, hc => by
  obtain rfl : j = b.kids.length := by omega
  rw [List.drop_length]
  refine ⟨gen, row, Zr ?_, by simp [cnts, szss], by simp [cnts]; exact hl⟩
  simp only [XC, decide_eq_false (show ¬ (b.kids.length : Int) < (b.kids.length : Int) by omega), cond_false, cnts, Nat.add_zero]
 | k + 1, j, gen, row, len, hj, hl, hc => by
  have hx : b.kids[j]? = some (b.kids[j]'(by omega)) := geg _
  have hd : b.kids.drop j = b.kids[j]'(by omega) :: b.kids.drop (j + 1) := List.drop_eq_getElem_cons (by omega)
  generalize b.kids[j]'(by omega) = x at hx hd
  rw [hd] at hc ⊢
  simp only [cnts] at hc ⊢
  obtain ⟨g1, row1, h1, h2, h3⟩ := ih x (mog hx) gen row len hl (by omega)
  obtain ⟨g2, row2, k1, k2, k3⟩ := l30 ih hb k (j + 1) g1 row1 (len + cnt x) (by omega) h3 (by omega)
  refine ⟨g2, row2, ?_, ?_, by omega⟩
  ·rw [ZD (s' := (((j + 1 : Nat) : Int), g1, row1, len + cnt x)) (by
    simp only [XC, decide_eq_true (show (j : Int) < (b.kids.length : Int) by omega), cond_true, Zs, hx, bsm, h1, w_S (show j < 4611686018427387904 by omega)])]
   rw [k1, Nat.add_assoc]
  ·rw [← Nat.add_assoc, k2, h2]
   simp only [szss, List.append_assoc]
theorem q30 (a2 : BoxD) (a3 : Nat) (a4 : List Int) : ∀ (N : Nat) (b : BoxD) (gen : Nat) (row : List Int) (len : Nat), cnt b ≤ N → len ≤ row.length → len + cnt b ≤ 4000000 →
  ∃ g' row', RC N b a2 a3 a4 gen row len = some (.k0 g' row' (len + cnt b)) ∧ row'.take (len + cnt b) = row.take len ++ szs b ∧ len + cnt b ≤ row'.length
 | 0, b, _, _, _, h, _, _ => by have := Z9 b; omega
 | N + 1, b, gen, row, len, h, hl, hc => by
  show ∃ g' row', UA (RC N) b a2 a3 a4 gen row len = _ ∧ _
  have hcb := Yo b
  have hkl := YH b.kids
  obtain ⟨p1, p2⟩ := put1 (row := row) (0 : Int) hl
  have ih : ∀ x ∈ b.kids, ∀ (gen : Nat) (row : List Int) (len : Nat), len ≤ row.length → len + cnt x ≤ 4000000 →
    ∃ g' row', RC N x a2 a3 a4 gen row len = some (.k0 g' row' (len + cnt x)) ∧ row'.take (len + cnt x) = row.take len ++ szs x ∧ len + cnt x ≤ row'.length :=
   fun x hx gen row len h1 h2 => q30 a2 a3 a4 N x gen row len (by have := Yv hx; omega) h1 h2
  have go : ∀ (g1 : Nat) (row1 : List Int), row1.take (len + 1) = row.take len ++ [0] → len + 1 ≤ row1.length →
    ∃ g2 row2 row', runL (fun s => XC (RC N) b (b.kids.length : Int) a2 a3 a4 s.1 s.2.1 s.2.2.1 s.2.2.2) (0, g1, row1, len + 1) = some (.k0 g2 row2 (len + cnt b)) ∧ ixN (len + cnt b) ((len : Nat) : Int) = some len ∧ (∃ z, row2[len]? = some z) ∧
     row' = row2.set len (cnt b : Int) ∧ IntKind.wrap .i64 (((len + cnt b : Nat) : Int) - ((len : Nat) : Int)) = (cnt b : Int) ∧ row'.take (len + cnt b) = row.take len ++ szs b ∧ len + cnt b ≤ row'.length := by
   intro g1 row1 h1 h2
   have e0 : ((0 : Nat) : Int) = 0 := rfl
   obtain ⟨g2, row2, k1, k2, k3⟩ := l30 ih (by omega) b.kids.length 0 g1 row1 (len + 1) (by omega) h2 (by rw [List.drop_zero]; omega)
   rw [List.drop_zero] at k1 k2 k3
   rw [e0, show len + 1 + cnts b.kids = len + cnt b by omega] at k1
   rw [show len + 1 + cnts b.kids = len + cnt b by omega] at k2 k3
   rw [h1, List.append_assoc] at k2
   have hpl : (row.take len).length = len := by rw [List.length_take]; omega
   have k2' : row2.take (len + cnt b) = row.take len ++ 0 :: szss b.kids := k2
   have h3 := PM k2' (by omega)
   rw [hpl] at h3
   have h4 := Un (y := (cnt b : Int)) k2' (by omega)
   rw [hpl] at h4
   refine ⟨g2, row2, _, k1, by rw [Uw, if_pos (by omega)], ⟨_, h3⟩, rfl, by rw [w_id (by omega)]; omega, ?_, by rw [List.length_set]; exact k3⟩
   rw [h4, NC]
  by_cases hc1 : len + 1 ≤ row.length
  ·obtain ⟨g2, row2, row', m1, m2, ⟨z, m3⟩, m4, m5, m6, m7⟩ := go gen (splice row len [0]) (p1 hc1).1 (p1 hc1).2
   refine ⟨g2, row', ?_, m6, m7⟩
   unfold UA
   rw [ap1 hl (by omega) (by omega), decide_eq_true hc1]
   simp only [cond_true, m1, bsm, m2, m3, m5, m4]
  ·obtain ⟨g2, row2, row', m1, m2, ⟨z, m3⟩, m4, m5, m6, m7⟩ := go (gen + 1) (row.take len ++ [0]) p2.1 p2.2
   refine ⟨g2, row', ?_, m6, m7⟩
   unfold UA
   rw [ap1 hl (by omega) (by omega), decide_eq_false hc1]
   simp only [cond_true, cond_false, m1, bsm, m2, m3, m5, m4]
theorem q26 (N : Nat) (b : BoxD) (h : cnt b ≤ N) (hc : cnt b ≤ 3000) : F26 N b = some (szs b) := by
 obtain ⟨g', row', h1, h2, h3⟩ := q30 b 0 [] N b 0 [] 0 h (Nat.le_refl _) (by omega)
 rw [Nat.zero_add] at h1 h2 h3
 unfold F26
 rw [h1]
 simp only [bsm, decide_eq_true h3, cond_true, h2, List.take_nil, List.nil_append]
theorem PN (c : UInt8) : ∀ l : List UInt8, (Go.Lib.indexByte l c = -1 ∧ c ∉ l) ∨ ∃ p r, l = p ++ c :: r ∧ c ∉ p ∧ Go.Lib.indexByte l c = (p.length : Int)
 | [] => .inl ⟨rfl, by simp⟩
 | b :: l => by
  unfold Go.Lib.indexByte
  by_cases hb : b = c
  ·subst hb
   exact .inr ⟨[], l, rfl, by simp, by simp⟩
  ·have hb' : (b == c) = false := by simpa using hb
   rw [hb']
   rcases PN c l with ⟨h1, h2⟩ | ⟨p, r, h1, h2, h3⟩
   ·rw [h1]
    refine .inl ⟨rfl, ?_⟩
    simp only [List.mem_cons, not_or]
    exact ⟨fun h => hb h.symm, h2⟩
   ·rw [h3]
    refine .inr ⟨b :: p, r, by rw [h1]; rfl, ?_, ?_⟩
    ·simp only [List.mem_cons, not_or]
     exact ⟨fun h => hb h.symm, h2⟩
    ·have : ((p.length : Int) == -1) = false := by simp
     simp only [this, Bool.false_eq_true, if_false, lcn]
     omega
theorem q29 (b : BoxD) : F29 b = some (XY b.text) := by
 have g0 : getI (⟨([10] : List UInt8).toArray⟩ : ByteArray).data.toList 0 = some (10 : UInt8) := rfl
 have e1 : (Int.toNat (((10 : UInt8).toNat : Nat) : Int)).toUInt8 = 10 := by decide
 unfold F29 F39 F48
 by_cases he : (⟨([10] : List UInt8).toArray⟩ : ByteArray) = b.text
 ·rw [Yt, decide_eq_true he]
  have : XY b.text = true := by rw [← he]; decide
  rw [this]
  rfl
 ·rw [Yt, decide_eq_false he]
  simp only [cond_false, g0, bsm, F56, e1, Go.Lib.firstIdx_eq]
  unfold XY
  rcases PN 10 b.text.data.toList with ⟨h1, h2⟩ | ⟨p, r, h1, h2, h3⟩
  ·rw [h1, decide_eq_false h2]; rfl
  ·rw [h3, decide_eq_true (show (p.length : Int) ≥ 0 by omega), decide_eq_true (by rw [h1]; simp)]
theorem Js {x : BoxD} {l : List BoxD} : XZ (x :: l) = (hasL x || XZ l) := by simp only [XZ]
theorem D3 {N : Nat} {b : BoxD} {a2 : BoxD} {a3 : Nat} {a4 : List Bool} (ih : ∀ x ∈ b.kids, ∀ (gen : Nat) (row : List Bool) (len : Nat), len ≤ row.length → len + cnt x ≤ 4000000 →
   ∃ g' row', SG N x a2 a3 a4 gen row len = some (.k0 (hasL x) g' row' (len + cnt x)) ∧ row'.take (len + cnt x) = row.take len ++ lns x ∧ len + cnt x ≤ row'.length) (hb : b.kids.length ≤ 4000000) :
  ∀ (k j gen : Nat) (row : List Bool) (len : Nat), j + k = b.kids.length → len ≤ row.length → len + cnts (b.kids.drop j) ≤ 4000000 →
   ∃ g' row', runL (fun s => Wf (SG N) b (b.kids.length : Int) a2 a3 a4 s.1 s.2.1 s.2.2.1 s.2.2.2) ((j : Int), gen, row, len) = some (.k0 g' row' (len + cnts (b.kids.drop j))) ∧ row'.take (len + cnts (b.kids.drop j)) = row.take len ++ lnss (b.kids.drop j) ∧ len + cnts (b.kids.drop j) ≤ row'.length
 | 0, j, gen, row, len, hj, hl, hc => by
  obtain rfl : j = b.kids.length := by omega
  rw [List.drop_length]
  refine ⟨gen, row, Zr ?_, by simp [cnts, lnss], by simp [cnts]; exact hl⟩
  simp only [Wf, decide_eq_false (show ¬ (b.kids.length : Int) < (b.kids.length : Int) by omega), cond_false, cnts, Nat.add_zero]
 | k + 1, j, gen, row, len, hj, hl, hc => by
  have hx : b.kids[j]? = some (b.kids[j]'(by omega)) := geg _
  have hd : b.kids.drop j = b.kids[j]'(by omega) :: b.kids.drop (j + 1) := List.drop_eq_getElem_cons (by omega)
  generalize b.kids[j]'(by omega) = x at hx hd
  rw [hd] at hc ⊢
  simp only [cnts] at hc ⊢
  obtain ⟨g1, row1, h1, h2, h3⟩ := ih x (mog hx) gen row len hl (by omega)
  obtain ⟨g2, row2, k1, k2, k3⟩ := D3 ih hb k (j + 1) g1 row1 (len + cnt x) (by omega) h3 (by omega)
  refine ⟨g2, row2, ?_, ?_, by omega⟩
  ·rw [ZD (s' := (((j + 1 : Nat) : Int), g1, row1, len + cnt x)) (by
    simp only [Wf, decide_eq_true (show (j : Int) < (b.kids.length : Int) by omega), cond_true, Zs, hx, bsm, h1, w_S (show j < 4611686018427387904 by omega)]
    cases hasL x <;> rfl)]
   rw [k1, Nat.add_assoc]
  ·rw [← Nat.add_assoc, k2, h2]
   simp only [lnss, List.append_assoc]
theorem D4 {N : Nat} {b : BoxD} {a2 : BoxD} {a3 : Nat} {a4 : List Bool} (ih : ∀ x ∈ b.kids, ∀ (gen : Nat) (row : List Bool) (len : Nat), len ≤ row.length → len + cnt x ≤ 4000000 →
   ∃ g' row', SG N x a2 a3 a4 gen row len = some (.k0 (hasL x) g' row' (len + cnt x)) ∧ row'.take (len + cnt x) = row.take len ++ lns x ∧ len + cnt x ≤ row'.length) (hb : b.kids.length ≤ 4000000) :
  ∀ (k j gen : Nat) (row : List Bool) (len : Nat) (v : Bool), j + k = b.kids.length → len ≤ row.length → len + cnts (b.kids.drop j) ≤ 4000000 →
   ∃ g' row', runL (fun s => Wg (SG N) b (b.kids.length : Int) a2 a3 a4 s.1 s.2.1 s.2.2.1 s.2.2.2.1 s.2.2.2.2) (v, (j : Int), gen, row, len) = some (.k0 (v || XZ (b.kids.drop j)) g' row' (len + cnts (b.kids.drop j))) ∧ row'.take (len + cnts (b.kids.drop j)) = row.take len ++ lnss (b.kids.drop j) ∧ len + cnts (b.kids.drop j) ≤ row'.length
 | 0, j, gen, row, len, v, hj, hl, hc => by
  obtain rfl : j = b.kids.length := by omega
  rw [List.drop_length]
  refine ⟨gen, row, Zr ?_, by simp [cnts, lnss], by simp [cnts]; exact hl⟩
  simp only [Wg, decide_eq_false (show ¬ (b.kids.length : Int) < (b.kids.length : Int) by omega), cond_false, cnts, Nat.add_zero, XZ, Bool.or_false]
 | k + 1, j, gen, row, len, v, hj, hl, hc => by
  have hx : b.kids[j]? = some (b.kids[j]'(by omega)) := geg _
  have hd : b.kids.drop j = b.kids[j]'(by omega) :: b.kids.drop (j + 1) := List.drop_eq_getElem_cons (by omega)
  generalize b.kids[j]'(by omega) = x at hx hd
  rw [hd] at hc ⊢
  simp only [cnts] at hc ⊢
  obtain ⟨g1, row1, h1, h2, h3⟩ := ih x (mog hx) gen row len hl (by omega)
  obtain ⟨g2, row2, k1, k2, k3⟩ := D4 ih hb k (j + 1) g1 row1 (len + cnt x) (v || hasL x) (by omega) h3 (by omega)
  refine ⟨g2, row2, ?_, ?_, by omega⟩
  ·rw [ZD (s' := ((v || hasL x), ((j + 1 : Nat) : Int), g1, row1, len + cnt x)) (by
    simp only [Wg, decide_eq_true (show (j : Int) < (b.kids.length : Int) by omega), cond_true, Zs, hx, bsm, h1, w_S (show j < 4611686018427387904 by omega)]
    cases hasL x <;> cases v <;> rfl)]
   rw [k1, Nat.add_assoc, Js, Bool.or_assoc]
  ·rw [← Nat.add_assoc, k2, h2]
   simp only [lnss, List.append_assoc]
theorem q28 (a2 : BoxD) (a3 : Nat) (a4 : List Bool) : ∀ (N : Nat) (b : BoxD) (gen : Nat) (row : List Bool) (len : Nat), cnt b ≤ N → len ≤ row.length → len + cnt b ≤ 4000000 →
  ∃ g' row', SG N b a2 a3 a4 gen row len = some (.k0 (hasL b) g' row' (len + cnt b)) ∧ row'.take (len + cnt b) = row.take len ++ lns b ∧ len + cnt b ≤ row'.length
 | 0, b, _, _, _, h, _, _ => by have := Z9 b; omega
 | N + 1, b, gen, row, len, h, hl, hc => by
  show ∃ g' row', WB (SG N) b a2 a3 a4 gen row len = _ ∧ _
  have hcb := Yo b
  have hkl := YH b.kids
  have e0 : ((0 : Nat) : Int) = 0 := rfl
  have hpl : (row.take len).length = len := by rw [List.length_take]; omega
  have ih : ∀ x ∈ b.kids, ∀ (gen : Nat) (row : List Bool) (len : Nat), len ≤ row.length → len + cnt x ≤ 4000000 →
    ∃ g' row', SG N x a2 a3 a4 gen row len = some (.k0 (hasL x) g' row' (len + cnt x)) ∧ row'.take (len + cnt x) = row.take len ++ lns x ∧ len + cnt x ≤ row'.length :=
   fun x hx gen row len h1 h2 => q28 a2 a3 a4 N x gen row len (by have := Yv hx; omega) h1 h2
  have fin : ∀ (row1 row2 : List Bool) (v : Bool), row1.take (len + 1) = row.take len ++ [v] → row2.take (len + 1 + cnts b.kids) = row1.take (len + 1) ++ lnss b.kids → len + 1 + cnts b.kids ≤ row2.length →
    ixN (len + cnt b) ((len : Nat) : Int) = some len ∧ (∃ z, row2[len]? = some z) ∧ (row2.set len (hasL b)).take (len + cnt b) = row.take len ++ lns b ∧ len + cnt b ≤ (row2.set len (hasL b)).length := by
   intro row1 row2 v h1 k2 k3
   rw [show len + 1 + cnts b.kids = len + cnt b by omega] at k2 k3
   rw [h1, List.append_assoc] at k2
   have k2' : row2.take (len + cnt b) = row.take len ++ v :: lnss b.kids := k2
   have h3 := PM k2' (by omega)
   rw [hpl] at h3
   have h4 := Un (y := hasL b) k2' (by omega)
   rw [hpl] at h4
   refine ⟨by rw [Uw, if_pos (by omega)], ⟨_, h3⟩, by rw [h4, Kn], by rw [List.length_set]; exact k3⟩
  have hlc : len + 1 + cnts b.kids = len + cnt b := by omega
  by_cases hk : b.kind = 2
  ·have hkt : (b.kind == 2) = true := by rw [hk]; rfl
   have hh : hasL b = true := by rw [MW, hkt]; rfl
   obtain ⟨p1, p2⟩ := put1 (row := row) true hl
   by_cases hc1 : len + 1 ≤ row.length
   ·obtain ⟨g2, row2, k1, k2, k3⟩ := D3 ih (by omega) b.kids.length 0 gen (splice row len [true]) (len + 1) (by omega) (p1 hc1).2 (by rw [List.drop_zero]; omega)
    rw [List.drop_zero] at k1 k2 k3
    obtain ⟨m1, ⟨z, m2⟩, m3, m4⟩ := fin _ row2 true (p1 hc1).1 k2 k3
    rw [e0, hlc] at k1
    refine ⟨g2, row2.set len (hasL b), ?_, m3, m4⟩
    unfold WB
    rw [hkt, ap1 hl (by omega) (by omega), decide_eq_true hc1]
    simp only [cond_true, k1, bsm, m1, m2, hh]
   ·obtain ⟨g2, row2, k1, k2, k3⟩ := D3 ih (by omega) b.kids.length 0 (gen + 1) (row.take len ++ [true]) (len + 1) (by omega) p2.2 (by rw [List.drop_zero]; omega)
    rw [List.drop_zero] at k1 k2 k3
    obtain ⟨m1, ⟨z, m2⟩, m3, m4⟩ := fin _ row2 true p2.1 k2 k3
    rw [e0, hlc] at k1
    refine ⟨g2, row2.set len (hasL b), ?_, m3, m4⟩
    unfold WB
    rw [hkt, ap1 hl (by omega) (by omega), decide_eq_false hc1]
    simp only [cond_true, cond_false, k1, bsm, m1, m2, hh]
  ·have hkf : (b.kind == 2) = false := by simpa using hk
   have hh : hasL b = (XY b.text || XZ b.kids) := by rw [MW, hkf, Bool.false_or]
   obtain ⟨p1, p2⟩ := put1 (row := row) (XY b.text) hl
   by_cases hc1 : len + 1 ≤ row.length
   ·obtain ⟨g2, row2, k1, k2, k3⟩ := D4 ih (by omega) b.kids.length 0 gen (splice row len [XY b.text]) (len + 1) (XY b.text) (by omega) (p1 hc1).2 (by rw [List.drop_zero]; omega)
    rw [List.drop_zero] at k1 k2 k3
    obtain ⟨m1, ⟨z, m2⟩, m3, m4⟩ := fin _ row2 _ (p1 hc1).1 k2 k3
    rw [e0, hlc, ← hh] at k1
    refine ⟨g2, row2.set len (hasL b), ?_, m3, m4⟩
    unfold WB
    rw [hkf, ap1 hl (by omega) (by omega), decide_eq_true hc1, q29]
    simp only [cond_true, cond_false, bsm, k1, m1, m2]
   ·obtain ⟨g2, row2, k1, k2, k3⟩ := D4 ih (by omega) b.kids.length 0 (gen + 1) (row.take len ++ [XY b.text]) (len + 1) (XY b.text) (by omega) p2.2 (by rw [List.drop_zero]; omega)
    rw [List.drop_zero] at k1 k2 k3
    obtain ⟨m1, ⟨z, m2⟩, m3, m4⟩ := fin _ row2 _ p2.1 k2 k3
    rw [e0, hlc, ← hh] at k1
    refine ⟨g2, row2.set len (hasL b), ?_, m3, m4⟩
    unfold WB
    rw [hkf, ap1 hl (by omega) (by omega), decide_eq_false hc1, q29]
    simp only [cond_true, cond_false, bsm, k1, m1, m2]
theorem q18 (N : Nat) (b : BoxD) (h : cnt b ≤ N) (hc : cnt b ≤ 3000) : F18 N b = some (lns b) := by
 obtain ⟨g', row', h1, h2, h3⟩ := q28 b 0 [] N b 0 [] 0 h (Nat.le_refl _) (by omega)
 rw [Nat.zero_add] at h1 h2 h3
 unfold F18
 rw [h1]
 simp only [bsm, decide_eq_true h3, cond_true, h2, List.take_nil, List.nil_append]
inductive Bd : BoxD → Prop
 | mk {k n : Int} {t : ByteArray} {l : List BoxD} (h1 : t.size ≤ 140737488355328) (h5 : ∀ x ∈ l, Bd x) : Bd (.mk k t n l)
theorem Bd.txt {b : BoxD} (h : Bd b) : b.text.size ≤ 140737488355328 := by cases h with | mk h1 h5 => exact h1
theorem Bd.kid {b x : BoxD} (h : Bd b) (hx : x ∈ b.kids) : Bd x := by cases h with | mk h1 h5 => exact h5 x hx
theorem Fb {l : List BoxD} {j : Nat} {x : BoxD} (h : l[j]? = some x) : wts (l.take (j + 1)) = wts (l.take j) + wt x := by
 have hj := (gei.1 h)
 obtain ⟨h1, h2⟩ := hj
 rw [List.take_succ_eq_append_getElem h1, MX, h2]
 simp [wts]
theorem NE {l : List BoxD} {j : Nat} {x : BoxD} (h : l[j]? = some x) : cnts (l.take (j + 1)) = cnts (l.take j) + cnt x := by
 have hj := (gei.1 h)
 obtain ⟨h1, h2⟩ := hj
 rw [List.take_succ_eq_append_getElem h1, Yw, h2]
 simp [cnts]
theorem q12 : ∀ (N : Nat) (b : BoxD) (left : Int), Bd b → 0 ≤ left ∧ left ≤ 3000 → left < (N : Int) → ∃ v, Mq N b left = some v ∧ 1 ≤ v ∧ v ≤ left + 140737488355329 ∧ (v ≤ left → v = (wt b : Int))
 | 0, b, left, _, h1, h2 => by omega
 | N + 1, b, left, hB, h1, h2 => by
  show ∃ v, So (Mq N) b left = some v ∧ _
  have ht := hB.txt
  have key : ∀ (k j : Nat) (v : Int), j + k = b.kids.length → (j : Int) + 1 ≤ v → v ≤ left + 140737488355329 → (v ≤ left → v = ((1 + b.text.size + wts (b.kids.take j) : Nat) : Int)) →
    ∃ v', runL (fun s => X9 (Mq N) left b s.1 s.2) (v, (j : Int)) = some (.k0 v') ∧ 1 ≤ v' ∧ v' ≤ left + 140737488355329 ∧ (v' ≤ left → v' = (wt b : Int)) := by
   intro k
   induction k with
   | zero =>
    intro j v hj hv1 hv2 he
    obtain rfl : j = b.kids.length := by omega
    rw [List.take_length] at he
    exact ⟨v, Zr (by simp [X9]), by omega, hv2, fun h => by rw [he h, Jr]⟩
   | succ k ih =>
    intro j v hj hv1 hv2 he
    have hx : b.kids[j]? = some (b.kids[j]'(by omega)) := geg _
    generalize b.kids[j]'(by omega) = x at hx
    have hlt : decide ((j : Int) < (b.kids.length : Int)) = true := decide_eq_true (by omega)
    by_cases hle : v ≤ left
    ·have hlw : IntKind.wrap .i64 (left - v) = left - v := w_id (by omega)
     obtain ⟨u, u1, u2, u3, u4⟩ := q12 N x (left - v) (hB.kid (mog hx)) (by omega) (by omega)
     have hvw : IntKind.wrap .i64 (v + u) = v + u := w_id (by omega)
     obtain ⟨v', k1, k2, k3, k4⟩ := ih (j + 1) (v + u) (by omega) (by omega) (by omega) (fun h => by
      rw [Fb hx, he hle, u4 (by omega)]; omega)
     refine ⟨v', ?_, k2, k3, k4⟩
     rw [ZD (s' := (v + u, ((j + 1 : Nat) : Int))) (by
      simp only [X9, hlt, cond_true, decide_eq_true hle, Zs, hx, bsm, hlw, u1, hvw, w_S (show j < 4611686018427387904 by omega)])]
     exact k1
    ·exact ⟨v, Zr (by simp only [X9, hlt, cond_true, decide_eq_false hle, cond_false]), by omega, hv2, fun h => absurd h hle⟩
  have hw : IntKind.wrap .i64 (1 + (b.text.size : Int)) = 1 + (b.text.size : Int) := w_id (by omega)
  have e0 : ((0 : Nat) : Int) = 0 := rfl
  obtain ⟨v, k1, k2, k3, k4⟩ := key b.kids.length 0 (1 + (b.text.size : Int)) (by omega) (by omega) (by omega) (fun _ => by simp [wts])
  rw [e0] at k1
  refine ⟨v, ?_, k2, k3, k4⟩
  unfold So
  rw [hw, k1]
  rfl
theorem q5 (N : Nat) (b : BoxD) (hB : Bd b) (hN : 3000 < N) : ∃ v, F5 N b = some v ∧ (v = true → wt b ≤ 3000) := by
 obtain ⟨v, h1, h2, h3, h4⟩ := q12 N b 3000 hB (by omega) (by omega)
 unfold F5
 rw [h1]
 refine ⟨_, rfl, fun h => ?_⟩
 have h := of_decide_eq_true h
 have := h4 h
 omega
noncomputable def ok25 (N : Nat) (x : BoxD) : Bool := (F25 N x).getD false
theorem ZH {a b : Int} (h : ¬ a = b) : (a == b) = false := by simpa using h
theorem q25 : ∀ (N : Nat) (b : BoxD), cnt b ≤ N → cnt b ≤ 4000000 → ∃ v, F25 N b = some v ∧ (v = true → Ok b)
 | 0, b, h, _ => by have := Z9 b; omega
 | N + 1, b, h, hc => by
  show ∃ v, IU (F25 N) b = some v ∧ _
  have hcb := Yo b
  have hkl := YH b.kids
  have ih : ∀ x ∈ b.kids, F25 N x = some (ok25 N x) ∧ (ok25 N x = true → Ok x) := fun x hx => by
   obtain ⟨v, h1, h2⟩ := q25 N x (by have := Yv hx; omega) (by have := Yv hx; omega)
   unfold ok25
   rw [h1]
   exact ⟨rfl, h2⟩
  have hall : allF (fun _ x => ok25 N x) 0 b.kids = true → ∀ x ∈ b.kids, Ok x := fun ha x hx => by
   obtain ⟨j, hj⟩ := List.getElem?_of_mem hx
   exact (ih x hx).2 ((LC _ _).1 ha j x hj)
  have kids1 : runL (fun s => Pt (F25 N) b (b.kids.length : Int) s) 0 = some (bif allF (fun _ x => ok25 N x) 0 b.kids then .k1 else .k0) := by
   refine Wz (step := fun s => Pt (F25 N) b (b.kids.length : Int) s) (l := b.kids) (fun _ x => ok25 N x) (bad := E_L25_0.k0) (fin := .k1) (fun i x hx => ?_) (by simp [Pt])
   have hi : i < b.kids.length := (gei.1 hx).1
   simp only [Pt, Zs, hx, bsm, decide_eq_true (show (i : Int) < (b.kids.length : Int) by omega), cond_true, (ih x (mog hx)).1, w_S (show i < 4611686018427387904 by omega)]
   cases ok25 N x <;> rfl
  have kids2 : runL (fun s => Wb (F25 N) b (b.kids.length : Int) s) 0 = some (bif allF (fun _ x => ok25 N x) 0 b.kids then .k1 else .k0) := by
   refine Wz (step := fun s => Wb (F25 N) b (b.kids.length : Int) s) (l := b.kids) (fun _ x => ok25 N x) (bad := E_L25_0_2.k0) (fin := .k1) (fun i x hx => ?_) (by simp [Wb])
   have hi : i < b.kids.length := (gei.1 hx).1
   simp only [Wb, Zs, hx, bsm, decide_eq_true (show (i : Int) < (b.kids.length : Int) by omega), cond_true, (ih x (mog hx)).1, w_S (show i < 4611686018427387904 by omega)]
   cases ok25 N x <;> rfl
  have kids3 : runL (fun s => Wc (F25 N) b (b.kids.length : Int) s) 0 = some (bif allF (fun _ x => ok25 N x) 0 b.kids then .k1 else .k0) := by
   refine Wz (step := fun s => Wc (F25 N) b (b.kids.length : Int) s) (l := b.kids) (fun _ x => ok25 N x) (bad := E_L25_0_3.k0) (fin := .k1) (fun i x hx => ?_) (by simp [Wc])
   have hi : i < b.kids.length := (gei.1 hx).1
   simp only [Wc, Zs, hx, bsm, decide_eq_true (show (i : Int) < (b.kids.length : Int) by omega), cond_true, (ih x (mog hx)).1, w_S (show i < 4611686018427387904 by omega)]
   cases ok25 N x <;> rfl
  have kids4 : runL (fun s => XA (F25 N) b (b.kids.length : Int) s) 0 = some (bif allF (fun _ x => ok25 N x) 0 b.kids then .k1 else .k0) := by
   refine Wz (step := fun s => XA (F25 N) b (b.kids.length : Int) s) (l := b.kids) (fun _ x => ok25 N x) (bad := E_L25_0_4.k0) (fin := .k1) (fun i x hx => ?_) (by simp [XA])
   have hi : i < b.kids.length := (gei.1 hx).1
   simp only [XA, Zs, hx, bsm, decide_eq_true (show (i : Int) < (b.kids.length : Int) by omega), cond_true, (ih x (mog hx)).1, w_S (show i < 4611686018427387904 by omega)]
   cases ok25 N x <;> rfl
  have kids5 : runL (fun s => We (F25 N) b (b.kids.length : Int) s) 0 = some (bif allF (fun _ x => ok25 N x) 0 b.kids then .k1 else .k0) := by
   refine Wz (step := fun s => We (F25 N) b (b.kids.length : Int) s) (l := b.kids) (fun _ x => ok25 N x) (bad := E_L25_0_5.k0) (fin := .k1) (fun i x hx => ?_) (by simp [We])
   have hi : i < b.kids.length := (gei.1 hx).1
   simp only [We, Zs, hx, bsm, decide_eq_true (show (i : Int) < (b.kids.length : Int) by omega), cond_true, (ih x (mog hx)).1, w_S (show i < 4611686018427387904 by omega)]
   cases ok25 N x <;> rfl
  unfold IU
  have tN : (¬ b.n < 0 → ¬ b.n > 100 → 0 ≤ b.n ∧ b.n ≤ 100) := fun h1 h2 => by omega
  have tK : ((b.kids.length : Int) != 0) = false → b.kids = [] := fun h => by
   have : (b.kids.length : Int) = 0 := by simpa using h
   exact enz (by omega)
  have tT : (b.text.toList == (⟨([] : List UInt8).toArray⟩ : ByteArray).toList) = true → b.text.size = 0 := fun h => by
   rw [Yt] at h
   rw [of_decide_eq_true h]
   rfl
  by_cases k0 : b.kind = 0
  ·have q0 : (b.kind == 0) = true := by rw [k0]; rfl
   rw [q0]
   simp only [cond_true, beq_self_eq_true, Bool.not_true, cond_false]
   cases c1 : (b.n != 0) with
   | true => exact ⟨false, rfl, fun e => by cases e⟩
   | false =>
    cases c2 : ((b.kids.length : Int) != 0) with
    | true => exact ⟨false, rfl, fun e => by cases e⟩
    | false =>
     have hk := tK c2
     have hn : b.n = 0 := by simpa using c1
     rw [decide_eq_false (show ¬ b.n < 0 by omega), decide_eq_false (show ¬ b.n > 100 by omega), kids1]
     simp only [cond_false, bsm]
     cases allF (fun _ x => ok25 N x) 0 b.kids with
     | false => exact ⟨false, rfl, fun e => by cases e⟩
     | true => exact ⟨true, rfl, fun _ => Ok.of (.inl k0) (fun _ => hk) (by omega) (by omega) (by rw [hk]; simp)⟩
  rw [ZH k0]
  simp only [cond_false]
  have fin : ∀ (T : Bool), (b.text.toList == (⟨([] : List UInt8).toArray⟩ : ByteArray).toList) = true → (b.kind < 3 → b.kids = []) → ¬ b.n < 0 → ¬ b.n > 100 → 0 ≤ b.kind ∧ b.kind ≤ 5 → T = allF (fun _ x => ok25 N x) 0 b.kids → T = true → Ok b :=
   fun T h1 h2 h3 h4 h5 h6 h7 => Ok.of (.inr (tT h1)) h2 (tN h3 h4) h5 (hall (by rw [← h6]; exact h7))
  cases ct : (b.text.toList == (⟨([] : List UInt8).toArray⟩ : ByteArray).toList) with
  | false =>
   simp only [Bool.not_false, cond_true]
   cases b.kind == 5 <;> cases b.kind == 1 <;> cases b.kind == 3 <;> cases b.kind == 4 <;> cases b.kind == 2 <;> exact ⟨false, rfl, fun e => by cases e⟩
  | true =>
   simp only [Bool.not_true, cond_false, bne_self_eq_false]
   have fail : ∃ v, (some false : Option Bool) = some v ∧ (v = true → Ok b) := ⟨false, rfl, fun e => by cases e⟩
   have rng : ∀ {α : Type} (X : Option Bool), (¬ b.n < 0 → ¬ b.n > 100 → ∃ v, X = some v ∧ (v = true → Ok b)) → ∃ v, (bif decide (b.n < 0) then some false else (bif decide (b.n > 100) then some false else X)) = some v ∧ (v = true → Ok b) := by
    intro _ X hX
    by_cases n1 : b.n < 0
    ·rw [decide_eq_true n1]; exact fail
    ·rw [decide_eq_false n1]
     by_cases n2 : b.n > 100
     ·rw [decide_eq_true n2]; exact fail
     ·rw [decide_eq_false n2]; exact hX n1 n2
   by_cases k5 : b.kind = 5
   ·rw [show (b.kind == 5) = true by rw [k5]; rfl]
    simp only [cond_true]
    refine rng (α := Unit) _ (fun n1 n2 => ?_)
    rw [kids2]
    cases hA : allF (fun _ x => ok25 N x) 0 b.kids with
    | false => exact fail
    | true => exact ⟨true, rfl, fun _ => fin true ct (fun h => by omega) n1 n2 (by omega) hA.symm rfl⟩
   rw [ZH k5]
   simp only [cond_false]
   by_cases k1 : b.kind = 1
   ·rw [show (b.kind == 1) = true by rw [k1]; rfl]
    simp only [cond_true]
    cases c2 : ((b.kids.length : Int) != 0) with
    | true => exact fail
    | false =>
     simp only [cond_false]
     refine rng (α := Unit) _ (fun n1 n2 => ?_)
     rw [kids3]
     cases hA : allF (fun _ x => ok25 N x) 0 b.kids with
     | false => exact fail
     | true => exact ⟨true, rfl, fun _ => fin true ct (fun h => tK c2) n1 n2 (by omega) hA.symm rfl⟩
   rw [ZH k1]
   simp only [cond_false]
   by_cases k3 : b.kind = 3
   ·rw [show (b.kind == 3) = true by rw [k3]; rfl]
    simp only [cond_true]
    cases c1 : (b.n != 0) with
    | true => exact fail
    | false =>
     simp only [cond_false]
     refine rng (α := Unit) _ (fun n1 n2 => ?_)
     rw [kids4]
     cases hA : allF (fun _ x => ok25 N x) 0 b.kids with
     | false => exact fail
     | true => exact ⟨true, rfl, fun _ => fin true ct (fun h => by omega) n1 n2 (by omega) hA.symm rfl⟩
   rw [ZH k3]
   simp only [cond_false]
   by_cases k4 : b.kind = 4
   ·rw [show (b.kind == 4) = true by rw [k4]; rfl]
    simp only [cond_true]
    cases c1 : (b.n != 0) with
    | true => exact fail
    | false =>
     simp only [cond_false]
     refine rng (α := Unit) _ (fun n1 n2 => ?_)
     rw [kids4]
     cases hA : allF (fun _ x => ok25 N x) 0 b.kids with
     | false => exact fail
     | true => exact ⟨true, rfl, fun _ => fin true ct (fun h => by omega) n1 n2 (by omega) hA.symm rfl⟩
   rw [ZH k4]
   simp only [cond_false]
   by_cases k2 : b.kind = 2
   ·rw [show (b.kind == 2) = true by rw [k2]; rfl]
    simp only [cond_true]
    cases c1 : (b.n != 0) with
    | true => exact fail
    | false =>
     simp only [cond_false]
     cases c2 : ((b.kids.length : Int) != 0) with
     | true => exact fail
     | false =>
      simp only [cond_false]
      refine rng (α := Unit) _ (fun n1 n2 => ?_)
      rw [kids5]
      cases hA : allF (fun _ x => ok25 N x) 0 b.kids with
      | false => exact fail
      | true => exact ⟨true, rfl, fun _ => fin true ct (fun h => tK c2) n1 n2 (by omega) hA.symm rfl⟩
   rw [ZH k2]
   exact fail
theorem q21 : ∀ (N : Nat) (b : BoxD), cnt b ≤ N → cnt b ≤ 3000 → ∃ d : Int, F21 N b = some (.k0 (cnt b : Int) d) ∧ 1 ≤ d ∧ d ≤ (cnt b : Int)
 | 0, b, h, _ => by have := Z9 b; omega
 | N + 1, b, h, hc => by
  show ∃ d : Int, IY (F21 N) b = _ ∧ _
  have hcb := Yo b
  have hkl := YH b.kids
  have key : ∀ (k j : Nat) (d : Int), j + k = b.kids.length → 0 ≤ d → d ≤ (cnts (b.kids.take j) : Int) → cnts (b.kids.take j) ≤ 3000 →
    ∃ d' : Int, runL (fun s => Pu (F21 N) b (b.kids.length : Int) s.1 s.2.1 s.2.2) (((1 + cnts (b.kids.take j) : Nat) : Int), d, (j : Int)) = some (.k0 (cnt b : Int) d') ∧ 0 ≤ d' ∧ d' ≤ (cnts b.kids : Int) := by
   intro k
   induction k with
   | zero =>
    intro j d hj h1 h2 h3
    obtain rfl : j = b.kids.length := by omega
    rw [List.take_length] at h2 ⊢
    exact ⟨d, Zr (by simp [Pu, hcb]), h1, h2⟩
   | succ k ih =>
    intro j d hj h1 h2 h3
    have hx : b.kids[j]? = some (b.kids[j]'(by omega)) := geg _
    generalize b.kids[j]'(by omega) = x at hx
    have hm := Yv (mog hx)
    have ht := NE hx
    have hle : cnts (b.kids.take (j + 1)) ≤ cnts b.kids := by
     have := Yw (b.kids.take (j + 1)) (b.kids.drop (j + 1))
     rw [List.take_append_drop] at this
     omega
    obtain ⟨d2, q1, q2, q3⟩ := q21 N x (by omega) (by omega)
    obtain ⟨d', k1, k2, k3⟩ := ih (j + 1) (if d < d2 then d2 else d) (by omega) (by split <;> omega) (by split <;> omega) (by omega)
    refine ⟨d', ?_, k2, k3⟩
    rw [ZD (s' := (((1 + cnts (b.kids.take (j + 1)) : Nat) : Int), (if d < d2 then d2 else d), ((j + 1 : Nat) : Int))) (by
     simp only [Pu, decide_eq_true (show (j : Int) < (b.kids.length : Int) by omega), cond_true, Zs, hx, bsm, q1, w_S (show j < 4611686018427387904 by omega)]
     rw [w_id (by omega), show ((1 + cnts (b.kids.take j) : Nat) : Int) + (cnt x : Int) = ((1 + cnts (b.kids.take (j + 1)) : Nat) : Int) by omega])]
    exact k1
  have e0 : ((0 : Nat) : Int) = 0 := rfl
  obtain ⟨d, k1, k2, k3⟩ := key b.kids.length 0 0 (by omega) (by omega) (by simp [cnts]) (by simp [cnts])
  have k1' : runL (fun s => Pu (F21 N) b (b.kids.length : Int) s.1 s.2.1 s.2.2) (1, 0, 0) = some (.k0 (cnt b : Int) d) := k1
  refine ⟨d + 1, ?_, by omega, by omega⟩
  unfold IY
  rw [k1']
  simp only [bsm]
  rw [w_id (by omega)]
theorem q16 (N : Nat) (b : BoxD) (h : cnt b ≤ N) (hc : cnt b ≤ 3000) : F16 N b = some 260 ∨ (F16 N b = some 0 ∧ Ok b) := by
 obtain ⟨v, h1, h2⟩ := q25 N b h (by omega)
 obtain ⟨d, h3, h4, h5⟩ := q21 N b h hc
 unfold F16
 rw [h1]
 cases v with
 | false => exact .inl rfl
 | true =>
  right
  rw [h3]
  simp only [bsm, cond_true, decide_eq_false (show ¬ (cnt b : Int) > 65536 by omega), decide_eq_false (show ¬ d > 16384 by omega), cond_false]
  exact ⟨trivial, h2 rfl⟩
theorem PO : ∀ (N : Nat) (l : List BoxD), cnts l ≤ N → (txss l).length ≤ cnts l
 | N, [], h => by simp [txss]
 | 0, b :: l, h => by have := Z9 b; simp only [cnts] at h; omega
 | N + 1, b :: l, h => by
  simp only [cnts] at h
  have hb := Z9 b
  have hc := Yo b
  have h1 := PO N l (by omega)
  have h2 := PO N b.kids (by omega)
  simp only [txss, cnts, ND, lap]
  cases b.kind == 0 <;> simp only [cond_true, cond_false, List.length_singleton] <;> omega
theorem Hx (b : BoxD) : (txs b).length ≤ cnt b := by
 have := PO (cnts b.kids) b.kids (Nat.le_refl _)
 rw [ND, Yo]
 cases b.kind == 0 <;> simp only [cond_true, cond_false, List.length_singleton] <;> omega
theorem l22 {N : Nat} {b : BoxD} {a2 : BoxD} (ih : ∀ x ∈ b.kids, ∀ (gen : Nat) (row : List ByteArray) (len : Nat), len ≤ row.length → len + cnt x ≤ 4000000 →
   ∃ g' row', NA N x a2 gen row len = some (.k0 g' row' (len + (txs x).length)) ∧ row'.take (len + (txs x).length) = row.take len ++ txs x ∧ len + (txs x).length ≤ row'.length) (hb : b.kids.length ≤ 4000000) :
  ∀ (k j gen : Nat) (row : List ByteArray) (len : Nat), j + k = b.kids.length → len ≤ row.length → len + cnts (b.kids.drop j) ≤ 4000000 →
   ∃ g' row', runL (fun s => WD (NA N) b (b.kids.length : Int) a2 s.1 s.2.1 s.2.2.1 s.2.2.2) ((j : Int), gen, row, len) = some (.k0 g' row' (len + (txss (b.kids.drop j)).length)) ∧ row'.take (len + (txss (b.kids.drop j)).length) = row.take len ++ txss (b.kids.drop j) ∧ len + (txss (b.kids.drop j)).length ≤ row'.length
 | 0, j, gen, row, len, hj, hl, hc => by
  obtain rfl : j = b.kids.length := by omega
  rw [List.drop_length]
  refine ⟨gen, row, Zr ?_, by simp [txss], by simp [txss]; exact hl⟩
  simp only [WD, decide_eq_false (show ¬ (b.kids.length : Int) < (b.kids.length : Int) by omega), cond_false, txss, List.length_nil, Nat.add_zero]
 | k + 1, j, gen, row, len, hj, hl, hc => by
  have hx : b.kids[j]? = some (b.kids[j]'(by omega)) := geg _
  have hd : b.kids.drop j = b.kids[j]'(by omega) :: b.kids.drop (j + 1) := List.drop_eq_getElem_cons (by omega)
  generalize b.kids[j]'(by omega) = x at hx hd
  rw [hd] at hc ⊢
  simp only [cnts] at hc
  have hxl := Hx x
  obtain ⟨g1, row1, h1, h2, h3⟩ := ih x (mog hx) gen row len hl (by omega)
  obtain ⟨g2, row2, k1, k2, k3⟩ := l22 ih hb k (j + 1) g1 row1 (len + (txs x).length) (by omega) h3 (by omega)
  have e : (txss (x :: b.kids.drop (j + 1))).length = (txs x).length + (txss (b.kids.drop (j + 1))).length := by simp only [txss, lap]
  rw [e, ← Nat.add_assoc]
  refine ⟨g2, row2, ?_, ?_, k3⟩
  ·rw [ZD (s' := (((j + 1 : Nat) : Int), g1, row1, len + (txs x).length)) (by
    simp only [WD, decide_eq_true (show (j : Int) < (b.kids.length : Int) by omega), cond_true, Zs, hx, bsm, h1, w_S (show j < 4611686018427387904 by omega)])]
   exact k1
  ·rw [k2, h2]
   simp only [txss, List.append_assoc]
theorem q22 (a2 : BoxD) : ∀ (N : Nat) (b : BoxD) (gen : Nat) (row : List ByteArray) (len : Nat), cnt b ≤ N → len ≤ row.length → len + cnt b ≤ 4000000 →
  ∃ g' row', NA N b a2 gen row len = some (.k0 g' row' (len + (txs b).length)) ∧ row'.take (len + (txs b).length) = row.take len ++ txs b ∧ len + (txs b).length ≤ row'.length
 | 0, b, _, _, _, h, _, _ => by have := Z9 b; omega
 | N + 1, b, gen, row, len, h, hl, hc => by
  show ∃ g' row', Rq (NA N) b a2 gen row len = _ ∧ _
  have hcb := Yo b
  have hkl := YH b.kids
  rw [ND]
  unfold Rq
  by_cases hk : b.kind = 0
  ·rw [show (b.kind == 0) = true by rw [hk]; rfl]
   obtain ⟨p1, p2⟩ := put1 (row := row) b.text hl
   simp only [cond_true, List.length_singleton]
   unfold G6
   rw [ap1 hl (by omega) (by omega)]
   by_cases hc1 : len + 1 ≤ row.length
   ·rw [decide_eq_true hc1]
    exact ⟨_, _, rfl, (p1 hc1).1, (p1 hc1).2⟩
   ·rw [decide_eq_false hc1]
    exact ⟨_, _, rfl, p2.1, p2.2⟩
  ·rw [ZH hk]
   simp only [cond_false]
   have e0 : ((0 : Nat) : Int) = 0 := rfl
   obtain ⟨g2, row2, k1, k2, k3⟩ := l22 (N := N) (b := b) (a2 := a2) (fun x hx gen row len h1 h2 => q22 a2 N x gen row len (by have := Yv hx; omega) h1 h2) (by omega) b.kids.length 0 gen row len (by omega) hl (by rw [List.drop_zero]; omega)
   rw [List.drop_zero] at k1 k2 k3
   rw [e0] at k1
   exact ⟨g2, row2, by rw [k1]; rfl, k2, k3⟩
theorem q15 (N : Nat) (b : BoxD) (h : cnt b ≤ N) (hc : cnt b ≤ 3000) (h16 : F16 N b = some 0) : F15 N b = some (txs b) := by
 obtain ⟨g', row', h1, h2, h3⟩ := q22 b N b 0 [] 0 h (Nat.le_refl _) (by omega)
 rw [Nat.zero_add] at h1 h2 h3
 unfold F15
 rw [h16]
 simp only [bsm, beq_self_eq_true, cond_true, h1, decide_eq_true h3, h2, List.take_nil, List.nil_append]
theorem CY (a b : ByteArray) : (a ++ b).data.toList = a.data.toList ++ b.data.toList := by simp
def cat (l : List ByteArray) : List UInt8 := l.flatMap fun s => s.data.toList
theorem l24 (l : List ByteArray) (hl : l.length ≤ 4000000) (hs : (cat l).length ≤ 1000000) : ∀ (k j : Nat) (s : ByteArray), j + k = l.length → s.data.toList = cat (l.take j) →
  ∃ t : ByteArray, runL (fun s => NB l (l.length : Int) s.1 s.2) ((j : Int), s) = some (.k0 t) ∧ t.data.toList = cat l
 | 0, j, s, hj, h => by
  obtain rfl : j = l.length := by omega
  rw [List.take_length] at h
  exact ⟨s, Zr (by simp [NB]), h⟩
 | k + 1, j, s, hj, h => by
  have hx : l[j]? = some (l[j]'(by omega)) := geg _
  have ht : l.take (j + 1) = l.take j ++ [l[j]'(by omega)] := List.take_succ_eq_append_getElem (by omega)
  generalize l[j]'(by omega) = x at hx ht
  have hcat : cat (l.take (j + 1)) = cat (l.take j) ++ x.data.toList := by rw [ht]; simp [cat]
  have hle : (cat (l.take (j + 1))).length ≤ (cat l).length := by
   have : cat l = cat (l.take (j + 1)) ++ cat (l.drop (j + 1)) := by unfold cat; rw [← List.flatMap_append, List.take_append_drop]
   rw [this, lap]; omega
  rw [hcat, lap, ← h, Wl, Wl] at hle
  obtain ⟨t, k1, k2⟩ := l24 l hl hs k (j + 1) (s ++ x) (by omega) (by rw [CY, h, hcat])
  refine ⟨t, ?_, k2⟩
  rw [ZD (s' := (((j + 1 : Nat) : Int), s ++ x)) (by
   simp only [NB, decide_eq_true (show (j : Int) < (l.length : Int) by omega), cond_true, Zs, hx, bsm, PJ, decide_eq_true (show s.size + x.size ≤ 9223372036854775807 by omega), w_S (show j < 4611686018427387904 by omega)])]
  exact k1
theorem q11 (N : Nat) (b : BoxD) (h : cnt b ≤ N) (hc : cnt b ≤ 3000) (h16 : F16 N b = some 0) (hs : (cat (txs b)).length ≤ 1000000) : ∃ t : ByteArray, F11 N b = some t ∧ t.data.toList = cat (txs b) := by
 have e0 : ((0 : Nat) : Int) = 0 := rfl
 have hl := Hx b
 obtain ⟨t, k1, k2⟩ := l24 (txs b) (by omega) hs (txs b).length 0 (⟨([] : List UInt8).toArray⟩ : ByteArray) (by omega) rfl
 rw [e0] at k1
 refine ⟨t, ?_, k2⟩
 unfold F11 F24
 rw [q15 N b h hc h16]
 simp only [bsm]
 rw [k1]
 rfl
theorem MY : ∀ (N : Nat) (b : BoxD), cnt b ≤ N → (cat (txs b)).length ≤ wt b
 | 0, b, h => by have := Z9 b; omega
 | N + 1, b, h => by
  have key : ∀ l : List BoxD, (∀ x ∈ l, cnt x ≤ N) → (cat (txss l)).length ≤ wts l := by
   intro l
   induction l with
   | nil => intro _; simp [txss, cat]
   | cons x l ih =>
    intro hl
    have h1 := MY N x (hl x (by simp))
    have h2 := ih (fun y hy => hl y (by simp [hy]))
    unfold cat at h1 h2 ⊢
    simp only [txss, wts, List.flatMap_append, lap]
    omega
  have h1 := key b.kids (fun x hx => by have := Yv hx; have := Yo b; omega)
  rw [ND, Jr]
  cases b.kind == 0 with
  | true => simp [cat, Wl]; omega
  | false => simp only [cond_false]; omega
abbrev ints (l : List UInt8) : List Int := l.map fun b => ((b.toNat : Nat) : Int)
theorem q19 (x : UInt8) : F19 ((x.toNat : Nat) : Int) = some (x == 32 || x == 10) := by
 have e : ∀ c : UInt8, (((x.toNat : Nat) : Int) == ((c.toNat : Nat) : Int)) = (x == c) := fun c => by
  by_cases h : x = c
  ·subst h; simp
  ·have : ¬ x.toNat = c.toNat := fun e => h (UInt8.toNat_inj.1 e)
   rw [show (x == c) = false by simpa using h]
   simpa using fun e => this (by omega)
 have e1 := e 32
 have e2 := e 10
 have n1 : (((32 : UInt8).toNat : Nat) : Int) = 32 := rfl
 have n2 : (((10 : UInt8).toNat : Nat) : Int) = 10 := rfl
 rw [n1] at e1
 rw [n2] at e2
 unfold F19
 rw [e1, e2]
 cases x == 32 <;> rfl
theorem NF (l : List UInt8) : bstr (ints l) = ⟨l.toArray⟩ := by
 unfold bstr
 congr 2
 rw [List.map_map]
 conv => rhs; rw [← List.map_id l]
 refine List.map_congr_left (fun x _ => ?_)
 simp
theorem l10 (s : ByteArray) (hs : s.size ≤ 4000000) : ∀ (k j gen len : Nat) (row : List Int), j + k = s.size → len ≤ j → len ≤ row.length → row.take len = ints (brl (s.data.toList.take j)) →
  ∃ g' len' row', runL (fun z => RD s z.1 z.2.1 z.2.2.1 z.2.2.2) (gen, len, (j : Int), row) = some (.k0 g' len' row') ∧ len' ≤ row'.length ∧ row'.take len' = ints (brl s.data.toList)
 | 0, j, gen, len, row, hj, h1, h2, h3 => by
  obtain rfl : j = s.size := by omega
  have ht0 : s.data.toList.take s.size = s.data.toList := List.take_of_length_le (by rw [Wl]; exact Nat.le_refl _)
  rw [ht0] at h3
  exact ⟨gen, len, row, Zr (by simp [RD]), h2, h3⟩
 | k + 1, j, gen, len, row, hj, h1, h2, h3 => by
  have hx : s.data.toList[j]? = some (s.data.toList[j]'(by rw [Wl]; omega)) := geg _
  have ht : s.data.toList.take (j + 1) = s.data.toList.take j ++ [s.data.toList[j]'(by rw [Wl]; omega)] := List.take_succ_eq_append_getElem (by rw [Wl]; omega)
  generalize s.data.toList[j]'(by rw [Wl]; omega) = x at hx ht
  have hlt : decide ((j : Int) < (s.size : Int)) = true := decide_eq_true (by omega)
  have hS := w_S (show j < 4611686018427387904 by omega)
  cases hc : (x == 32 || x == 10) with
  | true =>
   have hb : brl (s.data.toList.take (j + 1)) = brl (s.data.toList.take j) := by
    have hx1 : brl [x] = [] := by unfold brl; rw [List.filter_cons, hc]; rfl
    rw [ht, XD, hx1, List.append_nil]
   obtain ⟨g', len', row', k1, k2, k3⟩ := l10 s hs k (j + 1) gen len row (by omega) (by omega) h2 (by rw [hb]; exact h3)
   refine ⟨g', len', row', ?_, k2, k3⟩
   rw [ZD (s' := (gen, len, ((j + 1 : Nat) : Int), row)) (by
    simp only [RD, hlt, cond_true, Zs, hx, bsm, q19, hc, hS])]
   exact k1
  | false =>
   have hb : brl (s.data.toList.take (j + 1)) = brl (s.data.toList.take j) ++ [x] := by
    have hx1 : brl [x] = [x] := by unfold brl; rw [List.filter_cons, hc]; rfl
    rw [ht, XD, hx1]
   obtain ⟨p1, p2⟩ := put1 (row := row) ((x.toNat : Nat) : Int) h2
   have h4 : row.take len ++ [((x.toNat : Nat) : Int)] = ints (brl (s.data.toList.take (j + 1))) := by rw [hb, h3]; simp [ints]
   by_cases hr : len + 1 ≤ row.length
   ·obtain ⟨g', len', row', k1, k2, k3⟩ := l10 s hs k (j + 1) gen (len + 1) _ (by omega) (by omega) (p1 hr).2 (by rw [(p1 hr).1]; exact h4)
    refine ⟨g', len', row', ?_, k2, k3⟩
    rw [ZD (s' := (gen, len + 1, ((j + 1 : Nat) : Int), splice row len [((x.toNat : Nat) : Int)])) (by
     simp only [RD, hlt, cond_true, Zs, hx, bsm, q19, hc, cond_false, ap1 h2 (by omega) (show 1 ≤ 1000 by omega), decide_eq_true hr, hS])]
    exact k1
   ·obtain ⟨g', len', row', k1, k2, k3⟩ := l10 s hs k (j + 1) (gen + 1) (len + 1) _ (by omega) (by omega) p2.2 (by rw [p2.1]; exact h4)
    refine ⟨g', len', row', ?_, k2, k3⟩
    rw [ZD (s' := (gen + 1, len + 1, ((j + 1 : Nat) : Int), row.take len ++ [((x.toNat : Nat) : Int)])) (by
     simp only [RD, hlt, cond_true, Zs, hx, bsm, q19, hc, cond_false, ap1 h2 (by omega) (show 1 ≤ 1000 by omega), decide_eq_false hr, hS])]
    exact k1
theorem q10 (s : ByteArray) (hs : s.size ≤ 4000000) : F10 s = some ⟨(brl s.data.toList).toArray⟩ := by
 have e0 : ((0 : Nat) : Int) = 0 := rfl
 obtain ⟨g', len', row', k1, k2, k3⟩ := l10 s hs s.size 0 0 0 [] (by omega) (Nat.le_refl _) (Nat.le_refl _) rfl
 rw [e0] at k1
 unfold F10
 rw [k1]
 simp only [bsm, decide_eq_true k2, cond_true, k3, NF]
abbrev bt (t : ThingD) : BoxD := .mk t.kind t.text t.n t.kids
theorem bt_k (t : ThingD) : (bt t).kids = t.kids := rfl
def kts (d w : Int) : Nat → List BoxD → List ThingD
 | _, [] => []
 | a, x :: l => ⟨x.kind, x.text, x.n, x.kids, d, w, (a : Int)⟩ :: kts d w (a + cnt x) l
theorem RE (x : BoxD) (d w a : Int) : bt ⟨x.kind, x.text, x.n, x.kids, d, w, a⟩ = x := by cases x; rfl
theorem Hy (d w : Int) : ∀ (l : List BoxD) (a : Nat), (kts d w a l).map bt = l
 | [], _ => rfl
 | x :: l, a => by rw [kts, List.map_cons, RE, Hy d w l]
structure TOk (S : List Int) (t : ThingD) : Prop where
 ok : Ok (bt t)
 pos : ∃ (a : Nat) (rest : List Int), t.at_ = (a : Int) ∧ S.drop a = szs (bt t) ++ rest
 dep : 0 ≤ t.depth ∧ t.depth + 100 * (cnt (bt t) : Int) ≤ 300000
 wtl : wt (bt t) ≤ 3000
theorem Kp : ∀ (a b : List BoxD), szss (a ++ b) = szss a ++ szss b
 | [], b => by simp [szss]
 | t :: a, b => by simp only [List.cons_append, szss, Kp a b, List.append_assoc]
theorem Kq {S : List Int} {a : Nat} {b : BoxD} {rest : List Int} (h : S.drop a = szs b ++ rest) (l r : List BoxD) (hk : b.kids = l ++ r) : S.drop (a + 1 + cnts l) = szss r ++ rest := by
 rw [Nat.add_assoc, ← List.drop_drop, h, NC, hk, Kp, Nat.add_comm 1]
 show ((szss l ++ szss r) ++ rest).drop (cnts l) = _
 rw [List.append_assoc, ← (TA _ l (Nat.le_refl _)).1, List.drop_left]
theorem FZ {S : List Int} {d w : Int} : ∀ (l : List BoxD) (a : Nat) (rest : List Int), S.drop a = szss l ++ rest → (∀ x ∈ l, Ok x) → 0 ≤ d ∧ d + 100 * (cnts l : Int) ≤ 300000 → wts l ≤ 3000 →
  ∀ t ∈ kts d w a l, TOk S t ∧ t.depth = d ∧ t.way = w
 | [], _, _, _, _, _, _, t, ht => by simp [kts] at ht
 | x :: l, a, rest, h, ho, hd, hw, t, ht => by
  simp only [szss, cnts, wts, List.append_assoc] at h hd hw
  rcases List.mem_cons.1 ht with rfl | ht
  ·refine ⟨⟨by rw [RE]; exact ho x (by simp), ⟨a, _, rfl, by rw [RE]; exact h⟩, ⟨hd.1, ?_⟩, by rw [RE]; omega⟩, rfl, rfl⟩
   rw [RE]
   have h2 := hd.2
   show d + _ ≤ _
   omega
  ·refine FZ l (a + cnt x) rest ?_ (fun y hy => ho y (by simp [hy])) ⟨hd.1, by omega⟩ (by omega) t ht
   rw [← List.drop_drop, h, ← (PL x).1, List.drop_left]
noncomputable def p1 {E : Type} (k0 : Nat → Nat → List ThingD → E) (a3 a4 : Int) (a7 : ThingD) (a8 : Int) (a16 : List Int) (v1 v2 : Nat) (v3 v4 : Int) (v5 : List ThingD) : Option (E ⊕ (Nat × Nat × Int × Int × (List ThingD))) :=
 (bif (decide (v4 < a8)) then ((getI a7.kids v4).bind fun x2 => (bif (apOk v2 1 v5.length 80) then (bif (decide (v2 + 1 ≤ v5.length)) then ((getI a16 v3).bind fun x5 => (some (.inr (v1, v2 + 1, (IntKind.wrap .i64 (v3 + x5)), (IntKind.wrap .i64 (v4 + 1)), (splice v5 v2 [(⟨x2.kind, x2.text, x2.n, x2.kids, a3, a4, v3⟩ : ThingD)]))))) else ((getI a16 v3).bind fun x5 => (some (.inr ((v1 + 1), v2 + 1, (IntKind.wrap .i64 (v3 + x5)), (IntKind.wrap .i64 (v4 + 1)), (v5.take v2 ++ [(⟨x2.kind, x2.text, x2.n, x2.kids, a3, a4, v3⟩ : ThingD)])))))) else none)) else (some (.inl (k0 v1 v2 v5))))
noncomputable def p0 {E : Type} (k0 : List ThingD → E) (a2 : Nat) (v1 v2 : Int) (v3 : List ThingD) : Option (E ⊕ (Int × Int × (List ThingD))) :=
 (bif (decide (v1 < v2)) then ((ixN a2 v2).bind fun x2 => ((v3[x2]?).bind fun x3 => ((ixN a2 v1).bind fun x4 => ((v3[x4]?).bind fun x5 => (((v3.set x4 (⟨x3.kind, x3.text, x3.n, x3.kids, x3.depth, x3.way, x3.at_⟩ : ThingD))[x2]?).bind fun x6 => (some (.inr ((IntKind.wrap .i64 (v1 + 1)), (IntKind.wrap .i64 (v2 - 1)), ((v3.set x4 (⟨x3.kind, x3.text, x3.n, x3.kids, x3.depth, x3.way, x3.at_⟩ : ThingD)).set x2 (⟨x5.kind, x5.text, x5.n, x5.kids, x5.depth, x5.way, x5.at_⟩ : ThingD)))))))))) else (some (.inl (k0 v3))))
theorem l1 {E : Type} (k0 : Nat → Nat → List ThingD → E) {d w : Int} {t : ThingD} {S : List Int} {a : Nat} {rest : List Int} (hS : S.drop a = szs (bt t) ++ rest) (ha : a + cnt (bt t) ≤ 4000000) :
  ∀ (k j gen len : Nat) (row : List ThingD), j + k = t.kids.length → len ≤ row.length → len + k ≤ 4000000 →
   ∃ g' row', runL (fun s => p1 k0 d w t (t.kids.length : Int) S s.1 s.2.1 s.2.2.1 s.2.2.2.1 s.2.2.2.2) (gen, len, ((a + 1 + cnts (t.kids.take j) : Nat) : Int), (j : Int), row) = some (k0 g' (len + k) row') ∧
    row'.take (len + k) = row.take len ++ kts d w (a + 1 + cnts (t.kids.take j)) (t.kids.drop j) ∧ len + k ≤ row'.length
 | 0, j, gen, len, row, hj, hl, hc => by
  obtain rfl : j = t.kids.length := by omega
  refine ⟨gen, row, Zr ?_, by rw [List.drop_length]; simp [kts], hl⟩
  simp only [p1, decide_eq_false (show ¬ (t.kids.length : Int) < (t.kids.length : Int) by omega), cond_false, Nat.add_zero]
 | k + 1, j, gen, len, row, hj, hl, hc => by
  have hx : t.kids[j]? = some (t.kids[j]'(by omega)) := geg _
  have hd : t.kids.drop j = t.kids[j]'(by omega) :: t.kids.drop (j + 1) := List.drop_eq_getElem_cons (by omega)
  generalize t.kids[j]'(by omega) = x at hx hd
  have ht := NE hx
  have hs := Kq hS (t.kids.take j) (t.kids.drop j) (List.take_append_drop j t.kids).symm
  have hkl := YH t.kids
  have hle : cnts (t.kids.take j) + cnts (t.kids.drop j) = cnts t.kids := by rw [← Yw, List.take_append_drop]
  have hct := Yo (bt t)
  rw [bt_k] at hct
  rw [hd] at hs hle ⊢
  simp only [cnts] at hle
  have hi : getI S ((a + 1 + cnts (t.kids.take j) : Nat) : Int) = some ((cnt x : Nat) : Int) := by
   rw [Zs, ← List.head?_drop, hs, szss, NC]
   rfl
  obtain ⟨q1, q2⟩ := put1 (row := row) (⟨x.kind, x.text, x.n, x.kids, d, w, ((a + 1 + cnts (t.kids.take j) : Nat) : Int)⟩ : ThingD) hl
  have hw : IntKind.wrap .i64 (((a + 1 + cnts (t.kids.take j) : Nat) : Int) + ((cnt x : Nat) : Int)) = ((a + 1 + cnts (t.kids.take (j + 1)) : Nat) : Int) := by rw [w_id (by omega), ht]; omega
  have hlt : decide ((j : Int) < (t.kids.length : Int)) = true := decide_eq_true (by omega)
  have hS1 := w_S (show j < 4611686018427387904 by omega)
  by_cases hr : len + 1 ≤ row.length
  ·obtain ⟨g2, row2, k1, k2, k3⟩ := l1 k0 hS ha k (j + 1) gen (len + 1) _ (by omega) (q1 hr).2 (by omega)
   rw [show len + 1 + k = len + (k + 1) by omega] at k1 k2 k3
   refine ⟨g2, row2, ?_, ?_, k3⟩
   ·rw [ZD (s' := (gen, len + 1, ((a + 1 + cnts (t.kids.take (j + 1)) : Nat) : Int), ((j + 1 : Nat) : Int), splice row len [(⟨x.kind, x.text, x.n, x.kids, d, w, ((a + 1 + cnts (t.kids.take j) : Nat) : Int)⟩ : ThingD)])) (by
     simp only [p1, hlt, cond_true, Zs, hx, bsm, ap1 hl (show len ≤ 5000000 by omega) (show 80 ≤ 1000 by omega), decide_eq_true hr, hS1]
     rw [← Zs, hi]
     simp only [bsm, hw])]
    exact k1
   ·rw [k2, (q1 hr).1, List.append_assoc, ht, ← Nat.add_assoc]
    rfl
  ·obtain ⟨g2, row2, k1, k2, k3⟩ := l1 k0 hS ha k (j + 1) (gen + 1) (len + 1) _ (by omega) q2.2 (by omega)
   rw [show len + 1 + k = len + (k + 1) by omega] at k1 k2 k3
   refine ⟨g2, row2, ?_, ?_, k3⟩
   ·rw [ZD (s' := (gen + 1, len + 1, ((a + 1 + cnts (t.kids.take (j + 1)) : Nat) : Int), ((j + 1 : Nat) : Int), row.take len ++ [(⟨x.kind, x.text, x.n, x.kids, d, w, ((a + 1 + cnts (t.kids.take j) : Nat) : Int)⟩ : ThingD)])) (by
     simp only [p1, hlt, cond_true, Zs, hx, bsm, ap1 hl (show len ≤ 5000000 by omega) (show 80 ≤ 1000 by omega), decide_eq_false hr, cond_false, hS1]
     rw [← Zs, hi]
     simp only [bsm, hw])]
    exact k1
   ·rw [k2, q2.1, List.append_assoc, ht, ← Nat.add_assoc]
    rfl
theorem MZ {α : Type} {row pre post : List α} {x : α} {n i : Nat} (h : row.take n = pre ++ x :: post) (hi : i = pre.length) : i < n ∧ row[i]? = some x := by
 subst hi
 have hl := congrArg List.length h
 rw [List.length_take, lap, lcn] at hl
 have hn : pre.length < n := by omega
 exact ⟨hn, PM h hn⟩
theorem l0 {E : Type} (k0 : List ThingD → E) : ∀ (k n : Nat) (row pre m post : List ThingD), m.length ≤ k → row.take n = pre ++ m ++ post → n ≤ row.length → n ≤ 4000000 →
  ∃ row', runL (fun s => p0 k0 n s.1 s.2.1 s.2.2) (((pre.length : Nat) : Int), (((pre.length + m.length : Nat) : Int) - 1), row) = some (k0 row') ∧ row'.take n = pre ++ m.reverse ++ post ∧ row'.length = row.length := by
 intro k
 induction k with
 | zero =>
  intro n row pre m post hm h hn hn2
  obtain rfl : m = [] := enz (by omega)
  refine ⟨row, Zr ?_, h, rfl⟩
  simp only [p0, decide_eq_false (show ¬ ((pre.length : Nat) : Int) < ((pre.length + ([] : List ThingD).length : Nat) : Int) - 1 by simp; omega), cond_false]
 | succ k ih =>
  intro n row pre m post hm h hn hn2
  match m, hm, h with
  | [], hm, h =>
   refine ⟨row, Zr ?_, h, rfl⟩
   simp only [p0, decide_eq_false (show ¬ ((pre.length : Nat) : Int) < ((pre.length + ([] : List ThingD).length : Nat) : Int) - 1 by simp; omega), cond_false]
  | [x], hm, h =>
   refine ⟨row, Zr ?_, h, rfl⟩
   simp only [p0, decide_eq_false (show ¬ ((pre.length : Nat) : Int) < ((pre.length + [x].length : Nat) : Int) - 1 by simp), cond_false]
  | x :: y :: r, hm, h =>
   obtain ⟨m', z, hz⟩ : ∃ m' z, y :: r = m' ++ [z] := ⟨(y :: r).dropLast, (y :: r).getLast (by simp), (List.dropLast_concat_getLast (by simp)).symm⟩
   rw [hz] at h hm ⊢
   have hm2 : m'.length + 1 ≤ k := by simp only [lcn, lap, List.length_nil] at hm; omega
   have e1 : row.take n = pre ++ x :: (m' ++ z :: post) := by rw [h]; simp
   have e2 : row.take n = (pre ++ x :: m') ++ z :: post := by rw [h]; simp
   obtain ⟨i1, i2⟩ := MZ e1 rfl
   obtain ⟨j1, j2⟩ := MZ e2 (show pre.length + 1 + m'.length = _ by simp; omega)
   have e3 := Un (y := z) e1 (by omega)
   have e4 : (row.set pre.length z).take n = (pre ++ z :: m') ++ z :: post := by rw [e3]; simp
   obtain ⟨_, j3⟩ := MZ e4 (show pre.length + 1 + m'.length = _ by simp; omega)
   have e5 := Un (y := x) e4 (by simp; omega)
   rw [show (pre ++ z :: m').length = pre.length + 1 + m'.length by simp; omega] at e5
   have e6 : ((row.set pre.length z).set (pre.length + 1 + m'.length) x).take n = (pre ++ [z]) ++ m' ++ (x :: post) := by rw [e5]; simp
   obtain ⟨row', k1, k2, k3⟩ := ih n _ (pre ++ [z]) m' (x :: post) (by omega) e6 (by simp only [List.length_set]; exact hn) hn2
   refine ⟨row', ?_, by rw [k2]; simp, by rw [k3]; simp⟩
   have w1 : ((pre.length + (x :: (m' ++ [z])).length : Nat) : Int) - 1 = ((pre.length + 1 + m'.length : Nat) : Int) := by simp; omega
   rw [w1, ZD (s' := ((((pre ++ [z]).length : Nat) : Int), (((pre ++ [z]).length + m'.length : Nat) : Int) - 1, (row.set pre.length z).set (pre.length + 1 + m'.length) x)) (by
    have hp : (pre ++ [z]).length = pre.length + 1 := by simp
    simp only [p0, decide_eq_true (show ((pre.length : Nat) : Int) < ((pre.length + 1 + m'.length : Nat) : Int) by omega), cond_true, Uw, if_pos i1, if_pos j1, i2, j2, j3, bsm, hp, w_S (show pre.length < 4611686018427387904 by omega),
     w_id (show -9223372036854775808 ≤ ((pre.length + 1 + m'.length : Nat) : Int) - 1 ∧ ((pre.length + 1 + m'.length : Nat) : Int) - 1 ≤ 9223372036854775807 by omega)])]
   exact k1
structure Put (S : List Int) (d w : Int) (t : ThingD) (row : List ThingD) (len : Nat) (row' : List ThingD) (len' : Nat) : Prop where
 le : len' ≤ row'.length
 ex : ∃ K, row'.take len' = row.take len ++ K ∧ K.map bt = t.kids.reverse ∧ ∀ x ∈ K, TOk S x ∧ x.depth = d ∧ x.way = w
theorem push {E F : Type} (k0 : Nat → Nat → List ThingD → E) (k1 : List ThingD → F) {d w : Int} {t : ThingD} {S : List Int} (gen : Nat) {len : Nat} {row : List ThingD} (hT : TOk S t) (hS : S.length ≤ 3000) (hd : 0 ≤ d ∧ d + 100 * (cnts t.kids : Int) ≤ 300000)
  (hl : len ≤ row.length) (hc : len ≤ 3000) :
  ∃ g' len' row1 row', runL (fun s => p1 k0 d w t (t.kids.length : Int) S s.1 s.2.1 s.2.2.1 s.2.2.2.1 s.2.2.2.2) (gen, len, IntKind.wrap .i64 (t.at_ + 1), 0, row) = some (k0 g' len' row1) ∧
   runL (fun s => p0 k1 len' s.1 s.2.1 s.2.2) (((len : Nat) : Int), IntKind.wrap .i64 (((len' : Nat) : Int) - 1), row1) = some (k1 row') ∧ Put S d w t row len row' len' := by
 obtain ⟨a, rest, h1, h2⟩ := hT.pos
 have hlen := congrArg List.length h2
 rw [List.length_drop, lap, (PL _).1] at hlen
 have hcp := Z9 (bt t)
 have hce := Yo (bt t)
 rw [bt_k] at hce
 have hkl := YH t.kids
 have e0 : ((0 : Nat) : Int) = 0 := rfl
 obtain ⟨g', row1, m1, m2, m3⟩ := l1 k0 (d := d) (w := w) h2 (by omega) t.kids.length 0 gen len row (by omega) hl (by omega)
 have hw : IntKind.wrap .i64 (t.at_ + 1) = ((a + 1 + cnts (t.kids.take 0) : Nat) : Int) := by rw [h1, w_id (by omega), List.take_zero]; simp [cnts]
 rw [e0, ← hw] at m1
 rw [List.drop_zero, List.take_zero] at m2
 have hpl : (row.take len).length = len := by rw [List.length_take]; omega
 have hkl2 : (kts d w (a + 1 + cnts []) t.kids).length = t.kids.length := by
  have := congrArg List.length (Hy d w t.kids (a + 1 + cnts []))
  rwa [List.length_map] at this
 obtain ⟨row', n1, n2, n3⟩ := l0 k1 _ (len + t.kids.length) row1 (row.take len) (kts d w (a + 1 + cnts []) t.kids) [] (Nat.le_refl _) (by rw [m2, List.append_nil]) m3 (by omega)
 rw [hpl, hkl2] at n1
 refine ⟨g', _, row1, row', m1, ?_, by rw [n3]; exact m3, _, by rw [n2, List.append_nil], by rw [List.map_reverse, Hy], ?_⟩
 ·rw [w_id (by omega)]
  exact n1
 ·intro x hx
  refine FZ t.kids (a + 1 + cnts []) rest ?_ (fun y hy => hT.ok.kid hy) hd (by have := hT.wtl; rw [Jr] at this; have e : (bt t).kids = t.kids := rfl; rw [e] at this; omega) x (List.mem_reverse.1 hx)
  exact Kq h2 [] t.kids rfl
section
variable {S : List Int} {d w : Int} {t : ThingD} {row : List ThingD} {len : Nat}
theorem q37 (gen : Nat) (hT : TOk S t) (hS : S.length ≤ 3000) (hd : 0 ≤ d ∧ d + 100 * (cnts t.kids : Int) ≤ 300000) (hl : len ≤ row.length) (hc : len ≤ 3000) :
  ∃ g' len' row', F37 gen len t d w row S = some (.k0 g' len' row') ∧ Put S d w t row len row' len' := by
 obtain ⟨g', len', row1, row', h1, h2, h3⟩ := push E_L37_1.k0 E_L37_0.k0 gen hT hS hd hl hc
 have h1' : runL (fun s => Jk d w t (t.kids.length : Int) S s.1 s.2.1 s.2.2.1 s.2.2.2.1 s.2.2.2.2) (gen, len, IntKind.wrap .i64 (t.at_ + 1), 0, row) = some (.k0 g' len' row1) := h1
 have h2' : runL (fun s => Jl len' s.1 s.2.1 s.2.2) (((len : Nat) : Int), IntKind.wrap .i64 (((len' : Nat) : Int) - 1), row1) = some (.k0 row') := h2
 refine ⟨g', len', row', ?_, h3⟩
 unfold F37
 rw [h1']
 simp only [bsm]
 rw [h2']
 rfl
theorem CZ (gen : Nat) (hT : TOk S t) (hS : S.length ≤ 3000) (hd : 0 ≤ d ∧ d + 100 * (cnts t.kids : Int) ≤ 300000) (hl : len ≤ row.length) (hc : len ≤ 3000) :
  ∃ g' len' row', OQ gen len t d w row S = some (.k0 g' len' row') ∧ Put S d w t row len row' len' := by
 obtain ⟨g', len', row1, row', h1, h2, h3⟩ := push E_L37_1_10.k0 E_L37_0_10.k0 gen hT hS hd hl hc
 have h1' : runL (fun s => WT d w t (t.kids.length : Int) S s.1 s.2.1 s.2.2.1 s.2.2.2.1 s.2.2.2.2) (gen, len, IntKind.wrap .i64 (t.at_ + 1), 0, row) = some (.k0 g' len' row1) := h1
 have h2' : runL (fun s => WU len' s.1 s.2.1 s.2.2) (((len : Nat) : Int), IntKind.wrap .i64 (((len' : Nat) : Int) - 1), row1) = some (.k0 row') := h2
 refine ⟨g', len', row', ?_, h3⟩
 unfold OQ
 rw [h1']
 simp only [bsm]
 rw [h2']
 rfl
theorem C0 (gen : Nat) (hT : TOk S t) (hS : S.length ≤ 3000) (hd : 0 ≤ d ∧ d + 100 * (cnts t.kids : Int) ≤ 300000) (hl : len ≤ row.length) (hc : len ≤ 3000) :
  ∃ g' len' row', SZ gen len t d w S row = some (.k0 g' len' row') ∧ Put S d w t row len row' len' := by
 obtain ⟨g', len', row1, row', h1, h2, h3⟩ := push E_L37_1_12.k0 E_L37_0_12.k0 gen hT hS hd hl hc
 have h1' : runL (fun s => WX d w t (t.kids.length : Int) S s.1 s.2.1 s.2.2.1 s.2.2.2.1 s.2.2.2.2) (gen, len, IntKind.wrap .i64 (t.at_ + 1), 0, row) = some (.k0 g' len' row1) := h1
 have h2' : runL (fun s => WY len' s.1 s.2.1 s.2.2) (((len : Nat) : Int), IntKind.wrap .i64 (((len' : Nat) : Int) - 1), row1) = some (.k0 row') := h2
 refine ⟨g', len', row', ?_, h3⟩
 unfold SZ
 rw [h1']
 simp only [bsm]
 rw [h2']
 rfl
theorem C1 (gen : Nat) (hT : TOk S t) (hS : S.length ≤ 3000) (hd : 0 ≤ d ∧ d + 100 * (cnts t.kids : Int) ≤ 300000) (hl : len ≤ row.length) (hc : len ≤ 3000) :
  ∃ g' len' row', S6 gen len t d w S row = some (.k0 g' len' row') ∧ Put S d w t row len row' len' := by
 obtain ⟨g', len', row1, row', h1, h2, h3⟩ := push E_L37_1_13.k0 E_L37_0_13.k0 gen hT hS hd hl hc
 have h1' : runL (fun s => WZ d w t (t.kids.length : Int) S s.1 s.2.1 s.2.2.1 s.2.2.2.1 s.2.2.2.2) (gen, len, IntKind.wrap .i64 (t.at_ + 1), 0, row) = some (.k0 g' len' row1) := h1
 have h2' : runL (fun s => W0 len' s.1 s.2.1 s.2.2) (((len : Nat) : Int), IntKind.wrap .i64 (((len' : Nat) : Int) - 1), row1) = some (.k0 row') := h2
 refine ⟨g', len', row', ?_, h3⟩
 unfold S6
 rw [h1']
 simp only [bsm]
 rw [h2']
 rfl
theorem F0 (gen : Nat) (hT : TOk S t) (hS : S.length ≤ 3000) (hd : 0 ≤ d ∧ d + 100 * (cnts t.kids : Int) ≤ 300000) (hl : len ≤ row.length) (hc : len ≤ 3000) :
  ∃ g' len' row', QE gen len t d w row S = some (.k0 g' len' row') ∧ Put S d w t row len row' len' := by
 obtain ⟨g', len', row1, row', h1, h2, h3⟩ := push E_L37_1_14.k0 E_L37_0_14.k0 gen hT hS hd hl hc
 have h1' : runL (fun s => W4 d w t (t.kids.length : Int) S s.1 s.2.1 s.2.2.1 s.2.2.2.1 s.2.2.2.2) (gen, len, IntKind.wrap .i64 (t.at_ + 1), 0, row) = some (.k0 g' len' row1) := h1
 have h2' : runL (fun s => W5 len' s.1 s.2.1 s.2.2) (((len : Nat) : Int), IntKind.wrap .i64 (((len' : Nat) : Int) - 1), row1) = some (.k0 row') := h2
 refine ⟨g', len', row', ?_, h3⟩
 unfold QE
 rw [h1']
 simp only [bsm]
 rw [h2']
 rfl
theorem F1 (gen : Nat) (hT : TOk S t) (hS : S.length ≤ 3000) (hd : 0 ≤ d ∧ d + 100 * (cnts t.kids : Int) ≤ 300000) (hl : len ≤ row.length) (hc : len ≤ 3000) :
  ∃ g' len' row', QI gen len t d w row S = some (.k0 g' len' row') ∧ Put S d w t row len row' len' := by
 obtain ⟨g', len', row1, row', h1, h2, h3⟩ := push E_L37_1_15.k0 E_L37_0_15.k0 gen hT hS hd hl hc
 have h1' : runL (fun s => W6 d w t (t.kids.length : Int) S s.1 s.2.1 s.2.2.1 s.2.2.2.1 s.2.2.2.2) (gen, len, IntKind.wrap .i64 (t.at_ + 1), 0, row) = some (.k0 g' len' row1) := h1
 have h2' : runL (fun s => W7 len' s.1 s.2.1 s.2.2) (((len : Nat) : Int), IntKind.wrap .i64 (((len' : Nat) : Int) - 1), row1) = some (.k0 row') := h2
 refine ⟨g', len', row', ?_, h3⟩
 unfold QI
 rw [h1']
 simp only [bsm]
 rw [h2']
 rfl
theorem F2 (gen : Nat) (hT : TOk S t) (hS : S.length ≤ 3000) (hd : 0 ≤ d ∧ d + 100 * (cnts t.kids : Int) ≤ 300000) (hl : len ≤ row.length) (hc : len ≤ 3000) :
  ∃ g' len' row', QM gen len t d w row S = some (.k0 g' len' row') ∧ Put S d w t row len row' len' := by
 obtain ⟨g', len', row1, row', h1, h2, h3⟩ := push E_L37_1_16.k0 E_L37_0_16.k0 gen hT hS hd hl hc
 have h1' : runL (fun s => W8 d w t (t.kids.length : Int) S s.1 s.2.1 s.2.2.1 s.2.2.2.1 s.2.2.2.2) (gen, len, IntKind.wrap .i64 (t.at_ + 1), 0, row) = some (.k0 g' len' row1) := h1
 have h2' : runL (fun s => W9 len' s.1 s.2.1 s.2.2) (((len : Nat) : Int), IntKind.wrap .i64 (((len' : Nat) : Int) - 1), row1) = some (.k0 row') := h2
 refine ⟨g', len', row', ?_, h3⟩
 unfold QM
 rw [h1']
 simp only [bsm]
 rw [h2']
 rfl
theorem F4 (gen : Nat) (hT : TOk S t) (hS : S.length ≤ 3000) (hd : 0 ≤ d ∧ d + 100 * (cnts t.kids : Int) ≤ 300000) (hl : len ≤ row.length) (hc : len ≤ 3000) :
  ∃ g' len' row', QQ gen len t d w row S = some (.k0 g' len' row') ∧ Put S d w t row len row' len' := by
 obtain ⟨g', len', row1, row', h1, h2, h3⟩ := push E_L37_1_17.k0 E_L37_0_17.k0 gen hT hS hd hl hc
 have h1' : runL (fun s => Va d w t (t.kids.length : Int) S s.1 s.2.1 s.2.2.1 s.2.2.2.1 s.2.2.2.2) (gen, len, IntKind.wrap .i64 (t.at_ + 1), 0, row) = some (.k0 g' len' row1) := h1
 have h2' : runL (fun s => Vb len' s.1 s.2.1 s.2.2) (((len : Nat) : Int), IntKind.wrap .i64 (((len' : Nat) : Int) - 1), row1) = some (.k0 row') := h2
 refine ⟨g', len', row', ?_, h3⟩
 unfold QQ
 rw [h1']
 simp only [bsm]
 rw [h2']
 rfl
theorem C2 (hT : TOk S t) (hS : S.length ≤ 3000) (hd : 0 ≤ d ∧ d + 100 * (cnts t.kids : Int) ≤ 300000) :
  ∃ g' len' row', OV t d w S = some (.k0 g' len' row') ∧ Put S d w t [] 0 row' len' := by
 obtain ⟨g', len', row1, row', h1, h2, h3⟩ := push E_L37_1_11.k0 E_L37_0_11.k0 0 hT hS hd (row := []) (len := 0) (w := w) (Nat.le_refl _) (by omega)
 have h1' : runL (fun s => WV d w t (t.kids.length : Int) S s.1 s.2.1 s.2.2.1 s.2.2.2.1 s.2.2.2.2) (0, 0, IntKind.wrap .i64 (t.at_ + 1), 0, []) = some (.k0 g' len' row1) := h1
 have h2' : runL (fun s => WW len' s.1 s.2.1 s.2.2) (0, IntKind.wrap .i64 (((len' : Nat) : Int) - 1), row1) = some (.k0 row') := h2
 refine ⟨g', len', row', ?_, h3⟩
 unfold OV
 rw [h1']
 simp only [bsm]
 rw [h2']
 rfl
end
structure Buf (row : List Int) (len : Nat) (o : List UInt8) : Prop where
 le : len ≤ row.length
 is : row.take len = ints o
theorem M0 (s : ByteArray) : Zj s = ints s.data.toList := rfl
theorem QU (s : ByteArray) : (Zj s).length = s.size := by rw [M0, List.length_map, Wl]
theorem apN {len k n : Nat} (h : len ≤ n) (hb : len + k ≤ 5000000) : apOk len k n 1 = true := decide_eq_true ⟨h, by unfold Zm; omega, by unfold Zm; omega⟩
theorem putN {row : List Int} {len : Nat} {o : List UInt8} (s : List UInt8) (h : Buf row len o) :
  (len + s.length ≤ row.length → Buf (splice row len (ints s)) (len + s.length) (o ++ s)) ∧ Buf (row.take len ++ ints s) (len + s.length) (o ++ s) := by
 have hs : (ints s).length = s.length := List.length_map _
 have ha : ints (o ++ s) = row.take len ++ ints s := by rw [h.is]; simp [ints]
 have hp : (row.take len).length = len := by rw [List.length_take]; have := h.le; omega
 refine ⟨fun hl => ?_, ⟨?_, ?_⟩⟩
 ·obtain ⟨h1, h2⟩ := QT (l := row) (y := ints s) (n := len) (by omega)
  rw [hs] at h1
  exact ⟨by rw [h2]; exact hl, by rw [h1, ha]⟩
 ·rw [lap, hp, hs]; exact Nat.le_refl _
 ·rw [ha]; exact List.take_of_length_le (by rw [lap, hp, hs]; exact Nat.le_refl _)
theorem q42 (v : Bool) : ∃ f, Mv v = some f := by unfold Mv; cases v <;> exact ⟨_, rfl⟩
section
variable {row : List Int} {len : Nat} {o : List UInt8}
theorem C3 (s : ByteArray) (v : Bool) (gen : Nat) (h : Buf row len o) (hb : len + s.size ≤ 5000000) :
  ∃ n fl g' row', Ji s v gen len row = some (.k0 n fl g' row') ∧ Buf row' (len + s.size) (o ++ s.data.toList) := by
 obtain ⟨f, hf⟩ := q42 v
 obtain ⟨p1, p2⟩ := putN s.data.toList h
 rw [Wl, ← M0] at p1 p2
 unfold Ji
 rw [hf]
 simp only [bsm, QU, apN h.le hb, cond_true]
 by_cases hr : len + s.size ≤ row.length
 ·rw [decide_eq_true hr]; exact ⟨_, _, _, _, rfl, p1 hr⟩
 ·rw [decide_eq_false hr]; exact ⟨_, _, _, _, rfl, p2⟩
theorem D5 (t : ThingD) (v : Bool) (gen : Nat) (h : Buf row len o) (hb : len + t.text.size ≤ 5000000) :
  ∃ n fl g' row', Mw t v gen len row = some (.k0 n fl g' row') ∧ Buf row' (len + t.text.size) (o ++ t.text.data.toList) := by
 obtain ⟨f, hf⟩ := q42 v
 obtain ⟨p1, p2⟩ := putN t.text.data.toList h
 rw [Wl, ← M0] at p1 p2
 unfold Mw
 rw [hf]
 simp only [bsm, QU, apN h.le hb, cond_true]
 by_cases hr : len + t.text.size ≤ row.length
 ·rw [decide_eq_true hr]; exact ⟨_, _, _, _, rfl, p1 hr⟩
 ·rw [decide_eq_false hr]; exact ⟨_, _, _, _, rfl, p2⟩
theorem q33 (v : Bool) (gen : Nat) (h : Buf row len o) (hb : len ≤ 4000000) :
  ∃ fl g' row', Jm v gen len row = some (.k0 fl g' row') ∧ Buf row' (len + 1) (o ++ [10]) := by
 obtain ⟨f, hf⟩ := q42 v
 obtain ⟨p1, p2⟩ := putN [10] h
 unfold Jm GH
 rw [hf]
 simp only [bsm, apN h.le (show len + 1 ≤ 5000000 by omega), cond_true]
 by_cases hr : len + 1 ≤ row.length
 ·rw [decide_eq_true hr]; exact ⟨_, _, _, rfl, p1 hr⟩
 ·rw [decide_eq_false hr]; exact ⟨_, _, _, rfl, p2⟩
end
abbrev sp1 : ByteArray := ⟨([32] : List UInt8).toArray⟩
theorem C4 : ∀ n, Lib.repeatL [32] n = List.replicate n 32
 | 0 => rfl
 | n + 1 => by rw [List.replicate_succ, ← C4 n]; rfl
theorem q35 {n : Int} (h : 0 ≤ n ∧ n ≤ 300000) : ∃ s, F35 sp1 n = some s ∧ s.size = n.toNat ∧ brl s.data.toList = [] := by
 have h1 : rpOk sp1 n = true := decide_eq_true ⟨h.1, by omega, by show ((1 : Nat) : Int) * n ≤ _; omega⟩
 have h2 : (repS sp1 n).data.toList = List.replicate n.toNat 32 := by
  show (Lib.repeatL [32] n.toNat).toArray.toList = _
  rw [List.toList_toArray, C4]
 refine ⟨repS sp1 n, by unfold F35; rw [h1]; rfl, by rw [← Wl, h2, List.length_replicate], ?_⟩
 rw [h2]
 unfold brl
 rw [List.filter_replicate]
 rfl
theorem l49 (t : ThingD) : ∀ k : Nat, k ≤ t.text.size → k ≤ 4000000 → ∃ e, runL (fun s => WC t s) ((k : Int) - 1) = some e ∧ (XY t.text = false → e = .k1)
 | 0, _, _ => ⟨.k1, Zr rfl, fun _ => rfl⟩
 | k + 1, h, hb => by
  have hx : t.text.data.toList[k]? = some (t.text.data.toList[k]'(by rw [Wl]; omega)) := geg _
  generalize t.text.data.toList[k]'(by rw [Wl]; omega) = x at hx
  have e1 : ((k + 1 : Nat) : Int) - 1 = (k : Int) := by omega
  have ew : IntKind.wrap .i64 ((k : Int) - 1) = (k : Int) - 1 := w_id (by omega)
  rw [e1]
  by_cases hc : x = 10
  ·refine ⟨.k0 k, Zr ?_, fun hn => ?_⟩
   ·rw [hc] at hx
    simp only [WC, decide_eq_true (show (k : Int) ≥ 0 by omega), cond_true, Zs, hx, bsm]
    rfl
   ·unfold XY at hn
    exact absurd (hc ▸ mog hx) (of_decide_eq_false hn)
  ·have hx10 : ((x.toNat : Int) == 10) = false := by
    have : ¬ x.toNat = 10 := fun e => hc (UInt8.toNat_inj.1 e)
    simpa using fun e => this (by omega)
   obtain ⟨e, k1, k2⟩ := l49 t k (by omega) (by omega)
   refine ⟨e, ?_, k2⟩
   rw [ZD (s' := (k : Int) - 1) (by
    simp only [WC, decide_eq_true (show (k : Int) ≥ 0 by omega), cond_true, Zs, hx, bsm, hx10, cond_false, ew])]
   exact k1
theorem q40 (t : ThingD) (h : t.text.size ≤ 4000000) : ∃ v, Mx t = some v ∧ (XY t.text = false → v = -1) := by
 obtain ⟨e, k1, k2⟩ := l49 t t.text.size (Nat.le_refl _) h
 unfold Mx GC
 rw [w_id (by omega), k1]
 cases e with
 | k0 x => exact ⟨x, rfl, fun hn => by cases k2 hn⟩
 | k1 => exact ⟨-1, rfl, fun _ => rfl⟩
theorem emp {a : ByteArray} (h : a.size = 0) : a = ⟨([] : List UInt8).toArray⟩ := by
 cases a with | mk d => congr 1; exact Array.eq_empty_of_size_eq_zero h
theorem q32 {row : List Int} {len : Nat} {o : List UInt8} (t : ThingD) (v : Bool) (gen : Nat) (col : Int) (fresh : Bool) (h : Buf row len o) (hd : 0 ≤ t.depth ∧ t.depth ≤ 300000) (hs : t.text.size ≤ 3000) (hb : len ≤ 2000000) :
  ∃ fl g' len' col' fr' row' o', I8 t v gen len col fresh row = some (.k0 fl g' len' col' fr' row') ∧ Buf row' len' o' ∧ brl o' = brl o ++ brl t.text.data.toList ∧
   (fresh = false → XY t.text = false → fr' = false ∧ len' = len + t.text.size) ∧ len' ≤ len + 310000 := by
 have pick : ∀ (c1 c2 : Bool) (fl : Bool) (g l : Nat) (d1 d2 d3 : Int) (r : List Int), ∃ d, (bif c1 then some (R_F32_4.k0 fl g l d1 c1 r) else bif c2 then some (R_F32_4.k0 fl g l d2 c1 r) else some (R_F32_4.k0 fl g l d3 c1 r)) = some (R_F32_4.k0 fl g l d c1 r) := by
  intro c1 c2 fl g l d1 d2 d3 r
  cases c1 <;> cases c2 <;> exact ⟨_, rfl⟩
 obtain ⟨x, hx, hx2⟩ := q40 t (by omega)
 unfold I8
 rw [Yt]
 by_cases he : t.text = (⟨([] : List UInt8).toArray⟩ : ByteArray)
 ·rw [decide_eq_true he, he]
  exact ⟨_, _, _, _, _, _, o, rfl, h, by simp [brl], fun hf _ => ⟨hf, rfl⟩, by omega⟩
 ·rw [decide_eq_false he, cond_false]
  have hpos : 0 < t.text.size := by
   rcases Nat.eq_zero_or_pos t.text.size with h0 | h0
   ·exact absurd (emp h0) he
   ·exact h0
  have hfr : XY t.text = false → (x == IntKind.wrap .i64 ((t.text.size : Int) - 1)) = false := fun hn => by
   rw [hx2 hn, w_id (by omega)]
   simp
   omega
  obtain ⟨y, hy⟩ : ∃ y, getI t.text.data.toList 0 = some y := by
   have : t.text.data.toList[0]? = some (t.text.data.toList[0]'(by rw [Wl]; omega)) := geg _
   exact ⟨_, (Zs _ 0).trans this⟩
  cases fresh with
  | false =>
   obtain ⟨n1, f1, g1, r1, k1, k2⟩ := D5 t v gen h (by omega)
   rw [cond_false, k1]
   simp only [bsm, hx, QU]
   obtain ⟨d, hd⟩ := pick (x == IntKind.wrap .i64 ((t.text.size : Int) - 1)) (decide (x ≥ 0)) f1 g1 (len + t.text.size) t.depth (IntKind.wrap .i64 ((IntKind.wrap .i64 ((t.text.size : Int) - 1)) - x)) (IntKind.wrap .i64 (col + (t.text.size : Int))) r1
   exact ⟨_, _, _, _, _, _, _, hd, k2, XD _ _, fun _ hn => ⟨hfr hn, rfl⟩, by omega⟩
  | true =>
   rw [cond_true, hy]
   simp only [bsm]
   cases ((y.toNat : Int) != 10) with
   | false =>
    obtain ⟨n1, f1, g1, r1, k1, k2⟩ := D5 t v gen h (by omega)
    rw [cond_false, k1]
    simp only [bsm, hx, QU]
    obtain ⟨d, hd⟩ := pick (x == IntKind.wrap .i64 ((t.text.size : Int) - 1)) (decide (x ≥ 0)) f1 g1 (len + t.text.size) t.depth (IntKind.wrap .i64 ((IntKind.wrap .i64 ((t.text.size : Int) - 1)) - x)) (IntKind.wrap .i64 (col + (t.text.size : Int))) r1
    exact ⟨_, _, _, _, _, _, _, hd, k2, XD _ _, fun hf => (by cases hf), by omega⟩
   | true =>
    obtain ⟨s, e1, e2, e3⟩ := q35 hd
    obtain ⟨n0, f0, g0, r0, m1, m2⟩ := C3 s v gen h (by omega)
    obtain ⟨n1, f1, g1, r1, k1, k2⟩ := D5 t f0 g0 m2 (by omega)
    rw [cond_true, e1]
    simp only [bsm]
    rw [m1]
    simp only [bsm, QU, k1, hx]
    obtain ⟨d, hd⟩ := pick (x == IntKind.wrap .i64 ((t.text.size : Int) - 1)) (decide (x ≥ 0)) f1 g1 (len + s.size + t.text.size) t.depth (IntKind.wrap .i64 ((IntKind.wrap .i64 ((t.text.size : Int) - 1)) - x)) (IntKind.wrap .i64 (col + (t.text.size : Int))) r1
    exact ⟨_, _, _, _, _, _, _, hd, k2, by rw [XD, XD, e3, List.append_nil], fun hf => (by cases hf), by omega⟩
theorem NG {A E : Type} {step : A → Option (E ⊕ A)} {Inv : Nat → A → Prop} {Post : E → Prop}
  (h : ∀ k s, Inv k s → ∃ r, step s = some r ∧ (∀ s', r = .inr s' → ∃ k', k' < k ∧ Inv k' s') ∧ ∀ e, r = .inl e → Post e) :
  ∀ n k s, k ≤ n → Inv k s → ∃ e, runL step s = some e ∧ Post e := by
 intro n
 induction n with
 | zero =>
  intro k s hk hi
  obtain ⟨r, h1, h2, h3⟩ := h k s hi
  match r, h1, h2, h3 with
  | .inl e, h1, _, h3 => exact ⟨e, Zr h1, h3 e rfl⟩
  | .inr s', _, h2, _ => obtain ⟨k', h4, _⟩ := h2 s' rfl; omega
 | succ n ih =>
  intro k s hk hi
  obtain ⟨r, h1, h2, h3⟩ := h k s hi
  match r, h1, h2, h3 with
  | .inl e, h1, _, h3 => exact ⟨e, Zr h1, h3 e rfl⟩
  | .inr s', h1, h2, _ =>
   obtain ⟨k', h4, h5⟩ := h2 s' rfl
   obtain ⟨e, h6, h7⟩ := ih k' s' (by omega) h5
   exact ⟨e, (ZD h1).trans h6, h7⟩
structure Stk (S : List Int) (fl : Bool) (row : List ThingD) (len : Nat) (bs : List BoxD) : Prop where
 le : len ≤ row.length
 ok : ∀ t ∈ row.take len, TOk S t ∧ (fl = true → t.way = 1)
 is : ((row.take len).map bt).reverse = bs
section
variable {S : List Int} {fl : Bool} {row : List ThingD} {len : Nat} {bs : List BoxD}
theorem Stk.len_le (h : Stk S fl row len bs) : len = bs.length ∧ len ≤ cnts bs := by
 have h1 := congrArg List.length h.is
 rw [List.length_reverse, List.length_map, List.length_take] at h1
 have := h.le
 have := YH bs
 omega
theorem Stk.pop {n : Nat} (h : Stk S fl row (n + 1) bs) : ∃ t bs', bs = bt t :: bs' ∧ row[n]? = some t ∧ TOk S t ∧ (fl = true → t.way = 1) ∧ Stk S fl row n bs' := by
 have hx : row[n]? = some (row[n]'(by have := h.le; omega)) := geg _
 have ht : row.take (n + 1) = row.take n ++ [row[n]'(by have := h.le; omega)] := List.take_succ_eq_append_getElem (by have := h.le; omega)
 generalize row[n]'(by have := h.le; omega) = t at hx ht
 have h1 := h.is
 have h2 := h.ok t (by rw [ht]; simp)
 rw [ht] at h1
 refine ⟨t, _, by rw [← h1]; simp, hx, h2.1, h2.2, ⟨by have := h.le; omega, fun y hy => h.ok y (by rw [ht]; simp [hy]), rfl⟩⟩
theorem Stk.push {d w : Int} {t : ThingD} {row' : List ThingD} {len' : Nat} (h : Stk S fl row len bs) (hp : Put S d w t row len row' len') (hw : fl = true → w = 1) : Stk S fl row' len' (t.kids ++ bs) := by
 obtain ⟨K, k1, k2, k3⟩ := hp.ex
 refine ⟨hp.le, fun y hy => ?_, ?_⟩
 ·rw [k1] at hy
  rcases List.mem_append.1 hy with hy | hy
  ·exact h.ok y hy
  ·obtain ⟨p1, p2, p3⟩ := k3 y hy
   exact ⟨p1, fun hf => by rw [p3]; exact hw hf⟩
 ·rw [k1, List.map_append, k2, List.reverse_append, List.reverse_reverse, h.is]
theorem Stk.nil : Stk S fl [] 0 [] := ⟨Nat.le_refl _, fun t ht => by simp at ht, rfl⟩
end
theorem TOk.txt {S : List Int} {t : ThingD} (h : TOk S t) : t.text.size ≤ 3000 ∧ cnt (bt t) = 1 + cnts t.kids := by
 have h1 := h.wtl
 rw [Jr] at h1
 have e : (bt t).text = t.text := rfl
 rw [e] at h1
 exact ⟨by omega, Yo (bt t)⟩
theorem q47 (s : ByteArray) (h : s.size ≤ 4000000) : ∃ a b c, F47 s = some (.k0 a b c) := by
 have g0 : getI (⟨([10] : List UInt8).toArray⟩ : ByteArray).data.toList 0 = some (10 : UInt8) := rfl
 have e1 : (Int.toNat (((10 : UInt8).toNat : Nat) : Int)).toUInt8 = 10 := by decide
 unfold F47 F55 GP
 by_cases he : (⟨([10] : List UInt8).toArray⟩ : ByteArray) = s
 ·rw [Yt, decide_eq_true he]
  subst he
  exact ⟨_, _, _, rfl⟩
 ·rw [Yt, decide_eq_false he]
  simp only [cond_false, g0, bsm, GN, e1, Go.Lib.firstIdx_eq]
  rcases PN 10 s.data.toList with ⟨h1, h2⟩ | ⟨p, r, h1, h2, h3⟩
  ·rw [h1]
   exact ⟨_, _, _, rfl⟩
  ·have hl := congrArg List.length h1
   rw [Wl, lap, lcn] at hl
   rw [h3]
   simp only [decide_eq_true (show (p.length : Int) ≥ 0 by omega), cond_true, w_S (show p.length < 4611686018427387904 by omega),
    show Iz 0 (p.length : Int) s.size = true from decide_eq_true ⟨by omega, by omega, by omega⟩, show Iz ((p.length + 1 : Nat) : Int) (s.size : Int) s.size = true from decide_eq_true ⟨by omega, by omega, by omega⟩, bsm]
   exact ⟨_, _, _, rfl⟩
def I36 (S : List Int) (a4 : List ThingD) (a8 : Nat) (k : Nat) (s : Int × List ThingD × Nat × List ThingD × Nat × Int) : Prop :=
 ∃ bi bo m, Stk S false s.2.2.2.1 s.2.2.2.2.1 bi ∧ Stk S false a4 m bo ∧ m ≤ a8 ∧ s.2.2.2.2.2 = (m : Int) ∧ cnts bi + cnts bo = k ∧ k ≤ 3000
theorem wd {n : Nat} (h : n < 4611686018427387904) : IntKind.wrap .i64 (((n + 1 : Nat) : Int) - 1) = (n : Int) := by rw [w_id (by omega)]; omega
theorem s36 {S : List Int} {a4 : List ThingD} {a8 : Nat} {a11 : Int} (hS : S.length ≤ 3000) (h8 : a8 ≤ 3000) (k : Nat) (s : Int × List ThingD × Nat × List ThingD × Nat × Int) (hi : I36 S a4 a8 k s) :
  ∃ r, VK a4 a8 S a11 s.1 s.2.1 s.2.2.1 s.2.2.2.1 s.2.2.2.2.1 s.2.2.2.2.2 = some r ∧ (∀ s', r = .inr s' → ∃ k', k' < k ∧ I36 S a4 a8 k' s') ∧ ∀ e, r = .inl e → True := by
 obtain ⟨v1, v2, v3, v4, v5, v6⟩ := s
 obtain ⟨bi, bo, m, h1, h2, h3, h4, h5, h6⟩ := hi
 dsimp only at h1 h2 h3 h4 h5 h6 ⊢
 subst h4
 unfold VK
 by_cases c1 : ¬ v1 ≤ a11
 ·rw [decide_eq_false c1]
  exact ⟨_, rfl, fun s' h => (by cases h), fun _ _ => trivial⟩
 rw [decide_eq_true (Decidable.not_not.1 c1), cond_true]
 match v5, h1 with
 | n + 1, h1 =>
  obtain ⟨t, bs', rfl, p2, p3, _, p5⟩ := h1.pop
  have hl := p5.len_le
  have hct := p3.txt
  simp only [cnts] at h5
  have hpop : OY a4 a8 v4 (n + 1) (m : Int) = some (.k0 t.kind t.text t.n t.kids t.depth t.way t.at_) := by
   unfold OY
   simp only [decide_eq_true (show ((n + 1 : Nat) : Int) > 0 by omega), cond_true, wd (show n < 4611686018427387904 by omega), Uw, if_pos (Nat.lt_succ_self n), bsm, p2,
    show slOk (n : Int) (n + 1) v4.length = true from decide_eq_true ⟨by omega, by have := p5.le; omega, h1.le⟩]
  rw [hpop]
  simp only [bsm, wd (show n < 4611686018427387904 by omega), Int.toNat_natCast]
  have out : ∀ (v1' : Int), ∃ k', k' < k ∧ I36 S a4 a8 k' (v1', v2, v3, v4, n, (m : Int)) := fun v1' => ⟨_, by omega, bs', bo, m, p5, h2, h3, rfl, rfl, by omega⟩
  have psh : ∀ w : Int, ∃ g' len' row', SZ v3 n t 0 w S v4 = some (.k0 g' len' row') ∧ ∃ k', k' < k ∧ I36 S a4 a8 k' (v1, v2, g', row', len', (m : Int)) := fun w => by
   obtain ⟨g', len', row', k1, k2⟩ := C0 (w := w) (d := 0) v3 p3 hS ⟨by omega, by have := p3.dep; omega⟩ p5.le (by omega)
   refine ⟨g', len', row', k1, _, ?_, t.kids ++ bs', bo, m, p5.push k2 (fun h => by cases h), h2, h3, rfl, rfl, ?_⟩
   ·rw [Yw]; omega
   ·rw [Yw]; omega
  cases t.kind == 0 with
  | true =>
   obtain ⟨a, b, c, k1⟩ := q47 t.text (by omega)
   rw [cond_true, k1]
   simp only [bsm]
   cases c with
   | true => exact ⟨_, rfl, fun s' h => (by cases h), fun _ _ => trivial⟩
   | false => exact ⟨_, rfl, fun s' h => (by cases h; exact out _), fun _ _ => trivial⟩
  | false =>
  rw [cond_false]
  cases t.kind == 1 with
  | true =>
   rw [cond_true]
   cases t.way == 0 with
   | true => exact ⟨_, rfl, fun s' h => (by cases h), fun _ _ => trivial⟩
   | false => exact ⟨_, rfl, fun s' h => (by cases h; exact out _), fun _ _ => trivial⟩
  | false =>
  rw [cond_false]
  cases t.kind == 2 with
  | true => exact ⟨_, rfl, fun s' h => (by cases h), fun _ _ => trivial⟩
  | false =>
  rw [cond_false]
  cases t.kind == 4 with
  | true =>
   obtain ⟨g', len', row', k1, k2⟩ := psh 1
   rw [cond_true, k1]
   exact ⟨_, rfl, fun s' h => (by cases h; exact k2), fun _ _ => trivial⟩
  | false =>
   obtain ⟨g', len', row', k1, k2⟩ := psh t.way
   rw [cond_false, k1]
   exact ⟨_, rfl, fun s' h => (by cases h; exact k2), fun _ _ => trivial⟩
 | 0, h1 =>
  match m, h2, h3 with
  | 0, h2, h3 =>
   have hpop : OY a4 a8 v4 0 ((0 : Nat) : Int) = some .k1 := rfl
   rw [hpop]
   exact ⟨_, rfl, fun s' h => (by cases h), fun _ _ => trivial⟩
  | m + 1, h2, h3 =>
   obtain ⟨t, bs', rfl, p2, p3, _, p5⟩ := h2.pop
   have hl := h1.len_le
   have hct := p3.txt
   simp only [cnts] at h5
   have hpop : OY a4 a8 v4 0 ((m + 1 : Nat) : Int) = some (.k2 t.kind t.text t.n t.kids t.depth t.way t.at_) := by
    unfold OY
    simp only [decide_eq_false (show ¬ ((0 : Nat) : Int) > 0 by omega), cond_false, ZH (show ¬ ((m + 1 : Nat) : Int) = 0 by omega), wd (show m < 4611686018427387904 by omega), Uw, if_pos (show m < a8 by omega), bsm, p2]
   rw [hpop]
   simp only [bsm, wd (show m < 4611686018427387904 by omega), Int.toNat_natCast]
   have out : ∀ (v1' : Int), ∃ k', k' < k ∧ I36 S a4 a8 k' (v1', v2, v3, v4, 0, (m : Int)) := fun v1' => ⟨_, by omega, bi, bs', m, h1, p5, by omega, rfl, rfl, by omega⟩
   have psh : ∀ w : Int, ∃ g' len' row', S6 v3 0 t 0 w S v4 = some (.k0 g' len' row') ∧ ∃ k', k' < k ∧ I36 S a4 a8 k' (v1, v2, g', row', len', (m : Int)) := fun w => by
    obtain ⟨g', len', row', k1, k2⟩ := C1 (w := w) (d := 0) v3 p3 hS ⟨by omega, by have := p3.dep; omega⟩ h1.le (by omega)
    refine ⟨g', len', row', k1, _, ?_, t.kids ++ bi, bs', m, h1.push k2 (fun h => by cases h), p5, by omega, rfl, rfl, ?_⟩
    ·rw [Yw]; omega
    ·rw [Yw]; omega
   cases t.kind == 0 with
   | true =>
    obtain ⟨a, b, c, k1⟩ := q47 t.text (by omega)
    rw [cond_true, k1]
    simp only [bsm]
    cases c with
    | true => exact ⟨_, rfl, fun s' h => (by cases h), fun _ _ => trivial⟩
    | false => exact ⟨_, rfl, fun s' h => (by cases h; exact out _), fun _ _ => trivial⟩
   | false =>
   rw [cond_false]
   cases t.kind == 1 with
   | true =>
    rw [cond_true]
    cases t.way == 0 with
    | true => exact ⟨_, rfl, fun s' h => (by cases h), fun _ _ => trivial⟩
    | false => exact ⟨_, rfl, fun s' h => (by cases h; exact out _), fun _ _ => trivial⟩
   | false =>
   rw [cond_false]
   cases t.kind == 2 with
   | true => exact ⟨_, rfl, fun s' h => (by cases h), fun _ _ => trivial⟩
   | false =>
   rw [cond_false]
   cases t.kind == 4 with
   | true =>
    obtain ⟨g', len', row', k1, k2⟩ := psh 1
    rw [cond_true, k1]
    exact ⟨_, rfl, fun s' h => (by cases h; exact k2), fun _ _ => trivial⟩
   | false =>
    obtain ⟨g', len', row', k1, k2⟩ := psh t.way
    rw [cond_false, k1]
    exact ⟨_, rfl, fun s' h => (by cases h; exact k2), fun _ _ => trivial⟩
theorem q36 {S : List Int} {t : ThingD} {row : List ThingD} {len : Nat} {bs : List BoxD} (a11 a12 : Int) (hT : TOk S t) (hS : S.length ≤ 3000) (h : Stk S false row len bs) (hc : cnts (bt t :: bs) ≤ 3000) :
  ∃ e, Hh t row len S a11 a12 = some e := by
 have hct := hT.txt
 simp only [cnts] at hc
 have hl := h.len_le
 obtain ⟨g', len', row', k1, k2⟩ := C2 (w := 1) (d := 0) hT hS ⟨by omega, by have := hT.dep; omega⟩
 have hi : I36 S row len (cnts t.kids + cnts bs) (a12, [], g', row', len', (len : Int)) :=
  ⟨t.kids, bs, len, by simpa using (Stk.nil (S := S) (fl := false)).push k2 (fun h => by cases h), h, Nat.le_refl _, rfl, rfl, by omega⟩
 obtain ⟨e, m1, _⟩ := NG (Post := fun _ => True) (fun k s => s36 (a11 := a11) hS (show len ≤ 3000 by omega) k s) _ _ _ (Nat.le_refl _) hi
 unfold Hh
 rw [k1]
 simp only [bsm]
 have hin : ∃ z, VL a12 row len S a11 g' row' len' ((len : Nat) : Int) = some (.inl z) := by
  unfold VL
  rw [m1]
  cases e <;> exact ⟨_, rfl⟩
 obtain ⟨z, hz⟩ := hin
 rw [Zr hz]
 cases z <;> exact ⟨_, rfl⟩
theorem Hz : ∀ (a b : List BoxD), tbs (a ++ b) = tbs a ++ tbs b
 | [], b => by simp [tbs]
 | t :: a, b => by simp only [List.cons_append, tbs, Hz a b, List.append_assoc]
theorem NH : ∀ (a b : List BoxD), XZ (a ++ b) = (XZ a || XZ b)
 | [], b => by simp [XZ]
 | t :: a, b => by simp only [List.cons_append, XZ, NH a b, Bool.or_assoc]
def I27 (S : List Int) (fl : Bool) (T : List UInt8) (k : Nat) (s : Nat × List ThingD × Bool × Nat × Nat × Nat × Int × Bool × List Int) : Prop :=
 ∃ bs o, Stk S fl s.2.1 s.2.2.2.2.2.1 bs ∧ Buf s.2.2.2.2.2.2.2.2 s.2.2.2.2.1 o ∧ brl o ++ tbs bs = T ∧ cnts bs = k ∧ (k ≤ 3000 ∧ s.2.2.2.2.1 ≤ 2000000) ∧
  (fl = true → s.2.2.2.2.2.2.2.1 = false ∧ s.2.2.2.2.1 + 100 * wts bs ≤ 300000 ∧ XZ bs = false)
def P27 (fl : Bool) (T : List UInt8) (e : E_L27_0) : Prop := match e with
 | .k0 _ _ _ _ v5 _ _ _ v9 => ∃ o, Buf v9 v5 o ∧ (brl o = T ∨ 1048576 < v5) ∧ v5 ≤ 2000000 ∧ (fl = true → v5 ≤ 300000)
theorem s27 {S : List Int} {Ls : List Bool} {fl : Bool} {T : List UInt8} {wi : Int} (hS : S.length ≤ 3000) (hL : Ls.length = S.length) (k : Nat) (s : Nat × List ThingD × Bool × Nat × Nat × Nat × Int × Bool × List Int) (hi : I27 S fl T k s) :
  ∃ r, MR Ls S wi s.1 s.2.1 s.2.2.1 s.2.2.2.1 s.2.2.2.2.1 s.2.2.2.2.2.1 s.2.2.2.2.2.2.1 s.2.2.2.2.2.2.2.1 s.2.2.2.2.2.2.2.2 = some r ∧ (∀ s', r = .inr s' → ∃ k', k' < k ∧ I27 S fl T k' s') ∧ ∀ e, r = .inl e → P27 fl T e := by
 obtain ⟨v1, v2, v3, v4, v5, v6, v7, v8, v9⟩ := s
 obtain ⟨bs, o, h1, h2, h3, h4, h5, h6⟩ := hi
 dsimp only at h1 h2 h3 h4 h5 h6 ⊢
 unfold MR
 match v6, h1 with
 | 0, h1 =>
  have hb : bs = [] := enz h1.len_le.1.symm
  subst hb
  exact ⟨_, rfl, fun s' h => (by cases h), fun e h => (by cases h; exact ⟨o, h2, .inl (by simpa [tbs] using h3), h5.2, fun hf => (by have := h6 hf; omega)⟩)⟩
 | n + 1, h1 =>
 rw [decide_eq_true (show ((n + 1 : Nat) : Int) > 0 by omega), cond_true]
 simp only [GA, bsm]
 by_cases c1 : ¬ ((v5 : Nat) : Int) ≤ 1048576
 ·rw [decide_eq_false c1, cond_false]
  exact ⟨_, rfl, fun s' h => (by cases h), fun e h => (by cases h; exact ⟨o, h2, .inr (by omega), h5.2, fun hf => (by have := h6 hf; omega)⟩)⟩
 rw [decide_eq_true (Decidable.not_not.1 c1), cond_true]
 obtain ⟨t, bs', rfl, p2, p3, p4, p5⟩ := h1.pop
 have hl := p5.len_le
 have hct := p3.txt
 have hdp := p3.dep
 have hk := p3.ok.kd
 have htx : t.kind = 0 ∨ t.text.size = 0 := p3.ok.txt
 have hfew : t.kind < 3 → t.kids = [] := p3.ok.few
 have hn : 0 ≤ t.n ∧ t.n ≤ 100 := p3.ok.nn
 have hwt := Jr (bt t)
 have hhl := MW (bt t)
 have htb := CV (bt t)
 have e1 : (bt t).text = t.text := rfl
 have e2 : (bt t).kids = t.kids := rfl
 have e3 : (bt t).kind = t.kind := rfl
 rw [e1, e2] at hwt htb
 rw [e1, e2, e3] at hhl
 simp only [cnts] at h4
 simp only [tbs, htb, List.append_assoc] at h3
 simp only [wts, XZ, hwt, hhl] at h6
 simp only [wd (show n < 4611686018427387904 by omega), Uw, if_pos (Nat.lt_succ_self n), bsm, p2, show slOk (n : Int) (n + 1) v2.length = true from decide_eq_true ⟨by omega, by have := p5.le; omega, h1.le⟩, cond_true, Int.toNat_natCast]
 have hnt : ¬ t.kind = 0 → brl t.text.data.toList = [] := fun h => by rw [CW (htx.resolve_left h)]; rfl
 have fin : ∀ {d w : Int} {g' len' : Nat} {row' : List ThingD} (f : Bool) (g l : Nat) (c : Int) (fr : Bool) (r : List Int) (o' : List UInt8), Put S d w t v2 n row' len' → Buf r l o' → brl o' = brl o ++ brl t.text.data.toList →
   (fl = true → fr = false ∧ l ≤ v5 + 100 * (1 + t.text.size)) → l ≤ v5 + 310000 → (fl = true → w = 1) → ∃ k', k' < k ∧ I27 S fl T k' (g', row', f, g, l, len', c, fr, r) := by
  intro d w g' len' row' f g l c fr r o' a1 a2 a3 a4 a6 a5
  refine ⟨_, ?_, t.kids ++ bs', o', p5.push a1 a5, a2, ?_, rfl, ?_, fun hf => ?_⟩
  ·rw [Yw]; omega
  ·rw [a3, Hz, List.append_assoc]; exact h3
  ·rw [Yw]; dsimp only; omega
  ·obtain ⟨b1, b2, b3⟩ := h6 hf
   obtain ⟨b4, b5⟩ := a4 hf
   rw [MX, NH]
   refine ⟨b4, by dsimp only; omega, ?_⟩
   revert b3
   cases t.kind == 2 <;> cases XY t.text <;> cases XZ t.kids <;> cases XZ bs' <;> simp
 have hnl : fl = true → XY t.text = false ∧ (t.kind == 2) = false := fun hf => by
  have b3 := (h6 hf).2.2
  revert b3
  cases t.kind == 2 <;> cases XY t.text <;> simp
 have hd0 : 0 ≤ t.depth ∧ t.depth + 100 * (cnts t.kids : Int) ≤ 300000 := ⟨hdp.1, by omega⟩
 have hn3 : n ≤ 3000 := by omega
 have thru : ∀ {d w : Int} {g' len' : Nat} {row' : List ThingD}, ¬ t.kind = 0 → Put S d w t v2 n row' len' → (fl = true → w = 1) → ∃ k', k' < k ∧ I27 S fl T k' (g', row', v3, v4, v5, len', v7, v8, v9) :=
  fun h0 hp hw => fin v3 v4 v5 v7 v8 v9 o hp h2 (by rw [hnt h0, List.append_nil]) (fun hf => ⟨(h6 hf).1, by omega⟩) (by omega) hw
 by_cases c0 : t.kind = 0
 ·obtain ⟨f, g, l, c, fr, r, o', m1, m2, m3, m4, m5⟩ := q32 t v3 v4 v7 v8 h2 ⟨hdp.1, by omega⟩ hct.1 (by omega)
  obtain ⟨g', len', row', k1, k2⟩ := q37 (w := t.way) (d := t.depth) v1 p3 hS hd0 p5.le hn3
  rw [c0, m1]
  simp only [show ((0 : Int) == 0) = true from rfl, cond_true, bsm, k1]
  refine ⟨_, rfl, fun s' h => (by cases h; exact fin f g l c fr r o' k2 m2 m3 (fun hf => ⟨(m4 (h6 hf).1 (hnl hf).1).1, by have := (m4 (h6 hf).1 (hnl hf).1).2; omega⟩) m5 p4), fun e h => (by cases h)⟩
 rw [ZH c0, cond_false]
 by_cases c1 : t.kind = 1
 ·rw [c1, show ((1 : Int) == 1) = true from rfl, cond_true]
  by_cases cw : t.way = 0
  ·obtain ⟨f, g, r, m1, m2⟩ := q33 v3 v4 h2 (by omega)
   rw [cw, m1]
   have hkd := hfew (by omega)
   have hb : brl (o ++ [10]) ++ tbs bs' = T := by rw [← h3, hkd, hnt c0, XD]; simp [brl, tbs]
   exact ⟨_, rfl, fun s' h => (by cases h; exact ⟨cnts bs', by omega, bs', o ++ [10], p5, m2, hb, rfl, by dsimp only; omega, fun hf => absurd (p4 hf) (by omega)⟩), fun e h => (by cases h)⟩
  ·obtain ⟨s, m1, m2, m3⟩ := q35 (n := t.n) (by omega)
   obtain ⟨nn, f, g, r, m4, m5⟩ := C3 s v3 v4 h2 (by omega)
   obtain ⟨g', len', row', k1, k2⟩ := q37 (w := t.way) (d := t.depth) v1 p3 hS hd0 p5.le hn3
   rw [ZH cw, cond_false, m1]
   simp only [bsm, m4, k1, QU]
   exact ⟨_, rfl, fun s' h => (by cases h; exact fin _ _ _ _ _ _ _ k2 m5 (by rw [XD, m3, hnt c0]) (fun hf => ⟨(h6 hf).1, by omega⟩) (by omega) p4), fun e h => (by cases h)⟩
 rw [ZH c1, cond_false]
 by_cases c2 : t.kind = 2
 ·obtain ⟨f, g, r, m1, m2⟩ := q33 v3 v4 h2 (by omega)
  obtain ⟨g', len', row', k1, k2⟩ := CZ (w := t.way) (d := t.depth) v1 p3 hS hd0 p5.le hn3
  have hc2 : (t.kind == 2) = true := by rw [c2]; rfl
  rw [hc2, cond_true, m1]
  simp only [bsm, k1]
  exact ⟨_, rfl, fun s' h => (by cases h; exact fin _ _ _ _ _ _ _ k2 m2 (by rw [XD, hnt c0]; rfl) (fun hf => by have := (hnl hf).2; rw [hc2] at this; cases this) (by omega) p4), fun e h => (by cases h)⟩
 rw [ZH c2, cond_false]
 by_cases c4 : t.kind = 4
 ·have hc4 : (t.kind == 4) = true := by rw [c4]; rfl
  rw [hc4, cond_true]
  by_cases cw : t.way = 1
  ·obtain ⟨g', len', row', k1, k2⟩ := q37 (w := 1) (d := t.depth) v1 p3 hS hd0 p5.le hn3
   rw [show (t.way == 1) = true by rw [cw]; rfl, cond_true, k1]
   exact ⟨_, rfl, fun s' h => (by cases h; exact thru c0 k2 (fun _ => rfl)), fun e h => (by cases h)⟩
  ·have nf : ∀ {P : Prop}, (fl = true → P) := fun hf => absurd (p4 hf) cw
   obtain ⟨y, hy⟩ : ∃ y, getI Ls t.at_ = some y := by
    obtain ⟨a, rest, z1, z2⟩ := p3.pos
    have hlen := congrArg List.length z2
    rw [List.length_drop, lap, (PL _).1] at hlen
    have := Z9 (bt t)
    rw [z1, Zs]
    exact ⟨_, geg (by omega)⟩
   rw [ZH cw, cond_false, hy]
   simp only [bsm]
   cases y with
   | true =>
    obtain ⟨g', len', row', k1, k2⟩ := q37 (w := 0) (d := t.depth) v1 p3 hS hd0 p5.le hn3
    rw [cond_true, k1]
    exact ⟨_, rfl, fun s' h => (by cases h; exact thru c0 k2 nf), fun e h => (by cases h)⟩
   | false =>
    obtain ⟨e, he⟩ := q36 wi v7 p3 hS (show Stk S false v2 n bs' from ⟨p5.le, fun y hy => ⟨(p5.ok y hy).1, fun h => by cases h⟩, p5.is⟩) (by simp only [cnts]; omega)
    rw [cond_false, he]
    simp only [bsm]
    cases e with
    | k0 x0 =>
     cases x0 with
     | true =>
      obtain ⟨g', len', row', k1, k2⟩ := F0 (w := 1) (d := t.depth) v1 p3 hS hd0 p5.le hn3
      simp only [cond_true, k1, bsm]
      exact ⟨_, rfl, fun s' h => (by cases h; exact thru c0 k2 nf), fun e h => (by cases h)⟩
     | false =>
      obtain ⟨g', len', row', k1, k2⟩ := F0 (w := 0) (d := t.depth) v1 p3 hS hd0 p5.le hn3
      simp only [cond_false, k1, bsm]
      exact ⟨_, rfl, fun s' h => (by cases h; exact thru c0 k2 nf), fun e h => (by cases h)⟩
    | k1 x0 =>
     cases x0 with
     | true =>
      obtain ⟨g', len', row', k1, k2⟩ := F1 (w := 1) (d := t.depth) v1 p3 hS hd0 p5.le hn3
      simp only [cond_true, k1, bsm]
      exact ⟨_, rfl, fun s' h => (by cases h; exact thru c0 k2 nf), fun e h => (by cases h)⟩
     | false =>
      obtain ⟨g', len', row', k1, k2⟩ := F1 (w := 0) (d := t.depth) v1 p3 hS hd0 p5.le hn3
      simp only [cond_false, k1, bsm]
      exact ⟨_, rfl, fun s' h => (by cases h; exact thru c0 k2 nf), fun e h => (by cases h)⟩
    | k2 x0 =>
     cases x0 with
     | true =>
      obtain ⟨g', len', row', k1, k2⟩ := F2 (w := 1) (d := t.depth) v1 p3 hS hd0 p5.le hn3
      simp only [cond_true, k1, bsm]
      exact ⟨_, rfl, fun s' h => (by cases h; exact thru c0 k2 nf), fun e h => (by cases h)⟩
     | false =>
      obtain ⟨g', len', row', k1, k2⟩ := F2 (w := 0) (d := t.depth) v1 p3 hS hd0 p5.le hn3
      simp only [cond_false, k1, bsm]
      exact ⟨_, rfl, fun s' h => (by cases h; exact thru c0 k2 nf), fun e h => (by cases h)⟩
    | k3 x0 =>
     cases x0 with
     | true =>
      obtain ⟨g', len', row', k1, k2⟩ := F4 (w := 1) (d := t.depth) v1 p3 hS hd0 p5.le hn3
      simp only [cond_true, k1, bsm]
      exact ⟨_, rfl, fun s' h => (by cases h; exact thru c0 k2 nf), fun e h => (by cases h)⟩
     | false =>
      obtain ⟨g', len', row', k1, k2⟩ := F4 (w := 0) (d := t.depth) v1 p3 hS hd0 p5.le hn3
      simp only [cond_false, k1, bsm]
      exact ⟨_, rfl, fun s' h => (by cases h; exact thru c0 k2 nf), fun e h => (by cases h)⟩
 rw [ZH c4, cond_false]
 by_cases c5 : t.kind = 5
 ·have hc5 : (t.kind == 5) = true := by rw [c5]; rfl
  obtain ⟨g', len', row', k1, k2⟩ := q37 (w := t.way) (d := t.depth + t.n) v1 p3 hS ⟨by omega, by omega⟩ p5.le hn3
  rw [hc5, cond_true, w_id (by omega), k1]
  exact ⟨_, rfl, fun s' h => (by cases h; exact thru c0 k2 p4), fun e h => (by cases h)⟩
 ·obtain ⟨g', len', row', k1, k2⟩ := q37 (w := t.way) (d := t.depth) v1 p3 hS hd0 p5.le hn3
  rw [ZH c5, cond_false, k1]
  exact ⟨_, rfl, fun s' h => (by cases h; exact thru c0 k2 p4), fun e h => (by cases h)⟩
theorem Buf.len {row : List Int} {n : Nat} {o : List UInt8} (h : Buf row n o) : o.length = n := by
 have h1 := congrArg List.length h.is
 rw [List.length_take, List.length_map] at h1
 have := h.le
 omega
theorem q38 {row : List Int} {n : Nat} {o : List UInt8} (h : Buf row n o) (hb : n ≤ 2000000) : F38 n row = some (.k0 ⟨o.toArray⟩) ∨ (o = [] ∧ F38 n row = some (.k1 ByteArray.empty)) := by
 unfold F38
 by_cases c : 0 < n
 ·rw [decide_eq_true c, cond_true, show usOk n row.length = true from decide_eq_true ⟨h.le, by omega⟩, h.is, NF]
  exact .inl rfl
 ·rw [decide_eq_false c]
  exact .inr ⟨enz (by rw [h.len]; omega), rfl⟩
theorem q17 (N : Nat) (b : BoxD) (fl : Bool) (wi w : Int) (h : cnt b ≤ N) (hc : wt b ≤ 3000) (ho : Ok b) (hf : fl = true → w = 1 ∧ hasL b = false) :
  ∃ s, F17 N b wi w = some s ∧ s.size ≤ 2000000 ∧ (brl s.data.toList = tb b ∨ 1048576 < s.size) ∧ (fl = true → s.size ≤ 300000) := by
 have hcw := Ko _ b (Nat.le_refl _)
 have hT : TOk (szs b) ⟨b.kind, b.text, b.n, b.kids, 0, w, 0⟩ := by
  refine ⟨by rw [RE]; exact ho, ⟨0, [], rfl, by rw [RE]; simp⟩, ?_, by rw [RE]; exact hc⟩
  rw [RE]
  show (0 : Int) ≤ 0 ∧ 0 + 100 * (cnt b : Int) ≤ 300000
  omega
 have hi : I27 (szs b) fl (tb b) (cnt b) (0, [(⟨b.kind, b.text, b.n, b.kids, 0, w, 0⟩ : ThingD)], false, 0, 0, 1, 0, false, []) := by
  refine ⟨[b], [], ⟨Nat.le_refl _, fun t ht => ?_, by simp [RE]⟩, ⟨Nat.le_refl _, rfl⟩, by simp [brl, tbs], by simp [cnts], ⟨by omega, by dsimp only; omega⟩, fun h1 => ⟨rfl, ?_, ?_⟩⟩
  ·simp only [List.take_succ_cons, List.take_zero, List.mem_singleton] at ht
   subst ht
   exact ⟨hT, fun h1 => (hf h1).1⟩
  ·simp only [wts]; omega
  ·simp only [XZ, (hf h1).2]; rfl
 have hlen := PL b
 obtain ⟨e, k1, k2⟩ := NG (fun k s => s27 (wi := wi) (show (szs b).length ≤ 3000 by omega) (show (lns b).length = (szs b).length by omega) k s) _ _ _ (Nat.le_refl _) hi
 unfold F17 F27
 rw [q18 N b h (by omega), q26 N b h (by omega)]
 simp only [bsm]
 rw [k1]
 cases e with
 | k0 x0 x1 x2 x3 x4 x5 x6 x7 x8 =>
 obtain ⟨o, m1, m2, m3, m4⟩ := k2
 simp only [bsm]
 rcases q38 m1 m3 with h1 | ⟨h0, h1⟩
 ·rw [h1]
  have hz : (⟨o.toArray⟩ : ByteArray).size = x4 := by rw [← m1.len]; exact List.size_toArray ..
  exact ⟨_, rfl, by rw [hz]; exact m3, by rw [hz]; exact m2, by rw [hz]; exact m4⟩
 ·rw [h1]
  subst h0
  have hz : x4 = 0 := m1.len.symm
  refine ⟨_, rfl, Nat.zero_le _, .inl (m2.resolve_right (by omega)), fun _ => Nat.zero_le _⟩
theorem q7 (N : Nat) (b : BoxD) (m : Int) (h : cnt b ≤ N) (hc : wt b ≤ 3000) (ho : Ok b) (h16 : F16 N b = some 0) :
  (∃ s, F7 N b m = some (.k0 s 2)) ∨ (∃ s, F7 N b m = some (.k0 s 3)) ∨ ∃ s, F7 N b m = some (.k0 s 0) ∧ s.size ≤ 2000000 ∧ brl s.data.toList = tb b := by
 obtain ⟨s, k1, k2, k3, _⟩ := q17 N b false m 0 h hc ho (fun h => by cases h)
 unfold F7
 rw [h16]
 simp only [bsm, show ((0 : Int) != 0) = false from rfl, cond_false, k1]
 by_cases c1 : m < 1
 ·rw [decide_eq_true c1]; exact .inl ⟨_, rfl⟩
 ·rw [decide_eq_false c1, cond_false]
  by_cases c2 : ((s.size : Nat) : Int) > 1048576
  ·rw [decide_eq_true c2]; exact .inr (.inl ⟨_, rfl⟩)
  ·rw [decide_eq_false c2]; exact .inr (.inr ⟨_, rfl, k2, k3.resolve_right (by omega)⟩)
theorem q8 (N : Nat) (b : BoxD) (h : cnt b ≤ N) (hc : wt b ≤ 3000) (ho : Ok b) (h16 : F16 N b = some 0) :
  (∃ s, F8 N b = some (.k0 s false)) ∨ ∃ s, F8 N b = some (.k0 s true) ∧ s.size ≤ 2000000 ∧ brl s.data.toList = tb b := by
 have hcw := Ko _ b (Nat.le_refl _)
 have hg : getI (lns b) 0 = some (hasL b) := by rw [Kn]; rfl
 unfold F8
 rw [h16]
 simp only [bsm, show ((0 : Int) != 0) = false from rfl, cond_false, q18 N b h (by omega), hg]
 cases hh : hasL b with
 | true => exact .inl ⟨_, rfl⟩
 | false =>
  obtain ⟨s, k1, k2, k3, k4⟩ := q17 N b true 1 1 h hc ho (fun _ => ⟨rfl, hh⟩)
  rw [cond_false, k1]
  exact .inr ⟨_, rfl, k2, k3.resolve_right (by have := k4 rfl; omega)⟩
theorem q8n (N : Nat) (b : BoxD) (h16 : F16 N b = some 260) : ∃ s, F8 N b = some (.k0 s false) := by
 unfold F8; rw [h16]; exact ⟨_, rfl⟩
theorem q7n (N : Nat) (b : BoxD) (m : Int) (h16 : F16 N b = some 260) : ∃ s, F7 N b m = some (.k0 s 260) := by
 unfold F7; rw [h16]; exact ⟨_, rfl⟩
theorem law3 (b : BoxD) (hB : Bd b) (m w : Int) : F3 5000 b m w = some true := by
 obtain ⟨v, h1, h2⟩ := q5 5000 b hB (by omega)
 unfold F3
 rw [h1]
 simp only [bsm]
 cases v with
 | false => rfl
 | true =>
 rw [cond_true]
 have hw := h2 rfl
 have hcw := Ko _ b (Nat.le_refl _)
 rcases q16 5000 b (by omega) (by omega) with h3 | ⟨h3, ho⟩
 ·obtain ⟨s1, k1⟩ := q7n 5000 b m h3
  obtain ⟨s2, k2⟩ := q7n 5000 b w h3
  obtain ⟨s3, k3⟩ := q8n 5000 b h3
  rw [k1, k2, k3]
  rfl
 ·obtain ⟨t, m1, m2⟩ := q11 5000 b (by omega) (by omega) h3 (by have := MY _ b (Nat.le_refl _); omega)
  have htz : t.size ≤ 3000 := by
   have := MY _ b (Nat.le_refl _)
   rw [← m2, Wl] at this
   omega
  have m3 : brl t.data.toList = tb b := by rw [m2]; exact CX _ b (Nat.le_refl _) ho
  have q10t := q10 t (by omega)
  rw [m3] at q10t
  have same : ∀ s : ByteArray, s.size ≤ 2000000 → brl s.data.toList = tb b → F10 s = some ⟨(tb b).toArray⟩ := fun s a1 a2 => by rw [q10 s (by omega), a2]
  have hbb : ∀ x : ByteArray, (x.toList == x.toList) = true := fun x => by rw [Yt]; exact decide_eq_true rfl
  have go : ∀ e, e = (0 : Int) ∨ e = 2 ∨ e = 3 → (e == 260) = false := fun e he => by rcases he with rfl | rfl | rfl <;> rfl
  rcases q7 5000 b m (by omega) hw ho h3 with ⟨s1, k1⟩ | ⟨s1, k1⟩ | ⟨s1, k1, a1, a2⟩ <;> rcases q7 5000 b w (by omega) hw ho h3 with ⟨s2, k2⟩ | ⟨s2, k2⟩ | ⟨s2, k2, b1, b2⟩ <;>
   rcases q8 5000 b (by omega) hw ho h3 with ⟨s3, k3⟩ | ⟨s3, k3, c1, c2⟩ <;> rw [k1, k2, k3] <;> try rfl
  ·simp only [bsm, cond_false, F9, show ((0 : Int) == 260) = false from rfl, show ((0 : Int) != 0) = false from rfl, m1, q10t, same s1 a1 a2, same s2 b1 b2, hbb, cond_true, F6]
  ·simp only [bsm, cond_true, F9, show ((0 : Int) == 260) = false from rfl, show ((0 : Int) != 0) = false from rfl, cond_false, m1, q10t, same s1 a1 a2, same s2 b1 b2, same s3 c1 c2, hbb, F6]
end Go.Proofs.Try
