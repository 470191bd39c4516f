/- Sets of bytes, plainly: what they have, the least, what two have together; what the document's Has and With say. -/
import Derived.Test.YtbichljebmhmnaaDoorH7
import Derived.Test.YtbichljebmhmnaaDoorVE
open Option renaming map_some → msm, bind_some → bsm
open List renaming getElem?_eq_some_iff → gei, getElem?_eq_getElem → geg, take_of_length_le → tol, length_map → lmp, length_cons → lcn, mem_cons_of_mem → mcm, mem_cons_self → mcf
namespace Go.Proofs.Tryd
set_option linter.unusedSimpArgs false
set_option linter.unusedVariables false
open Go Go.Vs
theorem get_putW (s : V4) (k l : Nat) (x : BitVec 64) (hk : k < 4) (hl : l < 4) : (s.putW k x).get l = if k = l then x else s.get l := by
 match k, hk, l, hl with
 | 0, _, 0, _ => rfl
 | 0, _, 1, _ => rfl
 | 0, _, 2, _ => rfl
 | 0, _, 3, _ => rfl
 | 1, _, 0, _ => rfl
 | 1, _, 1, _ => rfl
 | 1, _, 2, _ => rfl
 | 1, _, 3, _ => rfl
 | 2, _, 0, _ => rfl
 | 2, _, 1, _ => rfl
 | 2, _, 2, _ => rfl
 | 2, _, 3, _ => rfl
 | 3, _, 0, _ => rfl
 | 3, _, 1, _ => rfl
 | 3, _, 2, _ => rfl
 | 3, _, 3, _ => rfl
 | _ + 4, h, _, _ => exact absurd h (by omega)
 | _, _, _ + 4, h => exact absurd h (by omega)
theorem bit_one (j i : Nat) (hi : i < 64) : (1#64 <<< j).getLsbD i = decide (i = j) := by
 rw [BitVec.getLsbD_shiftLeft]
 by_cases e : i = j
 ·subst e; simp [hi]
 ·by_cases hl : i < j
  ·simp [hl, e]
  ·have : i - j ≠ 0 := by omega
   simp [this, e]
theorem has_put (s : V4) (b c : Nat) (hb : b < 256) (hc : c < 256) : has (put s b) c = (has s c || decide (b = c)) := by
 unfold has put
 rw [get_putW _ _ _ _ (by omega) (by omega)]
 by_cases e : b / 64 = c / 64
 ·rw [if_pos e, BitVec.getLsbD_or, bit_one _ _ (by omega), e]
  congr 1
  rw [decide_eq_decide]
  omega
 ·rw [if_neg e, decide_eq_false (by intro h; rw [h] at e; exact e rfl), Bool.or_false]
theorem V4_ext {x y : V4} (h : ∀ c, c < 256 → has x c = has y c) : x = y := by
 have key : ∀ k, k < 4 → x.get k = y.get k := by
  intro k hk
  apply BitVec.eq_of_getLsbD_eq
  intro i hi
  have := h (64 * k + i) (by omega)
  unfold has at this
  rwa [show (64 * k + i) / 64 = k from by omega, show (64 * k + i) % 64 = i from by omega] at this
 obtain ⟨a, b, c, d⟩ := x
 obtain ⟨e, f, g, i⟩ := y
 have h0 := key 0 (by omega)
 have h1 := key 1 (by omega)
 have h2 := key 2 (by omega)
 have h3 := key 3 (by omega)
 simp only [V4.get] at h0 h1 h2 h3
 subst h0; subst h1; subst h2; subst h3
 rfl
theorem filter_word (s : V4) (k : Nat) (hk : k < 4) : (List.range' (64 * k) 64).filter (has s) = bitsW (s.get k) k := by
 have e : List.range' (64 * k) 64 = (List.range' 0 64).map (64 * k + ·) := by
  rw [List.map_add_range', Nat.add_zero]
 unfold bitsW bits
 rw [e, List.filter_map]
 congr 1
 refine List.filter_congr (fun x hx => ?_)
 have hx' : x < 64 := by have := List.mem_range'_1.1 hx; omega
 simp only [Function.comp, has]
 rw [show (64 * k + x) / 64 = k from by omega, show (64 * k + x) % 64 = x from by omega]
theorem filter_has (s : V4) : (List.range' 0 256).filter (has s) = bytesS s := by
 have e : List.range' 0 256 = List.range' (64 * 0) 64 ++ (List.range' (64 * 1) 64 ++ (List.range' (64 * 2) 64 ++ List.range' (64 * 3) 64)) := by
  rw [show (64 * 2 : Nat) = 128 from rfl, show (64 * 3 : Nat) = 192 from rfl, show (64 * 1 : Nat) = 64 from rfl]
  rw [show (192 : Nat) = 128 + 64 from rfl, List.range'_append_1, show (128 : Nat) = 64 + 64 from rfl, List.range'_append_1, show List.range' 64 (64 + (64 + 64)) = List.range' (0 + 64) (64 + (64 + 64)) from rfl, List.range'_append_1]
 rw [e, List.filter_append, List.filter_append, List.filter_append, filter_word s 0 (by omega), filter_word s 1 (by omega), filter_word s 2 (by omega), filter_word s 3 (by omega)]
 rfl
def V0 : V4 := ⟨0, 0, 0, 0⟩
theorem has_V0 (c : Nat) : has V0 c = false := by
 have : ∀ k, V0.get k = 0#64 := fun k => by match k with | 0 => rfl | 1 => rfl | 2 => rfl | _ + 3 => rfl
 unfold has
 rw [this]
 simp
theorem mem_bytes (s : V4) (c : Nat) : c ∈ bytesS s ↔ c < 256 ∧ has s c = true := by
 rw [← filter_has, List.mem_filter, List.mem_range'_1]
 constructor
 ·rintro ⟨h1, h2⟩; exact ⟨by omega, h2⟩
 ·rintro ⟨h1, h2⟩; exact ⟨by omega, h2⟩
theorem bytes_up (s : V4) : (bytesS s).Pairwise (· < ·) := by
 rw [← filter_has]
 exact (List.pairwise_lt_range' ..).filter _
theorem ne_V0 {s : V4} : s ≠ V0 ↔ ∃ c, c < 256 ∧ has s c = true := by
 constructor
 ·intro h
  refine Classical.byContradiction fun hn => h (V4_ext fun c hc => ?_)
  rw [has_V0]
  cases hh : has s c with
  | false => rfl
  | true => exact absurd ⟨c, hc, hh⟩ hn
 ·rintro ⟨c, _, hh⟩ rfl
  rw [has_V0] at hh; cases hh
theorem lst0_has {s : V4} {c : Nat} (hc : c < 256) (hh : has s c = true) : has s (lst0 s) = true ∧ lst0 s ≤ c := by
 have hm := (mem_bytes s c).2 ⟨hc, hh⟩
 have hu := bytes_up s
 unfold lst0
 cases e : bytesS s with
 | nil => rw [e] at hm; cases hm
 | cons a l =>
  rw [e] at hm hu
  have ha : has s a = true := ((mem_bytes s a).1 (by rw [e]; exact mcf)).2
  refine ⟨ha, ?_⟩
  rcases List.mem_cons.1 hm with h | h
  ·show a ≤ c; omega
  ·exact Nat.le_of_lt (List.rel_of_pairwise_cons hu h)
def mt (x y : V4) : V4 := ⟨x.a &&& y.a, x.b &&& y.b, x.c &&& y.c, x.d &&& y.d⟩
def wo (x y : V4) : V4 := ⟨x.a &&& ~~~ y.a, x.b &&& ~~~ y.b, x.c &&& ~~~ y.c, x.d &&& ~~~ y.d⟩
def V1 : V4 := ⟨18446744073709551615#64, 18446744073709551615#64, 18446744073709551615#64, 18446744073709551615#64⟩
theorem has_mt (x y : V4) (c : Nat) : has (mt x y) c = (has x c && has y c) := by
 have : ∀ k, (mt x y).get k = x.get k &&& y.get k := fun k => by match k with | 0 => rfl | 1 => rfl | 2 => rfl | _ + 3 => rfl
 unfold has
 rw [this, BitVec.getLsbD_and]
theorem has_wo (x y : V4) (c : Nat) : has (wo x y) c = (has x c && !has y c) := by
 have : ∀ k, (wo x y).get k = x.get k &&& ~~~ y.get k := fun k => by match k with | 0 => rfl | 1 => rfl | 2 => rfl | _ + 3 => rfl
 unfold has
 rw [this, BitVec.getLsbD_and, BitVec.getLsbD_not]
 simp [show c % 64 < 64 from by omega]
theorem has_V1 (c : Nat) : has V1 c = true := by
 have : ∀ k, V1.get k = BitVec.allOnes 64 := fun k => by match k with | 0 => rfl | 1 => rfl | 2 => rfl | _ + 3 => rfl
 unfold has
 rw [this, BitVec.getLsbD_allOnes]
 simp [show c % 64 < 64 from by omega]
theorem anI_n (p q : BitVec 64) : anI p.toNat q.toNat = ((p &&& ~~~ q).toNat : Int) := by
 unfold anI
 rw [show (BitVec.ofInt 64 (p.toNat : Int)) = p from by simp, show (BitVec.ofInt 64 (q.toNat : Int)) = q from by simp]
 exact wrap_nat _
theorem F18_v4 (x y : V4) : F18 (toS x) (toS y) = some (toS (mt x y)) := by
 simp only [F18, mapS, toS, andI_n, mt]
theorem F21_v4 (x y : V4) : F21 (toS x) (toS y) = some (toS (wo x y)) := by
 simp only [F21, mapS, toS, anI_n, wo]
theorem F16_v4 : F16 = some (toS V1) := rfl
theorem toS_eta (s : V4) : (⟨(toS s).a, (toS s).b, (toS s).c, (toS s).d⟩ : SetD) = toS s := rfl
theorem eqS (x y : V4) : (((toS x).a == (toS y).a) && (((toS x).b == (toS y).b) && (((toS x).c == (toS y).c) && (((toS x).d == (toS y).d) && true)))) = decide (x = y) := by
 have key : ∀ p q : BitVec 64, (((p.toNat : Nat) : Int) == ((q.toNat : Nat) : Int)) = decide (p = q) := fun p q => by
  rw [show (((p.toNat : Nat) : Int) == ((q.toNat : Nat) : Int)) = decide (((p.toNat : Nat) : Int) = ((q.toNat : Nat) : Int)) from rfl]
  exact decide_eq_decide.2 ⟨fun h => BitVec.eq_of_toNat_eq (by omega), fun h => by rw [h]⟩
 obtain ⟨a, b, c, d⟩ := x
 obtain ⟨e, f, g, i⟩ := y
 simp only [toS, key]
 by_cases h1 : a = e <;> by_cases h2 : b = f <;> by_cases h3 : c = g <;> by_cases h4 : d = i <;> simp [h1, h2, h3, h4]
theorem isZ (x : V4) : (((toS x).a == 0) && (((toS x).b == 0) && (((toS x).c == 0) && (((toS x).d == 0) && true)))) = decide (x = V0) := eqS x V0
def bstep (P : Nat → Bool) (o : V4) (b : Nat) : V4 := if P b then put o b else o
def build (P : Nat → Bool) : V4 := (List.range' 0 256).foldl (bstep P) V0
theorem has_fold (P : Nat → Bool) (c : Nat) (hc : c < 256) : ∀ (n i : Nat) (o : V4), i + n ≤ 256 → has ((List.range' i n).foldl (bstep P) o) c = (has o c || (decide (i ≤ c) && decide (c < i + n) && P c))
 | 0, i, o, _ => by
  have : (decide (i ≤ c) && decide (c < i + 0)) = false := by
   by_cases h : i ≤ c
   ·rw [decide_eq_false (show ¬ c < i + 0 from by omega), Bool.and_false]
   ·rw [decide_eq_false h, Bool.false_and]
  rw [this, Bool.false_and, Bool.or_false]
  rfl
 | n + 1, i, o, h => by
  rw [List.range'_succ, List.foldl_cons, has_fold P c hc n (i + 1) _ (by omega)]
  have e : has (bstep P o i) c = (has o c || (decide (i = c) && P c)) := by
   unfold bstep
   by_cases hp : P i = true
   ·rw [if_pos hp, has_put _ _ _ (by omega) hc]
    by_cases hic : i = c
    ·subst hic; simp [hp]
    ·simp [hic]
   ·rw [if_neg hp]
    by_cases hic : i = c
    ·subst hic; simp [hp]
    ·simp [hic]
  rw [e]
  have e3 : decide (c < i + 1 + n) = decide (c < i + (n + 1)) := by rw [decide_eq_decide]; omega
  rw [e3]
  by_cases hic : i = c
  ·subst hic
   rw [decide_eq_false (show ¬ i + 1 ≤ i from by omega), decide_eq_true (show i ≤ i from by omega), decide_eq_true (show i < i + (n + 1) from by omega)]
   simp
  ·have e4 : decide (i + 1 ≤ c) = decide (i ≤ c) := by rw [decide_eq_decide]; omega
   rw [e4, decide_eq_false hic]
   simp
theorem has_build (P : Nat → Bool) (c : Nat) (hc : c < 256) : has (build P) c = P c := by
 unfold build
 rw [has_fold P c hc 256 0 V0 (by omega), has_V0]
 simp [hc]
def sg (ls : List V4) (b c : Nat) : Bool := ls.all fun s => has s b == has s c
theorem sg_iff {ls : List V4} {b c : Nat} : sg ls b c = true ↔ ∀ s ∈ ls, has s b = has s c := by
 unfold sg
 rw [List.all_eq_true]
 simp
theorem sg_refl (ls : List V4) (b : Nat) : sg ls b b = true := sg_iff.2 fun _ _ => rfl
theorem sg_symm {ls : List V4} {b c : Nat} (h : sg ls b c = true) : sg ls c b = true := sg_iff.2 fun s hs => (sg_iff.1 h s hs).symm
theorem sg_trans {ls : List V4} {a b c : Nat} (h : sg ls a b = true) (k : sg ls b c = true) : sg ls a c = true := sg_iff.2 fun s hs => (sg_iff.1 h s hs).trans (sg_iff.1 k s hs)
theorem sg_eq {ls : List V4} {a b : Nat} (h : sg ls a b = true) (c : Nat) : sg ls a c = sg ls b c := by
 cases h1 : sg ls a c with
 | true => exact (sg_trans (sg_symm h) h1).symm
 | false =>
  cases h2 : sg ls b c with
  | true => rw [sg_trans h h2] at h1; cases h1
  | false => rfl
theorem sg_snoc (ls : List V4) (s : V4) (b c : Nat) : sg (ls ++ [s]) b c = (sg ls b c && (has s b == has s c)) := by simp [sg]
def cls (ls : List V4) (b : Nat) : V4 := build fun c => sg ls b c
theorem has_cls (ls : List V4) (b c : Nat) (hc : c < 256) : has (cls ls b) c = sg ls b c := has_build _ c hc
theorem cls_same {ls : List V4} {b c : Nat} (h : sg ls b c = true) : cls ls b = cls ls c := V4_ext fun d hd => by rw [has_cls _ _ _ hd, has_cls _ _ _ hd, sg_eq h]
theorem cls_ne (ls : List V4) (b : Nat) (hb : b < 256) : cls ls b ≠ V0 := ne_V0.2 ⟨b, hb, by rw [has_cls _ _ _ hb, sg_refl]⟩
def fst1 (ls : List V4) (b : Nat) : Bool := (List.range b).all fun c => !sg ls c b
theorem fst1_iff {ls : List V4} {b : Nat} : fst1 ls b = true ↔ ∀ c, c < b → sg ls c b = false := by
 unfold fst1
 rw [List.all_eq_true]
 simp
theorem lst0_cls {ls : List V4} {b : Nat} (hb : b < 256) (h : fst1 ls b = true) : lst0 (cls ls b) = b := by
 have hh : has (cls ls b) b = true := by rw [has_cls _ _ _ hb, sg_refl]
 obtain ⟨h1, h2⟩ := lst0_has hb hh
 rw [has_cls _ _ _ (by omega)] at h1
 refine Nat.le_antisymm h2 (Nat.le_of_not_lt fun hl => ?_)
 have := fst1_iff.1 h _ hl
 rw [sg_symm h1] at this
 cases this
theorem first_of (ls : List V4) : ∀ (b : Nat), ∃ a, a ≤ b ∧ fst1 ls a = true ∧ sg ls a b = true := by
 intro b
 induction b using Nat.strongRecOn with
 | ind b ih =>
  cases h : fst1 ls b with
  | true => exact ⟨b, Nat.le_refl _, h, sg_refl _ _⟩
  | false =>
   have : ∃ c, c < b ∧ sg ls c b = true := by
    refine Classical.byContradiction fun hn => ?_
    have : fst1 ls b = true := fst1_iff.2 fun c hc => by
     cases hs : sg ls c b with
     | false => rfl
     | true => exact absurd ⟨c, hc, hs⟩ hn
    rw [h] at this; cases this
   obtain ⟨c, hc, hs⟩ := this
   obtain ⟨a, h1, h2, h3⟩ := ih c hc
   exact ⟨a, by omega, h2, sg_trans h3 hs⟩
def fsts (ls : List V4) (n : Nat) : List Nat := (List.range n).filter (fst1 ls)
theorem mem_fsts {ls : List V4} {n b : Nat} : b ∈ fsts ls n ↔ b < n ∧ fst1 ls b = true := by simp [fsts]
theorem fsts_up (ls : List V4) (n : Nat) : (fsts ls n).Pairwise (· < ·) := List.pairwise_lt_range.filter _
def classes (ls : List V4) : List V4 := (fsts ls 256).map (cls ls)
theorem mem_classes {ls : List V4} {p : V4} : p ∈ classes ls ↔ ∃ b, b < 256 ∧ p = cls ls b := by
 unfold classes
 rw [List.mem_map]
 constructor
 ·rintro ⟨b, h1, rfl⟩; exact ⟨b, (mem_fsts.1 h1).1, rfl⟩
 ·rintro ⟨b, h1, rfl⟩
  obtain ⟨a, h2, h3, h4⟩ := first_of ls b
  exact ⟨a, mem_fsts.2 ⟨by omega, h3⟩, cls_same h4⟩
theorem classes_up (ls : List V4) : (classes ls).Pairwise fun p q => lst0 p < lst0 q := by
 unfold classes
 rw [List.pairwise_map]
 refine (fsts_up ls 256).imp_of_mem fun {a b} ha hb hab => ?_
 rw [lst0_cls (mem_fsts.1 ha).1 (mem_fsts.1 ha).2, lst0_cls (mem_fsts.1 hb).1 (mem_fsts.1 hb).2]
 exact hab
theorem up_unique {α : Type} {f : α → Nat} : ∀ {l m : List α}, l.Pairwise (fun p q => f p < f q) → m.Pairwise (fun p q => f p < f q) → (∀ x, x ∈ l ↔ x ∈ m) → l = m
 | [], [], _, _, _ => rfl
 | [], y :: m, _, _, h => by have := (h y).2 mcf; cases this
 | x :: l, [], _, _, h => by have := (h x).1 mcf; cases this
 | x :: l, y :: m, h1, h2, h => by
  have hxy : x = y := by
   have a := (h x).1 mcf
   have b := (h y).2 mcf
   rcases List.mem_cons.1 a with e | e
   ·exact e
   ·rcases List.mem_cons.1 b with e' | e'
    ·exact e'.symm
    ·have := List.rel_of_pairwise_cons h1 e'
     have := List.rel_of_pairwise_cons h2 e
     omega
  subst hxy
  have h1' := List.pairwise_cons.1 h1
  have h2' := List.pairwise_cons.1 h2
  rw [up_unique h1'.2 h2'.2 fun z => ?_]
  constructor
  ·intro hz
   rcases List.mem_cons.1 ((h z).1 (mcm _ hz)) with e | e
   ·subst e; have := h1'.1 _ hz; omega
   ·exact e
  ·intro hz
   rcases List.mem_cons.1 ((h z).2 (mcm _ hz)) with e | e
   ·subst e; have := h2'.1 _ hz; omega
   ·exact e
def Parts (ls P : List V4) : Prop := P.Nodup ∧ ∀ p, p ∈ P ↔ ∃ b, b < 256 ∧ p = cls ls b
theorem parts_inj {ls P : List V4} (h : Parts ls P) {p q : V4} (hp : p ∈ P) (hq : q ∈ P) (e : lst0 p = lst0 q) : p = q := by
 obtain ⟨b, h1, rfl⟩ := (h.2 p).1 hp
 obtain ⟨c, h2, rfl⟩ := (h.2 q).1 hq
 have k1 := (lst0_has h1 (show has (cls ls b) b = true by rw [has_cls _ _ _ h1, sg_refl])).1
 have k2 := (lst0_has h2 (show has (cls ls c) c = true by rw [has_cls _ _ _ h2, sg_refl])).1
 have hlt := lst0_lt (cls ls b)
 rw [has_cls _ _ _ hlt] at k1
 rw [← e, has_cls _ _ _ hlt] at k2
 exact cls_same (sg_trans k1 (sg_symm k2))
theorem parts_len {ls P : List V4} (h : Parts ls P) : P.length ≤ 256 := by
 have h1 : (P.map lst0).Nodup := by
  rw [List.nodup_iff_pairwise_ne, List.pairwise_map]
  refine (List.nodup_iff_pairwise_ne.1 h.1).imp_of_mem fun {a b} ha hb hab e => hab (parts_inj h ha hb e)
 have h2 : (P.map lst0).length ≤ (List.range 256).length := List.Nodup.length_le_of_subset h1 (fun x hx => by
  obtain ⟨p, _, rfl⟩ := List.mem_map.1 hx
  exact List.mem_range.2 (lst0_lt p))
 simpa using h2
open Go Go.Vs Go.Sort Go.Proofs
def addM (A : List V4 × List V4) (x : V4) : List V4 × List V4 := (A.1 ++ [x], if x = V0 ∨ x ∈ A.1 then A.2 else A.2 ++ [x])
def MI (A : List V4 × List V4) : Prop := A.2.Nodup ∧ ∀ x, x ∈ A.2 ↔ x ∈ A.1 ∧ x ≠ V0
theorem MI_add {A : List V4 × List V4} (h : MI A) (x : V4) : MI (addM A x) := by
 obtain ⟨h1, h2⟩ := h
 unfold addM
 by_cases hx : x = V0 ∨ x ∈ A.1
 ·rw [if_pos hx]
  refine ⟨h1, fun y => ?_⟩
  rw [h2 y, List.mem_append, List.mem_singleton]
  constructor
  ·rintro ⟨a, b⟩; exact ⟨.inl a, b⟩
  ·rintro ⟨a | rfl, b⟩
   ·exact ⟨a, b⟩
   ·rcases hx with hx | hx
    ·exact absurd hx b
    ·exact ⟨hx, b⟩
 ·rw [if_neg hx]
  have hx1 : x ≠ V0 := fun e => hx (.inl e)
  have hx2 : x ∉ A.1 := fun e => hx (.inr e)
  refine ⟨?_, fun y => ?_⟩
  ·rw [List.nodup_append]
   refine ⟨h1, by simp, fun a ha b hb e => ?_⟩
   rw [List.mem_singleton] at hb
   subst hb; subst e
   exact hx2 ((h2 a).1 ha).1
  ·rw [List.mem_append, List.mem_singleton, List.mem_append, List.mem_singleton, h2 y]
   constructor
   ·rintro (⟨a, b⟩ | rfl)
    ·exact ⟨.inl a, b⟩
    ·exact ⟨.inr rfl, hx1⟩
   ·rintro ⟨a | rfl, b⟩
    ·exact .inl ⟨a, b⟩
    ·exact .inr rfl
theorem addM_fold1 : ∀ (L : List V4) (A : List V4 × List V4), (L.foldl addM A).1 = A.1 ++ L
 | [], A => by simp
 | x :: L, A => by rw [List.foldl_cons, addM_fold1 L]; simp [addM]
theorem MI_fold : ∀ (L : List V4) (A : List V4 × List V4), MI A → MI (L.foldl addM A)
 | [], _, h => h
 | x :: L, A, h => MI_fold L _ (MI_add h x)
theorem addM_len : ∀ (L : List V4) (A : List V4 × List V4), (L.foldl addM A).2.length ≤ A.2.length + L.length
 | [], A => by simp
 | x :: L, A => by
  rw [List.foldl_cons]
  have := addM_len L (addM A x)
  have h2 : (addM A x).2.length ≤ A.2.length + 1 := by
   unfold addM
   split <;> simp
  rw [lcn]
  omega
def MR (m : List (SetD × Int)) (A : List V4 × List V4) : Prop := ∀ x, mget 0 m (toS x) = (A.1.count x : Int)
theorem MR_add {m : List (SetD × Int)} {A : List V4 × List V4} (h : MR m A) (hl : A.1.length ≤ 100000) (x : V4) : MR (mput (toS x) (IntKind.wrap .i64 (mget 0 m (toS x) + 1)) m) (addM A x) := by
 intro y
 rw [mget_mput]
 have hc : A.1.count x ≤ A.1.length := List.count_le_length
 by_cases e : y = x
 ·subst e
  rw [if_pos rfl, h y, w_S (by omega)]
  simp [addM]
 ·have e2 : toS y ≠ toS x := fun q => e (toS_inj q)
  rw [if_neg e2, h y]
  simp [addM, List.count_append, List.count_singleton, Ne.symm e]
theorem getI_map (L : List V4) (i : Nat) : getI (L.map toS) (i : Int) = (L[i]?).map toS := by rw [getI_nat, List.getElem?_map]
theorem in_step {L : List V4} {i : Nat} {x : V4} (hx : L[i]? = some x) {g : Nat} {m : List (SetD × Int)} {A : List V4 × List V4} (hm : MR m A) (hl : A.1.length ≤ 100000) (hn : A.2.length ≤ 100000) (hL : L.length ≤ 100000) :
  ∃ g', L33_0_10 (L.map toS) ((L.map toS).length : Int) g A.2.length (i : Int) m (A.2.map toS) = some (.inr (g', (addM A x).2.length, ((i + 1 : Nat) : Int), mput (toS x) (IntKind.wrap .i64 (mget 0 m (toS x) + 1)) m, (addM A x).2.map toS)) := by
 have hi : i < L.length := (gei.1 hx).1
 have h1 : decide ((i : Int) < ((L.map toS).length : Int)) = true := decide_eq_true (by rw [lmp]; omega)
 unfold L33_0_10
 rw [h1, getI_map, hx]
 simp only [cond_true, msm, bsm, isZ, toS_eta, w_S (show i < 4611686018427387904 from by omega)]
 have hmg : (mget 0 (mput (toS x) (IntKind.wrap .i64 (mget 0 m (toS x) + 1)) m) (toS x) == 1) = decide (x ∉ A.1) := by
  rw [mget_mput, if_pos rfl, hm x, w_S (by have : A.1.count x ≤ A.1.length := List.count_le_length; omega)]
  rw [show ((((A.1.count x + 1 : Nat) : Int)) == 1) = decide ((((A.1.count x + 1 : Nat) : Int)) = 1) from rfl]
  refine decide_eq_decide.2 ?_
  rw [← List.count_eq_zero]
  omega
 rw [hmg]
 unfold addM
 by_cases h0 : x = V0
 ·rw [if_pos (.inl h0), decide_eq_true h0]
  exact ⟨g, rfl⟩
 ·rw [decide_eq_false h0]
  by_cases h2 : x ∈ A.1
  ·rw [if_pos (.inr h2), decide_eq_false (fun q => q h2)]
   exact ⟨g, rfl⟩
  ·rw [if_neg (fun q => q.elim h0 h2), decide_eq_true h2]
   have hap : apOk A.2.length ([toS x]).length (A.2.map toS).length 32 = true := decide_eq_true (by
    simp only [lmp, List.length_singleton, limit47]
    omega)
   have hlt : decide (A.2.length + ([toS x]).length ≤ (A.2.map toS).length) = false := decide_eq_false (by simp)
   rw [hap, hlt]
   refine ⟨g + 1, ?_⟩
   simp only [Bool.not_false, cond_true, cond_false, List.length_append, List.length_singleton, List.map_append, List.map_cons, List.map_nil]
   rw [tol (by simp)]
theorem in_end {L : List V4} {g n : Nat} {m : List (SetD × Int)} {r : List SetD} : L33_0_10 (L.map toS) ((L.map toS).length : Int) g n (L.length : Int) m r = some (.inl (.k0 g n m r)) := by
 unfold L33_0_10
 rw [decide_eq_false (by simp)]
 rfl
theorem in_run {L : List V4} (hL : L.length ≤ 1000) : ∀ (k i : Nat), i + k = L.length → ∀ (g : Nat) (m : List (SetD × Int)) (A : List V4 × List V4), MR m A → A.1.length + k ≤ 100000 → A.2.length + k ≤ 100000 →
  ∃ g' m', runL (fun s : Nat × Nat × Int × (List (SetD × Int)) × (List SetD) => L33_0_10 (L.map toS) ((L.map toS).length : Int) s.1 s.2.1 s.2.2.1 s.2.2.2.1 s.2.2.2.2) (g, A.2.length, (i : Int), m, A.2.map toS) = some (.k0 g' ((L.drop i).foldl addM A).2.length m' (((L.drop i).foldl addM A).2.map toS)) ∧ MR m' ((L.drop i).foldl addM A)
 | 0, i, hi, g, m, A, hm, hl, hn => by
  obtain rfl : i = L.length := by omega
  rw [List.drop_length]
  exact ⟨g, m, runL_done in_end, hm⟩
 | k + 1, i, hi, g, m, A, hm, hl, hn => by
  have hx : L[i]? = some L[i] := geg (by omega)
  have hd : L.drop i = L[i] :: L.drop (i + 1) := List.drop_eq_getElem_cons (by omega)
  obtain ⟨g1, h1⟩ := in_step hx hm (by omega) (by omega) (by omega) (g := g)
  have ha : (addM A L[i]).2.length ≤ A.2.length + 1 := by unfold addM; split <;> simp
  have hb : (addM A L[i]).1.length = A.1.length + 1 := by simp [addM]
  obtain ⟨g', m', h2, h3⟩ := in_run hL k (i + 1) (by omega) g1 _ (addM A L[i]) (MR_add hm (by omega) L[i]) (by omega) (by omega)
  rw [hd, List.foldl_cons]
  refine ⟨g', m', ?_, h3⟩
  rw [runL_next (step := fun s : Nat × Nat × Int × (List (SetD × Int)) × (List SetD) => L33_0_10 (L.map toS) ((L.map toS).length : Int) s.1 s.2.1 s.2.2.1 s.2.2.2.1 s.2.2.2.2) h1]
  exact h2
def cut (s : V4) (A : List V4 × List V4) (p : V4) : List V4 × List V4 := [mt p s, wo p s].foldl addM A
theorem mid_step {P : List V4} {s p : V4} {i : Nat} (hp : P[i]? = some p) {g : Nat} {m : List (SetD × Int)} {A : List V4 × List V4} (hm : MR m A) (hl : A.1.length ≤ 10000) (hn : A.2.length ≤ 10000) (hP : P.length ≤ 256) :
  ∃ g' m', L33_1_3 P.length ((P.length : Nat) : Int) (P.map toS) (toS s) g A.2.length (i : Int) m (A.2.map toS) = some (.inr (g', (cut s A p).2.length, ((i + 1 : Nat) : Int), m', (cut s A p).2.map toS)) ∧ MR m' (cut s A p) := by
 have hi : i < P.length := (gei.1 hp).1
 obtain ⟨g', m', h1, h2⟩ := in_run (L := [mt p s, wo p s]) (by simp) 2 0 rfl g m A hm (by omega) (by omega)
 refine ⟨g', m', ?_, h2⟩
 unfold L33_1_3
 rw [decide_eq_true (show (i : Int) < ((P.length : Nat) : Int) from by omega), ixN_nat, if_pos hi]
 simp only [cond_true, bsm, List.getElem?_map, hp, msm, F18_v4, F21_v4, toS_eta]
 rw [show ([toS (mt p s), toS (wo p s)] : List SetD) = [mt p s, wo p s].map toS from rfl]
 rw [show ((0 : Nat) : Int) = 0 from rfl] at h1
 rw [h1]
 simp only [bsm, w_S (show i < 4611686018427387904 from by omega)]
 rfl
theorem mid_end {P : List V4} {s : V4} {g n : Nat} {m : List (SetD × Int)} {r : List SetD} : L33_1_3 P.length ((P.length : Nat) : Int) (P.map toS) (toS s) g n (P.length : Int) m r = some (.inl (.k0 g n m r)) := by
 unfold L33_1_3
 rw [decide_eq_false (by omega)]
 rfl
theorem mid_run {P : List V4} {s : V4} (hP : P.length ≤ 256) : ∀ (k i : Nat), i + k = P.length → ∀ (g : Nat) (m : List (SetD × Int)) (A : List V4 × List V4), MR m A → A.1.length ≤ 2 * i → A.2.length ≤ 2 * i →
  ∃ g' m', runL (fun q : Nat × Nat × Int × (List (SetD × Int)) × (List SetD) => L33_1_3 P.length ((P.length : Nat) : Int) (P.map toS) (toS s) q.1 q.2.1 q.2.2.1 q.2.2.2.1 q.2.2.2.2) (g, A.2.length, (i : Int), m, A.2.map toS) = some (.k0 g' ((P.drop i).foldl (cut s) A).2.length m' (((P.drop i).foldl (cut s) A).2.map toS))
 | 0, i, hi, g, m, A, hm, hl, hn => by
  obtain rfl : i = P.length := by omega
  rw [List.drop_length]
  exact ⟨g, m, runL_done mid_end⟩
 | k + 1, i, hi, g, m, A, hm, hl, hn => by
  have hx : P[i]? = some P[i] := geg (by omega)
  have hd : P.drop i = P[i] :: P.drop (i + 1) := List.drop_eq_getElem_cons (by omega)
  obtain ⟨g1, m1, h1, h1m⟩ := mid_step (s := s) hx hm (by omega) (by omega) (by omega) (g := g)
  have ha : (cut s A P[i]).2.length ≤ A.2.length + 2 := addM_len _ _
  have hb : (cut s A P[i]).1.length = A.1.length + 2 := by rw [cut, addM_fold1]; simp
  obtain ⟨g', m', h2⟩ := mid_run hP k (i + 1) (by omega) g1 m1 (cut s A P[i]) h1m (by omega) (by omega)
  rw [hd, List.foldl_cons]
  refine ⟨g', m', ?_⟩
  rw [runL_next (step := fun q : Nat × Nat × Int × (List (SetD × Int)) × (List SetD) => L33_1_3 P.length ((P.length : Nat) : Int) (P.map toS) (toS s) q.1 q.2.1 q.2.2.1 q.2.2.2.1 q.2.2.2.2) h1]
  exact h2
def next (P : List V4) (s : V4) : List V4 := (P.foldl (cut s) ([], [])).2
theorem cut_fold : ∀ (P : List V4) (s : V4) (A : List V4 × List V4), P.foldl (cut s) A = (P.flatMap fun p => [mt p s, wo p s]).foldl addM A
 | [], s, A => rfl
 | p :: P, s, A => by
  rw [List.foldl_cons, cut_fold P s, List.flatMap_cons, List.foldl_append]
  rfl
theorem mem_next (P : List V4) (s : V4) : (next P s).Nodup ∧ ∀ x, x ∈ next P s ↔ x ≠ V0 ∧ ∃ p ∈ P, x = mt p s ∨ x = wo p s := by
 have h := MI_fold (P.flatMap fun p => [mt p s, wo p s]) ([], []) ⟨by simp, by simp⟩
 unfold next
 rw [cut_fold]
 refine ⟨h.1, fun x => ?_⟩
 rw [h.2 x, addM_fold1, List.nil_append, List.mem_flatMap, and_comm]
 simp
theorem parts_next {ls P : List V4} (h : Parts ls P) (s : V4) : Parts (ls ++ [s]) (next P s) := by
 obtain ⟨h1, h2⟩ := mem_next P s
 refine ⟨h1, fun x => ?_⟩
 rw [h2 x]
 constructor
 ·rintro ⟨hx, p, hp, e⟩
  obtain ⟨b, hb, rfl⟩ := (h.2 p).1 hp
  obtain ⟨c, hc, hh⟩ := ne_V0.1 hx
  refine ⟨c, hc, V4_ext fun d hd => ?_⟩
  rw [has_cls _ _ _ hd, sg_snoc]
  rcases e with rfl | rfl
  ·rw [has_mt, has_cls _ _ _ hc, Bool.and_eq_true] at hh
   rw [has_mt, has_cls _ _ _ hd, sg_eq hh.1, hh.2]
   cases has s d <;> rfl
  ·rw [has_wo, has_cls _ _ _ hc, Bool.and_eq_true] at hh
   have h0 : has s c = false := by simpa using hh.2
   rw [has_wo, has_cls _ _ _ hd, sg_eq hh.1, h0]
   cases has s d <;> rfl
 ·rintro ⟨b, hb, rfl⟩
  refine ⟨cls_ne _ _ hb, cls ls b, (h.2 _).2 ⟨b, hb, rfl⟩, ?_⟩
  cases hs : has s b with
  | true =>
   refine .inl (V4_ext fun d hd => ?_)
   rw [has_cls _ _ _ hd, has_mt, has_cls _ _ _ hd, sg_snoc, hs]
   cases has s d <;> rfl
  | false =>
   refine .inr (V4_ext fun d hd => ?_)
   rw [has_cls _ _ _ hd, has_wo, has_cls _ _ _ hd, sg_snoc, hs]
   cases has s d <;> rfl
theorem parts_nil : Parts [] [V1] := by
 refine ⟨by simp, fun p => ?_⟩
 have e : ∀ b, cls [] b = V1 := fun b => V4_ext fun c hc => by rw [has_cls _ _ _ hc, has_V1]; rfl
 rw [List.mem_singleton]
 constructor
 ·intro h; exact ⟨0, by omega, h.trans (e 0).symm⟩
 ·intro h
  obtain ⟨b, h1, h2⟩ := h
  exact h2.trans (e b)
theorem parts_fold : ∀ (q ls P : List V4), Parts ls P → Parts (ls ++ q) (q.foldl next P)
 | [], ls, P, h => by rw [List.append_nil]; exact h
 | s :: q, ls, P, h => by
  have := parts_fold q (ls ++ [s]) _ (parts_next h s)
  rw [List.append_assoc] at this
  exact this
theorem out_step {ls : List V4} {s : V4} {i : Nat} (hs : ls[i]? = some s) (hls : ls.length ≤ 100) {g : Nat} {P : List V4} (hP : P.length ≤ 256) :
  L33_2 (ls.map toS) ((ls.map toS).length : Int) g P.length (i : Int) (P.map toS) = some (.inr (g + 1, (next P s).length, ((i + 1 : Nat) : Int), (next P s).map toS)) := by
 have hi : i < ls.length := (gei.1 hs).1
 obtain ⟨g', m', h1⟩ := mid_run (P := P) (s := s) hP P.length 0 (by omega) 0 [] ([], []) (fun x => by simp [mget, mfind]) (by simp) (by simp)
 unfold L33_2
 rw [decide_eq_true (show (i : Int) < ((ls.map toS).length : Int) from by rw [lmp]; omega), getI_map, hs]
 simp only [cond_true, msm, bsm]
 rw [show ((0 : Nat) : Int) = 0 from rfl, List.drop_zero] at h1
 rw [show (([], []) : List V4 × List V4).2.length = 0 from rfl, show (([], []) : List V4 × List V4).2.map toS = [] from rfl] at h1
 rw [h1]
 simp only [bsm, w_S (show i < 4611686018427387904 from by omega)]
 rfl
theorem out_end {ls : List V4} {g n : Nat} {r : List SetD} : L33_2 (ls.map toS) ((ls.map toS).length : Int) g n (ls.length : Int) r = some (.inl (.k0 g n r)) := by
 unfold L33_2
 rw [decide_eq_false (by simp)]
 rfl
theorem out_run {ls : List V4} (hls : ls.length ≤ 100) : ∀ (k i : Nat), i + k = ls.length → ∀ (g : Nat) (P : List V4), Parts (ls.take i) P →
  ∃ g', runL (fun q : Nat × Nat × Int × (List SetD) => L33_2 (ls.map toS) ((ls.map toS).length : Int) q.1 q.2.1 q.2.2.1 q.2.2.2) (g, P.length, (i : Int), P.map toS) = some (.k0 g' ((ls.drop i).foldl next P).length (((ls.drop i).foldl next P).map toS))
 | 0, i, hi, g, P, hp => by
  obtain rfl : i = ls.length := by omega
  rw [List.drop_length]
  exact ⟨g, runL_done out_end⟩
 | k + 1, i, hi, g, P, hp => by
  have hx : ls[i]? = some ls[i] := geg (by omega)
  have hd : ls.drop i = ls[i] :: ls.drop (i + 1) := List.drop_eq_getElem_cons (by omega)
  have ht : ls.take (i + 1) = ls.take i ++ [ls[i]] := by rw [List.take_add_one, hx]; rfl
  obtain ⟨g', h2⟩ := out_run hls k (i + 1) (by omega) (g + 1) (next P ls[i]) (by rw [ht]; exact parts_next hp _)
  rw [hd, List.foldl_cons]
  refine ⟨g', ?_⟩
  rw [runL_next (step := fun q : Nat × Nat × Int × (List SetD) => L33_2 (ls.map toS) ((ls.map toS).length : Int) q.1 q.2.1 q.2.2.1 q.2.2.2) (out_step hx hls (parts_len hp))]
  exact h2
theorem ltOf_cf (x y : V4) : ltOf cf x y = decide (lst0 x < lst0 y) := by
 unfold ltOf cf
 exact decide_eq_decide.2 (by omega)
theorem srt_parts {ls P : List V4} (h : Parts ls P) : srtK cf P = classes ls := by
 obtain ⟨h1, h2⟩ := srtK_sorts cf_swo P
 have hlen := h1.length_eq
 refine up_unique (f := lst0) ?_ (classes_up ls) fun x => ?_
 ·rw [List.pairwise_iff_getElem]
  intro i j hi hj hij
  have hlt := h2 i j hij (by omega)
  rw [getElem!_pos _ i hi, getElem!_pos _ j hj] at hlt
  rw [ltOf_cf] at hlt
  have hle := of_decide_eq_false hlt
  refine Nat.lt_of_le_of_ne (by omega) fun e => ?_
  have hi' := (h1.mem_iff (a := (srtK cf P)[i])).1 (List.getElem_mem hi)
  have hj' := (h1.mem_iff (a := (srtK cf P)[j])).1 (List.getElem_mem hj)
  have := parts_inj h hi' hj' e
  have hn : (srtK cf P).Nodup := h1.nodup_iff.2 h.1
  exact List.pairwise_iff_getElem.1 (List.nodup_iff_pairwise_ne.1 hn) i j hi hj hij this
 ·rw [h1.mem_iff, h.2 x, mem_classes]
theorem srtR_parts {ls P : List V4} (h : Parts ls P) : srtR (P.map toS) P.length = (classes ls).map toS := by
 unfold srtR
 have e : (P.map toS).map v4 = P := by
  rw [List.map_map]
  conv => rhs; rw [← List.map_id P]
  exact List.map_congr_left fun x _ => v4_toS x
 rw [e, List.take_length, List.drop_length, List.append_nil, srt_parts h]
theorem all_sOk (P : List V4) : (P.map toS).all sOk = true := by
 rw [List.all_eq_true]
 intro x hx
 obtain ⟨y, _, rfl⟩ := List.mem_map.1 hx
 exact sOk_toS y
theorem F33_v4 (ls : List V4) (hls : ls.length ≤ 100) : F33 (ls.map toS) = some ((classes ls).map toS) := by
 obtain ⟨g, h1⟩ := out_run hls ls.length 0 (by omega) 0 [V1] (by rw [List.take_zero]; exact parts_nil)
 rw [List.drop_zero] at h1
 have hp := parts_fold ls [] [V1] parts_nil
 rw [List.nil_append] at hp
 have hl : (classes ls).length = (ls.foldl next [V1]).length := by
  rw [← srt_parts hp, srtK_len cf_swo]
 unfold F33
 rw [F16_v4]
 simp only [bsm, toS_eta]
 rw [show ((0 : Nat) : Int) = 0 from rfl] at h1
 have h1 : runL (fun q : Nat × Nat × Int × (List SetD) => L33_2 (ls.map toS) ((ls.map toS).length : Int) q.1 q.2.1 q.2.2.1 q.2.2.2) (0, 1, 0, [toS V1]) = _ := h1
 rw [h1]
 simp only [bsm]
 have hlen := parts_len hp
 rw [decide_eq_true (show (ls.foldl next [V1]).length ≤ ((ls.foldl next [V1]).map toS).length ∧ ((ls.foldl next [V1]).map toS).length ≤ 1000000 from by rw [lmp]; omega), all_sOk, srtR_parts hp, decide_eq_true (show (ls.foldl next [V1]).length ≤ ((classes ls).map toS).length from by rw [lmp, hl]; omega)]
 show some (((classes ls).map toS).take (ls.foldl next [V1]).length) = _
 rw [tol (by rw [lmp, hl]; omega)]
def WOk (l : List SetD) : Prop := l.all sOk = true
theorem toS_list {l : List SetD} (h : WOk l) : l = (l.map v4).map toS := by
 rw [List.map_map]
 conv => lhs; rw [← List.map_id l]
 exact List.map_congr_left fun s hs => (toS_v4 (List.all_eq_true.1 h s hs)).symm
theorem fsts_len (ls : List V4) (n : Nat) : (fsts ls n).length ≤ n := by
 have := List.length_filter_le (fst1 ls) (List.range n)
 simpa [fsts] using this
theorem classes_len (ls : List V4) : (classes ls).length ≤ 256 := by
 have := fsts_len ls 256
 simpa [classes] using this
def dbl : List V4 → List V4
 | [] => []
 | x :: l => dbl l ++ [x, x]
theorem mem_dbl (x : V4) : ∀ (l : List V4), x ∈ dbl l ↔ x ∈ l
 | [] => by simp [dbl]
 | y :: l => by
  simp only [dbl, List.mem_append, mem_dbl x l, List.mem_cons, List.not_mem_nil, or_false]
  constructor
  ·rintro (h | h | h)
   ·exact .inr h
   ·exact .inl h
   ·exact .inl h
  ·rintro (h | h)
   ·exact .inr (.inl h)
   ·exact .inl h
theorem dbl_len : ∀ (l : List V4), (dbl l).length = 2 * l.length
 | [] => rfl
 | x :: l => by simp only [dbl, List.length_append, dbl_len l, lcn, List.length_nil]; omega
theorem sg_same {l m : List V4} (h : ∀ x, x ∈ l ↔ x ∈ m) : sg l = sg m := by
 funext b c
 have key : ∀ (l m : List V4), (∀ x, x ∈ m → x ∈ l) → sg l b c = true → sg m b c = true := fun l m hm hl => sg_iff.2 fun s hs => sg_iff.1 hl s (hm s hs)
 cases h1 : sg l b c with
 | true => exact (key l m (fun x => (h x).2) h1).symm
 | false =>
  cases h2 : sg m b c with
  | false => rfl
  | true => rw [key m l (fun x => (h x).1) h2] at h1; cases h1
theorem classes_same {l m : List V4} (h : ∀ x, x ∈ l ↔ x ∈ m) : classes l = classes m := by
 have e := sg_same h
 have e1 : cls l = cls m := by funext b; unfold cls; rw [e]
 have e2 : fst1 l = fst1 m := by funext b; unfold fst1; rw [e]
 unfold classes fsts
 rw [e1, e2]
theorem back_run {ls : List V4} (hls : ls.length ≤ 100) : ∀ (i : Nat), i ≤ ls.length → ∀ (g : Nat) (R : List V4), R.length ≤ 1000 - 2 * i → i ≤ 100 →
  ∃ g', runL (fun s : Nat × Nat × Int × (List SetD) => L7_3 (ls.map toS) s.1 s.2.1 s.2.2.1 s.2.2.2) (g, R.length, (i : Int) - 1, R.map toS) = some (.k0 g' (R ++ dbl (ls.take i)).length ((R ++ dbl (ls.take i)).map toS))
 | 0, hi, g, R, hR, _ => by
  refine ⟨g, runL_done ?_⟩
  show L7_3 _ g R.length (((0 : Nat) : Int) - 1) _ = _
  unfold L7_3
  rw [decide_eq_false (show ¬ (((0 : Nat) : Int) - 1 ≥ 0) from by omega)]
  simp [dbl]
 | i + 1, hi, g, R, hR, hi2 => by
  have hx : ls[i]? = some ls[i] := geg (by omega)
  have ht : dbl (ls.take (i + 1)) = [ls[i], ls[i]] ++ dbl (ls.take i) := by
   have key : ∀ (l : List V4) (x : V4), dbl (l ++ [x]) = [x, x] ++ dbl l := by
    intro l x
    induction l with
    | nil => rfl
    | cons y l ih => simp only [List.cons_append, dbl, ih, List.append_assoc]
   rw [List.take_add_one, hx]
   exact key _ _
  have hs : L7_3 (ls.map toS) g R.length (((i + 1 : Nat) : Int) - 1) (R.map toS) = some (.inr (g + 1, (R ++ [ls[i], ls[i]]).length, (i : Int) - 1, (R ++ [ls[i], ls[i]]).map toS)) := by
   unfold L7_3
   rw [show ((i + 1 : Nat) : Int) - 1 = (i : Int) from by omega, decide_eq_true (show (i : Int) ≥ 0 from by omega), getI_map, hx]
   have e1 : apOk R.length ([toS ls[i], toS ls[i]]).length (R.map toS).length 32 = true := decide_eq_true (by
    simp only [lmp, lcn, List.length_nil, limit47]
    omega)
   have e2 : decide (R.length + ([toS ls[i], toS ls[i]]).length ≤ (R.map toS).length) = false := decide_eq_false (by simp)
   have e3 : IntKind.wrap .i64 ((i : Int) - 1) = (i : Int) - 1 := w_id (by omega)
   simp only [cond_true, msm, bsm, toS_eta, e1, e2, cond_false, e3]
   rw [tol (by simp)]
   simp
  obtain ⟨g', h2⟩ := back_run hls i (by omega) (g + 1) (R ++ [ls[i], ls[i]]) (by simp; omega) (by omega)
  refine ⟨g', ?_⟩
  have h4 := runL_next (step := fun s : Nat × Nat × Int × (List SetD) => L7_3 (ls.map toS) s.1 s.2.1 s.2.2.1 s.2.2.2) (s := (g, R.length, ((i + 1 : Nat) : Int) - 1, R.map toS)) (s' := (g + 1, (R ++ [ls[i], ls[i]]).length, (i : Int) - 1, (R ++ [ls[i], ls[i]]).map toS)) hs
  rw [h4, h2, ht, List.append_assoc]
def jn (x y : V4) : V4 := ⟨x.a ||| y.a, x.b ||| y.b, x.c ||| y.c, x.d ||| y.d⟩
theorem has_jn (x y : V4) (c : Nat) : has (jn x y) c = (has x c || has y c) := by
 have : ∀ k, (jn x y).get k = x.get k ||| y.get k := fun k => by match k with | 0 => rfl | 1 => rfl | 2 => rfl | _ + 3 => rfl
 unfold has
 rw [this, BitVec.getLsbD_or]
def uV (l : List V4) : V4 := l.foldl jn V0
theorem has_uV (c : Nat) : ∀ (l : List V4) (o : V4), has (l.foldl jn o) c = (has o c || l.any fun x => has x c)
 | [], o => by simp
 | x :: l, o => by rw [List.foldl_cons, has_uV c l, has_jn, List.any_cons, Bool.or_assoc]
theorem uV_same {l m : List V4} (h : ∀ x, x ∈ l ↔ x ∈ m) : uV l = uV m := V4_ext fun c hc => by
 unfold uV
 rw [has_uV, has_uV]
 congr 1
 rw [Bool.eq_iff_iff, List.any_eq_true, List.any_eq_true]
 constructor
 ·rintro ⟨x, h1, h2⟩; exact ⟨x, (h x).1 h1, h2⟩
 ·rintro ⟨x, h1, h2⟩; exact ⟨x, (h x).2 h1, h2⟩
theorem or_w (p q : BitVec 64) : IntKind.wrap .u64 ((BitVec.ofInt (IntKind.bits .u64) (p.toNat : Int) ||| BitVec.ofInt (IntKind.bits .u64) (q.toNat : Int)).toNat : Int) = ((p ||| q).toNat : Int) := orI_n p q
theorem u_in (x o : V4) : runL (fun s : Int × Int × Int × Int × Int => L20_0_3 (toS x) s.1 s.2.1 s.2.2.1 s.2.2.2.1 s.2.2.2.2) (0, (toS o).a, (toS o).b, (toS o).c, (toS o).d) = some (.k0 (toS (jn o x)).a (toS (jn o x)).b (toS (jn o x)).c (toS (jn o x)).d) := by
 have e0 : L20_0_3 (toS x) 0 (toS o).a (toS o).b (toS o).c (toS o).d = some (.inr (1, (toS (jn o x)).a, (toS o).b, (toS o).c, (toS o).d)) := by
  unfold L20_0_3
  simp only [toS, or_w]
  rfl
 have e1 : L20_0_3 (toS x) 1 (toS (jn o x)).a (toS o).b (toS o).c (toS o).d = some (.inr (2, (toS (jn o x)).a, (toS (jn o x)).b, (toS o).c, (toS o).d)) := by
  unfold L20_0_3
  simp only [toS, or_w]
  rfl
 have e2 : L20_0_3 (toS x) 2 (toS (jn o x)).a (toS (jn o x)).b (toS o).c (toS o).d = some (.inr (3, (toS (jn o x)).a, (toS (jn o x)).b, (toS (jn o x)).c, (toS o).d)) := by
  unfold L20_0_3
  simp only [toS, or_w]
  rfl
 have e3 : L20_0_3 (toS x) 3 (toS (jn o x)).a (toS (jn o x)).b (toS (jn o x)).c (toS o).d = some (.inr (4, (toS (jn o x)).a, (toS (jn o x)).b, (toS (jn o x)).c, (toS (jn o x)).d)) := by
  unfold L20_0_3
  simp only [toS, or_w]
  rfl
 have nx := fun (i : Int) (a b c d : Int) (i' a' b' c' d' : Int) (h : L20_0_3 (toS x) i a b c d = some (.inr (i', a', b', c', d'))) => runL_next (step := fun s : Int × Int × Int × Int × Int => L20_0_3 (toS x) s.1 s.2.1 s.2.2.1 s.2.2.2.1 s.2.2.2.2) (s := (i, a, b, c, d)) (s' := (i', a', b', c', d')) h
 rw [nx _ _ _ _ _ _ _ _ _ _ e0, nx _ _ _ _ _ _ _ _ _ _ e1, nx _ _ _ _ _ _ _ _ _ _ e2, nx _ _ _ _ _ _ _ _ _ _ e3]
 exact runL_done rfl
theorem u_run {ls : List V4} (hls : ls.length ≤ 1000) : ∀ (k i : Nat), i + k = ls.length → ∀ (o : V4),
  runL (fun s : Int × Int × Int × Int × Int => L20_1 (ls.map toS) ((ls.map toS).length : Int) s.1 s.2.1 s.2.2.1 s.2.2.2.1 s.2.2.2.2) ((i : Int), (toS o).a, (toS o).b, (toS o).c, (toS o).d) =
   some (.k0 (toS ((ls.drop i).foldl jn o)).a (toS ((ls.drop i).foldl jn o)).b (toS ((ls.drop i).foldl jn o)).c (toS ((ls.drop i).foldl jn o)).d)
 | 0, i, hi, o => by
  obtain rfl : i = ls.length := by omega
  rw [List.drop_length]
  refine runL_done ?_
  show L20_1 _ _ (ls.length : Int) _ _ _ _ = _
  unfold L20_1
  rw [decide_eq_false (by simp)]
  rfl
 | k + 1, i, hi, o => by
  have hx : ls[i]? = some ls[i] := geg (by omega)
  have hd : ls.drop i = ls[i] :: ls.drop (i + 1) := List.drop_eq_getElem_cons (by omega)
  have hs : L20_1 (ls.map toS) ((ls.map toS).length : Int) (i : Int) (toS o).a (toS o).b (toS o).c (toS o).d = some (.inr (((i + 1 : Nat) : Int), (toS (jn o ls[i])).a, (toS (jn o ls[i])).b, (toS (jn o ls[i])).c, (toS (jn o ls[i])).d)) := by
   unfold L20_1
   rw [decide_eq_true (show (i : Int) < ((ls.map toS).length : Int) from by rw [lmp]; omega), getI_map, hx]
   simp only [cond_true, msm, bsm]
   rw [u_in]
   simp only [bsm, w_S (show i < 4611686018427387904 from by omega)]
  have h4 := runL_next (step := fun s : Int × Int × Int × Int × Int => L20_1 (ls.map toS) ((ls.map toS).length : Int) s.1 s.2.1 s.2.2.1 s.2.2.2.1 s.2.2.2.2) (s := ((i : Int), (toS o).a, (toS o).b, (toS o).c, (toS o).d)) (s' := (((i + 1 : Nat) : Int), (toS (jn o ls[i])).a, (toS (jn o ls[i])).b, (toS (jn o ls[i])).c, (toS (jn o ls[i])).d)) hs
  rw [hd, List.foldl_cons]
  exact h4.trans (u_run hls k (i + 1) (by omega) _)
theorem F20_v4 (ls : List V4) (hls : ls.length ≤ 1000) : F20 (ls.map toS) = some (.k0 (toS (uV ls)).a (toS (uV ls)).b (toS (uV ls)).c (toS (uV ls)).d) := by
 have h := u_run hls ls.length 0 (by omega) V0
 rw [List.drop_zero] at h
 have h : runL (fun s : Int × Int × Int × Int × Int => L20_1 (ls.map toS) ((ls.map toS).length : Int) s.1 s.2.1 s.2.2.1 s.2.2.2.1 s.2.2.2.2) (0, 0, 0, 0, 0) = some (.k0 (toS (uV ls)).a (toS (uV ls)).b (toS (uV ls)).c (toS (uV ls)).d) := h
 unfold F20
 rw [h]
 rfl
theorem all_true {α : Type} : ∀ (l : List α) (i : Nat), allF (fun _ _ => true) i l = true
 | [], _ => rfl
 | _ :: l, i => by simp only [allF, all_true l (i + 1), Bool.and_self]
theorem q7_2 {w : List V4} (hw : w.length ≤ 256) : runL (fun s => L7_2 (w.map toS) (w.map toS) s) 0 = some .k1 := by
 have := loop_list (step := fun s => L7_2 (w.map toS) (w.map toS) s) (l := w) (fun _ _ => true) (bad := .k0) (fin := .k1) (fun i x hx => by
  have hi : i < w.length := (gei.1 hx).1
  unfold L7_2
  rw [decide_eq_true (show (i : Int) < ((w.map toS).length : Int) from by rw [lmp]; omega)]
  simp only [cond_true, getI_map, hx, msm, bsm, eqS, decide_true, Bool.not_true, cond_false, w_S (show i < 4611686018427387904 from by omega)]) (by
  show L7_2 _ _ (w.length : Int) = _
  unfold L7_2
  rw [decide_eq_false (by simp)]
  rfl)
 rw [this, all_true]
 rfl
theorem F22_v4 (x y : V4) : F22 (toS x) (toS y) = some (decide (wo x y = V0)) := by
 unfold F22
 rw [F21_v4]
 simp only [bsm, isZ]
theorem wo_V0 {x y : V4} : wo x y = V0 ↔ ∀ c, c < 256 → has x c = true → has y c = true := by
 constructor
 ·intro h c hc hx
  have := has_wo x y c
  rw [h, has_V0, hx] at this
  cases hy : has y c with
  | true => rfl
  | false => rw [hy] at this; cases this
 ·intro h
  refine V4_ext fun c hc => ?_
  rw [has_wo, has_V0]
  cases hx : has x c with
  | false => rfl
  | true => rw [h c hc hx]; rfl
theorem sg_tail {s : V4} {tl : List V4} {b c : Nat} (h : sg (s :: tl) b c = true) : sg tl b c = true := sg_iff.2 fun x hx => sg_iff.1 h x (mcm _ hx)
theorem in_one {s : V4} {tl : List V4} {p : V4} (hp : p ∈ classes (s :: tl)) : ∃ q ∈ classes tl, ∀ r ∈ classes tl, wo p r = V0 ↔ r = q := by
 obtain ⟨b, hb, rfl⟩ := mem_classes.1 hp
 refine ⟨cls tl b, mem_classes.2 ⟨b, hb, rfl⟩, fun r hr => ?_⟩
 obtain ⟨d, hd, rfl⟩ := mem_classes.1 hr
 rw [wo_V0]
 constructor
 ·intro h
  have := h b hb (by rw [has_cls _ _ _ hb, sg_refl])
  rw [has_cls _ _ _ hb] at this
  exact cls_same this
 ·intro h c hc hx
  rw [has_cls _ _ _ hc] at hx
  rw [h, has_cls _ _ _ hc]
  exact sg_tail hx
theorem classes_nodup (ls : List V4) : (classes ls).Nodup := by
 rw [List.nodup_iff_pairwise_ne]
 exact (classes_up ls).imp fun {a b} h e => by subst e; omega
theorem filter_none' {q : V4} : ∀ {l : List V4}, q ∉ l → l.filter (fun r => r == q) = []
 | [], _ => rfl
 | x :: l, h => by
  have hx : ¬ x = q := fun e => h (by rw [e]; exact mcf)
  rw [List.filter_cons, show (x == q) = false from decide_eq_false hx, if_neg (by decide)]
  exact filter_none' fun k => h (mcm _ k)
theorem filter_one {q : V4} : ∀ {l : List V4}, l.Nodup → q ∈ l → (l.filter fun r => r == q).length = 1
 | [], _, h => by cases h
 | x :: l, hn, h => by
  have hn' := List.nodup_cons.1 hn
  by_cases hx : x = q
  ·subst hx
   rw [List.filter_cons, show (x == x) = true from decide_eq_true rfl, if_pos rfl, filter_none' hn'.1]
   rfl
  ·rw [List.filter_cons, show (x == q) = false from decide_eq_false hx, if_neg (by decide)]
   exact filter_one hn'.2 ((List.mem_cons.1 h).resolve_left fun e => hx e.symm)
theorem count_one {s : V4} {tl : List V4} {p : V4} (hp : p ∈ classes (s :: tl)) : ((classes tl).filter fun q => decide (wo p q = V0)).length = 1 := by
 obtain ⟨q, hq, h⟩ := in_one hp
 have e : (classes tl).filter (fun r => decide (wo p r = V0)) = (classes tl).filter (fun r => r == q) := by
  refine List.filter_congr fun r hr => ?_
  rw [show (r == q) = decide (r = q) from rfl]
  exact decide_eq_decide.2 (h r hr)
 rw [e]
 exact filter_one (classes_nodup tl) hq
theorem fewer_len (s : V4) (tl : List V4) : (classes tl).length ≤ (classes (s :: tl)).length := by
 unfold classes fsts
 rw [lmp, lmp, ← List.countP_eq_length_filter, ← List.countP_eq_length_filter]
 refine List.countP_mono_left fun b _ hb => fst1_iff.2 fun c hc => ?_
 have := fst1_iff.1 hb c hc
 cases hs : sg (s :: tl) c b with
 | false => rfl
 | true => rw [sg_tail hs] at this; cases this
theorem q7_0 {P Q : List V4} {i : Nat} {p : V4} (hp : P[i]? = some p) (hQ : Q.length ≤ 256) :
  runL (fun s => L7_0_2 (P.map toS) (Q.map toS) (i : Int) s.1 s.2) (0, 0) = some (.k0 (((Q.filter fun q => decide (wo p q = V0)).length : Nat) : Int)) := by
 obtain ⟨a, h1, h2⟩ := loop_fold (step := fun s : Int × Int => L7_0_2 (P.map toS) (Q.map toS) (i : Int) s.1 s.2) (l := Q) (fun j A => (A, (j : Int))) (fun j A q => bif decide (wo p q = V0) then A + 1 else A) (fun A => E_L7_0_2.k0 A)
  (fun j a => a = ((((Q.take j).filter fun q => decide (wo p q = V0)).length : Nat) : Int))
  (fun j q A hj hA => by
   have hjl : j < Q.length := (gei.1 hj).1
   have hle : ((Q.take j).filter fun q => decide (wo p q = V0)).length ≤ j := Nat.le_trans (List.length_filter_le _ _) (by rw [List.length_take]; omega)
   refine ⟨?_, ?_⟩
   ·show L7_0_2 _ _ _ A (j : Int) = _
    unfold L7_0_2
    rw [decide_eq_true (show (j : Int) < ((Q.map toS).length : Int) from by rw [lmp]; omega)]
    simp only [cond_true, getI_map, hp, hj, msm, bsm, F22_v4, w_S (show j < 4611686018427387904 from by omega)]
    rw [show IntKind.wrap .i64 (A + 1) = A + 1 from w_id (by omega)]
    cases decide (wo p q = V0) <;> rfl
   ·rw [List.take_add_one, hj, List.filter_append, List.length_append, hA]
    have e : ((some q).toList.filter fun q => decide (wo p q = V0)).length = bif decide (wo p q = V0) then 1 else 0 := by
     show ([q].filter _).length = _
     rw [List.filter_cons]
     cases decide (wo p q = V0) <;> rfl
    rw [e]
    cases decide (wo p q = V0) <;> rfl)
  (fun A _ => by
   show L7_0_2 _ _ _ A (Q.length : Int) = _
   unfold L7_0_2
   rw [decide_eq_false (by simp)]
   rfl) Q.length 0 0 (by omega) (by simp)
 rw [List.take_length] at h2
 rw [← h2]
 exact h1
theorem q7_1 {s : V4} {tl : List V4} : runL (fun q => L7_1 ((classes (s :: tl)).map toS) ((classes tl).map toS) q) 0 = some .k1 := by
 have hc := classes_len (s :: tl)
 have := loop_list (step := fun q => L7_1 ((classes (s :: tl)).map toS) ((classes tl).map toS) q) (l := classes (s :: tl)) (fun _ _ => true) (bad := .k0) (fin := .k1) (fun i x hx => by
  have hi : i < (classes (s :: tl)).length := (gei.1 hx).1
  unfold L7_1
  rw [decide_eq_true (show (i : Int) < (((classes (s :: tl)).map toS).length : Int) from by rw [lmp]; omega), q7_0 hx (classes_len tl), count_one (List.mem_of_getElem? hx)]
  simp only [cond_true, bsm, w_S (show i < 4611686018427387904 from by omega)]
  rfl) (by
  show L7_1 _ _ ((classes (s :: tl)).length : Int) = _
  unfold L7_1
  rw [decide_eq_false (by simp)]
  rfl)
 rw [this, all_true]
 rfl
theorem one_nil : (classes []).length = 1 := by
 rw [← srt_parts parts_nil, srtK_len cf_swo]
 rfl
theorem law7 {l : List SetD} (h : WOk l) : F7 l = some true := by
 rw [toS_list h]
 obtain ⟨ls, hls⟩ : ∃ ls, ls = l.map v4 := ⟨_, rfl⟩
 rw [← hls]
 unfold F7
 by_cases hl : ls.length ≤ 12
 ·rw [decide_eq_false (show ¬ (((ls.map toS).length : Int) > 12) from by rw [lmp]; omega)]
  obtain ⟨g, hb⟩ := back_run (ls := ls) (by omega) ls.length (Nat.le_refl _) 0 [] (by simp) (by omega)
  have e0 : IntKind.wrap .i64 (((ls.map toS).length : Int) - 1) = (ls.length : Int) - 1 := by rw [lmp]; exact w_id (by omega)
  rw [List.take_length, List.nil_append] at hb
  have hb : runL (fun s : Nat × Nat × Int × (List SetD) => L7_3 (ls.map toS) s.1 s.2.1 s.2.2.1 s.2.2.2) (0, 0, (ls.length : Int) - 1, []) = some (.k0 g (dbl ls).length ((dbl ls).map toS)) := hb
  have ed : decide ((dbl ls).length ≤ ((dbl ls).map toS).length) = true := decide_eq_true (by simp)
  have et : ((dbl ls).map toS).take (dbl ls).length = (dbl ls).map toS := tol (by simp)
  have hdl := dbl_len ls
  have hf1 := F33_v4 ls (by omega)
  have hf2 := F33_v4 (dbl ls) (by omega)
  rw [classes_same (mem_dbl · ls)] at hf2
  have hu1 := F20_v4 ls (by omega)
  have hu2 := F20_v4 (dbl ls) (by omega)
  rw [uV_same (mem_dbl · ls)] at hu2
  have hne : ((((classes ls).map toS).length : Int) != (((classes ls).map toS).length : Int)) = false := by simp
  simp only [cond_false, e0, hb, bsm, ed, cond_true, et, hf1, hf2, hne, hu1, hu2, eqS, decide_true, Bool.not_true, q7_2 (classes_len ls)]
  clear hb hf2 hu1 hu2 hne hdl ed et hf1 e0 hls
  cases ls with
  | nil =>
   rw [show (((([] : List V4).map toS).length : Int) == 0) = true from rfl]
   simp only [cond_true, lmp, one_nil]
   rfl
  | cons s tl =>
   have e1 : ((((s :: tl).map toS).length : Int) == 0) = false := by
    rw [lmp, lcn]
    rw [show ((((tl.length + 1 : Nat) : Int)) == 0) = decide ((((tl.length + 1 : Nat) : Int)) = 0) from rfl]
    exact decide_eq_false (by omega)
   have e2 : sl_ok 1 (((s :: tl).map toS).length : Int) ((s :: tl).map toS).length = true := by
    unfold sl_ok
    refine decide_eq_true ?_
    rw [lmp, lcn]
    omega
   have e3 : ((s :: tl).map toS).drop (Int.toNat 1) = tl.map toS := rfl
   have hf3 := F33_v4 tl (by simp at hl; omega)
   have hfl := fewer_len s tl
   rw [e1, e2, e3, hf3]
   simp only [cond_false, cond_true, bsm, q7_1]
   rw [decide_eq_true (show ((((classes tl).map toS).length : Int) ≤ (((classes (s :: tl)).map toS).length : Int)) from by rw [lmp, lmp]; omega)]
   rfl
 ·rw [decide_eq_true (show ((ls.map toS).length : Int) > 12 from by rw [lmp]; omega)]
  rfl
end Go.Proofs.Tryd
