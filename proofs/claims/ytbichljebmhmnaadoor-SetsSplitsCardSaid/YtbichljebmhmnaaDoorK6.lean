/- Sets of bytes, plainly: what they have, the least, what two have together; what the document's Has and With say. -/
import Derived.Test.YtbichljebmhmnaaDoorH6
import Derived.Test.YtbichljebmhmnaaDoorVE
open Option renaming map_some → msm, bind_some → bsm
open List renaming getElem?_eq_some_iff → gei, getElem?_eq_getElem → geg, take_of_length_le → tol, length_map → lmp, getElem?_map → gmp, mem_cons_self → mcf
namespace Go.Proofs.Tryd
set_option linter.unusedSimpArgs false
set_option linter.unusedVariables false
open Go Go.Vs
theorem get_putW (s : V4) (k l : Nat) (x : BitVec 64) (hk : k < 4) (hl : l < 4) : (s.putW k x).get l = if k = l then x else s.get l := by
 match k, hk, l, hl with
 | 0, _, 0, _ => rfl
 | 0, _, 1, _ => rfl
 | 0, _, 2, _ => rfl
 | 0, _, 3, _ => rfl
 | 1, _, 0, _ => rfl
 | 1, _, 1, _ => rfl
 | 1, _, 2, _ => rfl
 | 1, _, 3, _ => rfl
 | 2, _, 0, _ => rfl
 | 2, _, 1, _ => rfl
 | 2, _, 2, _ => rfl
 | 2, _, 3, _ => rfl
 | 3, _, 0, _ => rfl
 | 3, _, 1, _ => rfl
 | 3, _, 2, _ => rfl
 | 3, _, 3, _ => rfl
 | _ + 4, h, _, _ => exact absurd h (by omega)
 | _, _, _ + 4, h => exact absurd h (by omega)
theorem bit_one (j i : Nat) (hi : i < 64) : (1#64 <<< j).getLsbD i = decide (i = j) := by
 rw [BitVec.getLsbD_shiftLeft]
 by_cases e : i = j
 ·subst e; simp [hi]
 ·by_cases hl : i < j
  ·simp [hl, e]
  ·have : i - j ≠ 0 := by omega
   simp [this, e]
theorem has_put (s : V4) (b c : Nat) (hb : b < 256) (hc : c < 256) : has (put s b) c = (has s c || decide (b = c)) := by
 unfold has put
 rw [get_putW _ _ _ _ (by omega) (by omega)]
 by_cases e : b / 64 = c / 64
 ·rw [if_pos e, BitVec.getLsbD_or, bit_one _ _ (by omega), e]
  congr 1
  rw [decide_eq_decide]
  omega
 ·rw [if_neg e, decide_eq_false (by intro h; rw [h] at e; exact e rfl), Bool.or_false]
theorem V4_ext {x y : V4} (h : ∀ c, c < 256 → has x c = has y c) : x = y := by
 have key : ∀ k, k < 4 → x.get k = y.get k := by
  intro k hk
  apply BitVec.eq_of_getLsbD_eq
  intro i hi
  have := h (64 * k + i) (by omega)
  unfold has at this
  rwa [show (64 * k + i) / 64 = k from by omega, show (64 * k + i) % 64 = i from by omega] at this
 obtain ⟨a, b, c, d⟩ := x
 obtain ⟨e, f, g, i⟩ := y
 have h0 := key 0 (by omega)
 have h1 := key 1 (by omega)
 have h2 := key 2 (by omega)
 have h3 := key 3 (by omega)
 simp only [V4.get] at h0 h1 h2 h3
 subst h0; subst h1; subst h2; subst h3
 rfl
theorem filter_word (s : V4) (k : Nat) (hk : k < 4) : (List.range' (64 * k) 64).filter (has s) = bitsW (s.get k) k := by
 have e : List.range' (64 * k) 64 = (List.range' 0 64).map (64 * k + ·) := by
  rw [List.map_add_range', Nat.add_zero]
 unfold bitsW bits
 rw [e, List.filter_map]
 congr 1
 refine List.filter_congr (fun x hx => ?_)
 have hx' : x < 64 := by have := List.mem_range'_1.1 hx; omega
 simp only [Function.comp, has]
 rw [show (64 * k + x) / 64 = k from by omega, show (64 * k + x) % 64 = x from by omega]
theorem filter_has (s : V4) : (List.range' 0 256).filter (has s) = bytesS s := by
 have e : List.range' 0 256 = List.range' (64 * 0) 64 ++ (List.range' (64 * 1) 64 ++ (List.range' (64 * 2) 64 ++ List.range' (64 * 3) 64)) := by
  rw [show (64 * 2 : Nat) = 128 from rfl, show (64 * 3 : Nat) = 192 from rfl, show (64 * 1 : Nat) = 64 from rfl]
  rw [show (192 : Nat) = 128 + 64 from rfl, List.range'_append_1, show (128 : Nat) = 64 + 64 from rfl, List.range'_append_1, show List.range' 64 (64 + (64 + 64)) = List.range' (0 + 64) (64 + (64 + 64)) from rfl, List.range'_append_1]
 rw [e, List.filter_append, List.filter_append, List.filter_append, filter_word s 0 (by omega), filter_word s 1 (by omega), filter_word s 2 (by omega), filter_word s 3 (by omega)]
 rfl
theorem or_bit {p : BitVec 64} {j : Nat} (h : p.getLsbD j = true) : p ||| 1#64 <<< j = p := by
 apply BitVec.eq_of_getLsbD_eq
 intro i hi
 simp only [BitVec.getLsbD_or]
 by_cases e : i = j
 ·subst e; simp [h]
 ·have : (1#64 <<< j).getLsbD i = false := by
   rw [BitVec.getLsbD_shiftLeft]
   by_cases hl : i < j
   ·simp [hl]
   ·have : i - j ≠ 0 := by omega
    simp [this]
  simp [this]
theorem putW_get (s : V4) (k : Nat) : s.putW k (s.get k) = s := by
 match k with
 | 0 => rfl
 | 1 => rfl
 | 2 => rfl
 | _ + 3 => rfl
def V0 : V4 := ⟨0, 0, 0, 0⟩
theorem has_V0 (c : Nat) : has V0 c = false := by
 have : ∀ k, V0.get k = 0#64 := fun k => by match k with | 0 => rfl | 1 => rfl | 2 => rfl | _ + 3 => rfl
 unfold has
 rw [this]
 simp
theorem mem_bytes (s : V4) (c : Nat) : c ∈ bytesS s ↔ c < 256 ∧ has s c = true := by
 rw [← filter_has, List.mem_filter, List.mem_range'_1]
 constructor
 ·rintro ⟨h1, h2⟩; exact ⟨by omega, h2⟩
 ·rintro ⟨h1, h2⟩; exact ⟨by omega, h2⟩
theorem bytes_up (s : V4) : (bytesS s).Pairwise (· < ·) := by
 rw [← filter_has]
 exact (List.pairwise_lt_range' ..).filter _
theorem ne_V0 {s : V4} : s ≠ V0 ↔ ∃ c, c < 256 ∧ has s c = true := by
 constructor
 ·intro h
  refine Classical.byContradiction fun hn => h (V4_ext fun c hc => ?_)
  rw [has_V0]
  cases hh : has s c with
  | false => rfl
  | true => exact absurd ⟨c, hc, hh⟩ hn
 ·rintro ⟨c, _, hh⟩ rfl
  rw [has_V0] at hh; cases hh
theorem lst0_has {s : V4} {c : Nat} (hc : c < 256) (hh : has s c = true) : has s (lst0 s) = true ∧ lst0 s ≤ c := by
 have hm := (mem_bytes s c).2 ⟨hc, hh⟩
 have hu := bytes_up s
 unfold lst0
 cases e : bytesS s with
 | nil => rw [e] at hm; cases hm
 | cons a l =>
  rw [e] at hm hu
  have ha : has s a = true := ((mem_bytes s a).1 (by rw [e]; exact mcf)).2
  refine ⟨ha, ?_⟩
  rcases List.mem_cons.1 hm with h | h
  ·show a ≤ c; omega
  ·exact Nat.le_of_lt (List.rel_of_pairwise_cons hu h)
def mt (x y : V4) : V4 := ⟨x.a &&& y.a, x.b &&& y.b, x.c &&& y.c, x.d &&& y.d⟩
def wo (x y : V4) : V4 := ⟨x.a &&& ~~~ y.a, x.b &&& ~~~ y.b, x.c &&& ~~~ y.c, x.d &&& ~~~ y.d⟩
def V1 : V4 := ⟨18446744073709551615#64, 18446744073709551615#64, 18446744073709551615#64, 18446744073709551615#64⟩
theorem has_mt (x y : V4) (c : Nat) : has (mt x y) c = (has x c && has y c) := by
 have : ∀ k, (mt x y).get k = x.get k &&& y.get k := fun k => by match k with | 0 => rfl | 1 => rfl | 2 => rfl | _ + 3 => rfl
 unfold has
 rw [this, BitVec.getLsbD_and]
theorem has_wo (x y : V4) (c : Nat) : has (wo x y) c = (has x c && !has y c) := by
 have : ∀ k, (wo x y).get k = x.get k &&& ~~~ y.get k := fun k => by match k with | 0 => rfl | 1 => rfl | 2 => rfl | _ + 3 => rfl
 unfold has
 rw [this, BitVec.getLsbD_and, BitVec.getLsbD_not]
 simp [show c % 64 < 64 from by omega]
theorem has_V1 (c : Nat) : has V1 c = true := by
 have : ∀ k, V1.get k = BitVec.allOnes 64 := fun k => by match k with | 0 => rfl | 1 => rfl | 2 => rfl | _ + 3 => rfl
 unfold has
 rw [this, BitVec.getLsbD_allOnes]
 simp [show c % 64 < 64 from by omega]
theorem anI_n (p q : BitVec 64) : anI p.toNat q.toNat = ((p &&& ~~~ q).toNat : Int) := by
 unfold anI
 rw [show (BitVec.ofInt 64 (p.toNat : Int)) = p from by simp, show (BitVec.ofInt 64 (q.toNat : Int)) = q from by simp]
 exact wrap_nat _
theorem F18_v4 (x y : V4) : F18 (toS x) (toS y) = some (toS (mt x y)) := by
 simp only [F18, mapS, toS, andI_n, mt]
theorem F21_v4 (x y : V4) : F21 (toS x) (toS y) = some (toS (wo x y)) := by
 simp only [F21, mapS, toS, anI_n, wo]
theorem F16_v4 : F16 = some (toS V1) := rfl
theorem toS_eta (s : V4) : (⟨(toS s).a, (toS s).b, (toS s).c, (toS s).d⟩ : SetD) = toS s := rfl
theorem eqS (x y : V4) : (((toS x).a == (toS y).a) && (((toS x).b == (toS y).b) && (((toS x).c == (toS y).c) && (((toS x).d == (toS y).d) && true)))) = decide (x = y) := by
 have key : ∀ p q : BitVec 64, (((p.toNat : Nat) : Int) == ((q.toNat : Nat) : Int)) = decide (p = q) := fun p q => by
  rw [show (((p.toNat : Nat) : Int) == ((q.toNat : Nat) : Int)) = decide (((p.toNat : Nat) : Int) = ((q.toNat : Nat) : Int)) from rfl]
  exact decide_eq_decide.2 ⟨fun h => BitVec.eq_of_toNat_eq (by omega), fun h => by rw [h]⟩
 obtain ⟨a, b, c, d⟩ := x
 obtain ⟨e, f, g, i⟩ := y
 simp only [toS, key]
 by_cases h1 : a = e <;> by_cases h2 : b = f <;> by_cases h3 : c = g <;> by_cases h4 : d = i <;> simp [h1, h2, h3, h4]
theorem isZ (x : V4) : (((toS x).a == 0) && (((toS x).b == 0) && (((toS x).c == 0) && (((toS x).d == 0) && true)))) = decide (x = V0) := eqS x V0
theorem quo_n (b : Nat) (h : b < 256) : IntKind.wrap .i64 (Int.tdiv (b : Int) 64) = ((b / 64 : Nat) : Int) := by
 rw [IntWalk.i64_quo b 64 (by omega)]
 rfl
theorem rem_n (b : Nat) : Int.tmod (b : Int) 64 = ((b % 64 : Nat) : Int) := by
 rw [Int.tmod_eq_emod_of_nonneg (by omega)]
 rfl
theorem word_bit (p : BitVec 64) (j : Nat) (hj : j < 64) : ((Int.tmod (Int.fdiv (p.toNat : Int) (2 ^ (min (Int.toNat (j : Int)) (IntKind.bits .u64)))) 2) == 1) = p.getLsbD j := by
 have e : min (Int.toNat (j : Int)) (IntKind.bits .u64) = j := by
  rw [Int.toNat_natCast]
  show min j 64 = j
  omega
 have e2 : ((p.toNat : Nat) : Int).fdiv (2 ^ j) = ((p.toNat >>> j : Nat) : Int) := by
  rw [two_pow, Int.fdiv_eq_ediv_of_nonneg _ (Int.natCast_nonneg _), Nat.shiftRight_eq_div_pow, Int.natCast_ediv]
 rw [e, e2, Int.tmod_eq_emod_of_nonneg (Int.natCast_nonneg _), show ((p.toNat >>> j : Nat) : Int) % 2 = ((p.toNat >>> j % 2 : Nat) : Int) from by omega, q_bit p j hj]
 exact q_eq1 _
theorem addw (p : BitVec 64) (j : Nat) (hj : j < 64) (h : p.getLsbD j = false) : IntKind.wrap .u64 ((p.toNat : Int) + (IntKind.wrap .u64 (1 * 2 ^ (min (Int.toNat (j : Int)) (IntKind.bits .u64))))) = ((p ||| 1#64 <<< j).toNat : Int) := by
 have e1 : some (vi .u64 (IntKind.wrap .u64 (1 * 2 ^ (min (Int.toNat (j : Int)) (IntKind.bits .u64))))) = some (vi .u64 ((1#64 <<< j).toNat : Int)) := by
  have := q_shl .i64 j hj
  simp only [binA, binV, shiftOp] at this
  rw [if_neg (by omega)] at this
  exact this
 simp only [Option.some.injEq, AV.p.injEq, PV.val.injEq, Value.int.injEq, true_and] at e1
 rw [e1]
 have e2 : some (vi .u64 (IntKind.wrap .u64 ((p.toNat : Int) + ((1#64 <<< j).toNat : Int)))) = some (vi .u64 ((p ||| 1#64 <<< j).toNat : Int)) := q_addw p j hj h
 simpa using e2
theorem F15_v4 (s : V4) (b : Nat) (hb : b < 256) : F15_2 (toS s) (b : Int) = some (has s b) := by
 unfold F15_2
 rw [quo_n b hb, rem_n]
 have hk : b / 64 < 4 := by omega
 have hn : decide (((b % 64 : Nat) : Int) < 0) = false := decide_eq_false (by omega)
 unfold has
 generalize b / 64 = k at hk ⊢
 match k, hk with
 | 0, _ => simp only [hn, cond_false, toS, word_bit _ _ (show b % 64 < 64 from by omega)]; rfl
 | 1, _ => simp only [hn, cond_false, toS, word_bit _ _ (show b % 64 < 64 from by omega)]; rfl
 | 2, _ => simp only [hn, cond_false, toS, word_bit _ _ (show b % 64 < 64 from by omega)]; rfl
 | 3, _ => simp only [hn, cond_false, toS, word_bit _ _ (show b % 64 < 64 from by omega)]; rfl
theorem F37_v4 (s : V4) (b : Nat) (hb : b < 256) : F37_2 (toS s) (b : Int) = some (.k0 (toS (put s b)).a (toS (put s b)).b (toS (put s b)).c (toS (put s b)).d) := by
 unfold F37_2
 rw [F15_v4 s b hb]
 simp only [bsm]
 cases hh : has s b with
 | true =>
  have : put s b = s := by unfold put; rw [or_bit hh, putW_get]
  rw [this]
  rfl
 | false =>
  rw [quo_n b hb, rem_n]
  have hk : b / 64 < 4 := by omega
  have hn : decide (((b % 64 : Nat) : Int) < 0) = false := decide_eq_false (by omega)
  unfold has at hh
  unfold put
  generalize b / 64 = k at hk hh ⊢
  have hj : b % 64 < 64 := by omega
  match k, hk, hh with
  | 0, _, hh => simp only [hn, cond_false, toS, addw s.a _ hj hh]; rfl
  | 1, _, hh => simp only [hn, cond_false, toS, addw s.b _ hj hh]; rfl
  | 2, _, hh => simp only [hn, cond_false, toS, addw s.c _ hj hh]; rfl
  | 3, _, hh => simp only [hn, cond_false, toS, addw s.d _ hj hh]; rfl
def bstep (P : Nat → Bool) (o : V4) (b : Nat) : V4 := if P b then put o b else o
def build (P : Nat → Bool) : V4 := (List.range' 0 256).foldl (bstep P) V0
theorem has_fold (P : Nat → Bool) (c : Nat) (hc : c < 256) : ∀ (n i : Nat) (o : V4), i + n ≤ 256 → has ((List.range' i n).foldl (bstep P) o) c = (has o c || (decide (i ≤ c) && decide (c < i + n) && P c))
 | 0, i, o, _ => by
  have : (decide (i ≤ c) && decide (c < i + 0)) = false := by
   by_cases h : i ≤ c
   ·rw [decide_eq_false (show ¬ c < i + 0 from by omega), Bool.and_false]
   ·rw [decide_eq_false h, Bool.false_and]
  rw [this, Bool.false_and, Bool.or_false]
  rfl
 | n + 1, i, o, h => by
  rw [List.range'_succ, List.foldl_cons, has_fold P c hc n (i + 1) _ (by omega)]
  have e : has (bstep P o i) c = (has o c || (decide (i = c) && P c)) := by
   unfold bstep
   by_cases hp : P i = true
   ·rw [if_pos hp, has_put _ _ _ (by omega) hc]
    by_cases hic : i = c
    ·subst hic; simp [hp]
    ·simp [hic]
   ·rw [if_neg hp]
    by_cases hic : i = c
    ·subst hic; simp [hp]
    ·simp [hic]
  rw [e]
  have e3 : decide (c < i + 1 + n) = decide (c < i + (n + 1)) := by rw [decide_eq_decide]; omega
  rw [e3]
  by_cases hic : i = c
  ·subst hic
   rw [decide_eq_false (show ¬ i + 1 ≤ i from by omega), decide_eq_true (show i ≤ i from by omega), decide_eq_true (show i < i + (n + 1) from by omega)]
   simp
  ·have e4 : decide (i + 1 ≤ c) = decide (i ≤ c) := by rw [decide_eq_decide]; omega
   rw [e4, decide_eq_false hic]
   simp
theorem has_build (P : Nat → Bool) (c : Nat) (hc : c < 256) : has (build P) c = P c := by
 unfold build
 rw [has_fold P c hc 256 0 V0 (by omega), has_V0]
 simp [hc]
def sg (ls : List V4) (b c : Nat) : Bool := ls.all fun s => has s b == has s c
theorem sg_iff {ls : List V4} {b c : Nat} : sg ls b c = true ↔ ∀ s ∈ ls, has s b = has s c := by
 unfold sg
 rw [List.all_eq_true]
 simp
theorem sg_refl (ls : List V4) (b : Nat) : sg ls b b = true := sg_iff.2 fun _ _ => rfl
theorem sg_symm {ls : List V4} {b c : Nat} (h : sg ls b c = true) : sg ls c b = true := sg_iff.2 fun s hs => (sg_iff.1 h s hs).symm
theorem sg_trans {ls : List V4} {a b c : Nat} (h : sg ls a b = true) (k : sg ls b c = true) : sg ls a c = true := sg_iff.2 fun s hs => (sg_iff.1 h s hs).trans (sg_iff.1 k s hs)
theorem sg_eq {ls : List V4} {a b : Nat} (h : sg ls a b = true) (c : Nat) : sg ls a c = sg ls b c := by
 cases h1 : sg ls a c with
 | true => exact (sg_trans (sg_symm h) h1).symm
 | false =>
  cases h2 : sg ls b c with
  | true => rw [sg_trans h h2] at h1; cases h1
  | false => rfl
theorem sg_snoc (ls : List V4) (s : V4) (b c : Nat) : sg (ls ++ [s]) b c = (sg ls b c && (has s b == has s c)) := by simp [sg]
def cls (ls : List V4) (b : Nat) : V4 := build fun c => sg ls b c
theorem has_cls (ls : List V4) (b c : Nat) (hc : c < 256) : has (cls ls b) c = sg ls b c := has_build _ c hc
theorem cls_same {ls : List V4} {b c : Nat} (h : sg ls b c = true) : cls ls b = cls ls c := V4_ext fun d hd => by rw [has_cls _ _ _ hd, has_cls _ _ _ hd, sg_eq h]
theorem cls_ne (ls : List V4) (b : Nat) (hb : b < 256) : cls ls b ≠ V0 := ne_V0.2 ⟨b, hb, by rw [has_cls _ _ _ hb, sg_refl]⟩
def fst1 (ls : List V4) (b : Nat) : Bool := (List.range b).all fun c => !sg ls c b
theorem fst1_iff {ls : List V4} {b : Nat} : fst1 ls b = true ↔ ∀ c, c < b → sg ls c b = false := by
 unfold fst1
 rw [List.all_eq_true]
 simp
theorem lst0_cls {ls : List V4} {b : Nat} (hb : b < 256) (h : fst1 ls b = true) : lst0 (cls ls b) = b := by
 have hh : has (cls ls b) b = true := by rw [has_cls _ _ _ hb, sg_refl]
 obtain ⟨h1, h2⟩ := lst0_has hb hh
 rw [has_cls _ _ _ (by omega)] at h1
 refine Nat.le_antisymm h2 (Nat.le_of_not_lt fun hl => ?_)
 have := fst1_iff.1 h _ hl
 rw [sg_symm h1] at this
 cases this
theorem first_of (ls : List V4) : ∀ (b : Nat), ∃ a, a ≤ b ∧ fst1 ls a = true ∧ sg ls a b = true := by
 intro b
 induction b using Nat.strongRecOn with
 | ind b ih =>
  cases h : fst1 ls b with
  | true => exact ⟨b, Nat.le_refl _, h, sg_refl _ _⟩
  | false =>
   have : ∃ c, c < b ∧ sg ls c b = true := by
    refine Classical.byContradiction fun hn => ?_
    have : fst1 ls b = true := fst1_iff.2 fun c hc => by
     cases hs : sg ls c b with
     | false => rfl
     | true => exact absurd ⟨c, hc, hs⟩ hn
    rw [h] at this; cases this
   obtain ⟨c, hc, hs⟩ := this
   obtain ⟨a, h1, h2, h3⟩ := ih c hc
   exact ⟨a, by omega, h2, sg_trans h3 hs⟩
def fsts (ls : List V4) (n : Nat) : List Nat := (List.range n).filter (fst1 ls)
theorem mem_fsts {ls : List V4} {n b : Nat} : b ∈ fsts ls n ↔ b < n ∧ fst1 ls b = true := by simp [fsts]
theorem fsts_up (ls : List V4) (n : Nat) : (fsts ls n).Pairwise (· < ·) := List.pairwise_lt_range.filter _
theorem fsts_succ (ls : List V4) (n : Nat) : fsts ls (n + 1) = if fst1 ls n = true then fsts ls n ++ [n] else fsts ls n := by
 unfold fsts
 rw [List.range_succ, List.filter_append]
 by_cases h : fst1 ls n = true <;> simp [h]
def classes (ls : List V4) : List V4 := (fsts ls 256).map (cls ls)
theorem mem_classes {ls : List V4} {p : V4} : p ∈ classes ls ↔ ∃ b, b < 256 ∧ p = cls ls b := by
 unfold classes
 rw [List.mem_map]
 constructor
 ·rintro ⟨b, h1, rfl⟩; exact ⟨b, (mem_fsts.1 h1).1, rfl⟩
 ·rintro ⟨b, h1, rfl⟩
  obtain ⟨a, h2, h3, h4⟩ := first_of ls b
  exact ⟨a, mem_fsts.2 ⟨by omega, h3⟩, cls_same h4⟩
theorem classes_up (ls : List V4) : (classes ls).Pairwise fun p q => lst0 p < lst0 q := by
 unfold classes
 rw [List.pairwise_map]
 refine (fsts_up ls 256).imp_of_mem fun {a b} ha hb hab => ?_
 rw [lst0_cls (mem_fsts.1 ha).1 (mem_fsts.1 ha).2, lst0_cls (mem_fsts.1 hb).1 (mem_fsts.1 hb).2]
 exact hab
theorem up_unique {α : Type} {f : α → Nat} : ∀ {l m : List α}, l.Pairwise (fun p q => f p < f q) → m.Pairwise (fun p q => f p < f q) → (∀ x, x ∈ l ↔ x ∈ m) → l = m
 | [], [], _, _, _ => rfl
 | [], y :: m, _, _, h => by have := (h y).2 mcf; cases this
 | x :: l, [], _, _, h => by have := (h x).1 mcf; cases this
 | x :: l, y :: m, h1, h2, h => by
  have hxy : x = y := by
   have a := (h x).1 mcf
   have b := (h y).2 mcf
   rcases List.mem_cons.1 a with e | e
   ·exact e
   ·rcases List.mem_cons.1 b with e' | e'
    ·exact e'.symm
    ·have := List.rel_of_pairwise_cons h1 e'
     have := List.rel_of_pairwise_cons h2 e
     omega
  subst hxy
  have h1' := List.pairwise_cons.1 h1
  have h2' := List.pairwise_cons.1 h2
  rw [up_unique h1'.2 h2'.2 fun z => ?_]
  constructor
  ·intro hz
   rcases List.mem_cons.1 ((h z).1 (List.mem_cons_of_mem _ hz)) with e | e
   ·subst e; have := h1'.1 _ hz; omega
   ·exact e
  ·intro hz
   rcases List.mem_cons.1 ((h z).2 (List.mem_cons_of_mem _ hz)) with e | e
   ·subst e; have := h2'.1 _ hz; omega
   ·exact e
def Parts (ls P : List V4) : Prop := P.Nodup ∧ ∀ p, p ∈ P ↔ ∃ b, b < 256 ∧ p = cls ls b
theorem parts_inj {ls P : List V4} (h : Parts ls P) {p q : V4} (hp : p ∈ P) (hq : q ∈ P) (e : lst0 p = lst0 q) : p = q := by
 obtain ⟨b, h1, rfl⟩ := (h.2 p).1 hp
 obtain ⟨c, h2, rfl⟩ := (h.2 q).1 hq
 have k1 := (lst0_has h1 (show has (cls ls b) b = true by rw [has_cls _ _ _ h1, sg_refl])).1
 have k2 := (lst0_has h2 (show has (cls ls c) c = true by rw [has_cls _ _ _ h2, sg_refl])).1
 have hlt := lst0_lt (cls ls b)
 rw [has_cls _ _ _ hlt] at k1
 rw [← e, has_cls _ _ _ hlt] at k2
 exact cls_same (sg_trans k1 (sg_symm k2))
theorem parts_len {ls P : List V4} (h : Parts ls P) : P.length ≤ 256 := by
 have h1 : (P.map lst0).Nodup := by
  rw [List.nodup_iff_pairwise_ne, List.pairwise_map]
  refine (List.nodup_iff_pairwise_ne.1 h.1).imp_of_mem fun {a b} ha hb hab e => hab (parts_inj h ha hb e)
 have h2 : (P.map lst0).length ≤ (List.range 256).length := List.Nodup.length_le_of_subset h1 (fun x hx => by
  obtain ⟨p, _, rfl⟩ := List.mem_map.1 hx
  exact List.mem_range.2 (lst0_lt p))
 simpa using h2
open Go Go.Vs Go.Sort Go.Proofs
def addM (A : List V4 × List V4) (x : V4) : List V4 × List V4 := (A.1 ++ [x], if x = V0 ∨ x ∈ A.1 then A.2 else A.2 ++ [x])
def MI (A : List V4 × List V4) : Prop := A.2.Nodup ∧ ∀ x, x ∈ A.2 ↔ x ∈ A.1 ∧ x ≠ V0
theorem MI_add {A : List V4 × List V4} (h : MI A) (x : V4) : MI (addM A x) := by
 obtain ⟨h1, h2⟩ := h
 unfold addM
 by_cases hx : x = V0 ∨ x ∈ A.1
 ·rw [if_pos hx]
  refine ⟨h1, fun y => ?_⟩
  rw [h2 y, List.mem_append, List.mem_singleton]
  constructor
  ·rintro ⟨a, b⟩; exact ⟨.inl a, b⟩
  ·rintro ⟨a | rfl, b⟩
   ·exact ⟨a, b⟩
   ·rcases hx with hx | hx
    ·exact absurd hx b
    ·exact ⟨hx, b⟩
 ·rw [if_neg hx]
  have hx1 : x ≠ V0 := fun e => hx (.inl e)
  have hx2 : x ∉ A.1 := fun e => hx (.inr e)
  refine ⟨?_, fun y => ?_⟩
  ·rw [List.nodup_append]
   refine ⟨h1, by simp, fun a ha b hb e => ?_⟩
   rw [List.mem_singleton] at hb
   subst hb; subst e
   exact hx2 ((h2 a).1 ha).1
  ·rw [List.mem_append, List.mem_singleton, List.mem_append, List.mem_singleton, h2 y]
   constructor
   ·rintro (⟨a, b⟩ | rfl)
    ·exact ⟨.inl a, b⟩
    ·exact ⟨.inr rfl, hx1⟩
   ·rintro ⟨a | rfl, b⟩
    ·exact .inl ⟨a, b⟩
    ·exact .inr rfl
theorem addM_fold1 : ∀ (L : List V4) (A : List V4 × List V4), (L.foldl addM A).1 = A.1 ++ L
 | [], A => by simp
 | x :: L, A => by rw [List.foldl_cons, addM_fold1 L]; simp [addM]
theorem MI_fold : ∀ (L : List V4) (A : List V4 × List V4), MI A → MI (L.foldl addM A)
 | [], _, h => h
 | x :: L, A, h => MI_fold L _ (MI_add h x)
theorem addM_len : ∀ (L : List V4) (A : List V4 × List V4), (L.foldl addM A).2.length ≤ A.2.length + L.length
 | [], A => by simp
 | x :: L, A => by
  rw [List.foldl_cons]
  have := addM_len L (addM A x)
  have h2 : (addM A x).2.length ≤ A.2.length + 1 := by
   unfold addM
   split <;> simp
  rw [List.length_cons]
  omega
def MR (m : List (SetD × Int)) (A : List V4 × List V4) : Prop := ∀ x, mget 0 m (toS x) = (A.1.count x : Int)
theorem MR_add {m : List (SetD × Int)} {A : List V4 × List V4} (h : MR m A) (hl : A.1.length ≤ 100000) (x : V4) : MR (mput (toS x) (IntKind.wrap .i64 (mget 0 m (toS x) + 1)) m) (addM A x) := by
 intro y
 rw [mget_mput]
 have hc : A.1.count x ≤ A.1.length := List.count_le_length
 by_cases e : y = x
 ·subst e
  rw [if_pos rfl, h y, w_S (by omega)]
  simp [addM]
 ·have e2 : toS y ≠ toS x := fun q => e (toS_inj q)
  rw [if_neg e2, h y]
  simp [addM, List.count_append, List.count_singleton, Ne.symm e]
theorem getI_map (L : List V4) (i : Nat) : getI (L.map toS) (i : Int) = (L[i]?).map toS := by rw [getI_nat, gmp]
theorem in_step {L : List V4} {i : Nat} {x : V4} (hx : L[i]? = some x) {g : Nat} {m : List (SetD × Int)} {A : List V4 × List V4} (hm : MR m A) (hl : A.1.length ≤ 100000) (hn : A.2.length ≤ 100000) (hL : L.length ≤ 100000) :
  ∃ g', L33_0_10 (L.map toS) ((L.map toS).length : Int) g A.2.length (i : Int) m (A.2.map toS) = some (.inr (g', (addM A x).2.length, ((i + 1 : Nat) : Int), mput (toS x) (IntKind.wrap .i64 (mget 0 m (toS x) + 1)) m, (addM A x).2.map toS)) := by
 have hi : i < L.length := (gei.1 hx).1
 have h1 : decide ((i : Int) < ((L.map toS).length : Int)) = true := decide_eq_true (by rw [lmp]; omega)
 unfold L33_0_10
 rw [h1, getI_map, hx]
 simp only [cond_true, msm, bsm, isZ, toS_eta, w_S (show i < 4611686018427387904 from by omega)]
 have hmg : (mget 0 (mput (toS x) (IntKind.wrap .i64 (mget 0 m (toS x) + 1)) m) (toS x) == 1) = decide (x ∉ A.1) := by
  rw [mget_mput, if_pos rfl, hm x, w_S (by have : A.1.count x ≤ A.1.length := List.count_le_length; omega)]
  rw [show ((((A.1.count x + 1 : Nat) : Int)) == 1) = decide ((((A.1.count x + 1 : Nat) : Int)) = 1) from rfl]
  refine decide_eq_decide.2 ?_
  rw [← List.count_eq_zero]
  omega
 rw [hmg]
 unfold addM
 by_cases h0 : x = V0
 ·rw [if_pos (.inl h0), decide_eq_true h0]
  exact ⟨g, rfl⟩
 ·rw [decide_eq_false h0]
  by_cases h2 : x ∈ A.1
  ·rw [if_pos (.inr h2), decide_eq_false (fun q => q h2)]
   exact ⟨g, rfl⟩
  ·rw [if_neg (fun q => q.elim h0 h2), decide_eq_true h2]
   have hap : apOk A.2.length ([toS x]).length (A.2.map toS).length 32 = true := decide_eq_true (by
    simp only [lmp, List.length_singleton, limit47]
    omega)
   have hlt : decide (A.2.length + ([toS x]).length ≤ (A.2.map toS).length) = false := decide_eq_false (by simp)
   rw [hap, hlt]
   refine ⟨g + 1, ?_⟩
   simp only [Bool.not_false, cond_true, cond_false, List.length_append, List.length_singleton, List.map_append, List.map_cons, List.map_nil]
   rw [tol (by simp)]
theorem in_end {L : List V4} {g n : Nat} {m : List (SetD × Int)} {r : List SetD} : L33_0_10 (L.map toS) ((L.map toS).length : Int) g n (L.length : Int) m r = some (.inl (.k0 g n m r)) := by
 unfold L33_0_10
 rw [decide_eq_false (by simp)]
 rfl
theorem in_run {L : List V4} (hL : L.length ≤ 1000) : ∀ (k i : Nat), i + k = L.length → ∀ (g : Nat) (m : List (SetD × Int)) (A : List V4 × List V4), MR m A → A.1.length + k ≤ 100000 → A.2.length + k ≤ 100000 →
  ∃ g' m', runL (fun s : Nat × Nat × Int × (List (SetD × Int)) × (List SetD) => L33_0_10 (L.map toS) ((L.map toS).length : Int) s.1 s.2.1 s.2.2.1 s.2.2.2.1 s.2.2.2.2) (g, A.2.length, (i : Int), m, A.2.map toS) = some (.k0 g' ((L.drop i).foldl addM A).2.length m' (((L.drop i).foldl addM A).2.map toS)) ∧ MR m' ((L.drop i).foldl addM A)
 | 0, i, hi, g, m, A, hm, hl, hn => by
  obtain rfl : i = L.length := by omega
  rw [List.drop_length]
  exact ⟨g, m, runL_done in_end, hm⟩
 | k + 1, i, hi, g, m, A, hm, hl, hn => by
  have hx : L[i]? = some L[i] := geg (by omega)
  have hd : L.drop i = L[i] :: L.drop (i + 1) := List.drop_eq_getElem_cons (by omega)
  obtain ⟨g1, h1⟩ := in_step hx hm (by omega) (by omega) (by omega) (g := g)
  have ha : (addM A L[i]).2.length ≤ A.2.length + 1 := by unfold addM; split <;> simp
  have hb : (addM A L[i]).1.length = A.1.length + 1 := by simp [addM]
  obtain ⟨g', m', h2, h3⟩ := in_run hL k (i + 1) (by omega) g1 _ (addM A L[i]) (MR_add hm (by omega) L[i]) (by omega) (by omega)
  rw [hd, List.foldl_cons]
  refine ⟨g', m', ?_, h3⟩
  rw [runL_next (step := fun s : Nat × Nat × Int × (List (SetD × Int)) × (List SetD) => L33_0_10 (L.map toS) ((L.map toS).length : Int) s.1 s.2.1 s.2.2.1 s.2.2.2.1 s.2.2.2.2) h1]
  exact h2
def cut (s : V4) (A : List V4 × List V4) (p : V4) : List V4 × List V4 := [mt p s, wo p s].foldl addM A
theorem mid_step {P : List V4} {s p : V4} {i : Nat} (hp : P[i]? = some p) {g : Nat} {m : List (SetD × Int)} {A : List V4 × List V4} (hm : MR m A) (hl : A.1.length ≤ 10000) (hn : A.2.length ≤ 10000) (hP : P.length ≤ 256) :
  ∃ g' m', L33_1_3 P.length ((P.length : Nat) : Int) (P.map toS) (toS s) g A.2.length (i : Int) m (A.2.map toS) = some (.inr (g', (cut s A p).2.length, ((i + 1 : Nat) : Int), m', (cut s A p).2.map toS)) ∧ MR m' (cut s A p) := by
 have hi : i < P.length := (gei.1 hp).1
 obtain ⟨g', m', h1, h2⟩ := in_run (L := [mt p s, wo p s]) (by simp) 2 0 rfl g m A hm (by omega) (by omega)
 refine ⟨g', m', ?_, h2⟩
 unfold L33_1_3
 rw [decide_eq_true (show (i : Int) < ((P.length : Nat) : Int) from by omega), ixN_nat, if_pos hi]
 simp only [cond_true, bsm, gmp, hp, msm, F18_v4, F21_v4, toS_eta]
 rw [show ([toS (mt p s), toS (wo p s)] : List SetD) = [mt p s, wo p s].map toS from rfl]
 rw [show ((0 : Nat) : Int) = 0 from rfl] at h1
 rw [h1]
 simp only [bsm, w_S (show i < 4611686018427387904 from by omega)]
 rfl
theorem mid_end {P : List V4} {s : V4} {g n : Nat} {m : List (SetD × Int)} {r : List SetD} : L33_1_3 P.length ((P.length : Nat) : Int) (P.map toS) (toS s) g n (P.length : Int) m r = some (.inl (.k0 g n m r)) := by
 unfold L33_1_3
 rw [decide_eq_false (by omega)]
 rfl
theorem mid_run {P : List V4} {s : V4} (hP : P.length ≤ 256) : ∀ (k i : Nat), i + k = P.length → ∀ (g : Nat) (m : List (SetD × Int)) (A : List V4 × List V4), MR m A → A.1.length ≤ 2 * i → A.2.length ≤ 2 * i →
  ∃ g' m', runL (fun q : Nat × Nat × Int × (List (SetD × Int)) × (List SetD) => L33_1_3 P.length ((P.length : Nat) : Int) (P.map toS) (toS s) q.1 q.2.1 q.2.2.1 q.2.2.2.1 q.2.2.2.2) (g, A.2.length, (i : Int), m, A.2.map toS) = some (.k0 g' ((P.drop i).foldl (cut s) A).2.length m' (((P.drop i).foldl (cut s) A).2.map toS))
 | 0, i, hi, g, m, A, hm, hl, hn => by
  obtain rfl : i = P.length := by omega
  rw [List.drop_length]
  exact ⟨g, m, runL_done mid_end⟩
 | k + 1, i, hi, g, m, A, hm, hl, hn => by
  have hx : P[i]? = some P[i] := geg (by omega)
  have hd : P.drop i = P[i] :: P.drop (i + 1) := List.drop_eq_getElem_cons (by omega)
  obtain ⟨g1, m1, h1, h1m⟩ := mid_step (s := s) hx hm (by omega) (by omega) (by omega) (g := g)
  have ha : (cut s A P[i]).2.length ≤ A.2.length + 2 := addM_len _ _
  have hb : (cut s A P[i]).1.length = A.1.length + 2 := by rw [cut, addM_fold1]; simp
  obtain ⟨g', m', h2⟩ := mid_run hP k (i + 1) (by omega) g1 m1 (cut s A P[i]) h1m (by omega) (by omega)
  rw [hd, List.foldl_cons]
  refine ⟨g', m', ?_⟩
  rw [runL_next (step := fun q : Nat × Nat × Int × (List (SetD × Int)) × (List SetD) => L33_1_3 P.length ((P.length : Nat) : Int) (P.map toS) (toS s) q.1 q.2.1 q.2.2.1 q.2.2.2.1 q.2.2.2.2) h1]
  exact h2
def next (P : List V4) (s : V4) : List V4 := (P.foldl (cut s) ([], [])).2
theorem cut_fold : ∀ (P : List V4) (s : V4) (A : List V4 × List V4), P.foldl (cut s) A = (P.flatMap fun p => [mt p s, wo p s]).foldl addM A
 | [], s, A => rfl
 | p :: P, s, A => by
  rw [List.foldl_cons, cut_fold P s, List.flatMap_cons, List.foldl_append]
  rfl
theorem mem_next (P : List V4) (s : V4) : (next P s).Nodup ∧ ∀ x, x ∈ next P s ↔ x ≠ V0 ∧ ∃ p ∈ P, x = mt p s ∨ x = wo p s := by
 have h := MI_fold (P.flatMap fun p => [mt p s, wo p s]) ([], []) ⟨by simp, by simp⟩
 unfold next
 rw [cut_fold]
 refine ⟨h.1, fun x => ?_⟩
 rw [h.2 x, addM_fold1, List.nil_append, List.mem_flatMap, and_comm]
 simp
theorem parts_next {ls P : List V4} (h : Parts ls P) (s : V4) : Parts (ls ++ [s]) (next P s) := by
 obtain ⟨h1, h2⟩ := mem_next P s
 refine ⟨h1, fun x => ?_⟩
 rw [h2 x]
 constructor
 ·rintro ⟨hx, p, hp, e⟩
  obtain ⟨b, hb, rfl⟩ := (h.2 p).1 hp
  obtain ⟨c, hc, hh⟩ := ne_V0.1 hx
  refine ⟨c, hc, V4_ext fun d hd => ?_⟩
  rw [has_cls _ _ _ hd, sg_snoc]
  rcases e with rfl | rfl
  ·rw [has_mt, has_cls _ _ _ hc, Bool.and_eq_true] at hh
   rw [has_mt, has_cls _ _ _ hd, sg_eq hh.1, hh.2]
   cases has s d <;> rfl
  ·rw [has_wo, has_cls _ _ _ hc, Bool.and_eq_true] at hh
   have h0 : has s c = false := by simpa using hh.2
   rw [has_wo, has_cls _ _ _ hd, sg_eq hh.1, h0]
   cases has s d <;> rfl
 ·rintro ⟨b, hb, rfl⟩
  refine ⟨cls_ne _ _ hb, cls ls b, (h.2 _).2 ⟨b, hb, rfl⟩, ?_⟩
  cases hs : has s b with
  | true =>
   refine .inl (V4_ext fun d hd => ?_)
   rw [has_cls _ _ _ hd, has_mt, has_cls _ _ _ hd, sg_snoc, hs]
   cases has s d <;> rfl
  | false =>
   refine .inr (V4_ext fun d hd => ?_)
   rw [has_cls _ _ _ hd, has_wo, has_cls _ _ _ hd, sg_snoc, hs]
   cases has s d <;> rfl
theorem parts_nil : Parts [] [V1] := by
 refine ⟨by simp, fun p => ?_⟩
 have e : ∀ b, cls [] b = V1 := fun b => V4_ext fun c hc => by rw [has_cls _ _ _ hc, has_V1]; rfl
 rw [List.mem_singleton]
 constructor
 ·intro h; exact ⟨0, by omega, h.trans (e 0).symm⟩
 ·intro h
  obtain ⟨b, h1, h2⟩ := h
  exact h2.trans (e b)
theorem parts_fold : ∀ (q ls P : List V4), Parts ls P → Parts (ls ++ q) (q.foldl next P)
 | [], ls, P, h => by rw [List.append_nil]; exact h
 | s :: q, ls, P, h => by
  have := parts_fold q (ls ++ [s]) _ (parts_next h s)
  rw [List.append_assoc] at this
  exact this
theorem out_step {ls : List V4} {s : V4} {i : Nat} (hs : ls[i]? = some s) (hls : ls.length ≤ 100) {g : Nat} {P : List V4} (hP : P.length ≤ 256) :
  L33_2 (ls.map toS) ((ls.map toS).length : Int) g P.length (i : Int) (P.map toS) = some (.inr (g + 1, (next P s).length, ((i + 1 : Nat) : Int), (next P s).map toS)) := by
 have hi : i < ls.length := (gei.1 hs).1
 obtain ⟨g', m', h1⟩ := mid_run (P := P) (s := s) hP P.length 0 (by omega) 0 [] ([], []) (fun x => by simp [mget, mfind]) (by simp) (by simp)
 unfold L33_2
 rw [decide_eq_true (show (i : Int) < ((ls.map toS).length : Int) from by rw [lmp]; omega), getI_map, hs]
 simp only [cond_true, msm, bsm]
 rw [show ((0 : Nat) : Int) = 0 from rfl, List.drop_zero] at h1
 rw [show (([], []) : List V4 × List V4).2.length = 0 from rfl, show (([], []) : List V4 × List V4).2.map toS = [] from rfl] at h1
 rw [h1]
 simp only [bsm, w_S (show i < 4611686018427387904 from by omega)]
 rfl
theorem out_end {ls : List V4} {g n : Nat} {r : List SetD} : L33_2 (ls.map toS) ((ls.map toS).length : Int) g n (ls.length : Int) r = some (.inl (.k0 g n r)) := by
 unfold L33_2
 rw [decide_eq_false (by simp)]
 rfl
theorem out_run {ls : List V4} (hls : ls.length ≤ 100) : ∀ (k i : Nat), i + k = ls.length → ∀ (g : Nat) (P : List V4), Parts (ls.take i) P →
  ∃ g', runL (fun q : Nat × Nat × Int × (List SetD) => L33_2 (ls.map toS) ((ls.map toS).length : Int) q.1 q.2.1 q.2.2.1 q.2.2.2) (g, P.length, (i : Int), P.map toS) = some (.k0 g' ((ls.drop i).foldl next P).length (((ls.drop i).foldl next P).map toS))
 | 0, i, hi, g, P, hp => by
  obtain rfl : i = ls.length := by omega
  rw [List.drop_length]
  exact ⟨g, runL_done out_end⟩
 | k + 1, i, hi, g, P, hp => by
  have hx : ls[i]? = some ls[i] := geg (by omega)
  have hd : ls.drop i = ls[i] :: ls.drop (i + 1) := List.drop_eq_getElem_cons (by omega)
  have ht : ls.take (i + 1) = ls.take i ++ [ls[i]] := by rw [List.take_add_one, hx]; rfl
  obtain ⟨g', h2⟩ := out_run hls k (i + 1) (by omega) (g + 1) (next P ls[i]) (by rw [ht]; exact parts_next hp _)
  rw [hd, List.foldl_cons]
  refine ⟨g', ?_⟩
  rw [runL_next (step := fun q : Nat × Nat × Int × (List SetD) => L33_2 (ls.map toS) ((ls.map toS).length : Int) q.1 q.2.1 q.2.2.1 q.2.2.2) (out_step hx hls (parts_len hp))]
  exact h2
theorem ltOf_cf (x y : V4) : ltOf cf x y = decide (lst0 x < lst0 y) := by
 unfold ltOf cf
 exact decide_eq_decide.2 (by omega)
theorem srt_parts {ls P : List V4} (h : Parts ls P) : srtK cf P = classes ls := by
 obtain ⟨h1, h2⟩ := srtK_sorts cf_swo P
 have hlen := h1.length_eq
 refine up_unique (f := lst0) ?_ (classes_up ls) fun x => ?_
 ·rw [List.pairwise_iff_getElem]
  intro i j hi hj hij
  have hlt := h2 i j hij (by omega)
  rw [getElem!_pos _ i hi, getElem!_pos _ j hj] at hlt
  rw [ltOf_cf] at hlt
  have hle := of_decide_eq_false hlt
  refine Nat.lt_of_le_of_ne (by omega) fun e => ?_
  have hi' := (h1.mem_iff (a := (srtK cf P)[i])).1 (List.getElem_mem hi)
  have hj' := (h1.mem_iff (a := (srtK cf P)[j])).1 (List.getElem_mem hj)
  have := parts_inj h hi' hj' e
  have hn : (srtK cf P).Nodup := h1.nodup_iff.2 h.1
  exact List.pairwise_iff_getElem.1 (List.nodup_iff_pairwise_ne.1 hn) i j hi hj hij this
 ·rw [h1.mem_iff, h.2 x, mem_classes]
theorem srtR_parts {ls P : List V4} (h : Parts ls P) : srtR (P.map toS) P.length = (classes ls).map toS := by
 unfold srtR
 have e : (P.map toS).map v4 = P := by
  rw [List.map_map]
  conv => rhs; rw [← List.map_id P]
  exact List.map_congr_left fun x _ => v4_toS x
 rw [e, List.take_length, List.drop_length, List.append_nil, srt_parts h]
theorem all_sOk (P : List V4) : (P.map toS).all sOk = true := by
 rw [List.all_eq_true]
 intro x hx
 obtain ⟨y, _, rfl⟩ := List.mem_map.1 hx
 exact sOk_toS y
theorem F33_v4 (ls : List V4) (hls : ls.length ≤ 100) : ∃ g, F33 (ls.map toS) = some (.k0 g (classes ls).length ((classes ls).map toS)) := by
 obtain ⟨g, h1⟩ := out_run hls ls.length 0 (by omega) 0 [V1] (by rw [List.take_zero]; exact parts_nil)
 rw [List.drop_zero] at h1
 have hp := parts_fold ls [] [V1] parts_nil
 rw [List.nil_append] at hp
 have hl : (classes ls).length = (ls.foldl next [V1]).length := by
  rw [← srt_parts hp, srtK_len cf_swo]
 refine ⟨g, ?_⟩
 unfold F33
 rw [F16_v4]
 simp only [bsm, toS_eta]
 rw [show ((0 : Nat) : Int) = 0 from rfl] at h1
 have h1 : runL (fun q : Nat × Nat × Int × (List SetD) => L33_2 (ls.map toS) ((ls.map toS).length : Int) q.1 q.2.1 q.2.2.1 q.2.2.2) (0, 1, 0, [toS V1]) = _ := h1
 rw [h1]
 simp only [bsm]
 have hlen := parts_len hp
 rw [decide_eq_true (show (ls.foldl next [V1]).length ≤ ((ls.foldl next [V1]).map toS).length ∧ ((ls.foldl next [V1]).map toS).length ≤ 1000000 from by rw [lmp]; omega), all_sOk, srtR_parts hp, hl]
 rfl
def casts (l : List Nat) : List Int := l.map fun n : Nat => (n : Int)
theorem sg_fold (ls : List V4) (b f : Nat) : ∀ (A : Bool), ls.foldl (fun A x => A && (has x b == has x f)) A = (A && sg ls b f) := by
 induction ls with
 | nil => intro A; simp [sg]
 | cons x ls ih => intro A; rw [List.foldl_cons, ih]; simp [sg, Bool.and_assoc]
theorem same_run {ls : List V4} (hls : ls.length ≤ 100) {fs : List Nat} (hf : ∀ f ∈ fs, f < 256) {i b : Nat} (hb : b < 256) (hi : i < fs.length) :
  runL (fun s => L34_0_4 (ls.map toS) fs.length (b : Int) (i : Int) (casts fs) s.1 s.2) (true, 0) = some (.k0 (sg ls b fs[i])) := by
 have hx : (casts fs)[i]? = some (fs[i] : Int) := by rw [casts, gmp, geg hi]; rfl
 have := loop_foldl (step := fun s : Bool × Int => L34_0_4 (ls.map toS) fs.length (b : Int) (i : Int) (casts fs) s.1 s.2) (l := ls) (fun j A => (A, (j : Int))) (fun A x => A && (has x b == has x fs[i])) (fun A => E_L34_0_4.k0 A) (fun _ => True)
  (fun j x A hj _ => ⟨by
   have hjl : j < ls.length := (gei.1 hj).1
   show L34_0_4 _ _ _ _ _ A (j : Int) = _
   unfold L34_0_4
   rw [decide_eq_true (show (j : Int) < ((ls.map toS).length : Int) from by rw [lmp]; omega), getI_map, hj, ixN_nat, if_pos hi]
   simp only [cond_true, msm, bsm, hx, F15_v4 x b hb, F15_v4 x _ (hf _ (List.getElem_mem hi)), w_S (show j < 4611686018427387904 from by omega)]
   cases A <;> cases has x b <;> cases has x fs[i] <;> rfl, trivial⟩)
  (fun A _ => by
   show L34_0_4 _ _ _ _ _ A (ls.length : Int) = _
   unfold L34_0_4
   rw [decide_eq_false (by simp)]
   rfl) ls.length 0 true (by omega) trivial
 rw [List.drop_zero, sg_fold] at this
 exact this
theorem at_run {ls : List V4} (hls : ls.length ≤ 100) {fs : List Nat} (hf : ∀ f ∈ fs, f < 256) (hfl : fs.length ≤ 256) {b : Nat} (hb : b < 256) :
  ∃ a : Int, runL (fun s => L34_1_3 (ls.map toS) fs.length (b : Int) (casts fs) s.1 s.2) ((-1), 0) = some (.k0 a) ∧
   ((a = -1 ∧ ∀ f ∈ fs, sg ls b f = false) ∨ ∃ (j f : Nat), fs[j]? = some f ∧ a = (j : Int) ∧ sg ls b f = true) := by
 obtain ⟨a, h1, h2⟩ := loop_fold (step := fun s : Int × Int => L34_1_3 (ls.map toS) fs.length (b : Int) (casts fs) s.1 s.2) (l := fs) (fun j A => (A, (j : Int))) (fun j A f => bif sg ls b f then (j : Int) else A) (fun A => E_L34_1_3.k0 A)
  (fun i a => (a = -1 ∧ ∀ f ∈ fs.take i, sg ls b f = false) ∨ ∃ (j f : Nat), fs[j]? = some f ∧ a = (j : Int) ∧ sg ls b f = true)
  (fun j f A hj hA => by
   have hjl : j < fs.length := (gei.1 hj).1
   have hfj : fs[j] = f := (gei.1 hj).2
   refine ⟨?_, ?_⟩
   ·show L34_1_3 _ _ _ _ A (j : Int) = _
    unfold L34_1_3
    rw [decide_eq_true (show (j : Int) < ((fs.length : Nat) : Int) from by omega), same_run hls hf hb hjl, hfj]
    simp only [cond_true, bsm, w_S (show j < 4611686018427387904 from by omega)]
    cases sg ls b f <;> rfl
   ·cases hs : sg ls b f with
    | true => exact .inr ⟨j, f, hj, rfl, hs⟩
    | false =>
     rcases hA with ⟨h1, h2⟩ | h1
     ·refine .inl ⟨h1, fun x hx => ?_⟩
      rw [List.take_add_one, hj] at hx
      rcases List.mem_append.1 hx with h | h
      ·exact h2 x h
      ·simp at h; subst h; exact hs
     ·exact .inr h1)
  (fun A _ => by
   show L34_1_3 _ _ _ _ A (fs.length : Int) = _
   unfold L34_1_3
   rw [decide_eq_false (by omega)]
   rfl) fs.length 0 (-1) (by omega) (.inl ⟨rfl, by simp⟩)
 refine ⟨a, h1, ?_⟩
 rw [List.take_length] at h2
 exact h2
def part (ls : List V4) (n f : Nat) : V4 := build fun c => decide (c < n) && sg ls f c
theorem has_part (ls : List V4) (n f c : Nat) (hc : c < 256) : has (part ls n f) c = (decide (c < n) && sg ls f c) := has_build _ c hc
theorem part_same {ls : List V4} {n f : Nat} (h : sg ls f n = false) : part ls (n + 1) f = part ls n f := V4_ext fun c hc => by
 rw [has_part _ _ _ _ hc, has_part _ _ _ _ hc]
 by_cases e : c = n
 ·subst e; rw [h]; simp
 ·rw [show decide (c < n + 1) = decide (c < n) from decide_eq_decide.2 (by omega)]
theorem part_put {ls : List V4} {n f : Nat} (hn : n < 256) (h : sg ls f n = true) : part ls (n + 1) f = put (part ls n f) n := V4_ext fun c hc => by
 rw [has_part _ _ _ _ hc, has_put _ _ _ hn hc, has_part _ _ _ _ hc]
 by_cases e : c = n
 ·subst e; rw [h]; simp
 ·rw [show decide (c < n + 1) = decide (c < n) from decide_eq_decide.2 (by omega), show decide (n = c) = false from decide_eq_false fun q => e q.symm, Bool.or_false]
theorem part_new {ls : List V4} {n : Nat} (hn : n < 256) (h : fst1 ls n = true) : part ls (n + 1) n = put V0 n := V4_ext fun c hc => by
 rw [has_part _ _ _ _ hc, has_put _ _ _ hn hc, has_V0, Bool.false_or]
 by_cases e : c = n
 ·subst e; rw [sg_refl]; simp
 ·rw [show decide (n = c) = false from decide_eq_false fun q => e q.symm]
  by_cases e2 : c < n
  ·have := fst1_iff.1 h c e2
   cases hs : sg ls n c with
   | false => simp
   | true => rw [sg_symm hs] at this; cases this
  ·rw [decide_eq_false (by omega)]; rfl
theorem part_all (ls : List V4) (f : Nat) : part ls 256 f = cls ls f := V4_ext fun c hc => by
 rw [has_part _ _ _ _ hc, has_cls _ _ _ hc, decide_eq_true hc, Bool.true_and]
def outs (ls : List V4) (n : Nat) : List V4 := (fsts ls n).map (part ls n)
theorem fsts_lt {ls : List V4} {n f : Nat} (h : f ∈ fsts ls n) : f < n := (mem_fsts.1 h).1
theorem fsts_len (ls : List V4) (n : Nat) : (fsts ls n).length ≤ n := by
 have := List.length_filter_le (fst1 ls) (List.range n)
 simpa [fsts] using this
theorem fsts_one {ls : List V4} {n f g : Nat} (hf : f ∈ fsts ls n) (hg : g ∈ fsts ls n) (h : sg ls f g = true) : f = g := by
 rcases Nat.lt_trichotomy f g with e | e | e
 ·rw [fst1_iff.1 (mem_fsts.1 hg).2 f e] at h; cases h
 ·exact e
 ·have := fst1_iff.1 (mem_fsts.1 hf).2 g e
  rw [sg_symm h] at this; cases this
theorem outs_new {ls : List V4} {n : Nat} (hn : n < 256) (h : ∀ f ∈ fsts ls n, sg ls n f = false) : fst1 ls n = true ∧ outs ls (n + 1) = outs ls n ++ [put V0 n] := by
 have h1 : fst1 ls n = true := by
  obtain ⟨a, k1, k2, k3⟩ := first_of ls n
  by_cases e : a = n
  ·subst e; exact k2
  ·have := h a (mem_fsts.2 ⟨by omega, k2⟩)
   rw [sg_symm k3] at this; cases this
 refine ⟨h1, ?_⟩
 unfold outs
 rw [fsts_succ, if_pos h1, List.map_append]
 have e : (fsts ls n).map (part ls (n + 1)) = (fsts ls n).map (part ls n) := by
  refine List.map_congr_left fun f hf => part_same ?_
  have := h f hf
  cases hs : sg ls f n with
  | false => rfl
  | true => rw [sg_symm hs] at this; cases this
 rw [e, List.map_cons, part_new hn h1, List.map_nil]
theorem outs_old {ls : List V4} {n j f : Nat} (hn : n < 256) (hj : (fsts ls n)[j]? = some f) (h : sg ls n f = true) : fst1 ls n = false ∧ (outs ls n)[j]? = some (part ls n f) ∧ outs ls (n + 1) = (outs ls n).set j (put (part ls n f) n) := by
 have hm : f ∈ fsts ls n := List.mem_of_getElem? hj
 have h1 : fst1 ls n = false := by
  cases hs : fst1 ls n with
  | false => rfl
  | true =>
   have := fst1_iff.1 hs f (fsts_lt hm)
   rw [sg_symm h] at this; cases this
 refine ⟨h1, by unfold outs; rw [gmp, hj]; rfl, ?_⟩
 unfold outs
 rw [fsts_succ, if_neg (by rw [h1]; decide)]
 apply List.ext_getElem?
 intro i
 rw [gmp, List.getElem?_set]
 by_cases e : j = i
 ·subst e
  rw [if_pos rfl, if_pos (by rw [lmp]; exact (gei.1 hj).1), hj]
  show some (part ls (n + 1) f) = _
  rw [part_put hn (sg_symm h)]
 ·rw [if_neg e, gmp]
  cases hi : (fsts ls n)[i]? with
  | none => simp only [Option.map_none]
  | some q =>
   show some (part ls (n + 1) q) = some (part ls n q)
   rw [part_same]
   cases hs : sg ls q n with
   | false => rfl
   | true =>
    have hq := fsts_one hm (List.mem_of_getElem? hi) (sg_trans (sg_symm h) (sg_symm hs))
    subst hq
    have hnd : (fsts ls n).Pairwise (· < ·) := fsts_up ls n
    obtain ⟨a1, a2⟩ := gei.1 hj
    obtain ⟨b1, b2⟩ := gei.1 hi
    rcases Nat.lt_trichotomy j i with k | k | k
    ·have := List.pairwise_iff_getElem.1 hnd j i a1 b1 k; omega
    ·exact absurd k e
    ·have := List.pairwise_iff_getElem.1 hnd i j b1 a1 k; omega
theorem ref_step {ls : List V4} (hls : ls.length ≤ 100) {b g1 g2 : Nat} (hb : b < 256) :
  ∃ g1' g2', L34_2 (ls.map toS) g1 (fsts ls b).length g2 (fsts ls b).length (b : Int) ((outs ls b).map toS) (casts (fsts ls b)) =
   some (.inr (g1', (fsts ls (b + 1)).length, g2', (fsts ls (b + 1)).length, ((b + 1 : Nat) : Int), (outs ls (b + 1)).map toS, casts (fsts ls (b + 1)))) := by
 have hf : ∀ f ∈ fsts ls b, f < 256 := fun f h => by have := fsts_lt h; omega
 have hfl := fsts_len ls b
 have hol : (outs ls b).length = (fsts ls b).length := by simp [outs]
 obtain ⟨a, h1, h2⟩ := at_run hls hf (by omega) hb
 unfold L34_2
 rw [decide_eq_true (show (b : Int) < 256 from by omega)]
 have h1 : runL (fun s => L34_1_3 (ls.map toS) (fsts ls b).length (b : Int) (casts (fsts ls b)) s.1 s.2) ((-1), 0) = some (.k0 a) := h1
 rw [h1]
 simp only [cond_true, bsm, w_S (show b < 4611686018427387904 from by omega)]
 rcases h2 with ⟨rfl, h3⟩ | ⟨j, f, h3, rfl, h4⟩
 ·obtain ⟨k1, k2⟩ := outs_new hb h3
  rw [decide_eq_true (show (-1 : Int) < 0 from by omega)]
  have e1 : apOk (fsts ls b).length ([(⟨0, 0, 0, 0⟩ : SetD)]).length ((outs ls b).map toS).length 32 = true := decide_eq_true (by
   simp only [lmp, List.length_singleton, limit47, hol]
   omega)
  have e2 : decide ((fsts ls b).length + ([(⟨0, 0, 0, 0⟩ : SetD)]).length ≤ ((outs ls b).map toS).length) = false := decide_eq_false (by simp [hol])
  have e3 : apOk (fsts ls b).length ([(b : Int)]).length (casts (fsts ls b)).length 8 = true := decide_eq_true (by
   simp only [casts, lmp, List.length_singleton, limit47]
   omega)
  have e4 : decide ((fsts ls b).length + ([(b : Int)]).length ≤ (casts (fsts ls b)).length) = false := decide_eq_false (by simp [casts])
  rw [e1, e2, e3, e4]
  have e5 : ((outs ls b).map toS).take (fsts ls b).length ++ [(⟨0, 0, 0, 0⟩ : SetD)] = (outs ls b ++ [V0]).map toS := by
   rw [tol (by simp [hol]), List.map_append]
   rfl
  have e6 : (casts (fsts ls b)).take (fsts ls b).length ++ [(b : Int)] = casts (fsts ls (b + 1)) := by
   rw [tol (by simp [casts]), fsts_succ, if_pos k1]
   simp [casts]
  simp only [cond_true, cond_false, ixN_nat, List.length_singleton, Nat.lt_succ_self, if_true, bsm]
  rw [e5, e6]
  have e7 : ((outs ls b ++ [V0]).map toS)[(fsts ls b).length]? = some (toS V0) := by
   rw [gmp, ← hol]
   simp
  simp only [bsm, e7, F37_v4 V0 b hb, toS_eta]
  have e8 : ((outs ls b ++ [V0]).map toS).set (fsts ls b).length (toS (put V0 b)) = (outs ls (b + 1)).map toS := by
   rw [k2, ← List.map_set, ← hol]
   simp
  rw [e8, show (fsts ls (b + 1)).length = (fsts ls b).length + 1 from by rw [fsts_succ, if_pos k1]; simp]
  exact ⟨_, _, rfl⟩
 ·obtain ⟨k1, k2, k3⟩ := outs_old hb h3 h4
  have hjl : j < (fsts ls b).length := (gei.1 h3).1
  have e0 : ixN (fsts ls b).length (j : Int) = some j := by rw [ixN_nat, if_pos hjl]
  rw [decide_eq_false (show ¬ ((j : Int) < 0) from by omega)]
  simp only [cond_false, e0, bsm, gmp, k2, msm, F37_v4 _ b hb, toS_eta]
  have e8 : ((outs ls b).map toS).set j (toS (put (part ls b f) b)) = (outs ls (b + 1)).map toS := by rw [k3, ← List.map_set]
  rw [e8, show fsts ls (b + 1) = fsts ls b from by rw [fsts_succ, if_neg (by rw [k1]; decide)]]
  exact ⟨_, _, rfl⟩
theorem ref_end {ls : List V4} {g1 n g2 m : Nat} {o : List SetD} {l : List Int} : L34_2 (ls.map toS) g1 n g2 m ((256 : Nat) : Int) o l = some (.inl (.k0 g1 n o g2 l)) := by
 unfold L34_2
 rw [decide_eq_false (by omega)]
 rfl
theorem ref_run {ls : List V4} (hls : ls.length ≤ 100) : ∀ (k b : Nat), b + k = 256 → ∀ (g1 g2 : Nat),
  ∃ g1' g2', runL (fun s : Nat × Nat × Nat × Nat × Int × (List SetD) × (List Int) => L34_2 (ls.map toS) s.1 s.2.1 s.2.2.1 s.2.2.2.1 s.2.2.2.2.1 s.2.2.2.2.2.1 s.2.2.2.2.2.2) (g1, (fsts ls b).length, g2, (fsts ls b).length, (b : Int), (outs ls b).map toS, casts (fsts ls b)) =
   some (.k0 g1' (fsts ls 256).length ((outs ls 256).map toS) g2' (casts (fsts ls 256)))
 | 0, b, hb, g1, g2 => by
  obtain rfl : b = 256 := by omega
  exact ⟨g1, g2, runL_done ref_end⟩
 | k + 1, b, hb, g1, g2 => by
  obtain ⟨a1, a2, h1⟩ := ref_step hls (b := b) (g1 := g1) (g2 := g2) (by omega)
  obtain ⟨c1, c2, h2⟩ := ref_run hls k (b + 1) (by omega) a1 a2
  refine ⟨c1, c2, ?_⟩
  have h3 := runL_next (step := fun s : Nat × Nat × Nat × Nat × Int × (List SetD) × (List Int) => L34_2 (ls.map toS) s.1 s.2.1 s.2.2.1 s.2.2.2.1 s.2.2.2.2.1 s.2.2.2.2.2.1 s.2.2.2.2.2.2) (s := (g1, (fsts ls b).length, g2, (fsts ls b).length, (b : Int), (outs ls b).map toS, casts (fsts ls b))) (s' := (a1, (fsts ls (b + 1)).length, a2, (fsts ls (b + 1)).length, ((b + 1 : Nat) : Int), (outs ls (b + 1)).map toS, casts (fsts ls (b + 1)))) h1
  exact h3.trans h2
theorem outs_all (ls : List V4) : outs ls 256 = classes ls := by
 unfold outs classes
 exact List.map_congr_left fun f _ => part_all ls f
theorem F34_v4 (ls : List V4) (hls : ls.length ≤ 100) : F34 (ls.map toS) = some ((classes ls).map toS) := by
 obtain ⟨g1, g2, h⟩ := ref_run hls 256 0 (by omega) 0 0
 obtain ⟨R, hR⟩ : ∃ R, R = E_L34_2.k0 g1 (fsts ls 256).length ((outs ls 256).map toS) g2 (casts (fsts ls 256)) := ⟨_, rfl⟩
 rw [← hR] at h
 have h : runL (fun s : Nat × Nat × Nat × Nat × Int × (List SetD) × (List Int) => L34_2 (ls.map toS) s.1 s.2.1 s.2.2.1 s.2.2.2.1 s.2.2.2.2.1 s.2.2.2.2.2.1 s.2.2.2.2.2.2) (0, 0, 0, 0, 0, [], []) = some R := h
 unfold F34
 rw [h, hR]
 simp only [bsm]
 have hol : ((outs ls 256).map toS).length = (fsts ls 256).length := by simp [outs]
 rw [decide_eq_true (show (fsts ls 256).length ≤ ((outs ls 256).map toS).length from by omega), ← outs_all]
 show some (((outs ls 256).map toS).take (fsts ls 256).length) = _
 rw [tol (by omega)]
theorem in_step2 {L : List V4} {i : Nat} {x : V4} (hx : L[i]? = some x) {g : Nat} {m : List (SetD × Int)} {A : List V4 × List V4} (hm : MR m A) (hl : A.1.length ≤ 100000) (hn : A.2.length ≤ 100000) (hL : L.length ≤ 100000) :
  ∃ g', L33_0_20 (L.map toS) ((L.map toS).length : Int) g A.2.length (i : Int) m (A.2.map toS) = some (.inr (g', (addM A x).2.length, ((i + 1 : Nat) : Int), mput (toS x) (IntKind.wrap .i64 (mget 0 m (toS x) + 1)) m, (addM A x).2.map toS)) := by
 have hi : i < L.length := (gei.1 hx).1
 have h1 : decide ((i : Int) < ((L.map toS).length : Int)) = true := decide_eq_true (by rw [lmp]; omega)
 unfold L33_0_20
 rw [h1, getI_map, hx]
 simp only [cond_true, msm, bsm, isZ, toS_eta, w_S (show i < 4611686018427387904 from by omega)]
 have hmg : (mget 0 (mput (toS x) (IntKind.wrap .i64 (mget 0 m (toS x) + 1)) m) (toS x) == 1) = decide (x ∉ A.1) := by
  rw [mget_mput, if_pos rfl, hm x, w_S (by have : A.1.count x ≤ A.1.length := List.count_le_length; omega)]
  rw [show ((((A.1.count x + 1 : Nat) : Int)) == 1) = decide ((((A.1.count x + 1 : Nat) : Int)) = 1) from rfl]
  refine decide_eq_decide.2 ?_
  rw [← List.count_eq_zero]
  omega
 rw [hmg]
 unfold addM
 by_cases h0 : x = V0
 ·rw [if_pos (.inl h0), decide_eq_true h0]
  exact ⟨g, rfl⟩
 ·rw [decide_eq_false h0]
  by_cases h2 : x ∈ A.1
  ·rw [if_pos (.inr h2), decide_eq_false (fun q => q h2)]
   exact ⟨g, rfl⟩
  ·rw [if_neg (fun q => q.elim h0 h2), decide_eq_true h2]
   have hap : apOk A.2.length ([toS x]).length (A.2.map toS).length 32 = true := decide_eq_true (by
    simp only [lmp, List.length_singleton, limit47]
    omega)
   have hlt : decide (A.2.length + ([toS x]).length ≤ (A.2.map toS).length) = false := decide_eq_false (by simp)
   rw [hap, hlt]
   refine ⟨g + 1, ?_⟩
   simp only [Bool.not_false, cond_true, cond_false, List.length_append, List.length_singleton, List.map_append, List.map_cons, List.map_nil]
   rw [tol (by simp)]
theorem in_end2 {L : List V4} {g n : Nat} {m : List (SetD × Int)} {r : List SetD} : L33_0_20 (L.map toS) ((L.map toS).length : Int) g n (L.length : Int) m r = some (.inl (.k0 g n m r)) := by
 unfold L33_0_20
 rw [decide_eq_false (by simp)]
 rfl
theorem in_run2 {L : List V4} (hL : L.length ≤ 1000) : ∀ (k i : Nat), i + k = L.length → ∀ (g : Nat) (m : List (SetD × Int)) (A : List V4 × List V4), MR m A → A.1.length + k ≤ 100000 → A.2.length + k ≤ 100000 →
  ∃ g' m', runL (fun s : Nat × Nat × Int × (List (SetD × Int)) × (List SetD) => L33_0_20 (L.map toS) ((L.map toS).length : Int) s.1 s.2.1 s.2.2.1 s.2.2.2.1 s.2.2.2.2) (g, A.2.length, (i : Int), m, A.2.map toS) = some (.k0 g' ((L.drop i).foldl addM A).2.length m' (((L.drop i).foldl addM A).2.map toS)) ∧ MR m' ((L.drop i).foldl addM A)
 | 0, i, hi, g, m, A, hm, hl, hn => by
  obtain rfl : i = L.length := by omega
  rw [List.drop_length]
  exact ⟨g, m, runL_done in_end2, hm⟩
 | k + 1, i, hi, g, m, A, hm, hl, hn => by
  have hx : L[i]? = some L[i] := geg (by omega)
  have hd : L.drop i = L[i] :: L.drop (i + 1) := List.drop_eq_getElem_cons (by omega)
  obtain ⟨g1, h1⟩ := in_step2 hx hm (by omega) (by omega) (by omega) (g := g)
  have ha : (addM A L[i]).2.length ≤ A.2.length + 1 := by unfold addM; split <;> simp
  have hb : (addM A L[i]).1.length = A.1.length + 1 := by simp [addM]
  obtain ⟨g', m', h2, h3⟩ := in_run2 hL k (i + 1) (by omega) g1 _ (addM A L[i]) (MR_add hm (by omega) L[i]) (by omega) (by omega)
  rw [hd, List.foldl_cons]
  refine ⟨g', m', ?_, h3⟩
  rw [runL_next (step := fun s : Nat × Nat × Int × (List (SetD × Int)) × (List SetD) => L33_0_20 (L.map toS) ((L.map toS).length : Int) s.1 s.2.1 s.2.2.1 s.2.2.2.1 s.2.2.2.2) h1]
  exact h2
theorem mid_step2 {P : List V4} {s p : V4} {i : Nat} (hp : P[i]? = some p) {g : Nat} {m : List (SetD × Int)} {A : List V4 × List V4} (hm : MR m A) (hl : A.1.length ≤ 10000) (hn : A.2.length ≤ 10000) (hP : P.length ≤ 256) :
  ∃ g' m', L33_1_6 P.length ((P.length : Nat) : Int) (P.map toS) (toS s) g A.2.length (i : Int) m (A.2.map toS) = some (.inr (g', (cut s A p).2.length, ((i + 1 : Nat) : Int), m', (cut s A p).2.map toS)) ∧ MR m' (cut s A p) := by
 have hi : i < P.length := (gei.1 hp).1
 obtain ⟨g', m', h1, h2⟩ := in_run2 (L := [mt p s, wo p s]) (by simp) 2 0 rfl g m A hm (by omega) (by omega)
 refine ⟨g', m', ?_, h2⟩
 unfold L33_1_6
 rw [decide_eq_true (show (i : Int) < ((P.length : Nat) : Int) from by omega), ixN_nat, if_pos hi]
 simp only [cond_true, bsm, gmp, hp, msm, F18_v4, F21_v4, toS_eta]
 rw [show ([toS (mt p s), toS (wo p s)] : List SetD) = [mt p s, wo p s].map toS from rfl]
 rw [show ((0 : Nat) : Int) = 0 from rfl] at h1
 rw [h1]
 simp only [bsm, w_S (show i < 4611686018427387904 from by omega)]
 rfl
theorem mid_end2 {P : List V4} {s : V4} {g n : Nat} {m : List (SetD × Int)} {r : List SetD} : L33_1_6 P.length ((P.length : Nat) : Int) (P.map toS) (toS s) g n (P.length : Int) m r = some (.inl (.k0 g n m r)) := by
 unfold L33_1_6
 rw [decide_eq_false (by omega)]
 rfl
theorem mid_run2 {P : List V4} {s : V4} (hP : P.length ≤ 256) : ∀ (k i : Nat), i + k = P.length → ∀ (g : Nat) (m : List (SetD × Int)) (A : List V4 × List V4), MR m A → A.1.length ≤ 2 * i → A.2.length ≤ 2 * i →
  ∃ g' m', runL (fun q : Nat × Nat × Int × (List (SetD × Int)) × (List SetD) => L33_1_6 P.length ((P.length : Nat) : Int) (P.map toS) (toS s) q.1 q.2.1 q.2.2.1 q.2.2.2.1 q.2.2.2.2) (g, A.2.length, (i : Int), m, A.2.map toS) = some (.k0 g' ((P.drop i).foldl (cut s) A).2.length m' (((P.drop i).foldl (cut s) A).2.map toS))
 | 0, i, hi, g, m, A, hm, hl, hn => by
  obtain rfl : i = P.length := by omega
  rw [List.drop_length]
  exact ⟨g, m, runL_done mid_end2⟩
 | k + 1, i, hi, g, m, A, hm, hl, hn => by
  have hx : P[i]? = some P[i] := geg (by omega)
  have hd : P.drop i = P[i] :: P.drop (i + 1) := List.drop_eq_getElem_cons (by omega)
  obtain ⟨g1, m1, h1, h1m⟩ := mid_step2 (s := s) hx hm (by omega) (by omega) (by omega) (g := g)
  have ha : (cut s A P[i]).2.length ≤ A.2.length + 2 := addM_len _ _
  have hb : (cut s A P[i]).1.length = A.1.length + 2 := by rw [cut, addM_fold1]; simp
  obtain ⟨g', m', h2⟩ := mid_run2 hP k (i + 1) (by omega) g1 m1 (cut s A P[i]) h1m (by omega) (by omega)
  rw [hd, List.foldl_cons]
  refine ⟨g', m', ?_⟩
  rw [runL_next (step := fun q : Nat × Nat × Int × (List (SetD × Int)) × (List SetD) => L33_1_6 P.length ((P.length : Nat) : Int) (P.map toS) (toS s) q.1 q.2.1 q.2.2.1 q.2.2.2.1 q.2.2.2.2) h1]
  exact h2
theorem out_step2 {ls : List V4} {s : V4} {i : Nat} (hs : ls[i]? = some s) (hls : ls.length ≤ 100) {g : Nat} {P : List V4} (hP : P.length ≤ 256) :
  L33_2_2 (ls.map toS) ((ls.map toS).length : Int) g P.length (i : Int) (P.map toS) = some (.inr (g + 1, (next P s).length, ((i + 1 : Nat) : Int), (next P s).map toS)) := by
 have hi : i < ls.length := (gei.1 hs).1
 obtain ⟨g', m', h1⟩ := mid_run2 (P := P) (s := s) hP P.length 0 (by omega) 0 [] ([], []) (fun x => by simp [mget, mfind]) (by simp) (by simp)
 unfold L33_2_2
 rw [decide_eq_true (show (i : Int) < ((ls.map toS).length : Int) from by rw [lmp]; omega), getI_map, hs]
 simp only [cond_true, msm, bsm]
 rw [show ((0 : Nat) : Int) = 0 from rfl, List.drop_zero] at h1
 rw [show (([], []) : List V4 × List V4).2.length = 0 from rfl, show (([], []) : List V4 × List V4).2.map toS = [] from rfl] at h1
 rw [h1]
 simp only [bsm, w_S (show i < 4611686018427387904 from by omega)]
 rfl
theorem out_end2 {ls : List V4} {g n : Nat} {r : List SetD} : L33_2_2 (ls.map toS) ((ls.map toS).length : Int) g n (ls.length : Int) r = some (.inl (.k0 g n r)) := by
 unfold L33_2_2
 rw [decide_eq_false (by simp)]
 rfl
theorem out_run2 {ls : List V4} (hls : ls.length ≤ 100) : ∀ (k i : Nat), i + k = ls.length → ∀ (g : Nat) (P : List V4), Parts (ls.take i) P →
  ∃ g', runL (fun q : Nat × Nat × Int × (List SetD) => L33_2_2 (ls.map toS) ((ls.map toS).length : Int) q.1 q.2.1 q.2.2.1 q.2.2.2) (g, P.length, (i : Int), P.map toS) = some (.k0 g' ((ls.drop i).foldl next P).length (((ls.drop i).foldl next P).map toS))
 | 0, i, hi, g, P, hp => by
  obtain rfl : i = ls.length := by omega
  rw [List.drop_length]
  exact ⟨g, runL_done out_end2⟩
 | k + 1, i, hi, g, P, hp => by
  have hx : ls[i]? = some ls[i] := geg (by omega)
  have hd : ls.drop i = ls[i] :: ls.drop (i + 1) := List.drop_eq_getElem_cons (by omega)
  have ht : ls.take (i + 1) = ls.take i ++ [ls[i]] := by rw [List.take_add_one, hx]; rfl
  obtain ⟨g', h2⟩ := out_run2 hls k (i + 1) (by omega) (g + 1) (next P ls[i]) (by rw [ht]; exact parts_next hp _)
  rw [hd, List.foldl_cons]
  refine ⟨g', ?_⟩
  rw [runL_next (step := fun q : Nat × Nat × Int × (List SetD) => L33_2_2 (ls.map toS) ((ls.map toS).length : Int) q.1 q.2.1 q.2.2.1 q.2.2.2) (out_step2 hx hls (parts_len hp))]
  exact h2
theorem F33b_v4 (ls : List V4) (hls : ls.length ≤ 100) : ∃ g, F33_2 (ls.map toS) = some (.k0 g (classes ls).length ((classes ls).map toS)) := by
 obtain ⟨g, h1⟩ := out_run2 hls ls.length 0 (by omega) 0 [V1] (by rw [List.take_zero]; exact parts_nil)
 rw [List.drop_zero] at h1
 have hp := parts_fold ls [] [V1] parts_nil
 rw [List.nil_append] at hp
 have hl : (classes ls).length = (ls.foldl next [V1]).length := by
  rw [← srt_parts hp, srtK_len cf_swo]
 refine ⟨g, ?_⟩
 unfold F33_2
 rw [F16_v4]
 simp only [bsm, toS_eta]
 rw [show ((0 : Nat) : Int) = 0 from rfl] at h1
 have h1 : runL (fun q : Nat × Nat × Int × (List SetD) => L33_2_2 (ls.map toS) ((ls.map toS).length : Int) q.1 q.2.1 q.2.2.1 q.2.2.2) (0, 1, 0, [toS V1]) = _ := h1
 rw [h1]
 simp only [bsm]
 have hlen := parts_len hp
 rw [decide_eq_true (show (ls.foldl next [V1]).length ≤ ((ls.foldl next [V1]).map toS).length ∧ ((ls.foldl next [V1]).map toS).length ≤ 1000000 from by rw [lmp]; omega), all_sOk, srtR_parts hp, hl]
 rfl
def WOk (l : List SetD) : Prop := l.all sOk = true
theorem toS_list {l : List SetD} (h : WOk l) : l = (l.map v4).map toS := by
 rw [List.map_map]
 conv => lhs; rw [← List.map_id l]
 exact List.map_congr_left fun s hs => (toS_v4 (List.all_eq_true.1 h s hs)).symm
def wiped (w : List V4) (i : Nat) : List SetD := (List.replicate i (⟨0, 0, 0, 0⟩ : SetD)) ++ (w.drop i).map toS
theorem wiped_get {w : List V4} {i : Nat} {x : V4} (hx : w[i]? = some x) : (wiped w i)[i]? = some (toS x) ∧ (wiped w i).set i (⟨0, 0, 0, 0⟩ : SetD) = wiped w (i + 1) := by
 have hi : i < w.length := (gei.1 hx).1
 have hd : w.drop i = x :: w.drop (i + 1) := by
  rw [List.drop_eq_getElem_cons hi]
  rw [(gei.1 hx).2]
 unfold wiped
 rw [hd, List.map_cons]
 constructor
 ·rw [List.getElem?_append_right (by simp)]
  simp
 ·rw [List.set_append_right _ _ (by simp)]
  simp [List.replicate_succ']
theorem q6_1 {w : List V4} (hw : w.length ≤ 256) : ∀ (k i : Nat), i + k = w.length → ∃ r, runL (fun s => L6_1 w.length (w.map toS) s.1 s.2) ((i : Int), wiped w i) = some (.k1 r)
 | 0, i, hi => by
  obtain rfl : i = w.length := by omega
  refine ⟨wiped w w.length, runL_done ?_⟩
  show L6_1 _ _ (w.length : Int) _ = _
  unfold L6_1
  rw [decide_eq_false (by simp)]
  rfl
 | k + 1, i, hi => by
  have hx : w[i]? = some w[i] := geg (by omega)
  obtain ⟨h1, h2⟩ := wiped_get hx
  obtain ⟨r, h3⟩ := q6_1 hw k (i + 1) (by omega)
  refine ⟨r, ?_⟩
  have hs : L6_1 w.length (w.map toS) (i : Int) (wiped w i) = some (.inr (((i + 1 : Nat) : Int), wiped w (i + 1))) := by
   have e0 : ixN w.length (i : Int) = some i := by rw [ixN_nat, if_pos (by omega)]
   unfold L6_1
   rw [decide_eq_true (show (i : Int) < ((w.map toS).length : Int) from by rw [lmp]; omega)]
   simp only [cond_true, e0, bsm, h1, getI_map, hx, msm, eqS, decide_true, Bool.not_true, cond_false, h2, w_S (show i < 4611686018427387904 from by omega)]
  have h4 := runL_next (step := fun s : Int × List SetD => L6_1 w.length (w.map toS) s.1 s.2) (s := ((i : Int), wiped w i)) (s' := (((i + 1 : Nat) : Int), wiped w (i + 1))) hs
  exact h4.trans h3
theorem q6_0 {w : List V4} (hw : w.length ≤ 256) : runL (fun s => L6_0 w.length (w.map toS) (w.map toS) s) 0 = some .k1 := by
 have := loop_list (step := fun s => L6_0 w.length (w.map toS) (w.map toS) s) (l := w) (fun _ _ => true) (bad := .k0) (fin := .k1) (fun i x hx => by
  have hi : i < w.length := (gei.1 hx).1
  have e0 : ixN w.length (i : Int) = some i := by rw [ixN_nat, if_pos hi]
  unfold L6_0
  rw [decide_eq_true (show (i : Int) < ((w.map toS).length : Int) from by rw [lmp]; omega)]
  simp only [cond_true, e0, bsm, gmp, getI_map, hx, msm, eqS, decide_true, Bool.not_true, cond_false, w_S (show i < 4611686018427387904 from by omega)]) (by
  show L6_0 _ _ _ (w.length : Int) = _
  unfold L6_0
  rw [decide_eq_false (by simp)]
  rfl)
 rw [this]
 have e : ∀ (l : List V4) (i : Nat), allF (fun _ _ => true) i l = true := fun l => by
  induction l with
  | nil => intro i; rfl
  | cons x xs ih => intro i; simp only [allF, ih, Bool.and_self]
 rw [e]
 rfl
theorem classes_len (ls : List V4) : (classes ls).length ≤ 256 := by
 have := fsts_len ls 256
 simpa [classes] using this
theorem law6 {l : List SetD} (h : WOk l) : F6 l = some true := by
 rw [toS_list h]
 obtain ⟨ls, hls⟩ : ∃ ls, ls = l.map v4 := ⟨_, rfl⟩
 rw [← hls]
 unfold F6
 by_cases hl : ls.length ≤ 30
 ·rw [decide_eq_false (show ¬ (((ls.map toS).length : Int) > 30) from by rw [lmp]; omega)]
  obtain ⟨g1, h1⟩ := F33_v4 ls (by omega)
  obtain ⟨g2, h2⟩ := F33b_v4 ls (by omega)
  have hc := classes_len ls
  obtain ⟨r, h3⟩ := q6_1 hc (classes ls).length 0 (by omega)
  have e : wiped (classes ls) 0 = (classes ls).map toS := rfl
  rw [e, show ((0 : Nat) : Int) = 0 from rfl] at h3
  have hb : ((((classes ls).length : Nat) : Int) != ((((classes ls).map toS).length : Nat) : Int)) = false := by simp
  simp only [cond_false, h1, h2, bsm, F34_v4 ls (by omega), hb, h3, q6_0 hc]
  rfl
 ·rw [decide_eq_true (show ((ls.map toS).length : Int) > 30 from by rw [lmp]; omega)]
  rfl
end Go.Proofs.Tryd
