/- Sets together as the document has it, byte by byte: the union. -/
import Derived.Test.YtefidjmkfefilaaDoorK8
import Derived.Test.YtefidjmkfefilaaDoorH83
import Derived.Test.YtefidjmkfefilaaDoorVE
open Option renaming bind_some → bsm, getD_some → gds
open List renaming getElem?_eq_some_iff → gei, getElem?_eq_getElem → geg, mem_of_getElem? → mog, take_of_length_le → tol, length_map → lmp, getElem?_replicate → grp, getElem?_eq_none → gen, mem_cons_of_mem → mcm, mem_cons_self → mcf
namespace Go.Proofs.Tryd
set_option linter.unusedSimpArgs false
set_option linter.unusedVariables false
open Go Go.Vs
theorem LQ (x : V4) {b : Nat} (hb : b < 256) : LA (sd x).a (sd x).b (sd x).c (sd x).d (b : Int) = some (has x b) := by
 have e1 : IntKind.wrap .i64 (Int.tdiv (b : Int) 64) = ((b / 64 : Nat) : Int) := by
  rw [show Int.tdiv (b : Int) 64 = ((b / 64 : Nat) : Int) from rfl, w_id (by omega)]
 have e2 : Int.tmod (b : Int) 64 = ((b % 64 : Nat) : Int) := rfl
 have hm : b % 64 < 64 := by omega
 have bq : ∀ w : BitVec 64, (((w.toNat >>> (b % 64) % 2 : Nat) : Int) == 1) = w.getLsbD (b % 64) := by
  intro w
  rw [Zb2 _ _ hm, Zb3]
 unfold LA has
 simp only [sd]
 rw [e1, e2, decide_eq_false (by omega), fd hm, fd hm, fd hm, fd hm, bq, bq, bq, bq]
 have h4 : b / 64 = 0 ∨ b / 64 = 1 ∨ b / 64 = 2 ∨ b / 64 = 3 := by omega
 rcases h4 with e | e | e | e <;> rw [e] <;> rfl
theorem Zbv (x : V4) {b : Nat} (hb : b < 256) : FC (sd x) (b : Int) = some (has x b) := LQ x hb
theorem Zbw {s : SymD} (h : SymOk s) {b : Nat} (hb : b < 256) : F71 s (b : Int) = some (has (v4 s) b) := by
 have e := JE h
 have := LQ (v4 s) hb
 rw [← e] at this
 exact this
theorem F0 {i j : Nat} (hi : i < 64) : (1#64 <<< j).getLsbD i = decide (i = j) := by
 rw [BitVec.getLsbD_shiftLeft]
 by_cases h : i = j
 ·subst h; simp [hi]
 ·simp only [h, decide_false]
  by_cases h2 : i < j
  ·simp [h2]
  ·have : i - j ≠ 0 := by omega
   simp [hi, h2, this]
theorem Zaz (s : V4) (k : Nat) (x : BitVec 64) (j : Nat) (hk : k < 4) (hj : j < 4) : (s.putW k x).get j = if j = k then x else s.get j := by
 have h1 : k = 0 ∨ k = 1 ∨ k = 2 ∨ k = 3 := by omega
 have h2 : j = 0 ∨ j = 1 ∨ j = 2 ∨ j = 3 := by omega
 rcases h1 with rfl | rfl | rfl | rfl <;> rcases h2 with rfl | rfl | rfl | rfl <;> rfl
theorem LR (s : V4) {b c : Nat} (hb : b < 256) (hc : c < 256) : has (put s b) c = (has s c || decide (c = b)) := by
 unfold has put
 rw [Zaz s _ _ _ (by omega) (by omega)]
 by_cases e : c / 64 = b / 64
 ·rw [if_pos e, BitVec.getLsbD_or, F0 (by omega), e]
  congr 1
  by_cases e2 : c % 64 = b % 64
  ·rw [decide_eq_true e2, decide_eq_true (show c = b by omega)]
  ·rw [decide_eq_false e2, decide_eq_false (show ¬ c = b by omega)]
 ·rw [if_neg e, decide_eq_false (show ¬ c = b by omega), Bool.or_false]
theorem ZaA {s : V4} {b : Nat} (hb : b < 256) (h : has s b = true) : put s b = s := by
 refine PZ (fun c hc => ?_)
 rw [LR s hb hc]
 by_cases e : c = b
 ·subst e; rw [h]; rfl
 ·rw [decide_eq_false e, Bool.or_false]
theorem F1 {w : BitVec 64} {j : Nat} (hj : j < 64) (h : w.getLsbD j = false) : IntKind.wrap .u64 ((w.toNat : Int) + IntKind.wrap .u64 (1 * 2 ^ (min (Int.toNat (j : Int)) (IntKind.bits .u64)))) = ((w ||| 1#64 <<< j).toNat : Int) := by
 have e : min (Int.toNat (j : Int)) (IntKind.bits .u64) = j := by
  rw [show IntKind.bits .u64 = 64 from rfl, Int.toNat_natCast]; omega
 have hand : w &&& 1#64 <<< j = 0#64 := by
  apply BitVec.eq_of_getLsbD_eq
  intro i hi
  rw [BitVec.getLsbD_and, F0 hi]
  by_cases e2 : i = j
  ·subst e2; simp [h]
  ·simp [e2]
 have hs : (1#64 <<< j).toNat = 2 ^ j := by
  rw [BitVec.toNat_shiftLeft, Nat.shiftLeft_eq]
  have : 2 ^ j < 2 ^ 64 := Nat.pow_lt_pow_right (by omega) hj
  simp only [BitVec.toNat_ofNat]
  omega
 have hlt : 2 ^ j < 2 ^ 64 := Nat.pow_lt_pow_right (by omega) hj
 rw [← BitVec.add_eq_or_of_and_eq_zero w _ hand, BitVec.toNat_add, hs, e, Gw, Int.one_mul, IntKind.wrap_u64, IntKind.wrap_u64]
 have e2 : ((2 ^ j : Nat) : Int) % 18446744073709551616 = ((2 ^ j : Nat) : Int) := by
  rw [Int.emod_eq_of_lt (Int.natCast_nonneg _)]; omega
 rw [e2, ← Int.natCast_add]
 omega
theorem q79 (s : V4) {b : Nat} (hb : b < 256) : R2 (sd s).a (sd s).b (sd s).c (sd s).d (b : Int) = some (.k0 (sd (put s b)).a (sd (put s b)).b (sd (put s b)).c (sd (put s b)).d) := by
 unfold R2
 rw [LQ s hb]
 simp only [bsm]
 cases h : has s b with
 | true => rw [ZaA hb h]; rfl
 | false =>
  have e1 : IntKind.wrap .i64 (Int.tdiv (b : Int) 64) = ((b / 64 : Nat) : Int) := by
   rw [show Int.tdiv (b : Int) 64 = ((b / 64 : Nat) : Int) from rfl, w_id (by omega)]
  have e2 : Int.tmod (b : Int) 64 = ((b % 64 : Nat) : Int) := rfl
  have hm : b % 64 < 64 := by omega
  unfold has at h
  simp only [cond_false]
  rw [e1, e2, decide_eq_false (show ¬ ((b % 64 : Nat) : Int) < 0 by omega)]
  have h4 : b / 64 = 0 ∨ b / 64 = 1 ∨ b / 64 = 2 ∨ b / 64 = 3 := by omega
  rcases h4 with e | e | e | e <;> rw [e] at h <;> unfold put <;> rw [e] <;> simp only [sd, F1 hm h, V4.putW, V4.get] <;> first | rfl | (have := F1 hm h; simp only [V4.get] at this; simp only [this]; rfl)
theorem l63 (x y : V4) : ∀ (k i : Nat) (z : V4), i + k = 256 → (∀ c, c < 256 → has z c = (decide (c < i) && (has x c || has y c))) →
  runL (fun s => YR (sd x).a (sd x).b (sd x).c (sd x).d (sd y) s.1 s.2.1 s.2.2.1 s.2.2.2.1 s.2.2.2.2) ((i : Int), (sd z).a, (sd z).b, (sd z).c, (sd z).d) = some (.k0 (sd (uV x y)).a (sd (uV x y)).b (sd (uV x y)).c (sd (uV x y)).d)
 | 0, i, z, hi, hz => by
  obtain rfl : i = 256 := by omega
  have : z = uV x y := PZ (fun c hc => by rw [hz c hc, XG, decide_eq_true hc, Bool.true_and])
  rw [this]
  exact Zc (by simp [YR])
 | k + 1, i, z, hi, hz => by
  have hb : i < 256 := by omega
  cases hh : (has x i || has y i) with
  | true =>
   have hstep : YR (sd x).a (sd x).b (sd x).c (sd x).d (sd y) (i : Int) (sd z).a (sd z).b (sd z).c (sd z).d = some (.inr (((i + 1 : Nat) : Int), (sd (put z i)).a, (sd (put z i)).b, (sd (put z i)).c, (sd (put z i)).d)) := by
    simp only [YR, decide_eq_true (show (i : Int) < 256 by omega), cond_true, LQ x hb, Zbv y hb, bsm, q79 z hb, w_S (show i < 4611686018427387904 by omega)]
    cases h1 : has x i <;> cases h2 : has y i <;> first | rfl | (rw [h1, h2] at hh; cases hh)
   refine Eq.trans (Zd (step := fun s : Int × Int × Int × Int × Int => YR (sd x).a (sd x).b (sd x).c (sd x).d (sd y) s.1 s.2.1 s.2.2.1 s.2.2.2.1 s.2.2.2.2) (s := ((i : Int), (sd z).a, (sd z).b, (sd z).c, (sd z).d)) (s' := (((i + 1 : Nat) : Int), (sd (put z i)).a, (sd (put z i)).b, (sd (put z i)).c, (sd (put z i)).d)) hstep) ?_
   refine l63 x y k (i + 1) _ (by omega) (fun c hc => ?_)
   rw [LR z hb hc, hz c hc]
   by_cases e : c = i
   ·subst e; rw [hh, decide_eq_true rfl, decide_eq_true (show c < c + 1 by omega)]; simp
   ·rw [decide_eq_false e, Bool.or_false]
    by_cases e2 : c < i
    ·rw [decide_eq_true e2, decide_eq_true (show c < i + 1 by omega)]
    ·rw [decide_eq_false e2, decide_eq_false (show ¬ c < i + 1 by omega)]
  | false =>
   have hstep : YR (sd x).a (sd x).b (sd x).c (sd x).d (sd y) (i : Int) (sd z).a (sd z).b (sd z).c (sd z).d = some (.inr (((i + 1 : Nat) : Int), (sd z).a, (sd z).b, (sd z).c, (sd z).d)) := by
    simp only [YR, decide_eq_true (show (i : Int) < 256 by omega), cond_true, LQ x hb, Zbv y hb, bsm, w_S (show i < 4611686018427387904 by omega)]
    cases h1 : has x i <;> cases h2 : has y i <;> first | rfl | (rw [h1, h2] at hh; cases hh)
   refine Eq.trans (Zd (step := fun s : Int × Int × Int × Int × Int => YR (sd x).a (sd x).b (sd x).c (sd x).d (sd y) s.1 s.2.1 s.2.2.1 s.2.2.2.1 s.2.2.2.2) (s := ((i : Int), (sd z).a, (sd z).b, (sd z).c, (sd z).d)) (s' := (((i + 1 : Nat) : Int), (sd z).a, (sd z).b, (sd z).c, (sd z).d)) hstep) ?_
   refine l63 x y k (i + 1) _ (by omega) (fun c hc => ?_)
   rw [hz c hc]
   by_cases e : c = i
   ·subst e; rw [hh]; simp
   ·by_cases e2 : c < i
    ·rw [decide_eq_true e2, decide_eq_true (show c < i + 1 by omega)]
    ·rw [decide_eq_false e2, decide_eq_false (show ¬ c < i + 1 by omega)]
theorem l63s (x : V4) {s : SymD} (hs : SymOk s) : ∀ (k i : Nat) (z : V4), i + k = 256 → (∀ c, c < 256 → has z c = (decide (c < i) && (has x c || has (v4 s) c))) →
  runL (fun q => YS (sd x).a (sd x).b (sd x).c (sd x).d s q.1 q.2.1 q.2.2.1 q.2.2.2.1 q.2.2.2.2) ((i : Int), (sd z).a, (sd z).b, (sd z).c, (sd z).d) = some (.k0 (sd (uV x (v4 s))).a (sd (uV x (v4 s))).b (sd (uV x (v4 s))).c (sd (uV x (v4 s))).d)
 | 0, i, z, hi, hz => by
  obtain rfl : i = 256 := by omega
  have : z = uV x (v4 s) := PZ (fun c hc => by rw [hz c hc, XG, decide_eq_true hc, Bool.true_and])
  rw [this]
  exact Zc (by simp [YS])
 | k + 1, i, z, hi, hz => by
  have hb : i < 256 := by omega
  cases hh : (has x i || has (v4 s) i) with
  | true =>
   have hstep : YS (sd x).a (sd x).b (sd x).c (sd x).d s (i : Int) (sd z).a (sd z).b (sd z).c (sd z).d = some (.inr (((i + 1 : Nat) : Int), (sd (put z i)).a, (sd (put z i)).b, (sd (put z i)).c, (sd (put z i)).d)) := by
    simp only [YS, decide_eq_true (show (i : Int) < 256 by omega), cond_true, LQ x hb, Zbw hs hb, bsm, q79 z hb, w_S (show i < 4611686018427387904 by omega)]
    cases h1 : has x i <;> cases h2 : has (v4 s) i <;> first | rfl | (rw [h1, h2] at hh; cases hh)
   refine Eq.trans (Zd (step := fun q : Int × Int × Int × Int × Int => YS (sd x).a (sd x).b (sd x).c (sd x).d s q.1 q.2.1 q.2.2.1 q.2.2.2.1 q.2.2.2.2) (s := ((i : Int), (sd z).a, (sd z).b, (sd z).c, (sd z).d)) (s' := (((i + 1 : Nat) : Int), (sd (put z i)).a, (sd (put z i)).b, (sd (put z i)).c, (sd (put z i)).d)) hstep) ?_
   refine l63s x hs k (i + 1) _ (by omega) (fun c hc => ?_)
   rw [LR z hb hc, hz c hc]
   by_cases e : c = i
   ·subst e; rw [hh, decide_eq_true rfl, decide_eq_true (show c < c + 1 by omega)]; simp
   ·rw [decide_eq_false e, Bool.or_false]
    by_cases e2 : c < i
    ·rw [decide_eq_true e2, decide_eq_true (show c < i + 1 by omega)]
    ·rw [decide_eq_false e2, decide_eq_false (show ¬ c < i + 1 by omega)]
  | false =>
   have hstep : YS (sd x).a (sd x).b (sd x).c (sd x).d s (i : Int) (sd z).a (sd z).b (sd z).c (sd z).d = some (.inr (((i + 1 : Nat) : Int), (sd z).a, (sd z).b, (sd z).c, (sd z).d)) := by
    simp only [YS, decide_eq_true (show (i : Int) < 256 by omega), cond_true, LQ x hb, Zbw hs hb, bsm, w_S (show i < 4611686018427387904 by omega)]
    cases h1 : has x i <;> cases h2 : has (v4 s) i <;> first | rfl | (rw [h1, h2] at hh; cases hh)
   refine Eq.trans (Zd (step := fun q : Int × Int × Int × Int × Int => YS (sd x).a (sd x).b (sd x).c (sd x).d s q.1 q.2.1 q.2.2.1 q.2.2.2.1 q.2.2.2.2) (s := ((i : Int), (sd z).a, (sd z).b, (sd z).c, (sd z).d)) (s' := (((i + 1 : Nat) : Int), (sd z).a, (sd z).b, (sd z).c, (sd z).d)) hstep) ?_
   refine l63s x hs k (i + 1) _ (by omega) (fun c hc => ?_)
   rw [hz c hc]
   by_cases e : c = i
   ·subst e; rw [hh]; simp
   ·by_cases e2 : c < i
    ·rw [decide_eq_true e2, decide_eq_true (show c < i + 1 by omega)]
    ·rw [decide_eq_false e2, decide_eq_false (show ¬ c < i + 1 by omega)]
theorem LS (c : Nat) : has zV c = false := by
 unfold has zV V4.get
 split <;> simp
theorem q63 (x y : V4) : LC (sd x).a (sd x).b (sd x).c (sd x).d (sd y) = some (.k0 (sd (uV x y)).a (sd (uV x y)).b (sd (uV x y)).c (sd (uV x y)).d) := by
 have h := l63 x y 256 0 zV (by omega) (fun c hc => by rw [LS]; simp)
 unfold LC
 have e : (((0 : Nat) : Int), (sd zV).a, (sd zV).b, (sd zV).c, (sd zV).d) = ((0 : Int), (0 : Int), (0 : Int), (0 : Int), (0 : Int)) := rfl
 rw [e] at h
 rw [h]
 rfl
theorem Zbx (x : V4) {s : SymD} (hs : SymOk s) : IF (sd x).a (sd x).b (sd x).c (sd x).d s = some (.k0 (sd (uV x (v4 s))).a (sd (uV x (v4 s))).b (sd (uV x (v4 s))).c (sd (uV x (v4 s))).d) := by
 have h := l63s x hs 256 0 zV (by omega) (fun c hc => by rw [LS]; simp)
 unfold IF
 have e : (((0 : Nat) : Int), (sd zV).a, (sd zV).b, (sd zV).c, (sd zV).d) = ((0 : Int), (0 : Int), (0 : Int), (0 : Int), (0 : Int)) := rfl
 rw [e] at h
 rw [h]
 rfl
def leV (a c : List V4) : Prop := a.length = c.length ∧ ∀ i b, has (atV a i) b = true → has (atV c i) b = true
theorem leV.refl (a : List V4) : leV a a := ⟨rfl, fun _ _ h => h⟩
theorem leV.trans {a b c : List V4} (h : leV a b) (k : leV b c) : leV a c := ⟨h.1.trans k.1, fun i x hx => k.2 i x (h.2 i x hx)⟩
theorem leV.antisymm {a c : List V4} (h : leV a c) (k : leV c a) : a = c := by
 refine List.ext_getElem? (fun i => ?_)
 by_cases hi : i < a.length
 ·rw [Ui hi, Ui (show i < c.length by rw [← h.1]; exact hi)]
  congr 1
  refine PZ (fun b _ => ?_)
  have h1 := h.2 i b
  have h2 := k.2 i b
  cases e1 : has (atV a i) b <;> cases e2 : has (atV c i) b <;> simp_all
 ·have hl := h.1
  rw [gen (by omega), gen (by omega)]
theorem RL {a c : List V4} {i : Nat} {y : V4} (h : leV a c) (hy : ∀ b, has y b = true → has (atV c i) b = true) : leV (a.set i y) c := by
 by_cases hi : i < a.length
 ·refine ⟨by simpa using h.1, fun j b hb => ?_⟩
  rw [WL hi] at hb
  split at hb
  ·rename_i e; subst e; exact hy b hb
  ·exact h.2 j b hb
 ·rw [List.set_eq_of_length_le (by omega)]; exact h
theorem u_le {x y z : V4} {b : Nat} (hx : has x b = true → has z b = true) (hy : has y b = true → has z b = true) (h : has (uV x y) b = true) : has z b = true := by
 rw [XG, Bool.or_eq_true] at h
 exact h.elim hx hy
theorem F2 {x y : V4} (h : ∀ b, has y b = true → has x b = true) : uV x y = x := by
 refine PZ (fun b _ => ?_)
 rw [XG]
 cases e1 : has x b <;> cases e2 : has y b <;> first | rfl | (have := h b e2; rw [e1] at this; cases this)
theorem zero_le {n : Nat} {c : List V4} (h : c.length = n) : leV (List.replicate n zV) c := by
 refine ⟨by simp [h], fun i b hb => ?_⟩
 have : atV (List.replicate n zV) i = zV := by
  unfold atV
  rw [grp]
  split <;> rfl
 rw [this, LS] at hb
 cases hb
def cf (sh : List Int) (o : List V4) : List SymD → V4
 | [] => zV
 | s :: r => bif s.kind == 0 then v4 s else bif symS sh s == 0 then uV (atV o s.sort.toNat) (cf sh o r) else atV o s.sort.toNat
theorem F3 {sh : List Int} {a c : List V4} (h : leV a c) : ∀ (r : List SymD) b, has (cf sh a r) b = true → has (cf sh c r) b = true
 | [], b, hb => hb
 | s :: r, b, hb => by
  simp only [cf] at hb ⊢
  cases e : s.kind == 0
  ·rw [e] at hb
   simp only [cond_false] at hb ⊢
   cases e2 : symS sh s == 0
   ·rw [e2] at hb
    exact h.2 _ _ hb
   ·rw [e2] at hb
    simp only [cond_true, XG, Bool.or_eq_true] at hb ⊢
    exact hb.imp (h.2 _ _) (F3 h r b)
  ·rw [e] at hb
   exact hb
def Xh (sh : List Int) (p : ProdD) : Bool := (p.role != 11) && decide (0 ≤ sumS sh 0 p.right)
structure ClF (g : GramD) (sh : List Int) (c : List V4) : Prop where
 len : c.length = g.sorts.length
 cl : ∀ p ∈ g.prods, Xh sh p = true → ∀ b, has (cf sh c p.right) b = true → has (atV c p.left.toNat) b = true
theorem Bh {sh : List Int} {c : List V4} (l : Nat) : ∀ (r : List SymD) (o : List V4), leV o c → (∀ b, has (cf sh c r) b = true → has (atV c l) b = true) → leV (stF sh l o r) c
 | [], o, h, _ => h
 | s :: r, o, h, hc => by
  simp only [stF]
  simp only [cf] at hc
  cases e : s.kind == 0
  ·rw [e] at hc
   simp only [cond_false] at hc ⊢
   cases e2 : symS sh s == 0
   ·rw [e2] at hc
    simp only [cond_false] at hc ⊢
    exact RL h (fun b hb => u_le (h.2 l b) (fun hx => hc b (h.2 _ _ hx)) hb)
   ·rw [e2] at hc
    simp only [cond_true] at hc ⊢
    refine Bh l r _ (RL h (fun b hb => u_le (h.2 l b) (fun hx => hc b ?_) hb)) (fun b hb => hc b ?_)
    ·rw [XG, h.2 _ _ hx]; rfl
    ·rw [XG, hb, Bool.or_true]
  ·rw [e] at hc
   simp only [cond_true] at hc ⊢
   exact RL h (fun b hb => u_le (h.2 l b) (hc b) hb)
theorem Zc2 {o : List V4} {l : Nat} {x : V4} (hl : l < o.length) (h : ∀ b, has x b = true → has (atV o l) b = true) : o.set l (uV (atV o l) x) = o := by
 rw [F2 h]
 exact TI hl
theorem F4 {sh : List Int} (l : Nat) : ∀ (r : List SymD) (o : List V4), l < o.length → stF sh l o r = o → ∀ b, has (cf sh o r) b = true → has (atV o l) b = true
 | [], o, _, _, b, hb => by rw [cf, LS] at hb; cases hb
 | s :: r, o, hl, h, b, hb => by
  simp only [stF] at h
  simp only [cf] at hb
  have key : ∀ x : V4, o.set l (uV (atV o l) x) = o → ∀ b, has x b = true → has (atV o l) b = true := by
   intro x hx b hb
   rw [← hx, WL hl, if_pos rfl, XG, hb, Bool.or_true]
  cases e : s.kind == 0
  ·rw [e] at h hb
   simp only [cond_false] at h hb
   cases e2 : symS sh s == 0
   ·rw [e2] at h hb
    exact key _ h b hb
   ·rw [e2] at h hb
    simp only [cond_true] at h hb
    have h1 : ∀ b, has (atV o s.sort.toNat) b = true → has (atV o l) b = true := by
     intro b hb
     have := JD sh l r (o.set l (uV (atV o l) (atV o s.sort.toNat))) (b := b) (by simpa using hl) (by rw [WL hl, if_pos rfl, XG, hb, Bool.or_true])
     rw [h] at this
     exact this
    rw [Zc2 hl h1] at h
    rw [XG, Bool.or_eq_true] at hb
    exact hb.elim (h1 b) (F4 l r o hl h b)
  ·rw [e] at h hb
   exact key _ h b hb
section
variable {g : GramD} {sh : List Int}
theorem NL (hv : GramV g) : ClF g sh (Ze sh g) := by
 refine ⟨XD sh g, fun p hp hl b hb => ?_⟩
 have h := FZ sh g p hp
 have hpl := (hv.prod p hp).left
 unfold updF at h
 unfold Xh at hl
 rw [hl] at h
 exact F4 p.left.toNat p.right _ (by rw [XD]; omega) h b hb
theorem LT {c : List V4} (hc : ClF g sh c) : leV (Ze sh g) c := by
 unfold Ze
 refine YK (Inv := fun a => leV a c) (fun a ha => ?_) _ _ (zero_le hc.len)
 unfold swF
 have : ∀ (ps : List ProdD) (a : List V4), (∀ p ∈ ps, p ∈ g.prods) → leV a c → leV (ps.foldl (updF sh) a) c := by
  intro ps
  induction ps with
  | nil => intro a _ h; exact h
  | cons p ps ih =>
   intro a hp h
   simp only [List.foldl_cons]
   refine ih _ (fun q hq => hp q (mcm _ hq)) ?_
   unfold updF
   cases hl : (p.role != 11) && decide (0 ≤ sumS sh 0 p.right) with
   | false => exact h
   | true => exact Bh _ _ _ h (hc.cl p (hp p (mcf ..)) hl)
 exact this g.prods a (fun _ h => h) ha
def updD (sh : List Int) (o : List V4) (p : ProdD) : List V4 := bif Xh sh p then o.set p.left.toNat (uV (atV o p.left.toNat) (cf sh o p.right)) else o
theorem UQ (o : List V4) (p : ProdD) : updD sh o p = o ∨ mmV o < mmV (updD sh o p) := by
 unfold updD
 cases Xh sh p
 ·exact .inl rfl
 ·exact JA o _ _
theorem JF (o : List V4) (p : ProdD) : (updD sh o p).length = o.length := by
 unfold updD
 cases Xh sh p <;> simp
def swD (sh : List Int) (g : GramD) (o : List V4) : List V4 := g.prods.foldl (updD sh) o
theorem Vd : ∀ (ps : List ProdD) (o : List V4), (ps.foldl (updD sh) o).length = o.length
 | [], o => rfl
 | p :: ps, o => by simp only [List.foldl_cons]; rw [Vd ps, JF]
theorem F5 (o : List V4) (h : swD sh g o ≠ o) : mmV o < mmV (swD sh g o) := (XA mmV UQ g.prods o).resolve_left h
def UR (sh : List Int) (g : GramD) : List V4 := itN (swD sh g) (256 * g.sorts.length) (List.replicate g.sorts.length zV)
theorem QW : (UR sh g).length = g.sorts.length :=
 YK (Inv := fun a => a.length = g.sorts.length) (fun a ha => (Vd g.prods a).trans ha) _ _ (by simp)
theorem IL : swD sh g (UR sh g) = UR sh g :=
 U8 mmV (256 * g.sorts.length) (fun a => a.length = g.sorts.length) (fun a ha => (Vd g.prods a).trans ha) (fun a _ h => F5 a h) (fun a ha => by have := IK a; rw [ha] at this; exact this) _ _ (by simp) (by omega)
theorem P1 (hv : GramV g) : ClF g sh (UR sh g) := by
 refine ⟨QW, fun p hp hl b hb => ?_⟩
 have h := UG mmV UQ g.prods (UR sh g) IL p hp
 have hpl := (hv.prod p hp).left
 unfold updD at h
 rw [hl] at h
 simp only [cond_true] at h
 have hll : p.left.toNat < (UR sh g).length := by rw [QW]; omega
 rw [← h, WL hll, if_pos rfl, XG, hb, Bool.or_true]
theorem NM {c : List V4} (hc : ClF g sh c) : leV (UR sh g) c := by
 unfold UR
 refine YK (Inv := fun a => leV a c) (fun a ha => ?_) _ _ (zero_le hc.len)
 have : ∀ (ps : List ProdD) (a : List V4), (∀ p ∈ ps, p ∈ g.prods) → leV a c → leV (ps.foldl (updD sh) a) c := by
  intro ps
  induction ps with
  | nil => intro a _ h; exact h
  | cons p ps ih =>
   intro a hp h
   simp only [List.foldl_cons]
   refine ih _ (fun q hq => hp q (mcm _ hq)) ?_
   unfold updD
   cases hl : Xh sh p with
   | false => exact h
   | true => exact RL h (fun b hb => u_le (h.2 _ b) (fun hx => hc.cl p (hp p (mcf ..)) hl b (F3 h _ b hx)) hb)
 exact this g.prods a (fun _ h => h) ha
theorem F6 (hv : GramV g) : UR sh g = Ze sh g := (NM (NL hv)).antisymm (LT (P1 hv))
variable {n : Nat}
theorem F7 (hs : ShOk n sh) {s : SymD} (hv : SymV n s) (k1 : s.kind = 1) : getI (Zi sh) s.sort = some (symS sh s == 0) := by
 obtain ⟨h0, h1⟩ := hv.sort k1
 have hl := hs.len
 have hg : sh[s.sort.toNat]? = some (sh[s.sort.toNat]'(by omega)) := geg _
 refine Xz.2 ⟨h0, ?_⟩
 unfold Zi symS
 rw [List.getElem?_map, k1, hg]; rfl
theorem VI {o : List V4} (ho : o.length = n) {j : Nat} (hj : j < n) : (o.map sd)[j]? = some (sd (atV o j)) := by rw [List.getElem?_map, Ui (by omega)]; rfl
theorem Zby (hs : ShOk n sh) {p : ProdD} (hp : ProdV n p) (hok : ProdOk p) {o : List V4} (ho : o.length = n) : ∀ (k i : Nat) (z : V4), i + k = p.right.length →
  runL (fun s => Yu (Zi sh) n (o.map sd) p s.1 s.2.1 s.2.2.1 s.2.2.2.1 s.2.2.2.2.1 s.2.2.2.2.2) (true, (i : Int), (sd z).a, (sd z).b, (sd z).c, (sd z).d) =
   some (.k0 (sd (uV z (cf sh o (p.right.drop i)))).a (sd (uV z (cf sh o (p.right.drop i)))).b (sd (uV z (cf sh o (p.right.drop i)))).c (sd (uV z (cf sh o (p.right.drop i)))).d)
 | 0, i, z, hi => by
  obtain rfl : i = p.right.length := by omega
  rw [List.drop_length, show cf sh o [] = zV from rfl, F2 (fun b hb => by rw [LS] at hb; cases hb)]
  exact Zc (by simp [Yu])
 | k + 1, i, z, hi => by
  have hlen := hp.len
  have hx : p.right[i]? = some p.right[i] := geg (by omega)
  have hd : p.right.drop i = p.right[i] :: p.right.drop (i + 1) := (List.drop_eq_getElem_cons (by omega))
  generalize p.right[i] = s at hx hd
  have hmem := mog hx
  have hv := hp.right s hmem
  have hso := hok.right s hmem
  have hend : ∀ y : V4, runL (fun s => Yu (Zi sh) n (o.map sd) p s.1 s.2.1 s.2.2.1 s.2.2.2.1 s.2.2.2.2.1 s.2.2.2.2.2) (false, ((i + 1 : Nat) : Int), (sd y).a, (sd y).b, (sd y).c, (sd y).d) = some (.k0 (sd y).a (sd y).b (sd y).c (sd y).d) := by
   intro y
   refine Zc ?_
   unfold Yu
   cases decide (((i + 1 : Nat) : Int) < (p.right.length : Int)) <;> rfl
  rw [hd]
  simp only [cf]
  rcases hv.k with k0 | k1
  ·have hstep : Yu (Zi sh) n (o.map sd) p true (i : Int) (sd z).a (sd z).b (sd z).c (sd z).d = some (.inr (false, ((i + 1 : Nat) : Int), (sd (uV z (v4 s))).a, (sd (uV z (v4 s))).b, (sd (uV z (v4 s))).c, (sd (uV z (v4 s))).d)) := by
    simp only [Yu, Zj, hx, bsm, decide_eq_true (show (i : Int) < (p.right.length : Int) by omega), cond_true, k0, show ((0 : Int) == 1) = false from rfl, cond_false, Zbx z hso, w_S (show i < 4611686018427387904 by omega)]
   rw [Zd (step := fun s : Bool × Int × Int × Int × Int × Int => Yu (Zi sh) n (o.map sd) p s.1 s.2.1 s.2.2.1 s.2.2.2.1 s.2.2.2.2.1 s.2.2.2.2.2) (s := (true, (i : Int), (sd z).a, (sd z).b, (sd z).c, (sd z).d)) hstep, hend, k0]
   rfl
  ·obtain ⟨q0, q1⟩ := hv.sort k1
   have hix2 : ixN n s.sort = some s.sort.toNat := ZK.2 ⟨by omega, by omega⟩
   have hgs := VI ho (j := s.sort.toNat) (by omega)
   have h10 : ((1 : Int) == 0) = false := rfl
   have hstep : Yu (Zi sh) n (o.map sd) p true (i : Int) (sd z).a (sd z).b (sd z).c (sd z).d = some (.inr (symS sh s == 0, ((i + 1 : Nat) : Int), (sd (uV z (atV o s.sort.toNat))).a, (sd (uV z (atV o s.sort.toNat))).b, (sd (uV z (atV o s.sort.toNat))).c, (sd (uV z (atV o s.sort.toNat))).d)) := by
    simp only [Yu, Zj, hx, bsm, decide_eq_true (show (i : Int) < (p.right.length : Int) by omega), cond_true, k1, beq_self_eq_true, hix2, hgs, q63 z (atV o s.sort.toNat), F7 hs hv k1, w_S (show i < 4611686018427387904 by omega)]
    cases symS sh s == 0 <;> rfl
   rw [Zd (step := fun s : Bool × Int × Int × Int × Int × Int => Yu (Zi sh) n (o.map sd) p s.1 s.2.1 s.2.2.1 s.2.2.2.1 s.2.2.2.2.1 s.2.2.2.2.2) (s := (true, (i : Int), (sd z).a, (sd z).b, (sd z).c, (sd z).d)) hstep, k1, h10]
   simp only [cond_false]
   cases hz : symS sh s == 0 with
   | false => rw [hend]; rfl
   | true =>
    have ih := Zby hs hp hok ho k (i + 1) (uV z (atV o s.sort.toNat)) (by omega)
    rw [ih]
    have ea : uV (uV z (atV o s.sort.toNat)) (cf sh o (p.right.drop (i + 1))) = uV z (uV (atV o s.sort.toNat) (cf sh o (p.right.drop (i + 1)))) := PZ (fun b _ => by simp only [XG, Bool.or_assoc])
    rw [ea]
    rfl
theorem F9 (hs : ShOk n sh) {p : ProdD} (hp : ProdV n p) : F50 p sh = some (sumS sh 0 p.right) := q50 hs hp.right (by have := hp.len; omega)
theorem ZaB (hg : GramOk g) (hv : GramV g) (hn : n = g.sorts.length) (hs : ShOk n sh) : ∀ (k i : Nat) (b : Bool) (o : List V4), i + k = g.prods.length → o.length = n →
  runL (fun s => R3 sh (Zi sh) n g s.1 s.2.1 s.2.2) (b, (i : Int), o.map sd) =
   some (.k0 ((g.prods.drop i).foldl (fun (a : Bool × List V4) x => (a.1 || decide (updD sh a.2 x ≠ a.2), updD sh a.2 x)) (b, o)).1 (((g.prods.drop i).foldl (fun (a : Bool × List V4) x => (a.1 || decide (updD sh a.2 x ≠ a.2), updD sh a.2 x)) (b, o)).2.map sd))
 | 0, i, b, o, hi, ho => by
  obtain rfl : i = g.prods.length := by omega
  rw [List.drop_length]
  exact Zc (by simp [R3])
 | k + 1, i, b, o, hi, ho => by
  have hgp := hg.prods
  have hx : g.prods[i]? = some g.prods[i] := geg (by omega)
  have hd : g.prods.drop i = g.prods[i] :: g.prods.drop (i + 1) := (List.drop_eq_getElem_cons (by omega))
  generalize hp : g.prods[i] = p at hx hd
  have hmem : p ∈ g.prods := mog hx
  have hpv : ProdV n p := by rw [hn]; exact hv.prod p hmem
  have hpl := hpv.left
  have hll : p.left.toNat < o.length := by omega
  rw [hd]
  simp only [List.foldl_cons]
  have hstep : R3 sh (Zi sh) n g b (i : Int) (o.map sd) = some (.inr (b || decide (updD sh o p ≠ o), ((i + 1 : Nat) : Int), (updD sh o p).map sd)) := by
   have hix : ixN n p.left = some p.left.toNat := ZK.2 ⟨by omega, by omega⟩
   have h0 := Zby hs hpv (hg.prod p hmem) ho p.right.length 0 (atV o p.left.toNat) (by omega)
   rw [List.drop_zero] at h0
   have e0 : ((0 : Nat) : Int) = 0 := rfl
   rw [e0] at h0
   simp only [R3, Zj, hx, bsm, decide_eq_true (show (i : Int) < (g.prods.length : Int) by omega), cond_true, F51, w_S (show i < 4611686018427387904 by omega), F9 hs hpv, hix, VI ho (show p.left.toNat < n by omega), h0]
   unfold updD Xh
   cases hr : p.role != 11 with
   | false => simp
   | true =>
    simp only [cond_true, Bool.true_and]
    by_cases c0 : sumS sh 0 p.right < 0
    ·rw [decide_eq_true c0, decide_eq_false (show ¬ 0 ≤ sumS sh 0 p.right by omega)]; simp
    rw [decide_eq_false c0, decide_eq_true (show 0 ≤ sumS sh 0 p.right by omega)]
    simp only [cond_false, cond_true]
    have hq := QV (uV (atV o p.left.toNat) (cf sh o p.right)) (atV o p.left.toNat)
    unfold eqS at hq
    rw [hq]
    by_cases e : uV (atV o p.left.toNat) (cf sh o p.right) = atV o p.left.toNat
    ·rw [decide_eq_true e, e, TI hll]; simp
    ·have hne : o.set p.left.toNat (uV (atV o p.left.toNat) (cf sh o p.right)) ≠ o := fun h => e (by
      have h9 : atV (o.set p.left.toNat (uV (atV o p.left.toNat) (cf sh o p.right))) p.left.toNat = atV o p.left.toNat := by rw [h]
      rw [WL hll, if_pos rfl] at h9
      exact h9)
     rw [decide_eq_false e, decide_eq_true hne, List.map_set]
     simp
  rw [Zd (step := fun s : Bool × Int × List SetD => R3 sh (Zi sh) n g s.1 s.2.1 s.2.2) (s := (b, (i : Int), o.map sd)) hstep]
  exact ZaB hg hv hn hs k (i + 1) _ _ (by omega) ((JF o p).trans ho)
theorem l27 (sh : List Int) (hl : sh.length ≤ 1000) : ∀ (k i : Nat) (l : List Bool), i + k = sh.length → l.length = sh.length → (∀ j, j < i → l[j]? = (Zi sh)[j]?) →
  runL (fun s => R1 sh sh.length s.1 s.2) ((i : Int), l) = some (.k0 (Zi sh))
 | 0, i, l, hi, h1, h2 => by
  obtain rfl : i = sh.length := by omega
  have : l = Zi sh := List.ext_getElem? (fun j => by
   by_cases hj : j < sh.length
   ·exact h2 j hj
   ·rw [gen (by omega), gen (by unfold Zi; simp; omega)])
  rw [this]
  exact Zc (by simp [R1])
 | k + 1, i, l, hi, h1, h2 => by
  have hx : sh[i]? = some sh[i] := geg (by omega)
  have hy : l[i]? = some (l[i]'(by omega)) := geg _
  have hstep : R1 sh sh.length (i : Int) l = some (.inr (((i + 1 : Nat) : Int), l.set i (sh[i] == 0))) := by
   simp only [R1, Zj, hx, hy, bsm, decide_eq_true (show (i : Int) < (sh.length : Int) by omega), cond_true, Mz, if_pos (show i < sh.length by omega), w_S (show i < 4611686018427387904 by omega)]
  rw [Zd (step := fun s : Int × List Bool => R1 sh sh.length s.1 s.2) (s := ((i : Int), l)) hstep]
  refine l27 sh hl k (i + 1) _ (by omega) (by simpa using h1) (fun j hj => ?_)
  rw [List.getElem?_set]
  by_cases e : i = j
  ·subst e
   rw [if_pos rfl, if_pos (by omega)]
   unfold Zi
   rw [List.getElem?_map, hx]; rfl
  ·rw [if_neg e]; exact h2 j (by omega)
theorem q27 (h16 : F16 g = some sh) (hs : ShOk g.sorts.length sh) (h40 : g.sorts.length ≤ 40) : F27 g = some (Zi sh) := by
 have hl := hs.len
 have h := l27 sh (by omega) sh.length 0 (List.replicate sh.length false) (by omega) (by simp) (fun j hj => by omega)
 have e0 : ((0 : Nat) : Int) = 0 := rfl
 rw [e0] at h
 have hnl : (Zi sh).length = sh.length := by unfold Zi; rw [lmp]
 unfold F27
 rw [h16]
 simp only [bsm, mk1 (show sh.length ≤ 40 by omega), cond_true, Int.toNat_natCast, h, hnl, decide_eq_true (Nat.le_refl sh.length)]
 rw [tol (by omega)]
theorem q34 (hg : GramOk g) (hv : GramV g) (h16 : F16 g = some sh) (hs : ShOk g.sorts.length sh) : F34 g = some ((Ze sh g).map sd) := by
 have h40 := hg.sorts
 have e0 : ((0 : Nat) : Int) = 0 := rfl
 have hloop : ∀ (k : Nat) (o : List V4), o.length = g.sorts.length → 256 * g.sorts.length ≤ mmV o + k → runL (fun s => UL sh (Zi sh) g.sorts.length g s.1 s.2) (true, o.map sd) = some (.k0 ((itN (swD sh g) k o).map sd)) := by
  intro k
  induction k with
  | zero =>
   intro o ho hk
   have h1 := ZaB hg hv rfl hs g.prods.length 0 false o (by omega) ho
   rw [List.drop_zero, TN mmV UQ, e0] at h1
   have hfix : swD sh g o = o := by
    by_cases e : swD sh g o = o
    ·exact e
    ·have h2 := F5 o e
     have h3 := IK (swD sh g o)
     rw [show (swD sh g o).length = g.sorts.length from (Vd g.prods o).trans ho] at h3
     omega
   unfold swD at hfix
   rw [hfix] at h1
   rw [Zd (step := fun s : Bool × List SetD => UL sh (Zi sh) g.sorts.length g s.1 s.2) (s := (true, o.map sd)) (s' := (false, o.map sd)) (by simp only [UL, cond_true, h1, bsm]; simp)]
   exact Zc (by simp [UL, itN])
  | succ k ih =>
   intro o ho hk
   have h1 := ZaB hg hv rfl hs g.prods.length 0 false o (by omega) ho
   rw [List.drop_zero, TN mmV UQ, e0] at h1
   by_cases e : swD sh g o = o
   ·rw [Y2 e]
    unfold swD at e
    rw [e] at h1
    rw [Zd (step := fun s : Bool × List SetD => UL sh (Zi sh) g.sorts.length g s.1 s.2) (s := (true, o.map sd)) (s' := (false, o.map sd)) (by simp only [UL, cond_true, h1, bsm]; simp)]
    exact Zc (by simp [UL])
   ·have h2 := F5 o e
    have hlen : (swD sh g o).length = g.sorts.length := (Vd g.prods o).trans ho
    have e' : g.prods.foldl (updD sh) o ≠ o := e
    rw [decide_eq_true e', Bool.or_true] at h1
    rw [Zd (step := fun s : Bool × List SetD => UL sh (Zi sh) g.sorts.length g s.1 s.2) (s := (true, o.map sd)) (s' := (true, (swD sh g o).map sd)) (by simp only [UL, cond_true, h1, bsm]; rfl)]
    exact ih _ hlen (by omega)
 have hl := hloop (256 * g.sorts.length) (List.replicate g.sorts.length zV) (by simp) (by omega)
 have hrep : (List.replicate g.sorts.length zV).map sd = List.replicate g.sorts.length (⟨0, 0, 0, 0⟩ : SetD) := by
  rw [List.map_replicate]; rfl
 rw [hrep] at hl
 have hD : itN (swD sh g) (256 * g.sorts.length) (List.replicate g.sorts.length zV) = Ze sh g := F6 hv
 rw [hD] at hl
 have hlen : ((Ze sh g).map sd).length = g.sorts.length := by rw [lmp]; exact XD sh g
 unfold F34
 rw [h16, q27 h16 hs h40]
 simp only [bsm, mk32 h40, cond_true, Int.toNat_natCast, hl, hlen, decide_eq_true (Nat.le_refl _)]
 rw [tol (by rw [hlen]; exact Nat.le_refl _)]
end
def bh (sh : List Int) (fi : List V4) : List SymD → V4 → V4
 | [], x => x
 | s :: r, x => bif s.kind == 0 then v4 s else bif symS sh s == 0 then uV (bh sh fi r x) (atV fi s.sort.toNat) else atV fi s.sort.toNat
def be (sh : List Int) : List SymD → Bool → Bool
 | [], b => b
 | s :: r, b => bif s.kind == 0 then false else bif symS sh s == 0 then be sh r b else false
theorem JG (sh : List Int) : ∀ (r : List SymD) (b : Bool), be sh r b = (be sh r true && b)
 | [], b => by simp [be]
 | s :: r, b => by
  simp only [be]
  cases s.kind == 0 <;> cases symS sh s == 0 <;> first | rfl | exact JG sh r b
theorem ZaC (sh : List Int) (fi : List V4) : ∀ (r : List SymD) (x : V4) (b : Nat), has (bh sh fi r x) b = (has (bh sh fi r zV) b || (be sh r true && has x b))
 | [], x, b => by simp [bh, be, LS]
 | s :: r, x, b => by
  simp only [bh, be]
  cases s.kind == 0
  ·cases symS sh s == 0
   ·simp
   ·simp only [cond_false, cond_true, XG, ZaC sh fi r x b]
    cases has (bh sh fi r zV) b <;> cases be sh r true <;> cases has x b <;> cases has (atV fi s.sort.toNat) b <;> rfl
  ·simp
theorem Ea {sh : List Int} {fi : List V4} {x y : V4} (h : ∀ b, has x b = true → has y b = true) (r : List SymD) (b : Nat) (hb : has (bh sh fi r x) b = true) : has (bh sh fi r y) b = true := by
 rw [ZaC] at hb ⊢
 rw [Bool.or_eq_true, Bool.and_eq_true] at hb ⊢
 exact hb.imp_right fun q => ⟨q.1, h b q.2⟩
theorem Eb {sh : List Int} {x y : Bool} (h : x = true → y = true) (r : List SymD) (hb : be sh r x = true) : be sh r y = true := by
 rw [JG] at hb ⊢
 rw [Bool.and_eq_true] at hb ⊢
 exact ⟨hb.1, h hb.2⟩
def setE (E : List Bool) (i : Nat) (b : Bool) : List Bool := bif b then E.set i true else E
theorem JH (E : List Bool) (i : Nat) (b : Bool) : (setE E i b).length = E.length := by unfold setE; cases b <;> simp
theorem NN (E : List Bool) (i : Nat) (b : Bool) : setE E i b = E ∨ cnt E < cnt (setE E i b) := by
 unfold setE
 cases b with
 | false => exact .inl rfl
 | true =>
  simp only [cond_true]
  cases h : E[i]? with
  | none => left; rw [List.set_eq_of_length_le (by rw [List.getElem?_eq_none_iff] at h; exact h)]
  | some v =>
   cases v with
   | true => exact .inl (Xg h)
   | false => exact .inr (Pv h)
theorem LU {E c : List Bool} {i : Nat} {b : Bool} (h : leB E c) (hb : b = true → c[i]? = some true) : leB (setE E i b) c := by
 unfold setE
 cases b with
 | false => exact h
 | true => exact Pu h (hb rfl)
theorem LV (E : List Bool) (i : Nat) (b : Bool) : leB E (setE E i b) := by
 unfold setE
 cases b with
 | false => exact leB.refl _
 | true => exact MA i
theorem ZaD {E : List Bool} {i : Nat} {e b : Bool} (h : E[i]? = some e) : E.set i (e || b) = setE E i b := by
 unfold setE
 cases e with
 | true => cases b with
  | true => rfl
  | false => exact Xg h
 | false => cases b with
  | true => rfl
  | false =>
   apply List.ext_getElem?
   intro j
   rw [List.getElem?_set]
   by_cases e : i = j
   ·subst e
    rw [if_pos rfl, if_pos (gei.1 h).1, cond_false, h]; rfl
   ·rw [if_neg e]; rfl
abbrev WS := List V4 × List Bool
def mmW (a : WS) : Nat := mmV a.1 + cnt a.2
def leW (a c : WS) : Prop := leV a.1 c.1 ∧ leB a.2 c.2
theorem ZaE {a c : List V4} (h : leV a c) : mmV a ≤ mmV c := by
 have key : ∀ (a c : List V4), a.length = c.length → (∀ i, cntV (atV a i) ≤ cntV (atV c i)) → mmV a ≤ mmV c := by
  intro a
  induction a with
  | nil => intro c _ _; simp [mmV]
  | cons x a ih =>
   intro c hl hc
   cases c with
   | nil => simp at hl
   | cons y c =>
    have h0 := hc 0
    have h1 := ih c (by simpa using hl) (fun i => by have := hc (i + 1); simpa [atV] using this)
    simp only [mmV, List.map_cons, List.sum_cons] at h1 ⊢
    simp only [atV, List.getElem?_cons_zero, gds] at h0
    omega
 refine key a c h.1 (fun i => ?_)
 unfold cntV
 refine T8 ⟨by simp [blV], fun j hj => ?_⟩
 have hjl : j < 256 := by have := (gei.1 hj).1; simpa [blV] using this
 rw [D2 _ hjl] at hj ⊢
 simp only [Option.some.injEq] at hj ⊢
 exact h.2 i j hj
theorem leW.mm {a c : WS} (h : leW a c) : mmW a ≤ mmW c := Nat.add_le_add (ZaE h.1) (T8 h.2)
theorem ZaF {o : List V4} (i : Nat) (y : V4) : leV o (o.set i (uV (atV o i) y)) := by
 by_cases h : i < o.length
 ·refine ⟨by simp, fun j b hb => ?_⟩
  rw [WL h]
  split
  ·rename_i e; subst e; rw [XG, hb]; rfl
  ·exact hb
 ·rw [List.set_eq_of_length_le (by omega)]; exact leV.refl o
def YD (a : WS) (k : Nat) (x : V4) (b : Bool) : WS := (a.1.set k (uV (atV a.1 k) x), setE a.2 k b)
theorem QX (a : WS) (k : Nat) (x : V4) (b : Bool) : YD a k x b = a ∨ mmW a < mmW (YD a k x b) := by
 have h1 := JA a.1 k x
 have h2 := NN a.2 k b
 unfold YD mmW
 rcases h1 with h1 | h1
 ·rcases h2 with h2 | h2
  ·left; exact Prod.ext h1 h2
  ·right; simp only [h1]; omega
 ·right
  have := T8 (LV a.2 k b)
  simp only
  omega
theorem US (a : WS) (k : Nat) (x : V4) (b : Bool) : leW a (YD a k x b) := ⟨ZaF k x, LV _ _ _⟩
theorem JI {a c : WS} {k : Nat} {x : V4} {b : Bool} (h : leW a c) (hx : ∀ j, has x j = true → has (atV c.1 k) j = true) (hb : b = true → c.2[k]? = some true) : leW (YD a k x b) c :=
 ⟨RL h.1 (fun j hj => u_le (h.1.2 k j) (hx j) hj), LU h.2 hb⟩
def stp (sh : List Int) (fi : List V4) (nx : V4) (la : Bool) : List SymD → WS → WS
 | [], a => a
 | s :: r, a => bif s.kind == 0 then stp sh fi nx la r a else YD (stp sh fi nx la r a) s.sort.toNat (bh sh fi r nx) (be sh r la)
theorem NO (sh : List Int) (fi : List V4) (nx : V4) (la : Bool) : ∀ (r : List SymD) (a : WS), leW a (stp sh fi nx la r a)
 | [], a => ⟨leV.refl _, leB.refl _⟩
 | s :: r, a => by
  simp only [stp]
  have ih := NO sh fi nx la r a
  cases s.kind == 0
  ·have h := US (stp sh fi nx la r a) s.sort.toNat (bh sh fi r nx) (be sh r la)
   exact ⟨ih.1.trans h.1, ih.2.trans h.2⟩
  ·exact ih
theorem LW (sh : List Int) (fi : List V4) (nx : V4) (la : Bool) (r : List SymD) (a : WS) : (stp sh fi nx la r a).1.length = a.1.length ∧ (stp sh fi nx la r a).2.length = a.2.length :=
 ⟨(NO sh fi nx la r a).1.1.symm, (NO sh fi nx la r a).2.1.symm⟩
theorem Sg (sh : List Int) (fi : List V4) (nx : V4) (la : Bool) : ∀ (r : List SymD) (a : WS), stp sh fi nx la r a = a ∨ mmW a < mmW (stp sh fi nx la r a)
 | [], a => .inl rfl
 | s :: r, a => by
  simp only [stp]
  have ih := Sg sh fi nx la r a
  cases s.kind == 0
  ·simp only [cond_false]
   have h := QX (stp sh fi nx la r a) s.sort.toNat (bh sh fi r nx) (be sh r la)
   rcases h with h | h
   ·rw [h]; exact ih
   ·right
    have := (NO sh fi nx la r a).mm
    omega
  ·exact ih
theorem JJ (sh : List Int) (fi : List V4) (nx : V4) (la : Bool) (s : SymD) (r : List SymD) (a : WS) (hk : (s.kind == 0) = false) :
  decide (stp sh fi nx la (s :: r) a ≠ a) = (decide (stp sh fi nx la r a ≠ a) || decide (YD (stp sh fi nx la r a) s.sort.toNat (bh sh fi r nx) (be sh r la) ≠ stp sh fi nx la r a)) := by
 have e : stp sh fi nx la (s :: r) a = YD (stp sh fi nx la r a) s.sort.toNat (bh sh fi r nx) (be sh r la) := by simp only [stp, hk, cond_false]
 rw [e]
 by_cases h1 : stp sh fi nx la r a = a
 ·rw [h1]; simp
 ·have h2 := (Sg sh fi nx la r a).resolve_left h1
  have h3 := (US (stp sh fi nx la r a) s.sort.toNat (bh sh fi r nx) (be sh r la)).mm
  have : YD (stp sh fi nx la r a) s.sort.toNat (bh sh fi r nx) (be sh r la) ≠ a := fun h => by rw [h] at h3; omega
  simp [h1, this]
section
variable {g : GramD} {n : Nat} {sh : List Int} {fi : List V4}
def updW (sh : List Int) (fi : List V4) (inn : List Bool) (a : WS) (p : ProdD) : WS :=
 bif Xh sh p && (inn[p.left.toNat]?).getD false then stp sh fi (atV a.1 p.left.toNat) ((a.2[p.left.toNat]?).getD false) p.right a else a
theorem UT (inn : List Bool) (a : WS) (p : ProdD) : updW sh fi inn a p = a ∨ mmW a < mmW (updW sh fi inn a p) := by
 unfold updW
 cases Xh sh p && (inn[p.left.toNat]?).getD false
 ·exact .inl rfl
 ·exact Sg _ _ _ _ _ _
theorem JK (inn : List Bool) (a : WS) (p : ProdD) : (updW sh fi inn a p).1.length = a.1.length ∧ (updW sh fi inn a p).2.length = a.2.length := by
 unfold updW
 cases Xh sh p && (inn[p.left.toNat]?).getD false
 ·exact ⟨rfl, rfl⟩
 ·exact LW _ _ _ _ _ _
structure ClW (g : GramD) (sh : List Int) (fi : List V4) (inn : List Bool) (c : WS) : Prop where
 l1 : c.1.length = g.sorts.length
 l2 : c.2.length = g.sorts.length
 cl : ∀ p ∈ g.prods, Xh sh p = true → inn[p.left.toNat]? = some true → ∀ pre s r, p.right = pre ++ s :: r → s.kind = 1 →
  (∀ b, has (bh sh fi r (atV c.1 p.left.toNat)) b = true → has (atV c.1 s.sort.toNat) b = true) ∧ (be sh r ((c.2[p.left.toNat]?).getD false) = true → c.2[s.sort.toNat]? = some true)
theorem Bi {c a0 : WS} {nx : V4} {la : Bool} : ∀ (r : List SymD) (a : WS), leW a c → (∀ s ∈ r, s.kind = 0 ∨ s.kind = 1) →
  (∀ pre s t, r = pre ++ s :: t → s.kind = 1 → (∀ b, has (bh sh fi t nx) b = true → has (atV c.1 s.sort.toNat) b = true) ∧ (be sh t la = true → c.2[s.sort.toNat]? = some true)) → leW (stp sh fi nx la r a) c
 | [], a, h, _, _ => h
 | s :: r, a, h, hk, hc => by
  simp only [stp]
  have ih := Bi (c := c) (a0 := a0) (nx := nx) (la := la) r a h (fun q hq => hk q (mcm _ hq)) (fun pre q t e => hc (s :: pre) q t (by rw [e]; rfl))
  rcases hk s (mcf ..) with k0 | k1
  ·rw [k0]; exact ih
  ·rw [k1]
   have := hc [] s r rfl k1
   exact JI ih this.1 this.2
theorem Ec {a c : List Bool} (h : leB a c) (i : Nat) (ha : (a[i]?).getD false = true) : (c[i]?).getD false = true := by
 cases e : a[i]? with
 | none => rw [e] at ha; cases ha
 | some v =>
  rw [e] at ha
  simp only [gds] at ha
  subst ha
  rw [h.2 i e]; rfl
theorem ZaG {inn : List Bool} {c : WS} (hv : GramV g) (hc : ClW g sh fi inn c) {a : WS} (h : leW a c) {p : ProdD} (hp : p ∈ g.prods) : leW (updW sh fi inn a p) c := by
 unfold updW
 cases hl : Xh sh p with
 | false => exact h
 | true =>
  cases hi : inn[p.left.toNat]? with
  | none => exact h
  | some v =>
   cases v with
   | false => exact h
   | true =>
    refine Bi (a0 := a) p.right a h (fun s hs => ((hv.prod p hp).right s hs).k) (fun pre s t e k1 => ?_)
    obtain ⟨q1, q2⟩ := hc.cl p hp hl hi pre s t e k1
    exact ⟨fun b hb => q1 b (Ea (h.1.2 _) t b hb), fun hb => q2 (Eb (Ec h.2 _) t hb)⟩
theorem JL {nx : V4} {la : Bool} : ∀ (r : List SymD) (a : WS), (∀ s ∈ r, (s.kind = 0 ∨ s.kind = 1) ∧ (s.kind = 1 → s.sort.toNat < a.1.length ∧ s.sort.toNat < a.2.length)) → stp sh fi nx la r a = a →
  ∀ pre s t, r = pre ++ s :: t → s.kind = 1 → (∀ b, has (bh sh fi t nx) b = true → has (atV a.1 s.sort.toNat) b = true) ∧ (be sh t la = true → a.2[s.sort.toNat]? = some true)
 | [], a, _, _, pre, s, t, e, _ => by simp at e
 | x :: r, a, hk, h, pre, s, t, e, k1 => by
  have hr : stp sh fi nx la r a = a := by
   rcases Sg sh fi nx la r a with h1 | h1
   ·exact h1
   ·exfalso
    simp only [stp] at h
    rcases (hk x (mcf ..)).1 with k0 | k1
    ·rw [k0] at h
     have h : stp sh fi nx la r a = a := h
     rw [h] at h1; omega
    ·rw [k1] at h
     have h : YD (stp sh fi nx la r a) x.sort.toNat (bh sh fi r nx) (be sh r la) = a := h
     have := (US (stp sh fi nx la r a) x.sort.toNat (bh sh fi r nx) (be sh r la)).mm
     rw [h] at this; omega
  cases pre with
  | nil =>
   simp only [List.nil_append, List.cons.injEq] at e
   obtain ⟨rfl, rfl⟩ := e
   simp only [stp, k1, hr] at h
   have h : YD a x.sort.toNat (bh sh fi r nx) (be sh r la) = a := h
   obtain ⟨l1, l2⟩ := (hk x (mcf ..)).2 k1
   have e1 : a.1.set x.sort.toNat (uV (atV a.1 x.sort.toNat) (bh sh fi r nx)) = a.1 := congrArg Prod.fst h
   have e2 : setE a.2 x.sort.toNat (be sh r la) = a.2 := congrArg Prod.snd h
   refine ⟨fun b hb => ?_, fun hb => ?_⟩
   ·rw [← e1, WL l1, if_pos rfl, XG, hb, Bool.or_true]
   ·rw [hb] at e2
    rw [← e2]
    exact Ta l2
  | cons y pre =>
   simp only [List.cons_append, List.cons.injEq] at e
   obtain ⟨rfl, rfl⟩ := e
   exact JL (pre ++ s :: t) a (fun q hq => hk q (mcm _ hq)) hr pre s t rfl k1
def swW (sh : List Int) (fi : List V4) (inn : List Bool) (g : GramD) (a : WS) : WS := g.prods.foldl (updW sh fi inn) a
theorem RM (inn : List Bool) : ∀ (ps : List ProdD) (a : WS), (ps.foldl (updW sh fi inn) a).1.length = a.1.length ∧ (ps.foldl (updW sh fi inn) a).2.length = a.2.length
 | [], a => ⟨rfl, rfl⟩
 | p :: ps, a => by
  simp only [List.foldl_cons]
  obtain ⟨h1, h2⟩ := RM inn ps (updW sh fi inn a p)
  obtain ⟨h3, h4⟩ := JK (sh := sh) (fi := fi) inn a p
  exact ⟨h1.trans h3, h2.trans h4⟩
def W0 (g : GramD) (b : Bool) : WS := (List.replicate g.sorts.length zV, setE (List.replicate g.sorts.length false) g.start.toNat b)
def LenW (g : GramD) (a : WS) : Prop := a.1.length = g.sorts.length ∧ a.2.length = g.sorts.length
theorem NP (b : Bool) : LenW g (W0 g b) := ⟨by simp [W0], by simp [W0, JH]⟩
def Y0 (sh : List Int) (fi : List V4) (inn : List Bool) (g : GramD) (b : Bool) : WS := itN (swW sh fi inn g) (257 * g.sorts.length) (W0 g b)
theorem Ed {a : WS} (h : LenW g a) : mmW a ≤ 257 * g.sorts.length := by
 have h1 := IK a.1
 have h2 := OL a.2
 unfold mmW
 rw [h.1] at h1
 rw [h.2] at h2
 omega
theorem P2 (inn : List Bool) (a : WS) (h : LenW g a) : LenW g (swW sh fi inn g a) := ⟨(RM inn g.prods a).1.trans h.1, (RM inn g.prods a).2.trans h.2⟩
theorem Ee (inn : List Bool) (a : WS) (h : swW sh fi inn g a ≠ a) : mmW a < mmW (swW sh fi inn g a) := (XA mmW (UT inn) g.prods a).resolve_left h
theorem QY (inn : List Bool) (b : Bool) : LenW g (Y0 sh fi inn g b) := YK (Inv := LenW g) (fun a ha => P2 inn a ha) _ _ (NP b)
theorem IM (inn : List Bool) (b : Bool) : swW sh fi inn g (Y0 sh fi inn g b) = Y0 sh fi inn g b :=
 U8 mmW (257 * g.sorts.length) (LenW g) (fun a ha => P2 inn a ha) (fun a _ h => Ee inn a h) (fun a ha => Ed ha) _ _ (NP b) (by omega)
theorem P3 (hv : GramV g) (inn : List Bool) (b : Bool) : ClW g sh fi inn (Y0 sh fi inn g b) := by
 have hlen := QY (g := g) (sh := sh) (fi := fi) inn b
 refine ⟨hlen.1, hlen.2, fun p hp hl hi pre s t e k1 => ?_⟩
 have h := UG mmW (UT (sh := sh) (fi := fi) inn) g.prods _ (IM inn b) p hp
 unfold updW at h
 rw [hl, hi] at h
 refine JL p.right _ (fun q hq => ⟨((hv.prod p hp).right q hq).k, fun k => ?_⟩) h pre s t e k1
 have := ((hv.prod p hp).right q hq).sort k
 rw [hlen.1, hlen.2]
 omega
theorem Ef (inn : List Bool) (b : Bool) : leW (W0 g b) (Y0 sh fi inn g b) := by
 unfold Y0
 refine YK (Inv := fun a => leW (W0 g b) a) (fun a ha => ?_) _ _ ⟨leV.refl _, leB.refl _⟩
 have : ∀ (ps : List ProdD) (a : WS), leW (W0 g b) a → leW (W0 g b) (ps.foldl (updW sh fi inn) a) := by
  intro ps
  induction ps with
  | nil => intro a h; exact h
  | cons p ps ih =>
   intro a h
   simp only [List.foldl_cons]
   refine ih _ ?_
   unfold updW
   cases Xh sh p && (inn[p.left.toNat]?).getD false
   ·exact h
   ·have := NO sh fi (atV a.1 p.left.toNat) ((a.2[p.left.toNat]?).getD false) p.right a
    exact ⟨h.1.trans this.1, h.2.trans this.2⟩
 exact this g.prods a ha
theorem NQ (hv : GramV g) {inn : List Bool} {b : Bool} {c : WS} (hc : ClW g sh fi inn c) (h0 : leW (W0 g b) c) : leW (Y0 sh fi inn g b) c := by
 unfold Y0
 refine YK (Inv := fun a => leW a c) (fun a ha => ?_) _ _ h0
 have : ∀ (ps : List ProdD) (a : WS), (∀ p ∈ ps, p ∈ g.prods) → leW a c → leW (ps.foldl (updW sh fi inn) a) c := by
  intro ps
  induction ps with
  | nil => intro a _ h; exact h
  | cons p ps ih =>
   intro a hp h
   simp only [List.foldl_cons]
   exact ih _ (fun q hq => hp q (mcm _ hq)) (ZaG hv hc h (hp p (mcf ..)))
 exact this g.prods a (fun _ h => h) ha
end
def stI (sh : List Int) (p : ProdD) (o : List Bool) (s : SymD) : List Bool := bif (s.kind == 1) && ((o[p.left.toNat]?).getD false && decide (0 ≤ sumS sh 0 p.right)) then o.set s.sort.toNat true else o
def updI (sh : List Int) (o : List Bool) (p : ProdD) : List Bool := bif p.role != 11 then p.right.foldl (stI sh p) o else o
def swI (sh : List Int) (g : GramD) (o : List Bool) : List Bool := g.prods.foldl (updI sh) o
def inOf (sh : List Int) (g : GramD) : List Bool := itN (swI sh g) g.sorts.length ((List.replicate g.sorts.length false).set g.start.toNat true)
section
variable {g : GramD} {n : Nat} {sh : List Int}
theorem JM (p : ProdD) (o : List Bool) (s : SymD) : leB o (stI sh p o s) := by
 unfold stI
 cases (s.kind == 1) && ((o[p.left.toNat]?).getD false && decide (0 ≤ sumS sh 0 p.right))
 ·exact leB.refl _
 ·exact MA _
theorem P4 (p : ProdD) (o : List Bool) : leB o (updI sh o p) := by
 unfold updI
 cases p.role != 11
 ·exact leB.refl _
 ·exact Pw (fun x a => JM p a x) p.right o
theorem Eg {f : List Bool → List Bool} (h : ∀ o, leB o (f o)) (o : List Bool) : f o = o ∨ cnt o < cnt (f o) := by
 by_cases e : f o = o
 ·exact .inl e
 ·exact .inr ((U9 (h o)).2 e)
theorem D3 (p : ProdD) (o : List Bool) (s : SymD) : stI sh p o s = o ∨ cnt o < cnt (stI sh p o s) := Eg (f := fun o => stI sh p o s) (fun o => JM p o s) o
theorem NR (o : List Bool) (p : ProdD) : updI sh o p = o ∨ cnt o < cnt (updI sh o p) := Eg (f := fun o => updI sh o p) (fun o => P4 p o) o
theorem D4 (o : List Bool) (p : ProdD) : (updI sh o p).length = o.length := (P4 p o).1.symm
theorem Eh (o : List Bool) : leB o (swI sh g o) := Pw (fun x a => P4 x a) g.prods o
theorem P5 (o : List Bool) : (swI sh g o).length = o.length := (Eh o).1.symm
theorem RN : (inOf sh g).length = g.sorts.length := YK (Inv := fun a => a.length = g.sorts.length) (fun a ha => (P5 a).trans ha) _ _ (by simp)
theorem LX (o : List Bool) (h : swI sh g o ≠ o) : cnt o < cnt (swI sh g o) := (U9 (Eh o)).2 h
theorem Zbz : swI sh g (inOf sh g) = inOf sh g :=
 U8 cnt g.sorts.length (fun a => a.length = g.sorts.length) (fun a ha => (P5 a).trans ha) (fun a _ h => LX a h) (fun a ha => by have := OL a; omega) _ _ (by simp) (by omega)
structure ClI (g : GramD) (sh : List Int) (c : List Bool) : Prop where
 len : c.length = g.sorts.length
 cl : ∀ p ∈ g.prods, Xh sh p = true → c[p.left.toNat]? = some true → ∀ s ∈ p.right, s.kind = 1 → c[s.sort.toNat]? = some true
theorem D5 (hv : GramV g) : (inOf sh g)[g.start.toNat]? = some true := by
 have hs := hv.start
 have : leB ((List.replicate g.sorts.length false).set g.start.toNat true) (inOf sh g) := by
  unfold inOf
  exact YK (Inv := fun a => leB ((List.replicate g.sorts.length false).set g.start.toNat true) a) (fun a ha => ha.trans (Eh a)) _ _ (leB.refl _)
 exact this.2 _ (Ta (by simp; omega))
theorem Ei (hv : GramV g) : ClI g sh (inOf sh g) := by
 refine ⟨RN, fun p hp hl hi s hs k1 => ?_⟩
 have h1 := S6 (fun x a => P4 (sh := sh) x a) g.prods _ Zbz p hp
 unfold Xh at hl
 rw [Bool.and_eq_true] at hl
 unfold updI at h1
 rw [hl.1, cond_true] at h1
 have h2 := S6 (fun x a => JM (sh := sh) p a x) p.right _ h1 s hs
 unfold stI at h2
 rw [k1, hi, hl.2] at h2
 have h2 : (inOf sh g).set s.sort.toNat true = inOf sh g := h2
 rw [← h2]
 have := ((hv.prod p hp).right s hs).sort k1
 exact Ta (by rw [RN]; omega)
theorem D6 {c : List Bool} (hc : ClI g sh c) (h0 : c[g.start.toNat]? = some true) : leB (inOf sh g) c := by
 unfold inOf
 refine Cw (fun a ha => ?_) _ _ (Pu (OO hc.len) h0)
 refine MB g.prods a (fun p hp a ha => ?_) ha
 unfold updI
 cases hr : p.role != 11 with
 | false => exact ha
 | true =>
  refine MB p.right a (fun s hs a ha => ?_) ha
  unfold stI
  cases hk : (s.kind == 1) && ((a[p.left.toNat]?).getD false && decide (0 ≤ sumS sh 0 p.right)) with
  | false => exact ha
  | true =>
   simp only [Bool.and_eq_true, beq_iff_eq] at hk
   obtain ⟨k1, k2, k3⟩ := hk
   have hpl : c[p.left.toNat]? = some true := by
    cases e : a[p.left.toNat]? with
    | none => rw [e] at k2; cases k2
    | some v => rw [e] at k2; simp only [gds] at k2; subst k2; exact ha.2 _ e
   exact Pu ha (hc.cl p hp (by unfold Xh; rw [hr, k3]; rfl) hpl s hs k1)
theorem q77 (hs : ShOk n sh) {p : ProdD} (hp : ProdV n p) : F77 p sh = some (decide (0 ≤ sumS sh 0 p.right)) := by
 unfold F77
 rw [q48 hs hp.right (by have := hp.len; omega)]
 rfl
theorem ZbA (hs : ShOk n sh) {p : ProdD} (hp : ProdV n p) : DM p sh = some (decide (0 ≤ sumS sh 0 p.right)) := q77 hs hp
theorem l72 (hs : ShOk n sh) {p : ProdD} (hp : ProdV n p) : ∀ (k i : Nat) (b : Bool) (o : List Bool), i + k = p.right.length → o.length = n →
  runL (fun s => X0 p (p.right.length : Int) sh n s.1 s.2.1 s.2.2) (b, (i : Int), o) =
   some (.k0 ((p.right.drop i).foldl (fun (a : Bool × List Bool) x => (a.1 || decide (stI sh p a.2 x ≠ a.2), stI sh p a.2 x)) (b, o)).1 ((p.right.drop i).foldl (fun (a : Bool × List Bool) x => (a.1 || decide (stI sh p a.2 x ≠ a.2), stI sh p a.2 x)) (b, o)).2)
 | 0, i, b, o, hi, ho => by
  obtain rfl : i = p.right.length := by omega
  rw [List.drop_length]
  exact Zc (by simp [X0])
 | k + 1, i, b, o, hi, ho => by
  have hlen := hp.len
  have hpl := hp.left
  have hx : p.right[i]? = some p.right[i] := geg (by omega)
  have hd : p.right.drop i = p.right[i] :: p.right.drop (i + 1) := (List.drop_eq_getElem_cons (by omega))
  generalize p.right[i] = s at hx hd
  have hv := hp.right s (mog hx)
  rw [hd]
  simp only [List.foldl_cons]
  have hstep : X0 p (p.right.length : Int) sh n b (i : Int) o = some (.inr (b || decide (stI sh p o s ≠ o), ((i + 1 : Nat) : Int), stI sh p o s)) := by
   have hix : ixN n p.left = some p.left.toNat := ZK.2 ⟨by omega, by omega⟩
   have hl : o[p.left.toNat]? = some (o[p.left.toNat]'(by omega)) := geg _
   generalize o[p.left.toNat]'(by omega) = u at hl
   simp only [X0, Zj, hx, bsm, decide_eq_true (show (i : Int) < (p.right.length : Int) by omega), cond_true, w_S (show i < 4611686018427387904 by omega)]
   unfold stI
   cases hk : s.kind == 1 with
   | false => simp
   | true =>
    have k1 := eq_of_beq hk
    have hq := hv.sort k1
    have hix2 : ixN n s.sort = some s.sort.toNat := ZK.2 ⟨by omega, by omega⟩
    have hl2 : o[s.sort.toNat]? = some (o[s.sort.toNat]'(by omega)) := geg _
    generalize o[s.sort.toNat]'(by omega) = u2 at hl2
    simp only [cond_true, hix, hl, bsm, gds, Bool.true_and]
    cases u with
    | false => simp
    | true =>
     simp only [cond_true, q77 hs hp, bsm, Bool.true_and]
     cases decide (0 ≤ sumS sh 0 p.right) with
     | false => simp
     | true =>
      simp only [cond_true, hix2, hl2, bsm]
      cases u2 with
      | true => rw [Xg hl2]; simp
      | false =>
       have : o.set s.sort.toNat true ≠ o := fun e => by
        have := Pv hl2
        rw [e] at this; omega
       simp [this]
  rw [Zd (step := fun s => X0 p (p.right.length : Int) sh n s.1 s.2.1 s.2.2) (s := (b, (i : Int), o)) hstep]
  exact l72 hs hp k (i + 1) _ _ (by omega) ((JM p o s).1.symm.trans ho)
theorem q72 (hs : ShOk n sh) {p : ProdD} (hp : ProdV n p) (hr : (p.role != 11) = true) {o : List Bool} (ho : o.length = n) : Fc p sh o n = some (.k0 (decide (updI sh o p ≠ o)) (updI sh o p)) := by
 have h := l72 hs hp p.right.length 0 false o (by omega) ho
 rw [List.drop_zero, TN cnt (D3 p)] at h
 have e0 : ((0 : Nat) : Int) = 0 := rfl
 rw [e0] at h
 unfold Fc
 rw [h]
 unfold updI
 rw [hr]
 simp only [bsm, Bool.false_or, cond_true]
theorem Ej (hv : GramV g) (hn : n = g.sorts.length) (hs : ShOk n sh) (h80 : g.prods.length ≤ 80) : ∀ (k i : Nat) (b : Bool) (o : List Bool), i + k = g.prods.length → o.length = n →
  runL (fun s => YZ g sh (g.prods.length : Int) n s.1 s.2.1 s.2.2) (b, (i : Int), o) =
   some (.k0 ((g.prods.drop i).foldl (fun (a : Bool × List Bool) x => (a.1 || decide (updI sh a.2 x ≠ a.2), updI sh a.2 x)) (b, o)).1 ((g.prods.drop i).foldl (fun (a : Bool × List Bool) x => (a.1 || decide (updI sh a.2 x ≠ a.2), updI sh a.2 x)) (b, o)).2)
 | 0, i, b, o, hi, ho => by
  obtain rfl : i = g.prods.length := by omega
  rw [List.drop_length]
  exact Zc (by simp [YZ])
 | k + 1, i, b, o, hi, ho => by
  have hx : g.prods[i]? = some g.prods[i] := geg (by omega)
  have hd : g.prods.drop i = g.prods[i] :: g.prods.drop (i + 1) := (List.drop_eq_getElem_cons (by omega))
  generalize hp : g.prods[i] = p at hx hd
  have hpv : ProdV n p := by rw [hn]; exact hv.prod p (mog hx)
  rw [hd]
  simp only [List.foldl_cons]
  have hstep : YZ g sh (g.prods.length : Int) n b (i : Int) o = some (.inr (b || decide (updI sh o p ≠ o), ((i + 1 : Nat) : Int), updI sh o p)) := by
   simp only [YZ, Zj, hx, bsm, decide_eq_true (show (i : Int) < (g.prods.length : Int) by omega), cond_true, F54, w_S (show i < 4611686018427387904 by omega)]
   cases hr : p.role != 11 with
   | false => simp [updI, hr]
   | true =>
    simp only [cond_true, q72 hs hpv hr ho, bsm]
    cases decide (updI sh o p ≠ o) <;> simp
  rw [Zd (step := fun s => YZ g sh (g.prods.length : Int) n s.1 s.2.1 s.2.2) (s := (b, (i : Int), o)) hstep]
  exact Ej hv hn hs h80 k (i + 1) _ _ (by omega) ((D4 o p).trans ho)
theorem q53 (hg : GramOk g) (hv : GramV g) (hs : ShOk g.sorts.length sh) : Ff g sh = some (.k0 g.sorts.length (inOf sh g)) := by
 have h40 := hg.sorts
 have hst := hv.start
 have e0 : ((0 : Nat) : Int) = 0 := rfl
 have hloop : ∀ (k : Nat) (o : List Bool), o.length = g.sorts.length → g.sorts.length ≤ cnt o + k → runL (fun s => X1 g sh g.sorts.length s) o = some (.k0 (itN (swI sh g) k o)) := by
  intro k
  induction k with
  | zero =>
   intro o ho hk
   have h1 := Ej hv rfl hs hg.prods g.prods.length 0 false o (by omega) ho
   rw [List.drop_zero, TN cnt NR, e0] at h1
   have hfix : g.prods.foldl (updI sh) o = o := by
    by_cases e : g.prods.foldl (updI sh) o = o
    ·exact e
    ·have h2 := LX (g := g) (sh := sh) o e
     have h3 := OL (swI sh g o)
     rw [P5, ho] at h3
     omega
   rw [hfix] at h1
   exact Zc (by simp only [X1, h1, bsm]; simp [itN])
  | succ k ih =>
   intro o ho hk
   have h1 := Ej hv rfl hs hg.prods g.prods.length 0 false o (by omega) ho
   rw [List.drop_zero, TN cnt NR, e0] at h1
   by_cases e : g.prods.foldl (updI sh) o = o
   ·rw [Y2 (show swI sh g o = o from e)]
    rw [e] at h1
    exact Zc (by simp only [X1, h1, bsm]; simp)
   ·have h2 := LX (g := g) (sh := sh) o e
    rw [decide_eq_true e, Bool.or_true] at h1
    rw [Zd (step := fun s => X1 g sh g.sorts.length s) (s := o) (s' := swI sh g o) (by simp only [X1, h1, bsm, cond_true]; rfl)]
    exact ih _ ((P5 o).trans ho) (by omega)
 have hl := hloop g.sorts.length ((List.replicate g.sorts.length false).set g.start.toNat true) (by simp) (by omega)
 have hix : ixN g.sorts.length g.start = some g.start.toNat := ZK.2 ⟨by omega, by omega⟩
 have hget : (List.replicate g.sorts.length false)[g.start.toNat]? = some false := by rw [grp, if_pos (by omega)]
 have h46 : Fe g sh ((List.replicate g.sorts.length false).set g.start.toNat true) g.sorts.length = some (inOf sh g) := by
  unfold Fe
  have : runL (fun (_ : Unit) => Ud g sh ((List.replicate g.sorts.length false).set g.start.toNat true) g.sorts.length) () = some (.k0 (inOf sh g)) := Zc (by simp only [Ud, hl, bsm]; rfl)
  rw [this]
  rfl
 unfold Ff
 simp only [mk1 h40, cond_true, Int.toNat_natCast, hix, hget, bsm, h46]
theorem RO {E S : Type} {step : S → Option (E ⊕ S)} (r : List SymD) (emb : Int → List SymD → S) (fin : List SymD → E)
  (h : ∀ (i : Nat) (s : SymD) (t : List SymD), r[i]? = some s → r.drop (i + 1) = t → step (emb (i : Int) t) = some (.inr (emb ((i : Int) - 1) (s :: t)))) (hend : step (emb (-1) r) = some (.inl (fin r))) :
  ∀ (k : Nat), k ≤ r.length → runL step (emb ((k : Int) - 1) (r.drop k)) = some (fin r)
 | 0, _ => by
  rw [List.drop_zero]
  exact Zc hend
 | k + 1, hk => by
  have hx : r[k]? = some r[k] := geg (by omega)
  have hd : r.drop k = r[k] :: r.drop (k + 1) := (List.drop_eq_getElem_cons (by omega))
  have e : ((k + 1 : Nat) : Int) - 1 = (k : Int) := by omega
  rw [e, Zd (h k _ _ hx rfl), ← hd]
  exact RO r emb fin h hend k (by omega)
end
section
variable {g : GramD} {n : Nat} {sh : List Int} {fi : List V4}
theorem P6 {x : WS} {k : Nat} {y : V4} {b e : Bool} (h1 : k < x.1.length) (h2 : x.2[k]? = some e) : decide (YD x k y b ≠ x) = (!decide (uV (atV x.1 k) y = atV x.1 k) || (b && !e)) := by
 by_cases q : uV (atV x.1 k) y = atV x.1 k
 ·have e1 : x.1.set k (uV (atV x.1 k) y) = x.1 := by rw [q]; exact TI h1
  rw [decide_eq_true q]
  cases b with
  | false =>
   have : YD x k y false = x := Prod.ext e1 rfl
   simp [this]
  | true =>
   cases e with
   | true =>
    have : YD x k y true = x := Prod.ext e1 (Xg h2)
    simp [this]
   | false =>
    have : YD x k y true ≠ x := fun h => by
     have h3 : x.2.set k true = x.2 := congrArg Prod.snd h
     have := Pv h2
     rw [h3] at this; omega
    simp [this]
 ·have : YD x k y b ≠ x := fun h => q (by
   have h3 : x.1.set k (uV (atV x.1 k) y) = x.1 := congrArg Prod.fst h
   have h9 : atV (x.1.set k (uV (atV x.1 k) y)) k = atV x.1 k := by rw [h3]
   rw [WL h1, if_pos rfl] at h9
   exact h9)
  simp [this, q]
theorem Ek {E : List Bool} {k : Nat} (h : E[k]? = some false) : E.set k false = E := by
 have := ZaD (b := false) h
 exact this
theorem Zc3 (hs : ShOk n sh) (hf : fi.length = n) {p : ProdD} (hp : ProdV n p) (hok : ProdOk p) {i : Nat} {s : SymD} (hx : p.right[i]? = some s) (an la : Bool) (x : WS) (hl : x.1.length = n ∧ x.2.length = n) (nx : V4) :
  TP (Zi sh) (fi.map sd) n p an la (i : Int) (x.1.map sd) x.2 (sd nx).a (sd nx).b (sd nx).c (sd nx).d =
   some (.inr (bif s.kind == 0 then an else (an || decide (YD x s.sort.toNat nx la ≠ x)), bif s.kind == 0 then false else bif symS sh s == 0 then la else false, (i : Int) - 1, (bif s.kind == 0 then x else YD x s.sort.toNat nx la).1.map sd, (bif s.kind == 0 then x else YD x s.sort.toNat nx la).2,
    (sd (bif s.kind == 0 then v4 s else bif symS sh s == 0 then uV nx (atV fi s.sort.toNat) else atV fi s.sort.toNat)).a, (sd (bif s.kind == 0 then v4 s else bif symS sh s == 0 then uV nx (atV fi s.sort.toNat) else atV fi s.sort.toNat)).b, (sd (bif s.kind == 0 then v4 s else bif symS sh s == 0 then uV nx (atV fi s.sort.toNat) else atV fi s.sort.toNat)).c, (sd (bif s.kind == 0 then v4 s else bif symS sh s == 0 then uV nx (atV fi s.sort.toNat) else atV fi s.sort.toNat)).d)) := by
 have hlen := hp.len
 have hi := (gei.1 hx).1
 have hmem := mog hx
 have hv := hp.right s hmem
 have hso := hok.right s hmem
 have e1 : IntKind.wrap .i64 ((i : Int) - 1) = (i : Int) - 1 := w_id (by omega)
 rcases hv.k with k0 | k1
 ·have := JE hso
  simp only [TP, decide_eq_true (show (i : Int) ≥ 0 by omega), cond_true, Zj, hx, bsm, k0, beq_self_eq_true, e1, ← this]
 ·obtain ⟨q0, q1⟩ := hv.sort k1
  have h10 : ((1 : Int) == 0) = false := rfl
  have hk : s.sort.toNat < n := by omega
  have hix : ixN n s.sort = some s.sort.toNat := ZK.2 ⟨by omega, hk⟩
  have hO := VI hl.1 hk
  have hE : x.2[s.sort.toNat]? = some (x.2[s.sort.toNat]'(by omega)) := geg _
  generalize x.2[s.sort.toNat]'(by omega) = e at hE
  have h76 : F76 [(⟨(sd (atV x.1 s.sort.toNat)).a, (sd (atV x.1 s.sort.toNat)).b, (sd (atV x.1 s.sort.toNat)).c, (sd (atV x.1 s.sort.toNat)).d⟩ : SetD), (⟨(sd nx).a, (sd nx).b, (sd nx).c, (sd nx).d⟩ : SetD)] = some (.k0 (sd (uV (atV x.1 s.sort.toNat) nx)).a (sd (uV (atV x.1 s.sort.toNat) nx)).b (sd (uV (atV x.1 s.sort.toNat) nx)).c (sd (uV (atV x.1 s.sort.toNat) nx)).d) := q76 _ _
  have h76b : F76 [(⟨(sd nx).a, (sd nx).b, (sd nx).c, (sd nx).d⟩ : SetD), (⟨(sd (atV fi s.sort.toNat)).a, (sd (atV fi s.sort.toNat)).b, (sd (atV fi s.sort.toNat)).c, (sd (atV fi s.sort.toNat)).d⟩ : SetD)] = some (.k0 (sd (uV nx (atV fi s.sort.toNat))).a (sd (uV nx (atV fi s.sort.toNat))).b (sd (uV nx (atV fi s.sort.toNat))).c (sd (uV nx (atV fi s.sort.toNat))).d) := q76 _ _
  have h55 := q55 hs hv k1
  have hfi : getI (fi.map sd) s.sort = some (sd (atV fi s.sort.toNat)) := Xz.2 ⟨q0, VI hf hk⟩
  have hq := QV (uV (atV x.1 s.sort.toNat) nx) (atV x.1 s.sort.toNat)
  unfold eqS at hq
  have hset : (x.1.map sd).set s.sort.toNat (⟨(sd (uV (atV x.1 s.sort.toNat) nx)).a, (sd (uV (atV x.1 s.sort.toNat) nx)).b, (sd (uV (atV x.1 s.sort.toNat) nx)).c, (sd (uV (atV x.1 s.sort.toNat) nx)).d⟩ : SetD) = (x.1.set s.sort.toNat (uV (atV x.1 s.sort.toNat) nx)).map sd := by rw [List.map_set]
  have hne := P6 (y := nx) (b := la) (show s.sort.toNat < x.1.length by omega) hE
  rw [hne]
  simp only [TP, decide_eq_true (show (i : Int) ≥ 0 by omega), cond_true, Zj, hx, bsm, k1, h10, cond_false, hix, hO, h76, hE, h55, hfi, h76b, hq, hset, e1, YD, setE]
  have t1 : e = true → x.2.set s.sort.toNat true = x.2 := fun h => Xg (by rw [hE, h])
  have t2 : e = false → x.2.set s.sort.toNat false = x.2 := fun h => Ek (by rw [hE, h])
  cases symS sh s == 0 <;> cases decide (uV (atV x.1 s.sort.toNat) nx = atV x.1 s.sort.toNat) <;> cases an <;> cases la <;> cases e <;> simp [t1, t2]
theorem l78 (hs : ShOk n sh) (hf : fi.length = n) {p : ProdD} (hp : ProdV n p) (hok : ProdOk p) (nx : V4) (la : Bool) (a : WS) (hl : a.1.length = n ∧ a.2.length = n) :
  runL (fun s => TP (Zi sh) (fi.map sd) n p s.1 s.2.1 s.2.2.1 s.2.2.2.1 s.2.2.2.2.1 s.2.2.2.2.2.1 s.2.2.2.2.2.2.1 s.2.2.2.2.2.2.2.1 s.2.2.2.2.2.2.2.2) (false, la, (p.right.length : Int) - 1, a.1.map sd, a.2, (sd nx).a, (sd nx).b, (sd nx).c, (sd nx).d) =
   some (.k0 (decide (stp sh fi nx la p.right a ≠ a)) ((stp sh fi nx la p.right a).1.map sd) (stp sh fi nx la p.right a).2 (sd (bh sh fi p.right nx)).a (sd (bh sh fi p.right nx)).b (sd (bh sh fi p.right nx)).c (sd (bh sh fi p.right nx)).d) := by
 have key := RO (step := fun s : Bool × Bool × Int × List SetD × List Bool × Int × Int × Int × Int => TP (Zi sh) (fi.map sd) n p s.1 s.2.1 s.2.2.1 s.2.2.2.1 s.2.2.2.2.1 s.2.2.2.2.2.1 s.2.2.2.2.2.2.1 s.2.2.2.2.2.2.2.1 s.2.2.2.2.2.2.2.2) p.right
  (fun i t => (decide (stp sh fi nx la t a ≠ a), be sh t la, i, (stp sh fi nx la t a).1.map sd, (stp sh fi nx la t a).2, (sd (bh sh fi t nx)).a, (sd (bh sh fi t nx)).b, (sd (bh sh fi t nx)).c, (sd (bh sh fi t nx)).d))
  (fun t => .k0 (decide (stp sh fi nx la t a ≠ a)) ((stp sh fi nx la t a).1.map sd) (stp sh fi nx la t a).2 (sd (bh sh fi t nx)).a (sd (bh sh fi t nx)).b (sd (bh sh fi t nx)).c (sd (bh sh fi t nx)).d)
  (fun i s t hx ht => by
   have hln := LW sh fi nx la t a
   have h := Zc3 hs hf hp hok hx (decide (stp sh fi nx la t a ≠ a)) (be sh t la) (stp sh fi nx la t a) ⟨hln.1.trans hl.1, hln.2.trans hl.2⟩ (bh sh fi t nx)
   simp only
   rw [h]
   rcases (hp.right s (mog hx)).k with k0 | k1
   ·have hk : (s.kind == 0) = true := by rw [k0]; rfl
    simp only [hk, cond_true, stp, bh, be]
   ·have hk : (s.kind == 0) = false := by rw [k1]; rfl
    rw [JJ sh fi nx la s t a hk]
    simp only [hk, cond_false, stp, bh, be]) (by simp [TP]) p.right.length (Nat.le_refl _)
 rw [List.drop_length] at key
 simpa [stp, bh, be] using key
def NS : R_F78 → List SetD × List Bool → Bool × List SetD × List Bool
 | .k0, x => (false, x)
 | .k1 b o e .., _ => (b, o, e)
 | .k2, x => (false, x)
theorem q78 (hs : ShOk n sh) (hf : fi.length = n) {p : ProdD} (hp : ProdV n p) (hok : ProdOk p) {inn : List Bool} (hin : inn.length = n) (hr : (p.role != 11) = true) (a : WS) (hl : a.1.length = n ∧ a.2.length = n) {st : Int} (hst : getI sh g.start = some st) (h0 : 0 ≤ st) :
  ∃ r, F78 p g sh (Zi sh) (fi.map sd) inn n n (a.1.map sd) a.2 = some r ∧ NS r (a.1.map sd, a.2) = (decide (updW sh fi inn a p ≠ a), (updW sh fi inn a p).1.map sd, (updW sh fi inn a p).2) := by
 have hlen := hp.len
 have hpl := hp.left
 have hix : ixN n p.left = some p.left.toNat := ZK.2 ⟨by omega, by omega⟩
 have hI : inn[p.left.toNat]? = some (inn[p.left.toNat]'(by omega)) := geg _
 generalize inn[p.left.toNat]'(by omega) = u at hI
 have hE : a.2[p.left.toNat]? = some (a.2[p.left.toNat]'(by omega)) := geg _
 generalize a.2[p.left.toNat]'(by omega) = e at hE
 have hO := VI hl.1 (show p.left.toNat < n by omega)
 have ew : IntKind.wrap .i64 ((p.right.length : Int) - 1) = (p.right.length : Int) - 1 := w_id (by omega)
 unfold F78 updW Xh
 simp only [hix, hI, bsm, hr, Bool.true_and, gds, hE]
 cases u with
 | false => exact ⟨.k2, rfl, by simp [NS]⟩
 | true =>
  simp only [cond_true, ZbA hs hp, bsm, Bool.and_true]
  cases decide (0 ≤ sumS sh 0 p.right) with
  | false => exact ⟨.k0, rfl, by simp [NS]⟩
  | true =>
   simp only [cond_true, hst, bsm, decide_eq_false (show ¬ st < 0 by omega), cond_false, hO, ew]
   cases e with
   | true =>
    simp only [cond_true, l78 hs hf hp hok (atV a.1 p.left.toNat) true a hl, bsm]
    exact ⟨_, rfl, rfl⟩
   | false =>
    simp only [cond_false, l78 hs hf hp hok (atV a.1 p.left.toNat) false a hl, bsm]
    exact ⟨_, rfl, rfl⟩
theorem q78n (hs : ShOk n sh) {p : ProdD} (hp : ProdV n p) {inn : List Bool} (hin : inn.length = n) (x : List SetD) (y : List Bool) {nl : List Bool} {fs : List SetD} {st : Int} (hst : getI sh g.start = some st) (h0 : st < 0) :
  ∃ r, F78 p g sh nl fs inn n n x y = some r ∧ NS r (x, y) = (false, x, y) := by
 have hpl := hp.left
 have hix : ixN n p.left = some p.left.toNat := ZK.2 ⟨by omega, by omega⟩
 have hI : inn[p.left.toNat]? = some (inn[p.left.toNat]'(by omega)) := geg _
 generalize inn[p.left.toNat]'(by omega) = u at hI
 unfold F78
 simp only [hix, hI, bsm]
 cases u with
 | false => exact ⟨.k2, rfl, rfl⟩
 | true =>
  simp only [cond_true, ZbA hs hp, bsm]
  cases decide (0 ≤ sumS sh 0 p.right) with
  | false => exact ⟨.k0, rfl, rfl⟩
  | true =>
   simp only [cond_true, hst, bsm, decide_eq_true h0]
   exact ⟨.k0, rfl, rfl⟩
theorem El (hg : GramOk g) (hv : GramV g) (hn : n = g.sorts.length) (hs : ShOk n sh) (hf : fi.length = n) {inn : List Bool} (hin : inn.length = n) {st : Int} (hst : getI sh g.start = some st) (h0 : 0 ≤ st) : ∀ (k i : Nat) (b : Bool) (a : WS), i + k = g.prods.length → (a.1.length = n ∧ a.2.length = n) →
  runL (fun s => Z3 g sh (Zi sh) (g.prods.length : Int) (fi.map sd) inn n n s.1 s.2.1 s.2.2.1 s.2.2.2) (b, (i : Int), a.1.map sd, a.2) =
   some (.k0 ((g.prods.drop i).foldl (fun (c : Bool × WS) x => (c.1 || decide (updW sh fi inn c.2 x ≠ c.2), updW sh fi inn c.2 x)) (b, a)).1 (((g.prods.drop i).foldl (fun (c : Bool × WS) x => (c.1 || decide (updW sh fi inn c.2 x ≠ c.2), updW sh fi inn c.2 x)) (b, a)).2.1.map sd) ((g.prods.drop i).foldl (fun (c : Bool × WS) x => (c.1 || decide (updW sh fi inn c.2 x ≠ c.2), updW sh fi inn c.2 x)) (b, a)).2.2)
 | 0, i, b, a, hi, hl => by
  obtain rfl : i = g.prods.length := by omega
  rw [List.drop_length]
  exact Zc (by simp [Z3])
 | k + 1, i, b, a, hi, hl => by
  have hgp := hg.prods
  have hx : g.prods[i]? = some g.prods[i] := geg (by omega)
  have hd : g.prods.drop i = g.prods[i] :: g.prods.drop (i + 1) := (List.drop_eq_getElem_cons (by omega))
  generalize hp : g.prods[i] = p at hx hd
  have hmem : p ∈ g.prods := mog hx
  have hpv : ProdV n p := by rw [hn]; exact hv.prod p hmem
  rw [hd]
  simp only [List.foldl_cons]
  have hstep : Z3 g sh (Zi sh) (g.prods.length : Int) (fi.map sd) inn n n b (i : Int) (a.1.map sd) a.2 = some (.inr (b || decide (updW sh fi inn a p ≠ a), ((i + 1 : Nat) : Int), (updW sh fi inn a p).1.map sd, (updW sh fi inn a p).2)) := by
   simp only [Z3, Zj, hx, bsm, decide_eq_true (show (i : Int) < (g.prods.length : Int) by omega), cond_true, F54, w_S (show i < 4611686018427387904 by omega)]
   cases hr : p.role != 11 with
   | false => simp [updW, Xh, hr]
   | true =>
    obtain ⟨r, h1, h2⟩ := q78 (g := g) hs hf hpv (hg.prod p hmem) hin hr a hl hst h0
    simp only [cond_true, h1, bsm]
    cases r with
    | k0 =>
     simp only [NS, Prod.mk.injEq] at h2
     rw [← h2.1, ← h2.2.1, ← h2.2.2]; simp
    | k1 x0 x1 x2 =>
     simp only [NS, Prod.mk.injEq] at h2
     rw [← h2.1, ← h2.2.1, ← h2.2.2]; cases x0 <;> simp
    | k2 =>
     simp only [NS, Prod.mk.injEq] at h2
     rw [← h2.1, ← h2.2.1, ← h2.2.2]; simp
  rw [Zd (step := fun s => Z3 g sh (Zi sh) (g.prods.length : Int) (fi.map sd) inn n n s.1 s.2.1 s.2.2.1 s.2.2.2) (s := (b, (i : Int), a.1.map sd, a.2)) hstep]
  obtain ⟨u1, u2⟩ := JK (sh := sh) (fi := fi) inn a p
  exact El hg hv hn hs hf hin hst h0 k (i + 1) _ _ (by omega) ⟨u1.trans hl.1, u2.trans hl.2⟩
theorem Em (hg : GramOk g) (hv : GramV g) (hn : n = g.sorts.length) (hs : ShOk n sh) {inn : List Bool} (hin : inn.length = n) {x : List SetD} {y : List Bool} {nl : List Bool} {fs : List SetD} {st : Int} (hst : getI sh g.start = some st) (h0 : st < 0) : ∀ (k i : Nat), i + k = g.prods.length →
  runL (fun s => Z3 g sh nl (g.prods.length : Int) fs inn n n s.1 s.2.1 s.2.2.1 s.2.2.2) (false, (i : Int), x, y) = some (.k0 false x y)
 | 0, i, hi => by
  obtain rfl : i = g.prods.length := by omega
  exact Zc (by simp [Z3])
 | k + 1, i, hi => by
  have hgp := hg.prods
  have hx : g.prods[i]? = some g.prods[i] := geg (by omega)
  generalize hp : g.prods[i] = p at hx
  have hpv : ProdV n p := by rw [hn]; exact hv.prod p (mog hx)
  have hstep : Z3 g sh nl (g.prods.length : Int) fs inn n n false (i : Int) x y = some (.inr (false, ((i + 1 : Nat) : Int), x, y)) := by
   simp only [Z3, Zj, hx, bsm, decide_eq_true (show (i : Int) < (g.prods.length : Int) by omega), cond_true, F54, w_S (show i < 4611686018427387904 by omega)]
   cases hr : p.role != 11 with
   | false => rfl
   | true =>
    obtain ⟨r, h1, h2⟩ := q78n (g := g) (nl := nl) (fs := fs) hs hpv hin x y hst h0
    simp only [cond_true, h1, bsm]
    cases r with
    | k0 => rfl
    | k1 x0 x1 x2 =>
     simp only [NS, Prod.mk.injEq] at h2
     obtain ⟨rfl, rfl, rfl⟩ := h2
     rfl
    | k2 => rfl
  rw [Zd (step := fun s => Z3 g sh nl (g.prods.length : Int) fs inn n n s.1 s.2.1 s.2.2.1 s.2.2.2) (s := (false, (i : Int), x, y)) hstep]
  exact Em hg hv hn hs hin hst h0 k (i + 1) (by omega)
def ZD (sh : List Int) (g : GramD) : WS := bif decide (0 ≤ shAt sh g.start) then Y0 sh (Ze sh g) (inOf sh g) g true else W0 g false
theorem P7 : LenW g (ZD sh g) := by
 unfold ZD
 cases decide (0 ≤ shAt sh g.start)
 ·exact NP false
 ·exact QY _ _
theorem NT (hv : GramV g) (hs : ShOk g.sorts.length sh) : getI sh g.start = some (shAt sh g.start) := by
 have h1 := hv.start
 have h2 := hs.len
 have h3 : sh[g.start.toNat]? = some (sh[g.start.toNat]'(by omega)) := geg _
 refine Xz.2 ⟨h1.1, ?_⟩
 unfold shAt
 rw [h3]; rfl
theorem q62 (hg : GramOk g) (hv : GramV g) (hs : ShOk g.sorts.length sh) : Lt g sh (Zi sh) = some (.k0 ((ZD sh g).1.map sd) (ZD sh g).2) := by
 have h40 := hg.sorts
 have hst := hv.start
 have e0 : ((0 : Nat) : Int) = 0 := rfl
 have hgs := NT hv hs
 have hix : ixN g.sorts.length g.start = some g.start.toNat := ZK.2 ⟨by omega, by omega⟩
 have hget : (List.replicate g.sorts.length false)[g.start.toNat]? = some false := by rw [grp, if_pos (by omega)]
 have hrep : (List.replicate g.sorts.length zV).map sd = List.replicate g.sorts.length (⟨0, 0, 0, 0⟩ : SetD) := by
  rw [List.map_replicate]; rfl
 have hfl := XD sh g
 have h46 : Fj g sh (Zi sh) ((Ze sh g).map sd) (inOf sh g) g.sorts.length g.sorts.length (List.replicate g.sorts.length (⟨0, 0, 0, 0⟩ : SetD)) ((List.replicate g.sorts.length false).set g.start.toNat (decide (shAt sh g.start ≥ 0))) = some (.k0 ((ZD sh g).1.map sd) (ZD sh g).2) := by
  have hmain : runL (fun s => Y7 g sh (Zi sh) ((Ze sh g).map sd) (inOf sh g) g.sorts.length g.sorts.length s.1 s.2) (List.replicate g.sorts.length (⟨0, 0, 0, 0⟩ : SetD), (List.replicate g.sorts.length false).set g.start.toNat (decide (shAt sh g.start ≥ 0))) = some (.k0 ((ZD sh g).1.map sd) (ZD sh g).2) := by
   unfold ZD
   by_cases h0 : 0 ≤ shAt sh g.start
   ·rw [decide_eq_true h0, ← hrep]
    have hloop : ∀ (k : Nat) (a : WS), LenW g a → 257 * g.sorts.length ≤ mmW a + k → runL (fun s => Y7 g sh (Zi sh) ((Ze sh g).map sd) (inOf sh g) g.sorts.length g.sorts.length s.1 s.2) (a.1.map sd, a.2) = some (.k0 ((itN (swW sh (Ze sh g) (inOf sh g) g) k a).1.map sd) (itN (swW sh (Ze sh g) (inOf sh g) g) k a).2) := by
     intro k
     induction k with
     | zero =>
      intro a ha hk
      have h1 := El hg hv rfl hs hfl (RN (g := g) (sh := sh)) hgs h0 g.prods.length 0 false a (by omega) ha
      rw [List.drop_zero, TN mmW (UT (sh := sh) (fi := Ze sh g) (inOf sh g)), e0] at h1
      have hfix : g.prods.foldl (updW sh (Ze sh g) (inOf sh g)) a = a := by
       by_cases e : g.prods.foldl (updW sh (Ze sh g) (inOf sh g)) a = a
       ·exact e
       ·have h2 := Ee (g := g) (sh := sh) (fi := Ze sh g) (inOf sh g) a e
        have h3 := Ed (P2 (sh := sh) (fi := Ze sh g) (inOf sh g) a ha)
        omega
      rw [hfix] at h1
      exact Zc (by simp only [Y7, h1, bsm]; simp [itN])
     | succ k ih =>
      intro a ha hk
      have h1 := El hg hv rfl hs hfl (RN (g := g) (sh := sh)) hgs h0 g.prods.length 0 false a (by omega) ha
      rw [List.drop_zero, TN mmW (UT (sh := sh) (fi := Ze sh g) (inOf sh g)), e0] at h1
      by_cases e : g.prods.foldl (updW sh (Ze sh g) (inOf sh g)) a = a
      ·rw [Y2 (show swW sh (Ze sh g) (inOf sh g) g a = a from e)]
       rw [e] at h1
       exact Zc (by simp only [Y7, h1, bsm]; simp)
      ·have h2 := Ee (g := g) (sh := sh) (fi := Ze sh g) (inOf sh g) a e
       rw [decide_eq_true e, Bool.or_true] at h1
       rw [Zd (step := fun s => Y7 g sh (Zi sh) ((Ze sh g).map sd) (inOf sh g) g.sorts.length g.sorts.length s.1 s.2) (s := (a.1.map sd, a.2)) (s' := ((swW sh (Ze sh g) (inOf sh g) g a).1.map sd, (swW sh (Ze sh g) (inOf sh g) g a).2)) (by simp only [Y7, h1, bsm, cond_true]; rfl)]
       exact ih _ (P2 (inOf sh g) a ha) (by omega)
    exact hloop (257 * g.sorts.length) (W0 g true) (NP true) (by omega)
   ·rw [decide_eq_false h0, Ek hget]
    have h1 := Em hg hv rfl hs (RN (sh := sh)) (x := List.replicate g.sorts.length (⟨0, 0, 0, 0⟩ : SetD)) (y := List.replicate g.sorts.length false) (nl := Zi sh) (fs := (Ze sh g).map sd) hgs (by omega) g.prods.length 0 (by omega)
    rw [e0] at h1
    refine Zc ?_
    simp only [Y7, h1, bsm, cond_false, W0, hrep, setE]
  unfold Fj
  have : runL (fun (_ : Unit) => Ug g sh (Zi sh) ((Ze sh g).map sd) (inOf sh g) g.sorts.length g.sorts.length (List.replicate g.sorts.length (⟨0, 0, 0, 0⟩ : SetD)) ((List.replicate g.sorts.length false).set g.start.toNat (decide (shAt sh g.start ≥ 0)))) () = some (.k0 ((ZD sh g).1.map sd) (ZD sh g).2) := Zc (by simp only [Ug, hmain, bsm])
  rw [this]
  rfl
 have hl := P7 (g := g) (sh := sh)
 have hl1 : ((ZD sh g).1.map sd).length = g.sorts.length := by rw [lmp]; exact hl.1
 unfold Lt
 rw [q61 hg hv hs, q53 hg hv hs]
 simp only [bsm, mk32 h40, mk1 h40, cond_true, hgs, Int.toNat_natCast, hix, hget, h46, hl1, hl.2, decide_eq_true (Nat.le_refl _)]
 rw [tol (by rw [hl1]; exact Nat.le_refl _), tol (by rw [hl.2]; exact Nat.le_refl _)]
end
abbrev DS := List Bool × WS
def mmD (a : DS) : Nat := cnt a.1 + mmW a.2
def leD (a c : DS) : Prop := leB a.1 c.1 ∧ leW a.2 c.2
theorem leW.refl (a : WS) : leW a a := ⟨leV.refl _, leB.refl _⟩
theorem leW.trans {a b c : WS} (h : leW a b) (k : leW b c) : leW a c := ⟨h.1.trans k.1, h.2.trans k.2⟩
theorem leD.refl (a : DS) : leD a a := ⟨leB.refl _, leW.refl _⟩
theorem leD.trans {a b c : DS} (h : leD a b) (k : leD b c) : leD a c := ⟨h.1.trans k.1, h.2.trans k.2⟩
theorem leD.mm {a c : DS} (h : leD a c) : mmD a ≤ mmD c := Nat.add_le_add (T8 h.1) h.2.mm
theorem leW.antisymm {a c : WS} (h : leW a c) (k : leW c a) : a = c := Prod.ext (h.1.antisymm k.1) (h.2.antisymm k.2)
def X2 (sh : List Int) (fi : List V4) (l : Nat) (a : DS) (k : Nat) (t : List SymD) : DS := (setE a.1 k true, YD a.2 k (bh sh fi t (atV a.2.1 l)) (be sh t ((a.2.2[l]?).getD false)))
section
variable {g : GramD} {n : Nat} {sh : List Int} {fi : List V4}
theorem JN (l : Nat) (a : DS) (k : Nat) (t : List SymD) : leD a (X2 sh fi l a k t) := by
 show leB a.1 (setE a.1 k true) ∧ leW a.2 (YD a.2 k (bh sh fi t (atV a.2.1 l)) (be sh t ((a.2.2[l]?).getD false)))
 exact ⟨LV a.1 k true, US _ _ _ _⟩
theorem Ty (l : Nat) (a : DS) (k : Nat) (t : List SymD) : X2 sh fi l a k t = a ∨ mmD a < mmD (X2 sh fi l a k t) := by
 have h1 := NN a.1 k true
 have h2 := QX a.2 k (bh sh fi t (atV a.2.1 l)) (be sh t ((a.2.2[l]?).getD false))
 unfold X2 mmD
 rcases h1 with h1 | h1
 ·rcases h2 with h2 | h2
  ·left; exact Prod.ext h1 h2
  ·right; simp only [h1]; omega
 ·right
  have := (US a.2 k (bh sh fi t (atV a.2.1 l)) (be sh t ((a.2.2[l]?).getD false))).mm
  simp only
  omega
def pd (sh : List Int) (fi : List V4) (l : Nat) : List SymD → DS → DS
 | [], a => a
 | s :: r, a => pd sh fi l r (bif s.kind == 1 then X2 sh fi l a s.sort.toNat r else a)
theorem En (l : Nat) : ∀ (r : List SymD) (a : DS), leD a (pd sh fi l r a)
 | [], a => leD.refl a
 | s :: r, a => by
  simp only [pd]
  refine leD.trans ?_ (En l r _)
  cases s.kind == 1
  ·exact leD.refl a
  ·exact JN _ _ _ _
theorem LY (l : Nat) : ∀ (r : List SymD) (a : DS), pd sh fi l r a = a ∨ mmD a < mmD (pd sh fi l r a)
 | [], a => .inl rfl
 | s :: r, a => by
  simp only [pd]
  cases s.kind == 1
  ·exact LY l r a
  ·simp only [cond_true]
   rcases Ty (sh := sh) (fi := fi) l a s.sort.toNat r with h | h
   ·rw [h]; exact LY l r a
   ·right
    have := (En (sh := sh) (fi := fi) l r (X2 sh fi l a s.sort.toNat r)).mm
    omega
theorem ZaH (l : Nat) (r : List SymD) (a a1 : DS) (h : a1 = a ∨ mmD a < mmD a1) (hu : leD a a1) : decide (pd sh fi l r a1 ≠ a) = (decide (a1 ≠ a) || decide (pd sh fi l r a1 ≠ a1)) := by
 by_cases e : a1 = a
 ·rw [e]; simp
 ·have h1 := h.resolve_left e
  have h2 := (En (sh := sh) (fi := fi) l r a1).mm
  have : pd sh fi l r a1 ≠ a := fun q => by rw [q] at h2; omega
  simp [e, this]
def updR (sh : List Int) (fi : List V4) (a : DS) (p : ProdD) : DS := bif Xh sh p && (a.1[p.left.toNat]?).getD false then pd sh fi p.left.toNat p.right a else a
theorem Eo (a : DS) (p : ProdD) : leD a (updR sh fi a p) := by
 unfold updR
 cases Xh sh p && (a.1[p.left.toNat]?).getD false
 ·exact leD.refl a
 ·exact En _ _ _
theorem UU (a : DS) (p : ProdD) : updR sh fi a p = a ∨ mmD a < mmD (updR sh fi a p) := by
 unfold updR
 cases Xh sh p && (a.1[p.left.toNat]?).getD false
 ·exact .inl rfl
 ·exact LY _ _ _
def swR (sh : List Int) (fi : List V4) (g : GramD) (a : DS) : DS := g.prods.foldl (updR sh fi) a
theorem P8 : ∀ (ps : List ProdD) (a : DS), leD a (ps.foldl (updR sh fi) a)
 | [], a => leD.refl a
 | p :: ps, a => by simp only [List.foldl_cons]; exact (Eo a p).trans (P8 ps _)
def LenD (g : GramD) (a : DS) : Prop := a.1.length = g.sorts.length ∧ LenW g a.2
theorem leD.lenD {a c : DS} (h : leD a c) (ha : LenD g a) : LenD g c := ⟨h.1.1.symm.trans ha.1, h.2.1.1.symm.trans ha.2.1, h.2.2.1.symm.trans ha.2.2⟩
def D0 (g : GramD) (b : Bool) : DS := (setE (List.replicate g.sorts.length false) g.start.toNat b, W0 g b)
theorem Ep (b : Bool) : LenD g (D0 g b) := ⟨by simp [D0, JH], NP b⟩
def XE (sh : List Int) (fi : List V4) (g : GramD) (b : Bool) : DS := itN (swR sh fi g) (258 * g.sorts.length) (D0 g b)
theorem Bj {a : DS} (h : LenD g a) : mmD a ≤ 258 * g.sorts.length := by
 have h1 := Ed h.2
 have h2 := OL a.1
 unfold mmD
 rw [h.1] at h2
 omega
theorem Er (a : DS) (h : swR sh fi g a ≠ a) : mmD a < mmD (swR sh fi g a) := (XA mmD (UU (sh := sh) (fi := fi)) g.prods a).resolve_left h
theorem P9 (a : DS) (h : LenD g a) : LenD g (swR sh fi g a) := (P8 g.prods a).lenD h
theorem ZbC (b : Bool) : LenD g (XE sh fi g b) := YK (Inv := LenD g) (fun a ha => P9 a ha) _ _ (Ep b)
theorem ZbD (b : Bool) : swR sh fi g (XE sh fi g b) = XE sh fi g b :=
 U8 mmD (258 * g.sorts.length) (LenD g) (fun a ha => P9 a ha) (fun a _ h => Er a h) (fun a ha => Bj ha) _ _ (Ep b) (by omega)
theorem Zc5 (b : Bool) : leD (D0 g b) (XE sh fi g b) := YK (Inv := fun a => leD (D0 g b) a) (fun a ha => ha.trans (P8 g.prods a)) _ _ (leD.refl _)
structure ClD (g : GramD) (sh : List Int) (fi : List V4) (c : DS) : Prop where
 len : LenD g c
 cl : ∀ p ∈ g.prods, Xh sh p = true → c.1[p.left.toNat]? = some true → ∀ pre s r, p.right = pre ++ s :: r → s.kind = 1 →
  c.1[s.sort.toNat]? = some true ∧ (∀ b, has (bh sh fi r (atV c.2.1 p.left.toNat)) b = true → has (atV c.2.1 s.sort.toNat) b = true) ∧ (be sh r ((c.2.2[p.left.toNat]?).getD false) = true → c.2.2[s.sort.toNat]? = some true)
theorem Es {l : Nat} : ∀ (r : List SymD) (a : DS), (∀ s ∈ r, s.kind = 1 → s.sort.toNat < a.1.length ∧ s.sort.toNat < a.2.1.length ∧ s.sort.toNat < a.2.2.length) → pd sh fi l r a = a →
  ∀ pre s t, r = pre ++ s :: t → s.kind = 1 → a.1[s.sort.toNat]? = some true ∧ (∀ b, has (bh sh fi t (atV a.2.1 l)) b = true → has (atV a.2.1 s.sort.toNat) b = true) ∧ (be sh t ((a.2.2[l]?).getD false) = true → a.2.2[s.sort.toNat]? = some true)
 | [], a, _, _, pre, s, t, e, _ => by simp at e
 | x :: r, a, hk, h, pre, s, t, e, k1 => by
  simp only [pd] at h
  have hstep : (bif x.kind == 1 then X2 sh fi l a x.sort.toNat r else a) = a := by
   cases hx : x.kind == 1 with
   | false => rfl
   | true =>
    rw [hx] at h
    simp only [cond_true] at h ⊢
    rcases Ty (sh := sh) (fi := fi) l a x.sort.toNat r with q | q
    ·exact q
    ·have := (En (sh := sh) (fi := fi) l r (X2 sh fi l a x.sort.toNat r)).mm
     rw [h] at this; omega
  rw [hstep] at h
  cases pre with
  | nil =>
   simp only [List.nil_append, List.cons.injEq] at e
   obtain ⟨rfl, rfl⟩ := e
   rw [k1] at hstep
   have hstep : X2 sh fi l a x.sort.toNat r = a := hstep
   obtain ⟨l0, l1, l2⟩ := hk x (mcf ..) k1
   have e0 : a.1.set x.sort.toNat true = a.1 := congrArg Prod.fst hstep
   have e1 : a.2.1.set x.sort.toNat (uV (atV a.2.1 x.sort.toNat) (bh sh fi r (atV a.2.1 l))) = a.2.1 := congrArg (fun q => q.2.1) hstep
   have e2 : setE a.2.2 x.sort.toNat (be sh r ((a.2.2[l]?).getD false)) = a.2.2 := congrArg (fun q => q.2.2) hstep
   refine ⟨by rw [← e0]; exact Ta l0, fun b hb => ?_, fun hb => ?_⟩
   ·rw [← e1, WL l1, if_pos rfl, XG, hb, Bool.or_true]
   ·rw [hb] at e2
    rw [← e2]
    exact Ta l2
  | cons y pre =>
   simp only [List.cons_append, List.cons.injEq] at e
   obtain ⟨rfl, rfl⟩ := e
   exact Es (pre ++ s :: t) a (fun q hq => hk q (mcm _ hq)) h pre s t rfl k1
theorem Et (hv : GramV g) (b : Bool) : ClD g sh fi (XE sh fi g b) := by
 have hlen := ZbC (g := g) (sh := sh) (fi := fi) b
 refine ⟨hlen, fun p hp hl hi pre s t e k1 => ?_⟩
 have h := UG mmD (UU (sh := sh) (fi := fi)) g.prods _ (ZbD b) p hp
 unfold updR at h
 rw [hl, hi] at h
 refine Es p.right _ (fun q hq k => ?_) h pre s t e k1
 have := ((hv.prod p hp).right q hq).sort k
 rw [hlen.1, hlen.2.1, hlen.2.2]
 omega
theorem ZbE {c : DS} {l : Nat} : ∀ (r : List SymD) (a : DS), leD a c →
  (∀ pre s t, r = pre ++ s :: t → s.kind = 1 → c.1[s.sort.toNat]? = some true ∧ (∀ b, has (bh sh fi t (atV c.2.1 l)) b = true → has (atV c.2.1 s.sort.toNat) b = true) ∧ (be sh t ((c.2.2[l]?).getD false) = true → c.2.2[s.sort.toNat]? = some true)) → leD (pd sh fi l r a) c
 | [], a, h, _ => h
 | s :: r, a, h, hc => by
  simp only [pd]
  refine ZbE r _ ?_ (fun pre q t e => hc (s :: pre) q t (by rw [e]; rfl))
  cases hk : s.kind == 1 with
  | false => exact h
  | true =>
   obtain ⟨q0, q1, q2⟩ := hc [] s r rfl (eq_of_beq hk)
   show leB (setE a.1 s.sort.toNat true) c.1 ∧ leW (YD a.2 s.sort.toNat (bh sh fi r (atV a.2.1 l)) (be sh r ((a.2.2[l]?).getD false))) c.2
   exact ⟨LU (b := true) h.1 (fun _ => q0), JI h.2 (fun b hb => q1 b (Ea (h.2.1.2 _) r b hb)) (fun hb => q2 (Eb (Ec h.2.2 _) r hb))⟩
theorem D7 {b : Bool} {c : DS} (hc : ClD g sh fi c) (h0 : leD (D0 g b) c) : leD (XE sh fi g b) c := by
 unfold XE
 refine YK (Inv := fun a => leD a c) (fun a ha => ?_) _ _ h0
 have : ∀ (ps : List ProdD) (a : DS), (∀ p ∈ ps, p ∈ g.prods) → leD a c → leD (ps.foldl (updR sh fi) a) c := by
  intro ps
  induction ps with
  | nil => intro a _ h; exact h
  | cons p ps ih =>
   intro a hp h
   simp only [List.foldl_cons]
   refine ih _ (fun q hq => hp q (mcm _ hq)) ?_
   unfold updR
   cases hl : Xh sh p with
   | false => exact h
   | true =>
    cases hi : a.1[p.left.toNat]? with
    | none => exact h
    | some v =>
     cases v with
     | false => exact h
     | true => exact ZbE p.right a h (hc.cl p (hp p (mcf ..)) hl (h.1.2 _ hi))
 exact this g.prods a (fun _ h => h) ha
theorem ZaI {n k : Nat} (h : k < n) : (setE (List.replicate n false) k true)[k]? = some true := Ta (by simpa using h)
theorem IN (hv : GramV g) : (XE sh (Ze sh g) g (decide (0 ≤ shAt sh g.start))).2 = ZD sh g := by
 unfold ZD
 have hst := hv.start
 by_cases h0 : 0 ≤ shAt sh g.start
 ·rw [decide_eq_true h0, cond_true]
  have hc := Et (g := g) (sh := sh) (fi := Ze sh g) hv true
  have hge := Zc5 (g := g) (sh := sh) (fi := Ze sh g) true
  have hbc := P3 (sh := sh) (fi := Ze sh g) hv (inOf sh g) true
  have hic := Ei (sh := sh) hv
  have hD1 : (XE sh (Ze sh g) g true).1[g.start.toNat]? = some true := hge.1.2 _ (ZaI (by omega))
  have hin : leB (inOf sh g) (XE sh (Ze sh g) g true).1 := D6 ⟨hc.len.1, fun p hp hl hi s hs k1 => by
   obtain ⟨pre, r, e⟩ := List.append_of_mem hs
   exact (hc.cl p hp hl hi pre s r e k1).1⟩ hD1
  refine leW.antisymm ?_ ?_
  ·refine (D7 (c := (inOf sh g, Y0 sh (Ze sh g) (inOf sh g) g true)) ⟨⟨RN, hbc.l1, hbc.l2⟩, fun p hp hl hi pre s r e k1 => ?_⟩ ⟨?_, Ef _ _⟩).2
   ·exact ⟨hic.cl p hp hl hi s (by rw [e]; simp) k1, hbc.cl p hp hl hi pre s r e k1⟩
   ·show leB (setE (List.replicate g.sorts.length false) g.start.toNat true) (inOf sh g)
    exact LU (b := true) (OO RN) (fun _ => D5 hv)
  ·exact NQ hv ⟨hc.len.2.1, hc.len.2.2, fun p hp hl hi pre s r e k1 => (hc.cl p hp hl (hin.2 _ hi) pre s r e k1).2⟩ hge.2
 ·rw [decide_eq_false h0, cond_false]
  have hfix : swR sh (Ze sh g) g (D0 g false) = D0 g false := by
   have : ∀ ps : List ProdD, ps.foldl (updR sh (Ze sh g)) (D0 g false) = D0 g false := by
    intro ps
    induction ps with
    | nil => rfl
    | cons p ps ih =>
     simp only [List.foldl_cons]
     have e : updR sh (Ze sh g) (D0 g false) p = D0 g false := by
      unfold updR
      have : ((D0 g false).1[p.left.toNat]?).getD false = false := by
       show ((List.replicate g.sorts.length false)[p.left.toNat]?).getD false = false
       rw [grp]
       split <;> rfl
      rw [this, Bool.and_false]; rfl
     rw [e, ih]
   exact this g.prods
  unfold XE
  rw [Y2 hfix]
  rfl
theorem ZbF (hs : ShOk n sh) (hf : fi.length = n) {p : ProdD} (hp : ProdV n p) (hok : ProdOk p) : ∀ (k i : Nat) (z : V4), i + k = p.right.length →
  runL (fun s => Yv (Zi sh) (fi.map sd) p s.1 s.2.1 s.2.2.1 s.2.2.2.1 s.2.2.2.2.1 s.2.2.2.2.2) (true, (i : Int), (sd z).a, (sd z).b, (sd z).c, (sd z).d) =
   some (.k0 (be sh (p.right.drop i) true) (sd (uV z (bh sh fi (p.right.drop i) zV))).a (sd (uV z (bh sh fi (p.right.drop i) zV))).b (sd (uV z (bh sh fi (p.right.drop i) zV))).c (sd (uV z (bh sh fi (p.right.drop i) zV))).d)
 | 0, i, z, hi => by
  obtain rfl : i = p.right.length := by omega
  rw [List.drop_length, show bh sh fi [] zV = zV from rfl, F2 (fun b hb => by rw [LS] at hb; cases hb)]
  exact Zc (by simp [Yv, be])
 | k + 1, i, z, hi => by
  have hlen := hp.len
  have hx : p.right[i]? = some p.right[i] := geg (by omega)
  have hd : p.right.drop i = p.right[i] :: p.right.drop (i + 1) := (List.drop_eq_getElem_cons (by omega))
  generalize p.right[i] = s at hx hd
  have hmem := mog hx
  have hv := hp.right s hmem
  have hso := hok.right s hmem
  have hend : ∀ y : V4, runL (fun s => Yv (Zi sh) (fi.map sd) p s.1 s.2.1 s.2.2.1 s.2.2.2.1 s.2.2.2.2.1 s.2.2.2.2.2) (false, ((i + 1 : Nat) : Int), (sd y).a, (sd y).b, (sd y).c, (sd y).d) = some (.k0 false (sd y).a (sd y).b (sd y).c (sd y).d) := by
   intro y
   refine Zc ?_
   unfold Yv
   cases decide (((i + 1 : Nat) : Int) < (p.right.length : Int)) <;> rfl
  rw [hd]
  simp only [bh, be]
  rcases hv.k with k0 | k1
  ·have hstep : Yv (Zi sh) (fi.map sd) p true (i : Int) (sd z).a (sd z).b (sd z).c (sd z).d = some (.inr (false, ((i + 1 : Nat) : Int), (sd (uV z (v4 s))).a, (sd (uV z (v4 s))).b, (sd (uV z (v4 s))).c, (sd (uV z (v4 s))).d)) := by
    simp only [Yv, Zj, hx, bsm, decide_eq_true (show (i : Int) < (p.right.length : Int) by omega), cond_true, k0, show ((0 : Int) == 1) = false from rfl, cond_false, Zbx z hso, w_S (show i < 4611686018427387904 by omega)]
   rw [Zd (step := fun s : Bool × Int × Int × Int × Int × Int => Yv (Zi sh) (fi.map sd) p s.1 s.2.1 s.2.2.1 s.2.2.2.1 s.2.2.2.2.1 s.2.2.2.2.2) (s := (true, (i : Int), (sd z).a, (sd z).b, (sd z).c, (sd z).d)) hstep, hend, k0]
   rfl
  ·obtain ⟨q0, q1⟩ := hv.sort k1
   have hgs : getI (fi.map sd) s.sort = some (sd (atV fi s.sort.toNat)) := Xz.2 ⟨q0, VI hf (by omega)⟩
   have h10 : ((1 : Int) == 0) = false := rfl
   have hstep : Yv (Zi sh) (fi.map sd) p true (i : Int) (sd z).a (sd z).b (sd z).c (sd z).d = some (.inr (symS sh s == 0, ((i + 1 : Nat) : Int), (sd (uV z (atV fi s.sort.toNat))).a, (sd (uV z (atV fi s.sort.toNat))).b, (sd (uV z (atV fi s.sort.toNat))).c, (sd (uV z (atV fi s.sort.toNat))).d)) := by
    simp only [Yv, Zj, hx, bsm, decide_eq_true (show (i : Int) < (p.right.length : Int) by omega), cond_true, k1, beq_self_eq_true, hgs, q63 z (atV fi s.sort.toNat), F7 hs hv k1, w_S (show i < 4611686018427387904 by omega)]
    cases symS sh s == 0 <;> rfl
   rw [Zd (step := fun s : Bool × Int × Int × Int × Int × Int => Yv (Zi sh) (fi.map sd) p s.1 s.2.1 s.2.2.1 s.2.2.2.1 s.2.2.2.2.1 s.2.2.2.2.2) (s := (true, (i : Int), (sd z).a, (sd z).b, (sd z).c, (sd z).d)) hstep, k1, h10]
   simp only [cond_false]
   cases hz : symS sh s == 0 with
   | false => rw [hend]; rfl
   | true =>
    have ih := ZbF hs hf hp hok k (i + 1) (uV z (atV fi s.sort.toNat)) (by omega)
    rw [ih]
    have ea : uV (uV z (atV fi s.sort.toNat)) (bh sh fi (p.right.drop (i + 1)) zV) = uV z (uV (bh sh fi (p.right.drop (i + 1)) zV) (atV fi s.sort.toNat)) := PZ (fun b _ => by
     simp only [XG]
     cases has z b <;> cases has (atV fi s.sort.toNat) b <;> cases has (bh sh fi (p.right.drop (i + 1)) zV) b <;> rfl)
    rw [ea]
    rfl
theorem D8 (t : List SymD) (x y : V4) : uV x (bh sh fi t y) = bif be sh t true then uV (uV x (bh sh fi t zV)) y else uV x (bh sh fi t zV) := by
 refine PZ (fun b _ => ?_)
 rw [XG, ZaC]
 cases be sh t true
 ·simp only [Bool.false_and, Bool.or_false, cond_false, XG]
 ·simp only [Bool.true_and, cond_true, XG, Bool.or_assoc]
theorem D9 {l : Nat} {a : DS} {k : Nat} {t : List SymD} {u e : Bool} (h0 : a.1[k]? = some u) (h1 : k < a.2.1.length) (h2 : a.2.2[k]? = some e) : decide (X2 sh fi l a k t ≠ a) =
  (!decide (uV (atV a.2.1 k) (bh sh fi t (atV a.2.1 l)) = atV a.2.1 k) || (be sh t ((a.2.2[l]?).getD false) && !e) || !u) := by
 have hw := P6 (y := bh sh fi t (atV a.2.1 l)) (b := be sh t ((a.2.2[l]?).getD false)) h1 h2
 rw [← hw]
 cases u with
 | true =>
  have : setE a.1 k true = a.1 := Xg h0
  by_cases q : YD a.2 k (bh sh fi t (atV a.2.1 l)) (be sh t ((a.2.2[l]?).getD false)) = a.2
  ·have : X2 sh fi l a k t = a := Prod.ext this q
   simp [this, q]
  ·have : X2 sh fi l a k t ≠ a := fun h => q (congrArg Prod.snd h)
   simp [this, q]
 | false =>
  have : X2 sh fi l a k t ≠ a := fun h => by
   have h3 : a.1.set k true = a.1 := congrArg Prod.fst h
   have := Pv h0
   rw [h3] at this; omega
  simp [this]
theorem ZbG (hs : ShOk n sh) (hf : fi.length = n) {p : ProdD} (hp : ProdV n p) (hok : ProdOk p) {i : Nat} {s : SymD} (hx : p.right[i]? = some s) (b : Bool) (a : DS) (hl : a.1.length = n ∧ a.2.1.length = n ∧ a.2.2.length = n) :
  Y8 (Zi sh) (fi.map sd) n p b (i : Int) a.1 (a.2.1.map sd) a.2.2 = some (.inr (b || decide ((bif s.kind == 1 then X2 sh fi p.left.toNat a s.sort.toNat (p.right.drop (i + 1)) else a) ≠ a), ((i + 1 : Nat) : Int),
   (bif s.kind == 1 then X2 sh fi p.left.toNat a s.sort.toNat (p.right.drop (i + 1)) else a).1, (bif s.kind == 1 then X2 sh fi p.left.toNat a s.sort.toNat (p.right.drop (i + 1)) else a).2.1.map sd, (bif s.kind == 1 then X2 sh fi p.left.toNat a s.sort.toNat (p.right.drop (i + 1)) else a).2.2)) := by
 have hlen := hp.len
 have hpl := hp.left
 have hi := (gei.1 hx).1
 have hmem := mog hx
 have hv := hp.right s hmem
 have ew := w_S (show i < 4611686018427387904 by omega)
 rcases hv.k with k0 | k1
 ·simp only [Y8, decide_eq_true (show (i : Int) < (p.right.length : Int) by omega), cond_true, Zj, hx, bsm, k0, show ((0 : Int) != 1) = true from rfl, show ((0 : Int) == 1) = false from rfl, cond_false, ew]
  simp
 ·obtain ⟨q0, q1⟩ := hv.sort k1
  have hk : s.sort.toNat < n := by omega
  have hix : ixN n s.sort = some s.sort.toNat := ZK.2 ⟨by omega, hk⟩
  have hixl : ixN n p.left = some p.left.toNat := ZK.2 ⟨by omega, by omega⟩
  have hO := VI hl.2.1 hk
  have hOl := VI hl.2.1 (show p.left.toNat < n by omega)
  have hE : a.2.2[s.sort.toNat]? = some (a.2.2[s.sort.toNat]'(by omega)) := geg _
  generalize a.2.2[s.sort.toNat]'(by omega) = e at hE
  have hEl : a.2.2[p.left.toNat]? = some (a.2.2[p.left.toNat]'(by omega)) := geg _
  generalize a.2.2[p.left.toNat]'(by omega) = el at hEl
  have hI : a.1[s.sort.toNat]? = some (a.1[s.sort.toNat]'(by omega)) := geg _
  generalize a.1[s.sort.toNat]'(by omega) = u at hI
  have h0 := ZbF hs hf hp hok (p.right.length - (i + 1)) (i + 1) (atV a.2.1 s.sort.toNat) (by omega)
  have hne := D9 (sh := sh) (fi := fi) (l := p.left.toNat) (t := p.right.drop (i + 1)) hI (show s.sort.toNat < a.2.1.length by omega) hE
  have hsp := D8 (sh := sh) (fi := fi) (p.right.drop (i + 1)) (atV a.2.1 s.sort.toNat) (atV a.2.1 p.left.toNat)
  have h63 := q63 (uV (atV a.2.1 s.sort.toNat) (bh sh fi (p.right.drop (i + 1)) zV)) (atV a.2.1 p.left.toNat)
  have t1 : e = true → a.2.2.set s.sort.toNat true = a.2.2 := fun h => Xg (by rw [hE, h])
  have t2 : e = false → a.2.2.set s.sort.toNat false = a.2.2 := fun h => Ek (by rw [hE, h])
  have t3 : u = true → a.1.set s.sort.toNat true = a.1 := fun h => Xg (by rw [hI, h])
  have hb := JG sh (p.right.drop (i + 1)) el
  rw [k1, beq_self_eq_true]
  simp only [cond_true]
  rw [hne, hEl, gds, hb]
  simp only [Y8, decide_eq_true (show (i : Int) < (p.right.length : Int) by omega), cond_true, Zj, hx, bsm, k1, show ((1 : Int) != 1) = false from rfl, cond_false, ew, hix, hO, h0, X2, YD, hEl, gds, hb, setE]
  rw [hsp]
  cases hbe : be sh (p.right.drop (i + 1)) true with
  | true =>
   have hq := QV (uV (uV (atV a.2.1 s.sort.toNat) (bh sh fi (p.right.drop (i + 1)) zV)) (atV a.2.1 p.left.toNat)) (atV a.2.1 s.sort.toNat)
   unfold eqS at hq
   simp only [cond_true, Bool.true_and, hixl, hOl, h63, bsm, hE, hEl, hI, hq, List.map_set]
   by_cases hd : uV (uV (atV a.2.1 s.sort.toNat) (bh sh fi (p.right.drop (i + 1)) zV)) (atV a.2.1 p.left.toNat) = atV a.2.1 s.sort.toNat
   ·have t4 : (a.2.1.map sd).set s.sort.toNat (sd (atV a.2.1 s.sort.toNat)) = a.2.1.map sd := by rw [← List.map_set, TI (by omega)]
    rw [hd]
    cases b <;> cases e <;> cases el <;> cases u <;> simp [t1, t2, t3, t4]
   ·cases b <;> cases e <;> cases el <;> cases u <;> simp [t1, t2, t3, hd]
  | false =>
   have hq := QV (uV (atV a.2.1 s.sort.toNat) (bh sh fi (p.right.drop (i + 1)) zV)) (atV a.2.1 s.sort.toNat)
   unfold eqS at hq
   simp only [cond_false, Bool.false_and, hE, hI, hq, bsm, List.map_set]
   by_cases hd : uV (atV a.2.1 s.sort.toNat) (bh sh fi (p.right.drop (i + 1)) zV) = atV a.2.1 s.sort.toNat
   ·have t4 : (a.2.1.map sd).set s.sort.toNat (sd (atV a.2.1 s.sort.toNat)) = a.2.1.map sd := by rw [← List.map_set, TI (by omega)]
    rw [hd]
    cases b <;> cases e <;> cases u <;> simp [t1, t2, t3, t4]
   ·cases b <;> cases e <;> cases u <;> simp [t1, t2, t3, hd]
theorem ZbH (hs : ShOk n sh) (hf : fi.length = n) {p : ProdD} (hp : ProdV n p) (hok : ProdOk p) : ∀ (k i : Nat) (b : Bool) (a : DS), i + k = p.right.length → (a.1.length = n ∧ a.2.1.length = n ∧ a.2.2.length = n) →
  runL (fun s => Y8 (Zi sh) (fi.map sd) n p s.1 s.2.1 s.2.2.1 s.2.2.2.1 s.2.2.2.2) (b, (i : Int), a.1, a.2.1.map sd, a.2.2) = some (.k0 (b || decide (pd sh fi p.left.toNat (p.right.drop i) a ≠ a)) (pd sh fi p.left.toNat (p.right.drop i) a).1 ((pd sh fi p.left.toNat (p.right.drop i) a).2.1.map sd) (pd sh fi p.left.toNat (p.right.drop i) a).2.2)
 | 0, i, b, a, hi, hl => by
  obtain rfl : i = p.right.length := by omega
  rw [List.drop_length]
  exact Zc (by simp [Y8, pd])
 | k + 1, i, b, a, hi, hl => by
  have hx : p.right[i]? = some p.right[i] := geg (by omega)
  have hd : p.right.drop i = p.right[i] :: p.right.drop (i + 1) := (List.drop_eq_getElem_cons (by omega))
  generalize p.right[i] = s at hx hd
  have hst := ZbG hs hf hp hok hx b a hl
  rw [Zd (step := fun s => Y8 (Zi sh) (fi.map sd) n p s.1 s.2.1 s.2.2.1 s.2.2.2.1 s.2.2.2.2) (s := (b, (i : Int), a.1, a.2.1.map sd, a.2.2)) hst, hd]
  simp only [pd]
  have hup : leD a (bif s.kind == 1 then X2 sh fi p.left.toNat a s.sort.toNat (p.right.drop (i + 1)) else a) := by
   cases s.kind == 1
   ·exact leD.refl a
   ·exact JN _ _ _ _
  have hgr : (bif s.kind == 1 then X2 sh fi p.left.toNat a s.sort.toNat (p.right.drop (i + 1)) else a) = a ∨ mmD a < mmD (bif s.kind == 1 then X2 sh fi p.left.toNat a s.sort.toNat (p.right.drop (i + 1)) else a) := by
   cases s.kind == 1
   ·exact .inl rfl
   ·exact Ty _ _ _ _
  have hst2 : ∀ a1 : DS, leD a a1 → (a1 = a ∨ mmD a < mmD a1) → runL (fun s => Y8 (Zi sh) (fi.map sd) n p s.1 s.2.1 s.2.2.1 s.2.2.2.1 s.2.2.2.2) (b || decide (a1 ≠ a), ((i + 1 : Nat) : Int), a1.1, a1.2.1.map sd, a1.2.2) = some (.k0 (b || decide (pd sh fi p.left.toNat (p.right.drop (i + 1)) a1 ≠ a)) (pd sh fi p.left.toNat (p.right.drop (i + 1)) a1).1 ((pd sh fi p.left.toNat (p.right.drop (i + 1)) a1).2.1.map sd) (pd sh fi p.left.toNat (p.right.drop (i + 1)) a1).2.2) := by
   intro a1 hup hgr
   have ih := ZbH hs hf hp hok k (i + 1) (b || decide (a1 ≠ a)) a1 (by omega) ⟨hup.1.1.symm.trans hl.1, hup.2.1.1.symm.trans hl.2.1, hup.2.2.1.symm.trans hl.2.2⟩
   rw [ZaH p.left.toNat _ a a1 hgr hup, ← Bool.or_assoc]
   exact ih
  exact hst2 _ hup hgr
theorem ZaJ (hg : GramOk g) (hv : GramV g) (hn : n = g.sorts.length) (hs : ShOk n sh) (hf : fi.length = n) : ∀ (k i : Nat) (b : Bool) (a : DS), i + k = g.prods.length → (a.1.length = n ∧ a.2.1.length = n ∧ a.2.2.length = n) →
  runL (fun s => R4 sh (Zi sh) (fi.map sd) n g s.1 s.2.1 s.2.2.1 s.2.2.2.1 s.2.2.2.2) (b, (i : Int), a.1, a.2.1.map sd, a.2.2) =
   some (.k0 ((g.prods.drop i).foldl (fun (c : Bool × DS) x => (c.1 || decide (updR sh fi c.2 x ≠ c.2), updR sh fi c.2 x)) (b, a)).1 ((g.prods.drop i).foldl (fun (c : Bool × DS) x => (c.1 || decide (updR sh fi c.2 x ≠ c.2), updR sh fi c.2 x)) (b, a)).2.1 (((g.prods.drop i).foldl (fun (c : Bool × DS) x => (c.1 || decide (updR sh fi c.2 x ≠ c.2), updR sh fi c.2 x)) (b, a)).2.2.1.map sd) ((g.prods.drop i).foldl (fun (c : Bool × DS) x => (c.1 || decide (updR sh fi c.2 x ≠ c.2), updR sh fi c.2 x)) (b, a)).2.2.2)
 | 0, i, b, a, hi, hl => by
  obtain rfl : i = g.prods.length := by omega
  rw [List.drop_length]
  exact Zc (by simp [R4])
 | k + 1, i, b, a, hi, hl => by
  have hgp := hg.prods
  have hx : g.prods[i]? = some g.prods[i] := geg (by omega)
  have hd : g.prods.drop i = g.prods[i] :: g.prods.drop (i + 1) := (List.drop_eq_getElem_cons (by omega))
  generalize hp : g.prods[i] = p at hx hd
  have hmem : p ∈ g.prods := mog hx
  have hpv : ProdV n p := by rw [hn]; exact hv.prod p hmem
  have hpl := hpv.left
  rw [hd]
  simp only [List.foldl_cons]
  have hix : ixN n p.left = some p.left.toNat := ZK.2 ⟨by omega, by omega⟩
  have hI : a.1[p.left.toNat]? = some (a.1[p.left.toNat]'(by omega)) := geg _
  generalize a.1[p.left.toNat]'(by omega) = u at hI
  have e0 : ((0 : Nat) : Int) = 0 := rfl
  have h1 := ZbH hs hf hpv (hg.prod p hmem) p.right.length 0 b a (by omega) hl
  rw [List.drop_zero, e0] at h1
  have hstep : R4 sh (Zi sh) (fi.map sd) n g b (i : Int) a.1 (a.2.1.map sd) a.2.2 = some (.inr (b || decide (updR sh fi a p ≠ a), ((i + 1 : Nat) : Int), (updR sh fi a p).1, (updR sh fi a p).2.1.map sd, (updR sh fi a p).2.2)) := by
   simp only [R4, Zj, hx, bsm, decide_eq_true (show (i : Int) < (g.prods.length : Int) by omega), cond_true, F51, w_S (show i < 4611686018427387904 by omega), F9 hs hpv, hix, hI]
   unfold updR Xh
   rw [hI, gds]
   cases hr : p.role != 11 with
   | false => simp
   | true =>
    simp only [cond_true, Bool.true_and]
    by_cases c0 : sumS sh 0 p.right < 0
    ·rw [decide_eq_true c0, decide_eq_false (show ¬ 0 ≤ sumS sh 0 p.right by omega)]; simp
    rw [decide_eq_false c0, decide_eq_true (show 0 ≤ sumS sh 0 p.right by omega)]
    cases u with
    | false => simp
    | true => simp only [cond_false, cond_true, Bool.true_and, h1, bsm]
  rw [Zd (step := fun s => R4 sh (Zi sh) (fi.map sd) n g s.1 s.2.1 s.2.2.1 s.2.2.2.1 s.2.2.2.2) (s := (b, (i : Int), a.1, a.2.1.map sd, a.2.2)) hstep]
  have hup := Eo (sh := sh) (fi := fi) a p
  exact ZaJ hg hv hn hs hf k (i + 1) _ _ (by omega) ⟨hup.1.1.symm.trans hl.1, hup.2.1.1.symm.trans hl.2.1, hup.2.2.1.symm.trans hl.2.2⟩
theorem Eu {n k : Nat} (b : Bool) (h : k < n) : (List.replicate n false).set k b = setE (List.replicate n false) k b := by
 cases b with
 | true => rfl
 | false => exact Ek (by rw [grp, if_pos h])
theorem q35 (hg : GramOk g) (hv : GramV g) (h16 : F16 g = some sh) (hs : ShOk g.sorts.length sh) : F35 g = some (.k0 ((ZD sh g).1.map sd) (ZD sh g).2) := by
 have h40 := hg.sorts
 have hst := hv.start
 have e0 : ((0 : Nat) : Int) = 0 := rfl
 have hfl := XD sh g
 have hloop : ∀ (k : Nat) (a : DS), LenD g a → 258 * g.sorts.length ≤ mmD a + k → runL (fun s => UO sh (Zi sh) ((Ze sh g).map sd) g.sorts.length g s.1 s.2.1 s.2.2.1 s.2.2.2) (true, a.1, a.2.1.map sd, a.2.2) = some (.k0 (itN (swR sh (Ze sh g) g) k a).1 ((itN (swR sh (Ze sh g) g) k a).2.1.map sd) (itN (swR sh (Ze sh g) g) k a).2.2) := by
  intro k
  induction k with
  | zero =>
   intro a ha hk
   have h1 := ZaJ hg hv rfl hs hfl g.prods.length 0 false a (by omega) ⟨ha.1, ha.2.1, ha.2.2⟩
   rw [List.drop_zero, TN mmD (UU (sh := sh) (fi := Ze sh g)), e0] at h1
   have hfix : g.prods.foldl (updR sh (Ze sh g)) a = a := by
    by_cases e : g.prods.foldl (updR sh (Ze sh g)) a = a
    ·exact e
    ·have h2 := Er (g := g) (sh := sh) (fi := Ze sh g) a e
     have h3 := Bj (P9 (sh := sh) (fi := Ze sh g) a ha)
     omega
   rw [hfix] at h1
   rw [Zd (step := fun s => UO sh (Zi sh) ((Ze sh g).map sd) g.sorts.length g s.1 s.2.1 s.2.2.1 s.2.2.2) (s := (true, a.1, a.2.1.map sd, a.2.2)) (s' := (false, a.1, a.2.1.map sd, a.2.2)) (by simp only [UO, cond_true, h1, bsm]; simp)]
   exact Zc (by simp [UO, itN])
  | succ k ih =>
   intro a ha hk
   have h1 := ZaJ hg hv rfl hs hfl g.prods.length 0 false a (by omega) ⟨ha.1, ha.2.1, ha.2.2⟩
   rw [List.drop_zero, TN mmD (UU (sh := sh) (fi := Ze sh g)), e0] at h1
   by_cases e : g.prods.foldl (updR sh (Ze sh g)) a = a
   ·rw [Y2 (show swR sh (Ze sh g) g a = a from e)]
    rw [e] at h1
    rw [Zd (step := fun s => UO sh (Zi sh) ((Ze sh g).map sd) g.sorts.length g s.1 s.2.1 s.2.2.1 s.2.2.2) (s := (true, a.1, a.2.1.map sd, a.2.2)) (s' := (false, a.1, a.2.1.map sd, a.2.2)) (by simp only [UO, cond_true, h1, bsm]; simp)]
    exact Zc (by simp [UO])
   ·have h2 := Er (g := g) (sh := sh) (fi := Ze sh g) a e
    rw [decide_eq_true e, Bool.or_true] at h1
    rw [Zd (step := fun s => UO sh (Zi sh) ((Ze sh g).map sd) g.sorts.length g s.1 s.2.1 s.2.2.1 s.2.2.2) (s := (true, a.1, a.2.1.map sd, a.2.2)) (s' := (true, (swR sh (Ze sh g) g a).1, (swR sh (Ze sh g) g a).2.1.map sd, (swR sh (Ze sh g) g a).2.2)) (by simp only [UO, cond_true, h1, bsm]; rfl)]
    exact ih _ (P9 a ha) (by omega)
 have hgs := NT hv hs
 have hix : ixN g.sorts.length g.start = some g.start.toNat := ZK.2 ⟨by omega, by omega⟩
 have hget : (List.replicate g.sorts.length false)[g.start.toNat]? = some false := by rw [grp, if_pos (by omega)]
 have hget2 : ((List.replicate g.sorts.length false).set g.start.toNat (decide (shAt sh g.start ≥ 0)))[g.start.toNat]? = some (decide (shAt sh g.start ≥ 0)) := by rw [List.getElem?_set, if_pos rfl, if_pos (by simp; omega)]
 have hrep : (List.replicate g.sorts.length zV).map sd = List.replicate g.sorts.length (⟨0, 0, 0, 0⟩ : SetD) := by
  rw [List.map_replicate]; rfl
 have hl := hloop (258 * g.sorts.length) (D0 g (decide (0 ≤ shAt sh g.start))) (Ep _) (by omega)
 have hD : (D0 g (decide (0 ≤ shAt sh g.start))).1 = (List.replicate g.sorts.length false).set g.start.toNat (decide (shAt sh g.start ≥ 0)) := (Eu _ (by omega)).symm
 have hD2 : (D0 g (decide (0 ≤ shAt sh g.start))).2.2 = (List.replicate g.sorts.length false).set g.start.toNat (decide (shAt sh g.start ≥ 0)) := (Eu _ (by omega)).symm
 have hD1 : (D0 g (decide (0 ≤ shAt sh g.start))).2.1.map sd = List.replicate g.sorts.length (⟨0, 0, 0, 0⟩ : SetD) := hrep
 rw [hD, hD1, hD2] at hl
 have hfin : (itN (swR sh (Ze sh g) g) (258 * g.sorts.length) (D0 g (decide (0 ≤ shAt sh g.start)))).2 = ZD sh g := IN hv
 rw [hfin] at hl
 have hln := P7 (g := g) (sh := sh)
 have hl1 : ((ZD sh g).1.map sd).length = g.sorts.length := by rw [lmp]; exact hln.1
 unfold F35
 rw [h16, q27 h16 hs h40, q34 hg hv h16 hs]
 simp only [bsm, mk32 h40, mk1 h40, cond_true, hgs, Int.toNat_natCast, hix, hget, hget2, hl, hl1, hln.2, decide_eq_true (Nat.le_refl _)]
 rw [tol (by rw [hl1]; exact Nat.le_refl _), tol (by rw [hln.2]; exact Nat.le_refl _)]
end
theorem ZaK (y : SetD) : (!((y.a == y.a) && ((y.b == y.b) && ((y.c == y.c) && ((y.d == y.d) && true))))) = false := by simp
theorem l8_0 (a b : List SetD) (h : a.length = b.length) (hn : a.length ≤ 1000) : runL (fun s => L8_0 a b a b s) 0 = some .k1 := by
 have key := Yb (step := fun s => L8_0 a b a b s) (l := a) (fun _ _ => true) (bad := E_L8_0.k0) (fin := .k1) (fun i x hx => by
  have hi : i < a.length := (gei.1 hx).1
  have hy : b[i]? = some (b[i]'(by omega)) := geg _
  simp only [L8_0, decide_eq_true (show (i : Int) < (a.length : Int) by omega), cond_true, Zj, hx, hy, bsm, ZaK, cond_false, w_S (show i < 4611686018427387904 by omega)]) (by simp [L8_0])
 have ht : allF (fun (_ : Nat) (_ : SetD) => true) 0 a = true := (Vp _ _).2 (fun _ _ _ => rfl)
 rw [ht] at key
 exact key
theorem Zc6 (a : List Bool) (hn : a.length ≤ 1000) : runL (fun s => WF a a s) 0 = some .k1 := by
 have key := Yb (step := fun s => WF a a s) (l := a) (fun _ _ => true) (bad := E_L24_0_2.k0) (fin := .k1) (fun i x hx => by
  have hi : i < a.length := (gei.1 hx).1
  have hb : (!((x == x) && true)) = false := by cases x <;> rfl
  simp only [WF, decide_eq_true (show (i : Int) < (a.length : Int) by omega), cond_true, Zj, hx, bsm, hb, cond_false, w_S (show i < 4611686018427387904 by omega)]) (by simp [WF])
 have ht : allF (fun (_ : Nat) (_ : Bool) => true) 0 a = true := (Vp _ _).2 (fun _ _ _ => rfl)
 rw [ht] at key
 exact key
theorem Ew (n : Int) : (n != n) = false := by simp
theorem law8 {g : GramD} (h : ArgOk g) : F8 g = some true := by
 obtain ⟨v, h10, hv⟩ := q10 h
 unfold F8
 rw [h10]
 simp only [bsm]
 cases v with
 | true => rfl
 | false =>
  have hg := hv rfl
  rw [q12 hg]
  simp only [cond_false, bsm, F15]
  cases hc : chkB g with
  | false =>
   have hcn : chkN g = 160 := by unfold chkN; rw [hc]; rfl
   have h45 := LN hg hc
   have h1 : ((160 : Int) != 0) = true := rfl
   have h30 : F30 g = some (.k0 [] 160) := by unfold F30; simp only [h45, bsm, h1, cond_true]
   have h32 : F32 g = some (.k0 [] 160) := by unfold F32; simp only [h45, bsm, h1, cond_true]
   have h33 : F33 g = some (.k0 [] 160) := by unfold F33; simp only [h45, bsm, h1, cond_true]
   rw [hcn, h30, h32, h33]
   rfl
  | true =>
   obtain ⟨sh, hs, h16, h45, _, _⟩ := D1 hg hc
   have hgv := Z5 hc
   have h40 := hg.sorts
   have hcn : chkN g = 0 := by unfold chkN; rw [hc]; rfl
   have hb := P7 (g := g) (sh := sh)
   have hfl := XD sh g
   have h61 : Lk (⟨g.sorts, g.prods, g.start, g.forbid, g.follow⟩ : GramD) sh (Zi sh) = some ((Ze sh g).map sd) := q61 hg hgv hs
   have h62 : Lt (⟨g.sorts, g.prods, g.start, g.forbid, g.follow⟩ : GramD) sh (Zi sh) = some (.k0 ((ZD sh g).1.map sd) (ZD sh g).2) := q62 hg hgv hs
   have h30 : F30 g = some (.k0 ((Ze sh g).map sd) 0) := by unfold F30; simp only [h45, bsm, h61]
   have h32 : F32 g = some (.k0 ((ZD sh g).1.map sd) 0) := by unfold F32; simp only [h45, bsm, h62]
   have h33 : F33 g = some (.k0 (ZD sh g).2 0) := by unfold F33; simp only [h45, bsm, h62]
   have h00 : ((0 : Int) != 0) = false := rfl
   have hl1 : ((Ze sh g).map sd).length = g.sorts.length := by rw [lmp]; exact hfl
   have hl2 : ((ZD sh g).1.map sd).length = g.sorts.length := by rw [lmp]; exact hb.1
   have h8 := l8_0 ((Ze sh g).map sd) ((ZD sh g).1.map sd) (by rw [hl1, hl2]) (by omega)
   have h24 : FQ (ZD sh g).2 (ZD sh g).2 0 = some true := by
    unfold FQ
    simp only [F15, bsm, h00, cond_false, Ew, Zc6 _ (show (ZD sh g).2.length ≤ 1000 by rw [hb.2]; omega)]
   simp only [hcn, h30, h32, h33, q34 hg hgv h16 hs, q35 hg hgv h16 hs, bsm, h00, cond_false, Ew, h8, h24, cond_true, F11]
end Go.Proofs.Tryd
