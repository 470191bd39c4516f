/- TreeBounds: nested trees, their terms, Size, Read; a wide tree's term. Plain data alone. -/
import Derived.Test.YtcdebkkjbminoaaDoorB8
import Derived.Test.YtcdebkkjbminoaaDoorH85
import Derived.Test.YtcdebkkjbminoaaDoorK8
import Derived.Test.YtcdebkkjbminoaaDoorVE
open Option renaming bind_some → bsm
open List renaming length_append → lap, length_cons → lcn
namespace Go.Proofs.Tryd
set_option linter.unusedSimpArgs false
set_option linter.unusedVariables false
set_option linter.unusedSectionVars false
open Go Go.Vs
theorem nst_bad : ∀ n, badT (nst n) = false
 | 0 => rfl
 | n + 1 => by
  show (bad1 (.mk 0 0 [nst n]) || (badT (nst n) || false)) = false
  rw [nst_bad n]; rfl
theorem nst_tb (n : Nat) : tbt (nst (n + 1)) = 48 :: 40 :: (tbt (nst n) ++ [41]) := by
 show tbt (.mk 0 0 [nst n]) = _
 rw [tbt_eq]
 show itoaL 0 ++ 40 :: ((tbr [nst n]).drop 1 ++ [41]) = _
 simp [tbr, show itoaL 0 = [48] from by decide]
theorem nst_tb0 : tbt (nst 0) = [48, 40, 41] := by
 show tbt (.mk 0 0 []) = _
 rw [tbt_eq]
 rfl
theorem nst_len : ∀ n, (tbt (nst n)).length = 3 * n + 3
 | 0 => by rw [nst_tb0]; rfl
 | n + 1 => by rw [nst_tb]; simp only [lcn, lap, List.length_nil, nst_len n]; omega
def opn : Nat → List UInt8
 | 0 => []
 | n + 1 => opn n ++ [48, 40]
theorem opn_c : ∀ n, opn n ++ [48, 40] = 48 :: 40 :: opn n
 | 0 => rfl
 | n + 1 => by rw [opn, opn_c n]; simp [opn_c n]
def cls : Nat → List UInt8
 | 0 => []
 | n + 1 => cls n ++ [41]
theorem nst_oc : ∀ n, (opn n ++ [48, 40, 41]) ++ cls n = tbt (nst n)
 | 0 => by rw [nst_tb0]; rfl
 | n + 1 => by rw [nst_tb, ← nst_oc n, opn, opn_c, cls]; simp
theorem opn_len : ∀ n, (opn n).length = 2 * n
 | 0 => rfl
 | n + 1 => by rw [opn, lap, opn_len n]; simp; omega
theorem cls_len : ∀ n, (cls n).length = n
 | 0 => rfl
 | n + 1 => by rw [cls, lap, cls_len n]; rfl
theorem fwdN {e : (TypeId × Value) × (TypeId × Value)} : ∀ (n k : Nat) (st : List TreeD) (t0 : TreeD) (b : Bool) (r : List UInt8), (tbt (nst n) ++ r).length ≤ 4000000 →
  rd (some e) (k + (3 * n + 2)) 2 st t0 b (bs (tbt (nst n) ++ r)) = rd (some e) k 1 st (nst n) (b || decide (st.length + n + 1 > 16384)) (bs r)
 | 0, k, st, t0, b, r, hl => by
  have h0 : tbt (nst 0) ++ r = itoaL 0 ++ 40 :: (41 :: r) := by rw [nst_tb0]; rfl
  rw [h0] at hl ⊢
  rw [show k + (3 * 0 + 2) = (k + 1) + 1 from rfl, rd2b ⟨by omega, by omega⟩ (p_itoa ⟨by omega, by omega⟩) hl]
  show rd (some e) (k + 1) 3 _ t0 _ (bs (41 :: r)) = _
  rw [rd3]
  congr 2
  rw [decide_eq_decide]
  omega
 | n + 1, k, st, t0, b, r, hl => by
  have h0 : tbt (nst (n + 1)) ++ r = itoaL 0 ++ 40 :: (tbt (nst n) ++ 41 :: r) := by
   rw [nst_tb, show itoaL 0 = [48] from by decide]
   simp
  rw [h0] at hl ⊢
  rw [show k + (3 * (n + 1) + 2) = (k + 2 + (3 * n + 2)) + 1 by omega, rd2b ⟨by omega, by omega⟩ (p_itoa ⟨by omega, by omega⟩) hl]
  have hh : hd 41 (tbt (nst n) ++ 41 :: r) = false := by
   obtain ⟨c, m, hc, h48⟩ := tb_head (nst_bad n)
   rw [hc]
   have : c ≠ 41 := by
    rintro rfl
    exact absurd h48 (by decide)
   simpa [hd] using this
  rw [hh]
  show rd (some e) (k + 2 + (3 * n + 2)) 2 _ t0 _ (bs (tbt (nst n) ++ 41 :: r)) = _
  rw [fwdN n (k + 2) _ t0 _ (41 :: r) (by simp only [lap, lcn] at hl ⊢; omega), rd1c, rd3]
  show rd (some e) k 1 st (.mk 0 0 ([] ++ [nst n])) _ _ = rd (some e) k 1 st (.mk 0 0 [nst n]) _ _
  rw [List.nil_append]
  congr 1
  simp only [lcn]
  by_cases h : st.length + 1 + n + 1 > 16384
  ·rw [decide_eq_true h, decide_eq_true (show st.length + (n + 1) + 1 > 16384 by omega)]; simp
  ·rw [decide_eq_false h, decide_eq_false (show ¬ st.length + (n + 1) + 1 > 16384 by omega), decide_eq_false (by omega)]; simp
theorem read_nst {e : (TypeId × Value) × (TypeId × Value)} {n : Nat} (hn : n ≤ 100000) : readF (some e) (bs (tbt (nst n))) = some (bif decide (n + 1 > 16384) then (zT, 3) else (nst n, 0)) := by
 have hl := nst_len n
 unfold readF
 rw [bs_size, decide_eq_false (by omega), cond_false]
 obtain ⟨k, hk⟩ : ∃ k, 4 * (tbt (nst n)).length + 8 = (k + 1) + (3 * n + 2) := ⟨4 * (tbt (nst n)).length + 5 - 3 * n, by omega⟩
 have := fwdN (e := e) n (k + 1) [] zT false [] (by simp; omega)
 rw [List.append_nil] at this
 rw [hk, this, rd1n, decide_eq_true rfl, Bool.not_true, cond_false, Bool.false_or]
 rw [show decide (([] : List TreeD).length + n + 1 > 16384) = decide (n + 1 > 16384) by rw [decide_eq_decide, List.length_nil, Nat.zero_add]]
 cases decide (n + 1 > 16384) <;> rfl
theorem read_long {e : (TypeId × Value) × (TypeId × Value)} {s : ByteArray} (h : 1048576 < s.size) : readF (some e) s = some (zT, 3) := by
 unfold readF
 rw [decide_eq_true (by omega), cond_true]
section
theorem nst_23 {n : Nat} (hn : n + 1 ≤ 16384) : F23 (nst n) = some 0 := by
 unfold F23
 have := q72 16386 16384 (nst n) (nst n) false (by rw [nst_tc]; omega) (by omega) (by omega)
 rw [show ((16384 : Nat) : Int) = 16384 from rfl] at this
 rw [this, nst_bad]
 rfl
theorem q47n : ∀ (Nf n : Nat), n < Nf → n ≤ 100000 → F47 Nf (nst n) = some (.k0 ((n + 1 : Nat) : Int) 0 ((n + 1 : Nat) : Int))
 | 0, _, h, _ => by omega
 | Nf + 1, 0, _, _ => by
  show F47_b (F47 Nf) (nst 0) = _
  unfold F47_b
  rw [show decide ((nst 0).prod < 0) = false from rfl, cond_false, runL_done (e := .k0 1 0 0) (by rfl)]
  rfl
 | Nf + 1, n + 1, h, h2 => by
  show F47_b (F47 Nf) (nst (n + 1)) = _
  have ih := q47n Nf n (by omega) (by omega)
  unfold F47_b
  rw [show decide ((nst (n + 1)).prod < 0) = false from rfl, cond_false]
  have : runL (fun s => L47_0_2 (F47 Nf) (nst (n + 1)) (((nst (n + 1)).kids.length : Nat) : Int) s.1 s.2.1 s.2.2.1 s.2.2.2) (1, 0, 0, 0) = some (.k0 ((n + 1 + 1 : Nat) : Int) 0 ((n + 1 : Nat) : Int)) := by
   refine (runL_next (s' := (((n + 1 + 1 : Nat) : Int), 0, ((n + 1 : Nat) : Int), 1)) ?_).trans (runL_done rfl)
   show (bif decide ((0 : Int) < ((1 : Nat) : Int)) then (getI [nst n] 0).bind _ else _) = _
   rw [show getI [nst n] (0 : Int) = some (nst n) from rfl, bsm, ih, bsm]
   simp only
   rw [w_id (by omega), if_pos (by omega)]
   rw [show (1 : Int) + ((n + 1 : Nat) : Int) = ((n + 1 + 1 : Nat) : Int) by omega]
   rfl
  rw [this, bsm]
  simp only
  rw [w_S (by omega)]
theorem nst_19 {Nf n : Nat} (h : n < Nf) (hn : n + 1 ≤ 16384) : F19 Nf (nst n) = some (.k0 ((n + 1 : Nat) : Int) 0 ((n + 1 : Nat) : Int)) := by
 unfold F19
 rw [nst_23 hn, bsm, show ((0 : Int) != 0) = false from rfl, cond_false, q47n Nf n h (by omega), bsm]
theorem nst_56 {Nf n : Nat} (hn : n + 3 ≤ 16384) : F56 Nf (nst (n + 2)) [0, 0] = some (.k0 (nst n).prod (nst n).byte (nst n).kids 0 0) := by
 unfold F56
 rw [nst_23 (by omega), bsm, show ((0 : Int) != 0) = false from rfl, cond_false]
 have l0 : ∀ v1 : Int, runL (fun s => L56_0_3 Nf [] 0 s.1 s.2) (v1, 0) = some (.k0 v1) := fun v1 => runL_done rfl
 have st : ∀ (m : Nat) (v2 : Int), (v2 = 0 ∨ v2 = 1) → L56_1 Nf [0, 0] 2 0 v2 (nst (m + 1)).prod (nst (m + 1)).byte (nst (m + 1)).kids = some (.inr (0, IntKind.wrap .i64 (v2 + 1), (nst m).prod, (nst m).byte, (nst m).kids)) := by
  intro m v2 h
  have hg : getI [(0 : Int), 0] v2 = some 0 := by rcases h with rfl | rfl <;> rfl
  unfold L56_1
  rw [decide_eq_true (show v2 < 2 by omega), cond_true, hg, bsm]
  show ((runL (fun s => L56_0_3 Nf [] 0 s.1 s.2) (0, 0)).bind _) = _
  rw [l0, bsm]
  rfl
 have : runL (fun s => L56_1 Nf [0, 0] ((([0, 0] : List Int).length : Nat) : Int) s.1 s.2.1 s.2.2.1 s.2.2.2.1 s.2.2.2.2) (0, 0, (nst (n + 2)).prod, (nst (n + 2)).byte, (nst (n + 2)).kids) = some (.k1 0 (nst n).prod (nst n).byte (nst n).kids) :=
  (runL_next (st (n + 1) 0 (.inl rfl))).trans ((runL_next (st n 1 (.inr rfl))).trans (runL_done rfl))
 rw [this, bsm]
theorem q14 : ∀ (Nf : Nat) (t : TreeD), tc t < Nf → tc t ≤ 20000 → F14 Nf t t = some true
 | 0, t, h, _ => by omega
 | Nf + 1, t, h, h2 => by
  show F14_b (F14 Nf) t t = _
  have htc := tc_eq t
  have hl := tcs_len t.kids
  unfold F14_b
  rw [show (t.prod != t.prod) = false from by simp, cond_false, show (t.byte != t.byte) = false from by simp, cond_false, show ((t.kids.length : Int) != (t.kids.length : Int)) = false from by simp, cond_false]
  have key : ∀ (k i : Nat), i + k = t.kids.length → runL (fun s => L14_0 (F14 Nf) t t s) (i : Int) = some .k1 := by
   intro k
   induction k with
   | zero =>
    intro i hi
    refine runL_done ?_
    simp only [L14_0, decide_eq_false (show ¬ ((i : Int) < (t.kids.length : Int)) by omega), cond_false]
   | succ k ih =>
    intro i hi
    have hx : t.kids[i]? = some t.kids[i] := List.getElem?_eq_getElem (by omega)
    generalize t.kids[i] = x at hx
    have hk := tkid hx
    refine (runL_next (s' := ((i + 1 : Nat) : Int)) ?_).trans (ih (i + 1) (by omega))
    simp only [L14_0, decide_eq_true (show (i : Int) < (t.kids.length : Int) by omega), cond_true, getI_nat, hx, bsm, q14 Nf x (by omega) (by omega)]
    rw [w_S (by omega)]
  rw [show (0 : Int) = ((0 : Nat) : Int) from rfl, key t.kids.length 0 (by omega)]
  rfl
end
def wdT (n : Nat) : TreeD := .mk 0 0 (List.replicate n (.mk (-1) 0 []))
theorem wd_tcs : ∀ n, tcs (List.replicate n (.mk (-1) 0 [])) = n
 | 0 => rfl
 | n + 1 => by rw [List.replicate_succ, tcs, wd_tcs n]; simp [tc, tcs]; omega
theorem wd_tc (n : Nat) : tc (wdT n) = n + 1 := by
 show 1 + tcs _ = _
 rw [wd_tcs]; omega
theorem wd_bads : ∀ n, badTs (List.replicate n (.mk (-1) 0 [])) = false
 | 0 => rfl
 | n + 1 => by rw [List.replicate_succ, badTs, wd_bads n]; rfl
theorem wd_bad (n : Nat) : badT (wdT n) = false := by
 show (bad1 (wdT n) || badTs (List.replicate n (.mk (-1) 0 []))) = false
 rw [wd_bads, Bool.or_false]
 show (false || (false || ((false && _) || (_ && false)))) = false
 rw [Bool.and_false]; rfl
theorem wd_ty (n : Nat) : Ty (wdT n) := .mk ⟨by omega, by omega⟩ ⟨by omega, by omega⟩ (by
 intro x hx
 rw [List.mem_replicate] at hx
 rw [hx.2]
 exact .mk ⟨by omega, by omega⟩ ⟨by omega, by omega⟩ (by simp))
theorem wd_tbr : ∀ n, (tbr (List.replicate n (.mk (-1) 0 []))).length = 4 * n
 | 0 => rfl
 | n + 1 => by
  rw [List.replicate_succ, tbr, lcn, lap, wd_tbr n, tbt_eq]
  show 3 + 4 * n + 1 = _
  omega
theorem wd_len {n : Nat} (h : 0 < n) : (tbt (wdT n)).length = 4 * n + 2 := by
 rw [tbt_eq]
 show (itoaL 0 ++ 40 :: ((tbr (List.replicate n _)).drop 1 ++ [41])).length = _
 rw [show itoaL 0 = [48] from by decide]
 simp only [lap, lcn, List.length_nil, List.length_drop, wd_tbr]
 omega
section
theorem q72w {Nf left : Nat} {t bx : TreeD} {b : Bool} (hk : ∀ x ∈ t.kids, tc x ≤ left - 1) (hl : t.kids.length ≤ 10000000) (h : left < Nf + 1) (h1 : 1 ≤ left) (h2 : left ≤ 20000) : F72 (Nf + 1) t left bx b = some (b || badT t) := by
  show F72_b (F72 Nf) t left bx b = _
  unfold F72_b
  rw [show ((left : Int) == 0) = false from by simpa using by omega, cond_false, q54, bsm]
  have key := loop_foldl (step := fun s => L72_0 (F72 Nf) left t (t.kids.length : Int) bx s.1 s.2) (l := t.kids) (emb := fun i b => ((i : Int), b)) (f := fun b x => b || badT x) (fin := fun b => .k0 b) (Inv := fun _ => True) (fun i x a hx _ => ?_) (fun a _ => ?_) t.kids.length 0 (b || bad1 t) (by omega) trivial
  ·rw [List.drop_zero, fold_or] at key
   rw [show ((0 : Int), b || bad1 t) = (((0 : Nat) : Int), b || bad1 t) from rfl, key, bsm, badT_eq, Bool.or_assoc]
  ·refine ⟨?_, trivial⟩
   have hi : i < t.kids.length := (List.getElem?_eq_some_iff.1 hx).1
   have hkx := hk x (List.mem_of_getElem? hx)
   have hpx := tc_pos x
   have hw : IntKind.wrap .i64 ((left : Int) - 1) = ((left - 1 : Nat) : Int) := by rw [w_id (by omega)]; omega
   simp only [L72_0, decide_eq_true (show (i : Int) < (t.kids.length : Int) by omega), cond_true, getI_nat, hx, bsm, hw, q72 Nf (left - 1) x bx a hkx (by omega) (by omega)]
   rw [w_S (by omega)]
  ·simp only [L72_0, decide_eq_false (show ¬ ((t.kids.length : Int) < (t.kids.length : Int)) by omega), cond_false]
theorem wd_23 {n : Nat} (hn : n ≤ 10000000) : F23 (wdT n) = some 0 := by
 unfold F23
 have := q72w (Nf := 16385) (left := 16384) (t := wdT n) (bx := wdT n) (b := false) (fun x hx => by
  have hx : x ∈ List.replicate n (TreeD.mk (-1) 0 []) := hx
  rw [List.mem_replicate] at hx
  rw [hx.2]
  decide) (by show (List.replicate n _).length ≤ _; rw [List.length_replicate]; exact hn) (by omega) (by omega) (by omega)
 rw [show ((16384 : Nat) : Int) = 16384 from rfl] at this
 rw [show (16385 + 1 : Nat) = 16386 from rfl] at this
 rw [this, wd_bad]
 rfl
theorem q20w {Nf : Nat} {t : TreeD} (h : tc t < Nf) (h23 : F23 t = some 0) (h2 : 24 * tc t ≤ 10000000) (ht : Ty t) : F20 Nf t = some (bif decide ((tbt t).length > 1048576) then .k0 b0 3 else .k0 ⟨(tbt t).toArray⟩ 0) := by
 unfold F20
 rw [h23, bsm]
 obtain ⟨g', row', v', len', e1, B1⟩ := q48 Nf t t 0 [] false 0 [] h ht ⟨Nat.le_refl _, rfl⟩ (by omega)
 have hl := B1.len
 rw [List.nil_append] at hl B1
 have hp := tb_pos t
 have hm := tb_len (tc t) t (Nat.le_refl _)
 rw [show ((0 : Int) != 0) = false from rfl, cond_false, e1]
 simp only [bsm, F49]
 rw [← hl]
 by_cases hb : len' > 1048576
 ·rw [decide_eq_true (show ((len' : Nat) : Int) > 1048576 by omega), decide_eq_true hb, cond_true, cond_true]
 ·rw [decide_eq_false (show ¬ ((len' : Nat) : Int) > 1048576 by omega), decide_eq_false hb, cond_false, cond_false]
  unfold F50
  rw [decide_eq_true (show 0 < len' by omega), cond_true, show usOk len' row'.length = true from decide_eq_true ⟨B1.le, by omega⟩, cond_true, B1.is, bstr_ints]
  rfl
theorem wd_20a {n : Nat} (h : 0 < n) (h2 : 4 * n + 2 ≤ 1048576) : F20 (n + 2) (wdT n) = some (.k0 ⟨(tbt (wdT n)).toArray⟩ 0) := by
 rw [q20w (by rw [wd_tc]; omega) (wd_23 (by omega)) (by rw [wd_tc]; omega) (wd_ty n), wd_len h, decide_eq_false (by omega), cond_false]
theorem wd_20b {n : Nat} (h : n ≤ 300000) (h2 : 4 * n + 2 > 1048576) : F20 (n + 2) (wdT n) = some (.k0 b0 3) := by
 rw [q20w (by rw [wd_tc]; omega) (wd_23 (by omega)) (by rw [wd_tc]; omega) (wd_ty n), wd_len (by omega), decide_eq_true h2, cond_true]
end
end Go.Proofs.Tryd
