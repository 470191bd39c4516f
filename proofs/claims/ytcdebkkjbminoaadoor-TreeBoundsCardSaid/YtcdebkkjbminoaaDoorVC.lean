/- Every instruction does what its operation does. -/
import Derived.Test.YtcdebkkjbminoaaDoorVB
import Derived.OrdersIn
import Derived.LoopNIn
import Derived.RangeFuncLeaves
import Derived.RangeFuncIn
import Derived.RangeFuncRecord
open Option renaming some.injEq → oiq, map_eq_some_iff → mei, map_some → msm, bind_some → bsm, bind_eq_some_iff → bei
open Prod renaming mk.injEq → piq
open Bool renaming and_eq_true → aet, false_eq_true → fet
open List renaming getElem?_eq_some_iff → gei, eq_nil_of_length_eq_zero → enz, map_cons → mcs, mem_of_getElem? → mog, getElem?_append_right → gar, getElem?_append_left → gal, length_append → lap, length_map → lmp, getElem?_map → gmp, length_cons → lcn
open Array renaming getElem?_toList → agtl
open Nat renaming le_of_ble_eq_true → lbt
namespace Go.Vs
set_option linter.unusedSimpArgs false
set_option linter.unusedVariables false
open Go Go.RowKit
section
variable {P : Program} {gl : Nat → Option (List PV)} {a : Act} {f : List AV} {g : G} {h : List AB} {w : World} {o : Oper}
theorem bin_sound (c : Ctx P gl a f g h w) {op : BinOp} {t yt : TypeId} {x y : Operand} {i : Ins} {v : AV} {h' : List AB} (ho : o.op = .binOp op t x y yt) (hc : compBin P op t x y = some i) (he : evI gl f h i = some (v, h')) : Fits P o a g w v h' := by
 have hbin : evI gl f h (.bin op (opd x) (opd y)) = some (v, h') → Fits P o a g w v h' := by
  intro he
  simp only [evI] at he
  split at he
  ·rename_i u1 u2 e1 e2
   cases hb : binV op u1 u2 with
   | none => simp [hb] at he
   | some r =>
    simp only [hb, msm, oiq, piq] at he
    obtain ⟨rfl, rfl⟩ := he
    exact s_bin c ho e1 e2 hb
  ·cases he
 have hq : op = .eql ∨ op = .neq → ∀ (b : Bool), ((b = false ∧ P.underlying t = some .bool) ∨ (b = true ∧ P.eqGuardType P.depth t = false ∧ aggT P t = some true)) →
   (plainK P 40 t).map (fun ks => Ins.eqA b ks (op == .neq) (opd x) (opd y)) = some i → Fits P o a g w v h' := by
  intro hop b hb hi
  cases hk : plainK P 40 t with
  | none => simp [hk] at hi
  | some ks =>
   simp only [hk, msm, oiq] at hi
   subst hi
   simp only [evI] at he
   split at he
   ·rename_i hag
    cases h1 : cellsOf ((opd x).ev f gl) with
    | none => simp [h1] at he
    | some xs =>
     cases h2 : cellsOf ((opd y).ev f gl) with
     | none => simp [h1, h2] at he
     | some ys =>
      simp only [h1, h2, bsm] at he
      cases h3 : eqC ks xs ys with
      | none => simp [h3] at he
      | some r =>
       simp only [h3, msm, oiq, piq] at he
       obtain ⟨rfl, rfl⟩ := he
       exact s_eqA c ho hop hk hb hag.1 hag.2 h1 h2 h3
   ·cases he
 have hqq : (op = .eql ∨ op = .neq) → compEq P op t x y = some i → Fits P o a g w v h' := by
  intro hop hc2
  unfold compEq at hc2
  split at hc2
  ·simp only [oiq] at hc2; subst hc2; exact hbin he
  ·simp only [oiq] at hc2; subst hc2; exact hbin he
  ·rename_i hu; exact hq hop false (.inl ⟨rfl, hu⟩) hc2
  ·rename_i fs hu
   split at hc2
   ·cases hc2
   ·rename_i hg; exact hq hop true (.inr ⟨rfl, by simpa using hg, by simp [aggT, hu, isAggD]⟩) hc2
  ·rename_i n e hu
   split at hc2
   ·cases hc2
   ·rename_i hg; exact hq hop true (.inr ⟨rfl, by simpa using hg, by simp [aggT, hu, isAggD]⟩) hc2
  ·rename_i ps rs vd hu
   split at hc2
   ·rename_i hy
    have hy' : y = .const .nilFunc := by
     unfold isNilF at hy
     split at hy
     ·rfl
     ·cases hy
    subst hy'
    simp only [oiq] at hc2
    subst hc2
    unfold evI at he
    simp only at he
    split at he
    ·rename_i f' cs e1
     simp only [oiq, piq] at he
     obtain ⟨rfl, rfl⟩ := he
     exact s_eqN c ho hop hu (.inl ⟨f', cs, e1, rfl⟩)
    ·rename_i e1
     simp only [oiq, piq] at he
     obtain ⟨rfl, rfl⟩ := he
     exact s_eqN c ho hop hu (.inr ⟨e1, rfl⟩)
    ·cases he
   ·cases hc2
  ·rename_i e hu
   split at hc2
   ·rename_i hy
    have hy' : y = .const nilS := by
     unfold isNilS at hy
     split at hy
     ·rfl
     ·cases hy
    subst hy'
    simp only [oiq] at hc2
    subst hc2
    have hv := c.opd x
    unfold evI at he
    simp only at he
    split at he
    ·rename_i n k e1
     simp only [oiq, piq] at he
     obtain ⟨rfl, rfl⟩ := he
     exact s_eqS c ho hop hu (val_of hv e1) (by cases op <;> rfl)
    ·rename_i A n k e1
     simp only [oiq, piq] at he
     obtain ⟨rfl, rfl⟩ := he
     exact s_eqS c ho hop hu (val_of hv e1) (by cases op <;> rfl)
    ·rename_i s r rs e1
     simp only [oiq, piq] at he
     obtain ⟨rfl, rfl⟩ := he
     rw [e1] at hv
     simp only [VR, PR] at hv
     obtain ⟨A, cap, hv, _, _, h3⟩ := hv
     rcases h3 with h3 | ⟨b, off, rfl, _⟩
     ·simp at h3
     ·exact s_eqS c ho hop hu hv (by cases op <;> rfl)
    ·rename_i b gen size off len e1
     simp only [oiq, piq] at he
     obtain ⟨rfl, rfl⟩ := he
     rw [e1] at hv
     simp only [VR] at hv
     obtain ⟨_, _, hv⟩ := hv
     cases hd : g.hd b gen with
     | none => rw [hd] at hv; obtain ⟨_, _, h0⟩ := hv; omega
     | some q =>
      obtain ⟨cc, cap⟩ := q
      rw [hd] at hv
      obtain ⟨k1, _, A, hv, hA⟩ := hv
      obtain rfl := hA.resolve_left (by omega)
      exact s_eqS c ho hop hu hv (by cases op <;> rfl)
    ·cases he
   ·cases hc2
  ·rename_i ms hu
   split at hc2
   ·rename_i hy
    have hy' : y = .const .nilIface := by
     unfold isNilI at hy
     split at hy
     ·rfl
     ·cases hy
    subst hy'
    simp only [oiq] at hc2
    subst hc2
    unfold evI at he
    simp only at he
    split at he
    ·rename_i e1
     simp only [oiq, piq] at he
     obtain ⟨rfl, rfl⟩ := he
     exact s_eqI c ho hop hu (.inl ⟨e1, rfl⟩)
    ·rename_i e1
     simp only [oiq, piq] at he
     obtain ⟨rfl, rfl⟩ := he
     exact s_eqI c ho hop hu (.inr ⟨e1, rfl⟩)
    ·cases he
   ·cases hc2
  ·rename_i te hu
   split at hc2
   ·rename_i hi
    obtain ⟨j, hj⟩ := Option.isSome_iff_exists.1 hi
    simp only [oiq] at hc2
    subst hc2
    exact s_eqP c ho hop hu hj he
   ·cases hc2
  ·cases hc2
 unfold compBin at hc
 cases op
 case eql => exact hqq (.inl rfl) hc
 case neq => exact hqq (.inr rfl) hc
 all_goals (simp only [oiq] at hc; subst hc; exact hbin he)
theorem conv_sound (c : Ctx P gl a f g h w) {src dst : TypeId} {x : Operand} {i : Ins} {v : AV} {h' : List AB} (ho : o.op = .convert src dst x) (hc : compConv P src dst x = some i) (he : evI gl f h i = some (v, h')) : Fits P o a g w v h' := by
 unfold compConv at hc
 split at hc
 ·rename_i k1 k2 hs hd
  simp only [oiq] at hc
  subst hc
  simp only [evI] at he
  cases hi : idx ((opd x).ev f gl) with
  | none => simp [hi] at he
  | some n =>
   simp only [hi, msm, oiq, piq] at he
   obtain ⟨rfl, rfl⟩ := he
   exact s_convI c ho hs hd hi
 ·rename_i k1 hs hd
  simp only [oiq] at hc
  subst hc
  simp only [evI] at he
  cases hi : idx ((opd x).ev f gl) with
  | none => simp [hi] at he
  | some n =>
   simp only [hi, msm, oiq, piq] at he
   obtain ⟨rfl, rfl⟩ := he
   exact s_convS c ho hs hd hi
 ·rename_i e hs hd
  split at hc
  ·rename_i hue
   split at hc
   ·simp only [oiq] at hc
    subst hc
    simp only [evI] at he
    split at he
    ·cases he
    ·rename_i hns
     cases hr : rowsOf h 1 ((opd x).ev f gl) with
     | none => simp [hr] at he
     | some rows =>
      simp only [hr, bsm] at he
      cases hb : bytesOf rows with
      | none => simp [hb] at he
      | some l =>
       simp only [hb, msm, oiq, piq] at he
       obtain ⟨rfl, rfl⟩ := he
       exact s_convB c ho hs hd hue hr hb (fun s e => hns s e)
   ·cases hc
  ·cases hc
 ·rename_i e hs hd
  split at hc
  ·rename_i hue
   split at hc
   ·simp only [oiq] at hc
    subst hc
    simp only [evI] at he
    split at he
    ·rename_i s e1
     split at he
     ·rename_i hl
      simp only [oiq, piq] at he
      obtain ⟨rfl, rfl⟩ := he
      exact s_mkB c ho hs hd hue e1 hl
     ·cases he
    ·cases he
   ·cases hc
  ·cases hc
 ·rename_i t hs hd
  split at hc
  ·rename_i n hn
   split at hc
   ·rename_i h0
    simp only [oiq] at hc
    subst hc
    exact s_cvU c ho hs hd hn h0 he
   ·cases hc
  ·cases hc
 ·rename_i u hs hd
  split at hc
  ·rename_i hi
   obtain ⟨n, hn⟩ := Option.isSome_iff_exists.1 hi
   simp only [oiq] at hc
   subst hc
   exact s_cvP c ho hs hd hn (fun q hq => (List.mem_filter.1 hq).2) he
  ·cases hc
 ·cases hc
theorem extOf_spec {fo : Operand} {n : String} (h : extOf P fo = some n) : ∃ k fn, fo = .func k ∧ P.funcs[k]? = some fn ∧ fn.body.isNone = true ∧ fn.origin = "" ∧ fn.name = n := by
 unfold extOf at h
 split at h
 ·rename_i k
  split at h
  ·rename_i fn hf
   split at h
   ·rename_i hc
    simp only [aet, beq_iff_eq] at hc
    simp only [oiq] at h
    exact ⟨k, fn, rfl, hf, hc.1, hc.2, h⟩
   ·cases h
  ·cases h
 ·cases h
theorem nzT_spec {k : Nat} {fn : Func} {e : TypeId} (hf : P.funcs[k]? = some fn) (h : nzT P (.func k) = some e) : ∃ t, fn.resultTypes.toList = [t] ∧ P.underlying t = some (.slice e) := by
 simp only [nzT, hf] at h
 split at h
 ·rename_i t ht
  split at h
  ·rename_i e' hu
   split at h
   ·simp only [oiq] at h
    subst h
    exact ⟨t, ht, hu⟩
   ·cases h
  ·cases h
 ·cases h
theorem rowsOf_nil {size : Nat} {y : AV} {news : List (List AV)} (h1 : rowsOf [] size y = some news) (h : List AB) : rowsOf h size y = some news := by
 unfold rowsOf at h1 ⊢
 split at h1
 ·simp at h1
 ·split at h1
  ·rename_i hs
   simp only [oiq] at h1
   subst h1
   exact if_pos hs
  ·cases h1
 ·exact h1
 ·exact h1
 ·split at h1
  ·rename_i hs
   simp only [oiq] at h1
   subst h1
   exact if_pos hs
  ·cases h1
 ·cases h1
theorem call_sound (c : Ctx P gl a f g h w) {cl : Call} {i : Ins} {v : AV} {h' : List AB} (ho : o.op = .call cl) {shf : Operand → Bool} (hc : compCall P shf cl o.type = some i) (he : evI gl f h i = some (v, h')) : Fits P o a g w v h' := by
 unfold compCall at hc
 split at hc
 ·rename_i fo h1
  split at hc
  ·rename_i n hext
   obtain ⟨k, fn, rfl, hf, hb, hor, rfl⟩ := extOf_spec hext
   split at hc
   ·rename_i hname
    split at hc
    ·rename_i x e h2 hnz
     simp only [oiq] at hc
     subst hc
     simp only [evI] at he
     split at he
     ·rename_i n e1
      split at he
      ·rename_i hn
       simp only [oiq, piq] at he
       obtain ⟨rfl, rfl⟩ := he
       obtain ⟨t, hrt, ht⟩ := nzT_spec hf hnz
       exact s_mkNZ c ho h1 h2 hf hb hname hor hrt ht e1 hn
      ·cases he
     ·cases he
    ·cases hc
   ·unfold extI at hc
    split at hc
    ·rename_i hname
     split at hc
     ·rename_i x h2
      simp only [oiq] at hc
      subst hc
      simp only [evI, oiq, piq] at he
      obtain ⟨rfl, rfl⟩ := he
      exact s_nes c ho h1 h2 hf hb hname hor
     ·cases hc
    ·split at hc
     ·rename_i hname
      split at hc
      ·rename_i x y h2
       simp only [oiq] at hc
       subst hc
       simp only [evI] at he
       split at he
       ·rename_i s n e1 e2
        simp only [oiq, piq] at he
        obtain ⟨rfl, rfl⟩ := he
        exact s_ixb c ho h1 h2 hf hb hname hor e1 e2
       ·cases he
      ·cases hc
     ·split at hc
      ·rename_i hname
       split at hc
       ·rename_i x y h2
        simp only [oiq] at hc
        subst hc
        simp only [evI] at he
        split at he
        ·rename_i s n e1 e2
         simp only [oiq, piq] at he
         obtain ⟨rfl, rfl⟩ := he
         exact s_cnb c ho h1 h2 hf hb hname hor e1 e2
        ·cases he
       ·cases hc
      ·cases hc
  ·split at hc <;>
   ·simp only [oiq] at hc
    subst hc
    simp [evI] at he
 ·rename_i h1
  split at hc
  ·rename_i x te h2 ht
   simp only [oiq] at hc
   subst hc
   exact s_slData c ho h1 h2 ht he
  ·cases hc
 ·rename_i h1
  split at hc
  ·rename_i x n pt it h2 h3
   split at hc
   ·rename_i e hp
    split at hc
    ·rename_i hcl
     simp only [oiq] at hc
     subst hc
     exact s_uStr c ho h1 h2 h3 hp hcl he
    ·cases hc
   ·cases hc
  ·cases hc
 ·rename_i h1
  split at hc
  ·rename_i x t h2 h3
   split at hc
   ·rename_i e hu
    simp only [oiq] at hc
    subst hc
    simp only [evI] at he
    cases hl : lenA ((opd x).ev f gl) with
    | none => simp [hl] at he
    | some n =>
     simp only [hl, msm, oiq, piq] at he
     obtain ⟨rfl, rfl⟩ := he
     exact s_len c ho h1 h2 h3 hu hl
   ·rename_i hu
    simp only [oiq] at hc
    subst hc
    simp only [evI] at he
    split at he
    ·rename_i s e1
     simp only [oiq, piq] at he
     obtain ⟨rfl, rfl⟩ := he
     exact s_lenS c ho h1 h2 h3 hu e1
    ·cases he
   ·rename_i n e hu
    simp only [oiq] at hc
    subst hc
    simp only [evI, Opd.ev, oiq, piq] at he
    obtain ⟨rfl, rfl⟩ := he
    exact s_lenArr c ho h1 h2 h3 hu
   ·cases hc
  ·cases hc
 ·rename_i h1
  split at hc
  ·rename_i x y t u h2 h3
   split at hc
   ·rename_i e hu
    have key : ∀ (s b : Nat) (z : List Value), szT P e = some s → byT P e = some b → zeroT P e = some z → 0 < s → z.length = s → ((∃ e', P.underlying u = some (.slice e')) ∨ P.underlying u = some .string) →
      i = .append e s b (z.map .val) (opd x) (opd y) → Fits P o a g w v h' := by
     intro s b z hs hb hz h0 hzl huu hi
     subst hi
     simp only [evI] at he
     cases hr : rowsOf h s ((opd y).ev f gl) with
     | none => simp [hr] at he
     | some news =>
      simp only [hr, bsm] at he
      exact s_append c ho h1 h2 h3 hu huu hs hb hz h0 hzl hr he
    split at hc
    ·rename_i s b z e' hs hb hz hue
     split at hc
     ·rename_i hcc
      simp only [oiq] at hc
      split at hc
      ·split at hc
       ·exact key s b z hs hb hz hcc.1 hcc.2 (.inl ⟨e', hue⟩) hc.symm
       ·subst hc
        simp only [evI, bei] at he
        obtain ⟨q, ⟨news, hr, hq⟩, he⟩ := he
        exact fits_dead (s_append c ho h1 h2 h3 hu (.inl ⟨e', hue⟩) hs hb hz hcc.1 hcc.2 hr hq) he
      ·subst hc
       simp only [evI] at he
       split at he
       ·rename_i hxn
        simp only [bei] at he
        obtain ⟨news, h5, he⟩ := he
        split at he
        ·rename_i hl
         have h6 := rowsOf_nil h5 h
         exact s_append c ho h1 h2 h3 hu (.inl ⟨e', hue⟩) hs hb hz hcc.1 hcc.2 h6 (by rw [hxn]; simp only [appendA, if_pos hl]; exact he)
        ·cases he
       ·cases he
     ·cases hc
    ·rename_i s b z hs hb hz hue
     split at hc
     ·rename_i hcc
      simp only [oiq] at hc
      exact key s b z hs hb hz (by omega) hcc.2 (.inr hue) hc.symm
     ·cases hc
    ·cases hc
   ·cases hc
  ·cases hc
 ·rename_i h1
  split at hc
  ·rename_i x t h2 h3
   split at hc
   ·rename_i e hu
    simp only [oiq] at hc
    subst hc
    simp only [evI] at he
    split at he
    ·rename_i e1
     simp only [oiq, piq] at he
     obtain ⟨rfl, rfl⟩ := he
     exact s_capN c ho h1 h2 h3 hu e1
    ·cases he
   ·cases hc
  ·cases hc
 ·rename_i h1
  split at hc
  ·rename_i x t h2 h3
   split at hc
   ·rename_i e hu
    split at hc
    ·rename_i s z hs hz
     split at hc
     ·rename_i hcc
      simp only [oiq] at hc
      subst hc
      exact s_clrS c ho h1 h2 h3 hu hs hz hcc.1 hcc.2 he
     ·cases hc
    ·cases hc
   ·rename_i kt et hu
    simp only [oiq] at hc
    subst hc
    exact s_clrM c ho h1 h2 h3 hu he
   ·cases hc
  ·cases hc
 ·rename_i h1
  split at hc
  ·rename_i x y t u h2 h3
   split at hc
   ·rename_i e hu
    split at hc
    ·rename_i hs
     simp only [oiq] at hc
     subst hc
     simp only [evI] at he
     split at he
     ·rename_i e1 e2
      simp only [oiq, piq] at he
      obtain ⟨rfl, rfl⟩ := he
      exact s_cpy0 c ho h1 h2 h3 hu hs e1 e2
     ·cases he
    ·cases hc
   ·cases hc
  ·cases hc
 ·rename_i h1
  split at hc
  ·rename_i x y h2
   simp only [oiq] at hc
   subst hc
   simp only [evI] at he
   split at he
   ·rename_i k m k' n e1 e2
    simp only [oiq, piq] at he
    obtain ⟨rfl, rfl⟩ := he
    exact s_min2 (mx := false) c ho h1 h2 e1 e2
   ·cases he
  ·cases hc
 ·rename_i h1
  split at hc
  ·rename_i x y h2
   simp only [oiq] at hc
   subst hc
   simp only [evI] at he
   split at he
   ·rename_i k m k' n e1 e2
    simp only [oiq, piq] at he
    obtain ⟨rfl, rfl⟩ := he
    exact s_min2 (mx := true) c ho h1 h2 e1 e2
   ·cases he
  ·cases hc
 ·cases hc
theorem map_val (z : List Value) : (z.map PV.val).map AV.p = z.map fun v => AV.p (.val v) := by simp
theorem evI_sound (c : Ctx P gl a f g h w) {shf : Operand → Bool} {i : Ins} {v : AV} {h' : List AB} (hc : compOp P shf o = some i) (he : evI gl f h i = some (v, h')) : Fits P o a g w v h' := by
 unfold compOp at hc
 cases hop : o.op <;> simp only [hop] at hc <;> try (cases hc; done)
 case move x =>
  simp only [oiq] at hc; subst hc
  simp only [evI, oiq, piq] at he; obtain ⟨rfl, rfl⟩ := he
  exact s_mv c x (.inl hop)
 case assign x =>
  split at hc
  ·rename_i hx
   split at hc
   ·rename_i e hu
    split at hc
    ·cases hs : szT P e with
     | none => simp [hs] at hc
     | some s =>
      simp only [hs, msm, oiq] at hc; subst hc
      simp only [evI, oiq, piq] at he; obtain ⟨rfl, rfl⟩ := he
      exact s_nilrow c e s (by rw [hop])
    ·simp only [oiq] at hc; subst hc
     simp only [evI, oiq, piq] at he; obtain ⟨rfl, rfl⟩ := he
     exact s_mv c _ (.inr hop)
   ·cases hc
  ·simp only [oiq] at hc; subst hc
   simp only [evI, oiq, piq] at he; obtain ⟨rfl, rfl⟩ := he
   exact s_mv c _ (.inr hop)
 case pick x y z =>
  simp only [oiq] at hc; subst hc
  simp only [evI] at he
  split at he
  ·rename_i t e1
   simp only [oiq, piq] at he; obtain ⟨rfl, rfl⟩ := he
   exact s_pick c hop e1
  ·cases he
 case alloc t =>
  cases hz : zeroT P t with
  | none => simp [hz] at hc
  | some z =>
   simp only [hz, msm, oiq] at hc; subst hc
   simp only [evI, oiq, piq] at he; obtain ⟨rfl, rfl⟩ := he
   exact s_alloc c hop hz _
 case box t x =>
  cases hsh : shf (dstO o.dst) with
  | true =>
   rw [hsh] at hc
   simp only [if_true, oiq] at hc; subst hc
   simp only [evI] at he
   cases hx : cellsOf ((opd x).ev f gl) with
   | none => simp [hx] at he
   | some cs =>
    simp only [hx, msm, oiq, piq] at he; obtain ⟨rfl, rfl⟩ := he
    exact s_box c hop hx
  | false =>
   rw [hsh] at hc
   simp only [fet, if_false, oiq] at hc; subst hc
   simp only [evI] at he
   cases hx : cellsOf ((opd x).ev f gl) with
   | none => simp [hx] at he
   | some cs =>
    simp only [hx, bsm] at he
    cases hy : pvs cs with
    | none => simp [hy] at he
    | some ys =>
     simp only [hy, msm, oiq, piq] at he; obtain ⟨rfl, rfl⟩ := he
     exact s_boxL c hy hop hx
 case build t parts =>
  split at hc
  ·rename_i z fields hz hu
   split at hc
   ·rename_i hall
    cases hp : compParts P fields parts.toList with
    | none => simp [hp] at hc
    | some ps =>
     simp only [hp, msm, oiq] at hc; subst hc
     cases hown : shf (ownO o.dst) with
     | true =>
      rw [hown] at he
      simp only [if_true, evI] at he
      obtain ⟨cs, hx, he⟩ := mei.1 he
      simp only [piq] at he; obtain ⟨rfl, rfl⟩ := he
      exact s_buildSt c hop hz hu hall hp hx
     | false =>
      rw [hown] at he
      simp only [fet, if_false, evI] at he
      obtain ⟨cs, hx, he⟩ := mei.1 he
      simp only [piq] at he; obtain ⟨rfl, rfl⟩ := he
      exact s_buildR c hop hz hu hall hp hx
   ·cases hc
  ·rename_i z n e hz hu
   cases hs : szT P e with
   | none => simp [hs] at hc
   | some s =>
    simp only [hs, msm, oiq] at hc; subst hc
    simp only [evI, map_val] at he
    cases hx : fillA f gl (z.map fun v => AV.p (.val v)) (parts.toList.map fun (i, x) => (i * s, s, opd x)) with
    | none => simp [hx] at he
    | some cs =>
     simp only [hx, msm, oiq, piq] at he; obtain ⟨rfl, rfl⟩ := he
     exact s_buildArr c hop hz hu hs hx
  ·cases hc
 case buildSlice t n parts =>
  split at hc
  ·rename_i e hu
   split at hc
   ·rename_i s z hs hz
    split at hc
    ·rename_i hcc
     simp only [oiq] at hc
     cases hsh : shf (dstO o.dst) with
     | true =>
      rw [hsh] at hc
      simp only [if_true] at hc
      subst hc
      simp only [evI, map_val] at he
      cases hx : fillR f gl s (List.replicate n (z.map fun v => AV.p (.val v))) (parts.toList.map fun (i, x) => (i, opd x)) with
      | none => simp [hx] at he
      | some rows =>
       simp only [hx, msm, oiq, piq] at he; obtain ⟨rfl, rfl⟩ := he
       exact s_buildS c hop hz hu hs hcc.1 hcc.2.1 hcc.2.2 hx
     | false =>
      rw [hsh] at hc
      simp only [fet, if_false] at hc
      subst hc
      simp only [evI, map_val] at he
      cases hx : fillR f gl s (List.replicate n (z.map fun v => AV.p (.val v))) (parts.toList.map fun (i, x) => (i, opd x)) with
      | none => simp [hx] at he
      | some rows =>
       simp only [hx, bsm] at he
       cases hy : pvr rows with
       | none => simp [hy] at he
       | some ys =>
        simp only [hy, msm, oiq, piq] at he; obtain ⟨rfl, rfl⟩ := he
        exact s_buildL c hy hop hz hu hs hcc.1 hcc.2.1 hcc.2.2 hx
    ·cases hc
   ·cases hc
  ·cases hc
 case load t x =>
  split at hc
  ·rename_i b s hb hs
   simp only [oiq] at hc
   have plain : i = .load b (if b then s else 1) (opd x) → Fits P o a g w v h' := by
    intro hi; subst hi
    simp only [evI] at he
    cases hx : loadA h (if b then s else 1) ((opd x).ev f gl) with
    | none => simp [hx] at he
    | some cs =>
     simp only [hx, bsm] at he
     cases hv : oneOr b cs with
     | none => simp [hv] at he
     | some u =>
      simp only [hv, msm, oiq, piq] at he; obtain ⟨rfl, rfl⟩ := he
      exact s_load c hop hb hs hx hv
   have forg : ∀ d, i = .loadF d b (if b then s else 1) (opd x) → Fits P o a g w v h' := by
    intro d hi; subst hi
    simp only [evI] at he
    cases hx : loadA h (if b then s else 1) ((opd x).ev f gl) with
    | none => simp [hx] at he
    | some cs =>
     simp only [hx, bsm] at he
     cases hv : oneOr b (cs.map (fgA d)) with
     | none => simp [hv] at he
     | some u =>
      simp only [hv, msm, oiq, piq] at he; obtain ⟨rfl, rfl⟩ := he
      exact s_loadF c hop hb hs hx hv
   split at hc
   ·split at hc
    ·exact plain hc.symm
    ·exact forg _ hc.symm
   ·exact forg _ hc.symm
  ·cases hc
 case store t x y =>
  cases hs : szT P t with
  | none => simp [hs] at hc
  | some s =>
   simp only [hs, msm, oiq] at hc; subst hc
   simp only [evI] at he
   cases hy : cellsOf ((opd y).ev f gl) with
   | none => simp [hy] at he
   | some cs =>
    simp only [hy, bsm] at he
    split at he
    ·rename_i hl
     cases hx : storeA h cs ((opd x).ev f gl) with
     | none => simp [hx] at he
     | some h2 =>
      simp only [hx, msm, oiq, piq] at he; obtain ⟨rfl, rfl⟩ := he
      exact s_store c hop hs hy hl hx
    ·cases he
 case nilCheck x =>
  simp only [oiq] at hc; subst hc
  simp only [evI] at he
  cases hx : nilCk ((opd x).ev f gl) with
  | none => simp [hx] at he
  | some u =>
   simp only [hx, msm, oiq, piq] at he; obtain ⟨rfl, rfl⟩ := he
   exact s_nilChk c hop hx
 case binOp op t x y yt => exact bin_sound c hop hc he
 case unOp op t x =>
  simp only [oiq] at hc; subst hc
  simp only [evI] at he
  split at he
  ·rename_i u e1
   cases hr : unV op u with
   | none => simp [hr] at he
   | some r =>
    simp only [hr, msm, oiq, piq] at he; obtain ⟨rfl, rfl⟩ := he
    exact s_un c hop e1 hr
  ·cases he
 case convert src dst x => exact conv_sound c hop hc he
 case makeFunc fn first caps =>
  cases fn <;> simp only at hc <;> try (cases hc; done)
  split at hc
  ·rename_i h0
   simp only [oiq] at hc; subst hc
   simp only [evI, oiq, piq, List.map_map] at he; obtain ⟨rfl, rfl⟩ := he
   exact s_mkfn c hop h0
  ·cases hc
 case makeSlice t x y =>
  split at hc
  ·rename_i e hu
   split at hc
   ·rename_i s b z hs hb hz
    split at hc
    ·rename_i hcc
     simp only [oiq] at hc; subst hc
     simp only [evI, map_val] at he
     cases hx : idx ((opd x).ev f gl) with
     | none => simp [hx] at he
     | some l =>
      cases hy : idx ((opd y).ev f gl) with
      | none => simp [hx, hy] at he
      | some k =>
       simp only [hx, hy, bsm] at he
       split at he
       ·rename_i h4
        simp only [oiq, piq] at he; obtain ⟨rfl, rfl⟩ := he
        exact s_makeS c hop hz hu hs hb hcc.1 hcc.2 hx hy h4
       ·cases he
    ·cases hc
   ·cases hc
  ·cases hc
 case slice t x lo hi mx =>
  cases mx with
  | some m => simp at hc
  | none =>
   simp only at hc
   split at hc
   ·rename_i hu
    simp only [oiq] at hc; subst hc
    simp only [evI] at he
    split at he
    ·rename_i s e1
     cases hl : idxO f gl 0 (lo.map opd) with
     | none => simp [hl] at he
     | some l =>
      cases hr : idxO f gl s.size (hi.map opd) with
      | none => simp [hl, hr] at he
      | some r =>
       simp only [hl, hr, bsm] at he
       split at he
       ·rename_i h4
        simp only [oiq, piq] at he; obtain ⟨rfl, rfl⟩ := he
        exact s_sliceS c hop hu e1 hl hr h4.1 h4.2.1 h4.2.2
       ·cases he
    ·cases he
   ·rename_i e hu
    split at hc
    ·rename_i s hs
     split at hc
     ·simp only [oiq] at hc
      split at hc
      ·subst hc
       exact s_slice c hop hu hs he
      ·subst hc
       simp only [evI, mei, piq] at he
       obtain ⟨u, hu2, rfl, rfl⟩ := he
       exact s_sliceX c hop hu hs hu2
     ·cases hc
    ·cases hc
   ·cases hc
 case fieldAddr s x i =>
  split at hc
  ·rename_i fields hu
   split at hc
   ·rename_i fd hf
    split at hc
    ·rename_i n hn
     split at hc
     ·rename_i h0
      simp only [oiq] at hc; subst hc
      simp only [evI] at he
      cases hx : ptrAdd fd.offset ((opd x).ev f gl) with
      | none => simp [hx] at he
      | some u =>
       simp only [hx, msm, oiq, piq] at he; obtain ⟨rfl, rfl⟩ := he
       exact s_fieldA c hop hu hf hn h0 hx
     ·cases hc
    ·cases hc
   ·cases hc
  ·cases hc
 case field s x i =>
  split at hc
  ·rename_i fields hu
   split at hc
   ·rename_i fd hf
    split at hc
    ·rename_i b n hb hn
     simp only [oiq] at hc; subst hc
     simp only [evI] at he
     split at he
     ·rename_i xs e1
      cases hcs : sub xs fd.offset (if b then n else 1) with
      | none => simp [hcs] at he
      | some cs =>
       simp only [hcs, bsm] at he
       cases hv : oneOr b cs with
       | none => simp [hv] at he
       | some u =>
        simp only [hv, msm, oiq, piq] at he; obtain ⟨rfl, rfl⟩ := he
        exact s_field c hop hu hf hb hn e1 hcs hv
     ·cases he
    ·cases hc
   ·cases hc
  ·cases hc
 case indexAddr t x i =>
  split at hc
  ·rename_i n e hu
   cases hs : szT P e with
   | none => simp [hs] at hc
   | some s =>
    simp only [hs, msm, oiq] at hc; subst hc
    simp only [evI] at he
    cases hi : idx ((opd i).ev f gl) with
    | none => simp [hi] at he
    | some k =>
     simp only [hi, bsm] at he
     split at he
     ·rename_i hk
      cases hx : ptrAdd (k.toNat * s) ((opd x).ev f gl) with
      | none => simp [hx] at he
      | some u =>
       simp only [hx, msm, oiq, piq] at he; obtain ⟨rfl, rfl⟩ := he
       exact s_indexArr c hop hu hs hi hk hx
     ·cases he
  ·rename_i e hu
   cases hs : szT P e with
   | none => simp [hs] at hc
   | some s =>
    simp only [hs, msm, oiq] at hc; subst hc
    simp only [evI] at he
    cases hi : idx ((opd i).ev f gl) with
    | none => simp [hi] at he
    | some k =>
     simp only [hi, bsm] at he
     split at he
     ·rename_i b gen s2 off len e1
      split at he
      ·rename_i hk
       obtain ⟨rfl, hk1, hk2⟩ := hk
       simp only [oiq, piq] at he; obtain ⟨rfl, rfl⟩ := he
       exact s_indexSl c hop hu hs hi (.inl ⟨b, gen, off, len, e1, hk1, hk2, rfl⟩)
      ·cases he
     ·rename_i s2 rows e1
      split at he
      ·rename_i hk
       obtain ⟨rfl, hk1⟩ := hk
       cases hr : rows[k.toNat]? with
       | none => simp [hr] at he
       | some r =>
        simp only [hr, msm, oiq, piq] at he; obtain ⟨rfl, rfl⟩ := he
        exact s_indexSl c hop hu hs hi (.inr ⟨rows, r, e1, hk1, hr, rfl⟩)
      ·cases he
     ·cases he
  ·cases hc
 case index t x i =>
  split at hc
  ·rename_i n e hu
   split at hc
   ·rename_i b s hb hs
    split at hc
    ·rename_i hbs
     simp only [oiq] at hc; subst hc
     simp only [evI] at he
     split at he
     ·rename_i xs e1
      cases hi : idx ((opd i).ev f gl) with
      | none => simp [hi] at he
      | some k =>
       simp only [hi, bsm] at he
       split at he
       ·rename_i hk
        cases hcs : sub xs (k.toNat * s) s with
        | none => simp [hcs] at he
        | some cs =>
         simp only [hcs, bsm] at he
         cases hv : oneOr b cs with
         | none => simp [hv] at he
         | some u =>
          simp only [hv, msm, oiq, piq] at he; obtain ⟨rfl, rfl⟩ := he
          exact s_index c hop hu hs hb (by simpa using hbs) e1 hi hk hcs hv
       ·cases he
     ·cases he
    ·cases hc
   ·cases hc
  ·rename_i hu
   simp only [oiq] at hc; subst hc
   simp only [evI] at he
   split at he
   ·rename_i s e1
    cases hi : idx ((opd i).ev f gl) with
    | none => simp [hi] at he
    | some k =>
     simp only [hi, bsm] at he
     split at he
     ·rename_i hk
      cases hb : s.data.toList[k.toNat]? with
      | none => simp [hb] at he
      | some b =>
       simp only [hb, msm, oiq, piq] at he; obtain ⟨rfl, rfl⟩ := he
       exact s_indexS c hop hu e1 hi hk hb
     ·cases he
   ·cases he
  ·cases hc
 case extract x i =>
  simp only [oiq] at hc; subst hc
  simp only [evI] at he
  split at he
  ·rename_i xs e1
   cases hi : xs[i]? with
   | none => simp [hi] at he
   | some u =>
    simp only [hi, msm, oiq, piq] at he; obtain ⟨rfl, rfl⟩ := he
    exact s_extract c hop e1 hi
  ·cases he
 case makeMap t n =>
  cases n with
  | none =>
   simp only [oiq] at hc; subst hc
   simp only [evI, oiq, piq] at he; obtain ⟨rfl, rfl⟩ := he
   exact s_mkMap c hop
  | some n => cases hc
 case lookup t m k ok =>
  obtain ⟨r, hr, rfl⟩ := mei.1 hc
  exact s_lkUp c hop hr he
 case mapEntry t m k =>
  obtain ⟨r, hr, rfl⟩ := mei.1 hc
  exact s_mapEn c hop hr he
 case mapUpdate t m k x =>
  obtain ⟨r, hr, rfl⟩ := mei.1 hc
  exact s_mapUp c (.inl hop) hr he
 case insert t m k x =>
  obtain ⟨r, hr, rfl⟩ := mei.1 hc
  exact s_mapUp c (.inr hop) hr he
 case entryStore t m s x =>
  simp only [oiq] at hc; subst hc
  exact s_entSt c hop he
 case call cl => exact call_sound c hop hc he
end
section
variable {q : Nat → Nat} {n : Nat}
theorem rens_len : ∀ (xs : List AV), (rens q xs).length = xs.length
 | [] => rfl
 | x :: xs => by simp only [rens, lcn, rens_len xs]
theorem rens_app : ∀ (xs ys : List AV), rens q (xs ++ ys) = rens q xs ++ rens q ys
 | [], ys => rfl
 | x :: xs, ys => by simp only [List.cons_append, rens, rens_app xs ys]
theorem rens_flat : ∀ (rows : List (List AV)), (rows.map (rens q)).flatten = rens q rows.flatten
 | [] => rfl
 | r :: rs => by simp only [mcs, List.flatten_cons, rens_app, rens_flat rs]
end
structure Tr (g1 g2 : G) (q : Nat → Nat) : Prop where
 S : g2.S = g1.S
 cr : g2.cr = g1.cr
 D : ∀ b, g1.D b → g2.D (q b)
 m : ∀ b, g1.D b → g2.m (q b) = g1.m b
 gen : ∀ b, g1.D b → g2.gen (q b) = g1.gen b
 hd : ∀ b, g1.D b → g2.hd (q b) = g1.hd b
section
variable {g1 g2 : G} {q : Nat → Nat} {w : World}
mutual
theorem VR_ren (t : Tr g1 g2 q) : ∀ (x : AV) (v : Value), VR g1 w x v → VR g2 w (x.ren q) v
 | .p x, v, h => by simp only [AV.ren, VR] at h ⊢; rw [t.S]; exact h
 | .ro xs, v, h => by simp only [AV.ren, VR] at h ⊢; rw [t.S]; exact h
 | .und, v, h => by simp only [AV.ren, VR]
 | .anyp, v, h => by simpa only [AV.ren, VR] using h
 | .anye, v, h => by simpa only [AV.ren, VR] using h
 | .agg xs, v, h => by simp only [AV.ren, VR] at h ⊢; obtain ⟨cs, e, h⟩ := h; exact ⟨cs, e, VRs_ren t xs _ h⟩
 | .tup xs, v, h => by simp only [AV.ren, VR] at h ⊢; obtain ⟨cs, e, h⟩ := h; exact ⟨cs, e, VRs_ren t xs _ h⟩
 | .fn f xs, v, h => by simp only [AV.ren, VR] at h ⊢; obtain ⟨cs, e, h⟩ := h; exact ⟨cs, e, VRs_ren t xs _ h⟩
 | .ptr b o, v, h => by simp only [AV.ren, VR] at h ⊢; rw [t.m b h.1]; exact ⟨t.D b h.1, h.2⟩
 | .rp b g s k o, v, h => by simp only [AV.ren, VR] at h ⊢; rw [t.gen b h.1, t.hd b h.1]; exact ⟨t.D b h.1, h.2⟩
 | .sl b g s k o, v, h => by simp only [AV.ren, VR] at h ⊢; rw [t.gen b h.1, t.hd b h.1]; exact ⟨t.D b h.1, h.2⟩
 | .mp b, v, h => by simp only [AV.ren, VR] at h ⊢; rw [t.m b h.1]; exact ⟨t.D b h.1, h.2⟩
 | .yl b, v, h => by simp only [AV.ren, VR] at h ⊢; rw [t.m b h.1]; exact ⟨t.D b h.1, h.2⟩
theorem VRs_ren (t : Tr g1 g2 q) : ∀ (xs : List AV) (vs : List Value), VRs g1 w xs vs → VRs g2 w (rens q xs) vs
 | [], [], h => by simp only [rens, VRs]
 | x :: xs, v :: vs, h => by simp only [rens, VRs] at h ⊢; exact ⟨VR_ren t x v h.1, VRs_ren t xs vs h.2⟩
 | [], _ :: _, h => by simp [VRs] at h
 | _ :: _, [], h => by simp [VRs] at h
end
theorem MpR_ren (t : Tr g1 g2 q) : ∀ (i : Nat) (es : List (AV × AV)) (vs : List MapEntry), MpR g1 w i es vs → MpR g2 w i (es.map fun e => (e.1.ren q, e.2.ren q)) vs
 | _, [], [], _ => by simp [MpR]
 | i, x :: es, v :: vs, h => by
  simp only [mcs, MpR] at h ⊢
  exact ⟨⟨VR_ren t _ _ h.1.1, VR_ren t _ _ h.1.2.1, h.1.2.2⟩, MpR_ren t (i + 1) es vs h.2⟩
 | _, [], _ :: _, h => by simp [MpR] at h
 | _, _ :: _, [], h => by simp [MpR] at h
theorem BR_ren (t : Tr g1 g2 q) {b : Nat} {x : AB} (hb : x ≠ .hole → g1.D b) (h : BR g1 w b x) : BR g2 w (q b) (x.ren q) := by
 cases x with
 | cells ty xs =>
  simp only [AB.ren, BR] at h ⊢
  rw [t.m b (hb (by simp))]
  obtain ⟨cs, fz, k1, k2, k3⟩ := h
  exact ⟨cs, fz, k1, k2, VRs_ren t _ _ k3.1, k3.2⟩
 | row ty size gen rows =>
  simp only [AB.ren, BR] at h ⊢
  rw [t.gen b (hb (by simp)), t.hd b (hb (by simp))]
  refine ⟨h.1, ?_, ?_⟩
  ·intro r hr
   simp only [List.mem_map] at hr
   obtain ⟨r', hr', rfl⟩ := hr
   rw [rens_len]
   exact h.2.1 r' hr'
  ·have hrow := h.2.2
   cases hd : g1.hd b gen with
   | none => rw [hd] at hrow; simp only [RowR] at hrow ⊢; rw [hrow]; rfl
   | some p =>
    obtain ⟨c, cap⟩ := p
    rw [hd] at hrow
    simp only [RowR] at hrow ⊢
    obtain ⟨cs, fz, k1, k2, k3, k4, k5, k6⟩ := hrow
    refine ⟨cs, fz, k1, k2, k3, k4, by simpa using k5, ?_, ?_⟩
    ·rw [rens_flat, lmp]; exact VRs_ren t _ _ k6.1
    ·rw [lmp]; exact k6.2
 | loop st pend ps f ia ib =>
  simp only [AB.ren, BR] at h ⊢
  rw [t.m b (hb (by simp))]
  obtain ⟨rec, k1, k⟩ := h
  exact ⟨rec, k1, ⟨k.st, k.pend, k.ps, VRs_ren t _ _ k.f, by rw [t.cr]; exact k.ia, by rw [t.cr]; exact k.ib⟩⟩
 | map n es =>
  simp only [AB.ren, BR] at h ⊢
  rw [t.m b (hb (by simp))]
  obtain ⟨arr, k1, k2⟩ := h
  exact ⟨arr, by rw [lmp]; exact k1, MpR_ren t _ _ _ k2⟩
 | frz size gen rows =>
  simp only [AB.ren, BR] at h ⊢
  rw [t.gen b (hb (by simp)), t.hd b (hb (by simp)), t.S]
  exact h
 | dead => simp only [AB.ren, BR]
 | hole => simp only [AB.ren, BR]
theorem cid_ren (t : Tr g1 g2 q) {b : Nat} {x : AB} (hb : x ≠ .hole → g1.D b) : cid g2 (q b) (x.ren q) = cid g1 b x := by
 cases x with
 | cells ty xs => simp only [AB.ren, cid]; rw [t.m b (hb (by simp))]
 | row ty size gen rows => simp only [AB.ren, cid]; rw [t.hd b (hb (by simp))]
 | loop st pend ps f ia ib => simp only [AB.ren, cid]; rw [t.m b (hb (by simp))]
 | map n es => simp only [AB.ren, cid]; rw [t.m b (hb (by simp))]
 | frz size gen rows => rfl
 | dead => rfl
 | hole => rfl
theorem ren_hole {x : AB} : x.ren q = .hole ↔ x = .hole := by cases x <;> simp [AB.ren]
end
mutual
theorem VR_pure {g g' : G} {w : World} (hS : ∀ c, g.S c → g'.S c) : ∀ (x : AV) (v : Value), x.pure = true → VR g w x v → VR g' w x v
 | .p x, v, _, h => by simp only [VR] at h ⊢; exact PR_mono hS (fun _ _ => rfl) x v h
 | .ro xs, v, _, h => by
  simp only [VR] at h ⊢
  obtain ⟨b, off, rfl, hb, hp⟩ := h
  exact ⟨b, off, rfl, hS b hb, PRs_mono hS (fun _ _ => rfl) b hb off xs hp⟩
 | .agg xs, v, hp, h => by
  simp only [VR] at h ⊢
  obtain ⟨cs, rfl, h⟩ := h
  exact ⟨cs, rfl, VRs_pure hS xs _ (by simpa only [AV.pure] using hp) h⟩
 | .tup xs, v, hp, h => by
  simp only [VR] at h ⊢
  obtain ⟨cs, rfl, h⟩ := h
  exact ⟨cs, rfl, VRs_pure hS xs _ (by simpa only [AV.pure] using hp) h⟩
 | .fn f xs, v, hp, h => by
  simp only [VR] at h ⊢
  obtain ⟨cs, rfl, h⟩ := h
  exact ⟨cs, rfl, VRs_pure hS xs _ (by simpa only [AV.pure] using hp) h⟩
 | .ptr _ _, _, hp, _ => by simp [AV.pure] at hp
 | .rp _ _ _ _ _, _, hp, _ => by simp [AV.pure] at hp
 | .sl _ _ _ _ _, _, hp, _ => by simp [AV.pure] at hp
 | .mp _, _, hp, _ => by simp [AV.pure] at hp
 | .yl _, _, hp, _ => by simp [AV.pure] at hp
 | .anyp, _, hp, _ => by simp [AV.pure] at hp
 | .anye, _, hp, _ => by simp [AV.pure] at hp
 | .und, _, hp, _ => by simp [AV.pure] at hp
theorem VRs_pure {g g' : G} {w : World} (hS : ∀ c, g.S c → g'.S c) : ∀ (xs : List AV) (vs : List Value), AV.pure.pures xs = true → VRs g w xs vs → VRs g' w xs vs
 | [], [], _, _ => by simp [VRs]
 | x :: xs, v :: vs, hp, h => by
  simp only [AV.pure.pures, aet] at hp
  simp only [VRs] at h ⊢
  exact ⟨VR_pure hS x v hp.1 h.1, VRs_pure hS xs vs hp.2 h.2⟩
 | [], _ :: _, _, h => by simp [VRs] at h
 | _ :: _, [], _, h => by simp [VRs] at h
end
theorem import_own {g g1 : G} {h h0 : List AB} {w w1 : World} (hr : HR g h w) (he : Ext { g with Pr := fun c => c < w.heap.size, N := 0, Ho := fun _ => False } w g1 w1) (hr1 : HR g1 h0 w1) :
  ∃ g2, Ext g w g2 w1 ∧ HR g2 (h ++ h0.map (AB.ren (· + h.length))) w1 ∧ ∀ x v, VR g1 w1 x v → VR g2 w1 (x.ren (· + h.length)) v := by
 have hn := hr.n
 have hn1 := hr1.n
 let g2 : G := ⟨g1.S, fun c => g.Pr c ∨ g1.S c, g.N + h0.length, fun b => g.Ho b ∨ (g.N ≤ b ∧ g1.Ho (b - g.N)), fun b => if b < g.N then g.m b else g1.m (b - g.N), fun b => if b < g.N then g.gen b else g1.gen (b - g.N), fun b => if b < g.N then g.hd b else g1.hd (b - g.N), g.cr⟩
 have hHo : ∀ b, g.Ho b → b < g.N := fun b hb => by have := (hr.ho b).1 hb; have := (gei.1 this).1; omega
 have hm : ∀ b, b < g.N → g2.m b = g.m b := fun b hb => if_pos hb
 have hge : ∀ b, b < g.N → g2.gen b = g.gen b := fun b hb => if_pos hb
 have hhd : ∀ b, b < g.N → g2.hd b = g.hd b := fun b hb => if_pos hb
 have hSn : ∀ c, g1.S c → g.S c ∨ ¬ c < w.heap.size := fun c hc => he.Sn c hc
 have e2 : Ext g w g2 w1 := by
  refine ⟨fun c hc => he.S c hc, fun c hc => .inl hc, fun c hc => he.pr c (hr.prs c hc), Nat.le_add_right _ _, ?_, fun b hb => hm b hb.1, fun b hb => by rw [hge b hb.1]; exact Nat.le_refl _, fun b hb k _ => by rw [hhd b hb.1], he.size, he.os, he.tape, he.output, ?_, rfl, he.drawn⟩
  ·intro b hb
   refine ⟨Nat.lt_of_lt_of_le hb.1 (Nat.le_add_right _ _), ?_⟩
   rintro (q | ⟨q, _⟩)
   ·exact hb.2 q
   ·have := hb.1; omega
  ·intro c hc
   exact (hSn c hc).imp_right (fun hl hp => hl (hr.prs c hp))
 have t : Tr g1 g2 (· + h.length) := by
  have hlt : ∀ b, ¬ b + h.length < g.N := fun b => by omega
  have hsub : ∀ b, b + h.length - g.N = b := fun b => by omega
  refine ⟨rfl, he.cr.symm, fun b hb => ⟨?_, ?_⟩, fun b _ => ?_, fun b _ => ?_, fun b _ => ?_⟩
  ·have := hb.1; show b + h.length < g.N + h0.length; omega
  ·rintro (q | ⟨_, q⟩)
   ·have := hHo _ q; omega
   ·rw [hsub] at q; exact hb.2 q
  ·show (if b + h.length < g.N then g.m (b + h.length) else g1.m (b + h.length - g.N)) = g1.m b
   rw [if_neg (hlt b), hsub]
  ·show (if b + h.length < g.N then g.gen (b + h.length) else g1.gen (b + h.length - g.N)) = g1.gen b
   rw [if_neg (hlt b), hsub]
  ·show (if b + h.length < g.N then g.hd (b + h.length) else g1.hd (b + h.length - g.N)) = g1.hd b
   rw [if_neg (hlt b), hsub]
 have hget : ∀ b x, (h ++ h0.map (AB.ren (· + h.length)))[b]? = some x → (b < g.N ∧ h[b]? = some x) ∨ (∃ b0 x0, b = b0 + h.length ∧ h0[b0]? = some x0 ∧ x = x0.ren (· + h.length)) := by
  intro b x hb
  rw [List.getElem?_append] at hb
  split at hb
  ·exact .inl ⟨by omega, hb⟩
  ·rename_i hl
   rw [gmp, mei] at hb
   obtain ⟨x0, h1, h2⟩ := hb
   exact .inr ⟨b - h.length, x0, by omega, h1, h2.symm⟩
 have hD1 : ∀ b x, h0[b]? = some x → x ≠ .hole → g1.D b := fun b x hb hx => hr1.d hb hx
 have cid_lo : ∀ b x, b < g.N → cid g2 b x = cid g b x := by
  intro b x hb
  cases x <;> simp only [cid, hm b hb, hhd b hb]
 have cid_hi : ∀ b x, h0[b]? = some x → cid g2 (b + h.length) (x.ren (· + h.length)) = cid g1 b x := fun b x hb => cid_ren t (hD1 b x hb)
 have hbig : ∀ b x c, h0[b]? = some x → cid g1 b x = some c → ¬ c < w.heap.size := fun b x c hb hc hl => hr1.own b x c hb hc (he.Pr c hl)
 refine ⟨g2, e2, ⟨by show g.N + h0.length = _; simp [hn], ?_, ?_, ?_, fun c hc => .inr hc, ?_, ?_⟩, fun x v hv => VR_ren t x v hv⟩
 ·intro b x hb
  rcases hget b x hb with ⟨hl, h1⟩ | ⟨b0, x0, rfl, h1, rfl⟩
  ·exact BR_mono hr e2 h1 (hge b hl) (fun c hc => he.pr c (cid_lt hr h1 hc))
  ·exact BR_ren t (hD1 b0 x0 h1) (hr1.br b0 x0 h1)
 ·intro b b' x x' c hb hb' hc hc'
  rcases hget b x hb with ⟨hl, h1⟩ | ⟨b0, x0, rfl, h1, rfl⟩ <;> rcases hget b' x' hb' with ⟨hl', h1'⟩ | ⟨b0', x0', rfl, h1', rfl⟩
  ·rw [cid_lo _ _ hl] at hc
   rw [cid_lo _ _ hl'] at hc'
   exact hr.dis b b' x x' c h1 h1' hc hc'
  ·rw [cid_lo _ _ hl] at hc
   rw [cid_hi _ _ h1'] at hc'
   exact absurd (cid_lt hr h1 hc) (hbig _ _ _ h1' hc')
  ·rw [cid_hi _ _ h1] at hc
   rw [cid_lo _ _ hl'] at hc'
   exact absurd (cid_lt hr h1' hc') (hbig _ _ _ h1 hc)
  ·rw [cid_hi _ _ h1] at hc
   rw [cid_hi _ _ h1'] at hc'
   rw [hr1.dis b0 b0' x0 x0' c h1 h1' hc hc']
 ·intro b x c hb hc
  rcases hget b x hb with ⟨hl, h1⟩ | ⟨b0, x0, rfl, h1, rfl⟩
  ·rw [cid_lo _ _ hl] at hc
   rintro (q | q)
   ·exact hr.own b x c h1 hc q
   ·rcases hSn c q with q | q
    ·exact hr.own b x c h1 hc (hr.spr c q)
    ·exact q (cid_lt hr h1 hc)
  ·rw [cid_hi _ _ h1] at hc
   rintro (q | q)
   ·exact hbig _ _ _ h1 hc (hr.prs c q)
   ·exact hr1.own b0 x0 c h1 hc (hr1.spr c q)
 ·rintro c (q | q)
  ·exact Nat.lt_of_lt_of_le (hr.prs c q) he.size
  ·exact hr1.prs c (hr1.spr c q)
 ·intro b
  constructor
  ·rintro (q | ⟨q1, q2⟩)
   ·have := (hr.ho b).1 q
    rw [gal (gei.1 this).1]
    exact this
   ·have := (hr1.ho _).1 q2
    rw [gar (by omega), gmp, show b - h.length = b - g.N by omega, this]
    rfl
  ·intro hb
   rcases hget b _ hb with ⟨hl, h1⟩ | ⟨b0, x0, rfl, h1, h2⟩
   ·exact .inl ((hr.ho b).2 h1)
   ·have := ren_hole.1 h2.symm
    subst this
    exact .inr ⟨by omega, by rw [show b0 + h.length - g.N = b0 by omega]; exact (hr1.ho b0).2 h1⟩
structure Env where
 gl : Nat → Option (List PV)
 callP : Nat → List AV → List AB → Option AV
 callS : Nat → List AV → List AB → Option (AV × List AB)
 yld : Nat → List AV → List AB → Option (AV × List AB)
 pureI : ∀ fn args h h2, AV.pure.pures args = true → callP fn args h = callP fn args h2
def wantedA (f : List AV) : Option (Nat × Bool) → Option Bool
 | none => some true
 | some (t, b) => match getT f t with
  | .und => none
  | .p (.val (.bool x)) => some (x == b)
  | _ => some false
def putA (f : List AV) (d : Option Nat) (v : AV) : List AV :=
 match d with
 | some d => f.set d v
 | none => f
def xRes (E : Env) (g : Nat) (args : List AV) (k : Nat) : Option (AV × List AB) :=
 if AV.pure.pures args then
  match E.callS g args [] with
  | some (v, h0) => if h0.length.beq (k + 1) then some (v, h0) else none
  | none => none
 else none
def evX (E : Env) (f : List AV) (r : Nat) : Ins → Option (AV × List AB)
 | .callX k fo args => match fo.ev f E.gl with
  | .fn g caps => (xRes E g (args.map (·.ev f E.gl) ++ caps) k).map fun p => (p.1.ren (· + r), p.2.map (AB.ren (· + r)))
  | _ => none
 | _ => none
def stepI (E : Env) (i : Ins) (s : St) : Option (AV × List AB) :=
 match i with
 | .call false fo args => match fo.ev s.f E.gl with
  | .fn g caps => (E.callP g (args.map (·.ev s.f E.gl) ++ caps) s.h).map (·, s.h)
  | _ => none
 | .call true fo args => match fo.ev s.f E.gl with
  | .fn g caps => E.callS g (args.map (·.ev s.f E.gl) ++ caps) s.h
  | .yl b => E.yld b (args.map (·.ev s.f E.gl)) s.h
  | _ => none
 | .callX k fo args => (evX E s.f s.h.length (.callX k fo args)).map fun p => (p.1, s.h ++ p.2)
 | i => evI E.gl s.f s.h i
def stepO (E : Env) (o : IOp) (s : St) : Option St :=
 match wantedA s.f o.guard with
 | none => none
 | some false => some ⟨putA s.f o.dst ud, s.h⟩
 | some true => (stepI E o.ins s).map fun r => ⟨putA s.f o.dst r.1, r.2⟩
def runOps (E : Env) : List IOp → St → Option St
 | [], s => some s
 | o :: os, s => (stepO E o s).bind (runOps E os)
def compGuard (ops : Array Oper) : Option (Nat × Bool) → Option (Option (Nat × Bool))
 | none => some none
 | some (j, b) => match (ops[j]?).bind (·.dst) with
  | some t => some (some (t, b))
  | none => none
def compOper (P : Program) (shf : Operand → Bool) (ops : Array Oper) (o : Oper) : Option IOp :=
 match compOp P shf o, compGuard ops o.guard with
 | some i, some g => some ⟨o.dst, i, g⟩
 | _, _ => none
def compOps (P : Program) (shf : Operand → Bool) (ops : Array Oper) : List Oper → Option (List IOp)
 | [] => some []
 | o :: os => match compOper P shf ops o, compOps P shf ops os with
  | some x, some xs => some (x :: xs)
  | _, _ => none
abbrev FW (r : Option Nat) : Fence := { Fence.wide with round := r }
theorem calls_FW {P : Program} {f : FuncId} {args : Array Value} {w : World} {R : Ending → World → Prop} {r : Option Nat} {n : Nat} (h : Calls P f args w R) : CallsIn (FW r) n P f args w R :=
 callsIn_wide.2 h
def CallR (P : Program) (C : IC → Code → Prop) (gl : Nat → Option (List PV)) (fn : Nat) (args : List AV) (h : List AB) (v : AV) (h' : List AB) : Prop :=
 (∃ fd : Func, P.funcs[fn]? = some fd ∧ fd.body.isNone = false ∧ (fd.name == "runtime.NumGoroutine") = false) ∧
 ∀ (g : G) (w : World) (vals : List Value), g.cr = C → GR g w gl → HR g h w → VRs g w args vals →
  Calls P fn vals.toArray w fun e w' => ∃ x g', e = .returned x ∧ Ext g w g' w' ∧ HR g' h' w' ∧ VR g' w' v x
def YieldR (P : Program) (C : IC → Code → Prop) (gl : Nat → Option (List PV)) (b : Nat) (args : List AV) (h : List AB) (v : AV) (h' : List AB) : Prop :=
 ∃ st pend ps f ia ib, h[b]? = some (.loop st pend ps f ia ib) ∧ args.length = ps.length ∧
 ∀ (rd : Option Nat) (g : G) (w : World) (vals : List Value) (rec : Loop), g.cr = C → GR g w gl → HR g h w → VRs g w args vals → w.heap[g.m b]? = some (.loop rec) →
  RoundIn (FW rd) 0 P (g.m b) rec.fn ((rec.params.zip vals.toArray).foldl (fun tmps (t, a) => tmps.setIfInBounds t a) rec.tmps) rec.assign rec.body w
   fun e w' => ∃ x g', e = .returned x ∧ Ext g w g' w' ∧ HR g' h' w' ∧ VR g' w' v x
structure Sound (P : Program) (C : IC → Code → Prop) (E : Env) : Prop where
 p : ∀ fn args h v, E.callP fn args h = some v → CallR P C E.gl fn args h v h
 s : ∀ fn args h v h', E.callS fn args h = some (v, h') → CallR P C E.gl fn args h v h'
 y : ∀ b args h v h', E.yld b args h = some (v, h') → YieldR P C E.gl b args h v h'
def MarkR (en : Nat) (g : G) (w : World) (d : Deferred) : Prop := ∃ D, d = { target := .collected D, args := #[] } ∧ en ≤ D ∧ g.Pr D ∧ ¬ g.S D ∧ w.heap[D]? = some (.deferred (some []))
theorem MarkR.ext {en : Nat} {g g' : G} {w w' : World} {d : Deferred} (h : MarkR en g w d) (he : Ext g w g' w') (hp : ∀ c, g.Pr c → c < w.heap.size) : MarkR en g' w' d := by
 obtain ⟨D, h1, h0, h2, h3, h4⟩ := h
 refine ⟨D, h1, h0, he.Pr D h2, fun hs => ?_, (he.pr D h2).trans h4⟩
 rcases he.Sn D hs with h | h
 ·exact h3 h
 ·exact h h2
structure SR (P : Program) (C : IC → Code → Prop) (gl : Nat → Option (List PV)) (en : Nat) (s : St) (g : G) (a : Act) (w : World) : Prop where
 c : Ctx P gl a s.f g s.h w
 d : ∀ d ∈ a.defers, MarkR en g w d
 nd : a.defers.Nodup
 sz : en ≤ w.heap.size
 cr : g.cr = C
section
variable {rd : Option Nat} {en : Nat} {P : Program} {C : IC → Code → Prop} {E : Env} {s s' : St} {g g' : G} {a : Act} {w w' : World}
theorem SR.put (h : SR P C E.gl en s g a w) (he : Ext g w g' w') {h' : List AB} (hr : HR g' h' w') {v : AV} {x : Value} (hv : VR g' w' v x) (d : Option Nat) :
  SR P C E.gl en ⟨putA s.f d v, h'⟩ g' (a.put d x) w' := by
 have hdf : (a.put d x).defers = a.defers := by cases d <;> rfl
 refine ⟨⟨GR_mono he h.c.hr.spr h.c.gr, hr, ?_⟩, ?_, by rw [hdf]; exact h.nd, Nat.le_trans h.sz he.size, he.cr.trans h.cr⟩
 ·have := VRs_mono he h.c.hr.spr _ _ h.c.fr
  cases d with
  | none => exact this
  | some d => simpa [putA, Act.put, Array.toList_setIfInBounds] using this.set hv
 ·rw [hdf]
  exact fun d hd => (h.d d hd).ext he h.c.hr.prs
theorem getT_rel (h : SR P C E.gl en s g a w) (t : Nat) : VR g w (getT s.f t) (a.tmps.getD t undef) := by
 have := h.c.opd (.tmp t)
 simpa [opd, Opd.ev, Act.eval] using this
theorem VR_bool {x : AV} {v : Value} (h : VR g w x v) : (∀ b, x = vb b → v = .bool b) ∧ (x ≠ .und → (∀ b, x ≠ vb b) → ∀ b, v ≠ .bool b) := by
 refine ⟨fun b e => val_of h e, ?_⟩
 intro h1 h2 b hb
 subst hb
 cases x with
 | p x =>
  cases x with
  | val u => simp only [VR, PR] at h; subst h; exact h2 b rfl
  | lst s r => simp only [VR, PR] at h; obtain ⟨A, c, h, _⟩ := h; cases h
  | lsx s r m => simp only [VR, PR] at h; obtain ⟨A, c, h, _⟩ := h; cases h
 | agg xs => simp only [VR] at h; obtain ⟨_, h, _⟩ := h; cases h
 | tup xs => simp only [VR] at h; obtain ⟨_, h, _⟩ := h; cases h
 | und => exact h1 rfl
 | ptr b o => simp only [VR] at h; cases h.2
 | ro xs => simp only [VR] at h; obtain ⟨_, _, h, _⟩ := h; cases h
 | rp b g s k o => simp only [VR] at h; obtain ⟨_, _, _, _, _, h⟩ := h; cases h
 | sl b g s o l =>
  simp only [VR] at h
  obtain ⟨_, _, h⟩ := h
  unfold SlR at h
  split at h
  ·cases h.1
  ·obtain ⟨_, _, A, h, _⟩ := h; cases h
 | mp b => simp only [VR] at h; cases h.2
 | yl b => simp only [VR] at h; cases h.2
 | anyp => simp only [VR] at h; obtain ⟨_, h⟩ := h; cases h
 | anye => simp only [VR] at h; obtain ⟨_, _, h⟩ := h; cases h
 | fn f c => simp only [VR] at h; obtain ⟨_, h, _⟩ := h; cases h
theorem wanted_rel (h : SR P C E.gl en s g a w) {ops : Array Oper} {o : Oper} {gd : Option (Nat × Bool)} {b : Bool} (hc : compGuard ops o.guard = some gd) (hw : wantedA s.f gd = some b) :
  Region.wanted o (yielded ops a.tmps) = b := by
 unfold Region.wanted
 unfold compGuard at hc
 cases hg : o.guard with
 | none =>
  simp only [hg, oiq] at hc
  subst hc
  simpa [wantedA] using hw
 | some jb =>
  obtain ⟨j, bb⟩ := jb
  simp only [hg] at hc
  cases ht : (ops[j]?).bind (·.dst) with
  | none => simp [ht] at hc
  | some t =>
   simp only [ht, oiq] at hc
   subst hc
   simp only [wantedA] at hw
   have hr := getT_rel h t
   have hlen := h.c.fr.len
   have hnot : getT s.f t ≠ .und → t < s.f.length := by
    intro hne
    rcases Nat.lt_or_ge t s.f.length with h1 | h1
    ·exact h1
    ·exact absurd (by simp [getT, List.getElem?_eq_none h1]) hne
   have hy : getT s.f t ≠ .und → yielded ops a.tmps j = (match a.tmps.getD t undef with | .bool b => some b | _ => none) := by
    intro hne
    have hlt : t < a.tmps.size := by have := hnot hne; rw [hlen] at this; simpa using this
    unfold yielded
    rw [ht]
    simp only [bsm, Array.getElem?_eq_getElem hlt]
    have : a.tmps.getD t undef = a.tmps[t] := by simp [Array.getD, hlt]
    rw [this]
    cases a.tmps[t] <;> rfl
   obtain ⟨k1, k2⟩ := VR_bool hr
   split at hw
   ·cases hw
   ·rename_i x e
    simp only [oiq] at hw
    subst hw
    simp only
    rw [hy (by rw [e]; simp), k1 x e]
    cases x <;> cases bb <;> rfl
   ·rename_i h1 h2
    simp only [oiq] at hw
    subst hw
    have hne := k2 (fun e => h1 e) (fun b e => h2 b e)
    simp only
    rw [hy (fun e => h1 e)]
    cases hv : a.tmps.getD t undef <;> first | (exact absurd hv (hne _)) | rfl
theorem run_resolve {c : Call} {fo : Operand} {fn : Nat} {caps : Array Value} {ty : TypeId} (hc : c.callee = .value fo) (hv : a.eval fo = .func (.func fn) #[] caps) :
  (resolve a.eval c ty).run P w = .ok { target := .fn (.func fn) caps, args := c.args.map a.eval } w := by
 simp [resolve, hc, hv, Deferred.ofValue]
theorem call_step (hs : SR P C E.gl en s g a w) {o : Oper} {c : Call} {fo : Operand} {fn : Nat} {caps : List AV} {v : AV} {h' : List AB} (ho : o.op = .call c) (hc : c.callee = .value fo)
  (hf : (opd fo).ev s.f E.gl = .fn fn caps) (hr : CallR P C E.gl fn (c.args.toList.map (fun x => (opd x).ev s.f E.gl) ++ caps) s.h v h')
  {K : Act → World → Prop} {Q : Exit → Act → World → Prop} (hK : ∀ x w' g', Ext g w g' w' → HR g' h' w' → VR g' w' v x → K (a.put o.dst x) w') : o.wpIn (FW rd) 0 P a w K Q := by
 obtain ⟨⟨fd, hfd, hbody, hname⟩, hcall⟩ := hr
 have hv := hs.c.opd fo
 rw [hf] at hv
 simp only [VR] at hv
 obtain ⟨cs, hv, hcs⟩ := hv
 have hargs : VRs g w (c.args.toList.map (fun x => (opd x).ev s.f E.gl) ++ caps) (c.args.toList.map a.eval ++ cs.toList) := (VRs_evs hs.c c.args.toList).append hcs
 have hC := hcall g w _ hs.cr hs.c.gr hs.c.hr hargs
 have hrun : (execOp a.eval o).run P w = .ok (.enter fn (c.args.toList.map a.eval ++ cs.toList).toArray) w := by
  simp only [execOp, ho, Sem.run_bind, run_resolve (ty := o.type) hc hv, Result.andThen_ok, invoke, callFunc, run_program, hfd, hname, fet, if_false, hbody, Sem.run_pure]
  congr 2
  apply Array.ext'
  simp
 refine ⟨fun _ _ => trivial, ?_⟩
 rw [Oper.semAt_eq _ _ _ (by rw [ho]; simp), hrun]
 rw [Oper.uponIn_enter]
 refine ⟨fun h => absurd h (by simp [FW, Fence.wide]), (calls_FW hC).mono ?_⟩
 rintro e w' ⟨x, g', rfl, h1, h2, h3⟩
 exact hK x w' g' h1 h2 h3
theorem yield_step (hs : SR P C E.gl en s g a w) {o : Oper} {c : Call} {fo : Operand} {b : Nat} {v : AV} {h' : List AB} (ho : o.op = .call c) (hc : c.callee = .value fo)
  (hf : (opd fo).ev s.f E.gl = .yl b) (hr : YieldR P C E.gl b (c.args.toList.map (fun x => (opd x).ev s.f E.gl)) s.h v h')
  {K : Act → World → Prop} {Q : Exit → Act → World → Prop} (hK : ∀ x w' g', Ext g w g' w' → HR g' h' w' → VR g' w' v x → K (a.put o.dst x) w') : o.wpIn (FW rd) 0 P a w K Q := by
 obtain ⟨st, pend, ps, f, ia, ib, hb, hlen, hround⟩ := hr
 have hv := hs.c.opd fo
 rw [hf] at hv
 simp only [VR] at hv
 obtain ⟨_, hv⟩ := hv
 have hbr := hs.c.hr.br b _ hb
 simp only [BR] at hbr
 obtain ⟨rec, hrec, hl⟩ := hbr
 have hargs := VRs_evs hs.c c.args.toList
 have hR := hround rd g w _ rec hs.cr hs.c.gr hs.c.hr hargs hrec
 have hsz : (c.args.map a.eval).size = rec.params.size := by
  have := hl.ps
  rw [← Array.length_toList, ← Array.length_toList (xs := rec.params), hl.ps, ← hlen]
  simp
 have hrun : (execOp a.eval o).run P w = .ok (.round (g.m b) rec.fn ((rec.params.zip (c.args.toList.map a.eval).toArray).foldl (fun tmps (t, a) => tmps.setIfInBounds t a) rec.tmps) rec.assign rec.body) w := by
  have hres : (resolve a.eval c o.type).run P w = .ok { target := .fn (.yield (g.m b)) #[], args := c.args.map a.eval } w := by simp [resolve, hc, hv, Deferred.ofValue]
  have he : (c.args.toList.map a.eval).toArray = c.args.map a.eval := by apply Array.ext'; simp
  simp only [execOp, ho, Sem.run_bind, hres, Result.andThen_ok, invoke]
  rw [he]
  simpa using run_yield (P := P) hrec hsz
 refine ⟨fun _ _ => trivial, ?_⟩
 rw [Oper.semAt_eq _ _ _ (by rw [ho]; simp), hrun, Oper.uponIn_round]
 refine ⟨fun h => absurd h (by simp [FW, Fence.wide]), hR.mono ?_⟩
 rintro e w' ⟨x, g', rfl, h1, h2, h3⟩
 exact hK x w' g' h1 h2 h3
theorem compOp_call {shf : Operand → Bool} {o : Oper} {sh : Bool} {fo : Opd} {args : List Opd} (h : compOp P shf o = some (.call sh fo args)) :
  ∃ c f', o.op = .call c ∧ c.callee = .value f' ∧ fo = opd f' ∧ args = c.args.toList.map opd := by
 unfold compOp at h
 cases hop : o.op <;> simp only [hop] at h
 case call c =>
  unfold compCall at h
  split at h
  ·rename_i f' hcal
   split at h
   ·exfalso
    unfold extI at h
    (repeat' split at h) <;> first | (cases h; done) | (simp at h; done)
   ·split at h
    ·simp at h
    ·simp only [oiq, Ins.call.injEq] at h
     exact ⟨c, f', rfl, hcal, h.2.1.symm, h.2.2.symm⟩
  all_goals (exfalso; (repeat' split at h) <;> first | (cases h; done) | (simp at h; done))
 case binOp op t x y yt =>
  exfalso
  unfold compBin at h
  (repeat' split at h) <;> first | (cases h; done) | (simp at h; done) | (unfold compEq at h; (repeat' split at h) <;> first | (cases h; done) | (simp at h; done))
 case convert s d x =>
  exfalso
  unfold compConv at h
  (repeat' split at h) <;> first | (cases h; done) | (simp at h; done)
 all_goals (exfalso; (repeat' split at h) <;> first | (cases h; done) | (simp at h; done) | contradiction)
theorem compOp_callX {shf : Operand → Bool} {o : Oper} {k : Nat} {fo : Opd} {args : List Opd} (h : compOp P shf o = some (.callX k fo args)) :
  ∃ c f', o.op = .call c ∧ c.callee = .value f' ∧ fo = opd f' ∧ args = c.args.toList.map opd := by
 unfold compOp at h
 cases hop : o.op <;> simp only [hop] at h
 case call c =>
  unfold compCall at h
  split at h
  ·rename_i f' hcal
   split at h
   ·exfalso
    unfold extI at h
    (repeat' split at h) <;> first | (cases h; done) | (simp at h; done)
   ·split at h
    ·simp only [oiq, Ins.callX.injEq] at h
     exact ⟨c, f', rfl, hcal, h.2.1.symm, h.2.2.symm⟩
    ·simp at h
  all_goals (exfalso; (repeat' split at h) <;> first | (cases h; done) | (simp at h; done))
 case binOp op t x y yt =>
  exfalso
  unfold compBin at h
  (repeat' split at h) <;> first | (cases h; done) | (simp at h; done) | (unfold compEq at h; (repeat' split at h) <;> first | (cases h; done) | (simp at h; done))
 case convert s d x =>
  exfalso
  unfold compConv at h
  (repeat' split at h) <;> first | (cases h; done) | (simp at h; done)
 all_goals (exfalso; (repeat' split at h) <;> first | (cases h; done) | (simp at h; done) | contradiction)
theorem callR_import {fn : Nat} {args : List AV} {h h0 : List AB} {v : AV} {gl : Nat → Option (List PV)} (hp : AV.pure.pures args = true) (hc : CallR P C gl fn args [] v h0) : CallR P C gl fn args h (v.ren (· + h.length)) (h ++ h0.map (AB.ren (· + h.length))) := by
 obtain ⟨hfd, hcall⟩ := hc
 refine ⟨hfd, ?_⟩
 intro g w vals hcr hgr hhr hvs
 have hr0 : HR { g with Pr := fun c => c < w.heap.size, N := 0, Ho := fun _ => False } [] w := ⟨rfl, by simp, by simp, by simp, fun c hc => hhr.prs c (hhr.spr c hc), fun c hc => hc, by simp⟩
 have hv0 := VRs_pure (g := g) (g' := { g with Pr := fun c => c < w.heap.size, N := 0, Ho := fun _ => False }) (fun c hc => hc) args vals hp hvs
 refine (hcall { g with Pr := fun c => c < w.heap.size, N := 0, Ho := fun _ => False } w vals hcr hgr hr0 hv0).mono ?_
 rintro e w1 ⟨x, g1, rfl, e1, r1, v1⟩
 obtain ⟨g2, k1, k2, k3⟩ := import_own hhr e1 r1
 exact ⟨x, g2, rfl, k1, k2, k3 v x v1⟩
theorem stepO_sound (hE : Sound P C E) (hs : SR P C E.gl en s g a w) {shf : Operand → Bool} {ops : Array Oper} {i : Nat} {o : Oper} {io : IOp} (ho : ops[i]? = some o) (hc : compOper P shf ops o = some io) (he : stepO E io s = some s')
  {K : Act → World → Prop} {Q : Exit → Act → World → Prop} (hK : ∀ a' w' g', Ext g w g' w' → SR P C E.gl en s' g' a' w' → K a' w') : wpOpIn (FW rd) 0 P ops Q i K a w := by
 unfold compOper at hc
 split at hc
 ·rename_i ins gd hins hgd
  simp only [oiq] at hc
  subst hc
  unfold wpOpIn
  rw [ho]
  simp only
  unfold stepO at he
  split at he
  ·cases he
  ·rename_i hw
   simp only [oiq] at he
   subst he
   rw [wanted_rel hs hgd hw]
   simp only [fet, if_false]
   exact ⟨fun _ _ => trivial, hK _ _ g (Ext.refl g w) (hs.put (Ext.refl g w) hs.c.hr VR_ud o.dst)⟩
  ·rename_i hw
   rw [wanted_rel hs hgd hw]
   simp only [if_true]
   cases hst : stepI E ins s with
   | none => simp [hst] at he
   | some r =>
    obtain ⟨v, h'⟩ := r
    simp only [hst, msm, oiq] at he
    subst he
    have hKK : ∀ x w' g', Ext g w g' w' → HR g' h' w' → VR g' w' v x → K (a.put o.dst x) w' := fun x w' g' h1 h2 h3 => hK _ _ g' h1 (hs.put h1 h2 h3 o.dst)
    unfold stepI at hst
    split at hst
    ·rename_i fo args
     obtain ⟨c, f', hop, hcal, rfl, rfl⟩ := compOp_call hins
     split at hst
     ·rename_i fn caps hfn
      cases hcp : E.callP fn ((c.args.toList.map opd).map (fun x => x.ev s.f E.gl) ++ caps) s.h with
      | none => rw [hcp] at hst; cases hst
      | some u =>
       simp only [hcp, msm, oiq, piq] at hst
       obtain ⟨rfl, rfl⟩ := hst
       rw [List.map_map] at hcp
       exact call_step hs hop hcal hfn (hE.p _ _ _ _ hcp) hKK
     ·cases hst
    ·rename_i fo args
     obtain ⟨c, f', hop, hcal, rfl, rfl⟩ := compOp_call hins
     split at hst
     ·rename_i fn caps hfn
      rw [List.map_map] at hst
      exact call_step hs hop hcal hfn (hE.s _ _ _ _ _ hst) hKK
     ·rename_i b hfn
      rw [List.map_map] at hst
      exact yield_step hs hop hcal hfn (hE.y _ _ _ _ _ hst) hKK
     ·cases hst
    ·rename_i k fo args
     obtain ⟨c, f', hop, hcal, rfl, rfl⟩ := compOp_callX hins
     simp only [evX] at hst
     split at hst
     ·rename_i fn caps hfn
      simp only [Option.map_map, mei, Function.comp, piq] at hst
      obtain ⟨p, hx, rfl, rfl⟩ := hst
      unfold xRes at hx
      split at hx
      ·rename_i hpure
       split at hx
       ·rename_i v0 h0 hcs
        split at hx
        ·simp only [oiq] at hx
         subst hx
         rw [List.map_map] at hcs hpure
         exact call_step hs hop hcal hfn (callR_import hpure (hE.s _ _ _ _ _ hcs)) hKK
        ·cases hx
       ·cases hx
      ·cases hx
     ·cases hst
    ·obtain ⟨x, w', g', hfin, h1, h2, h3⟩ := evI_sound hs.c hins hst
     refine ⟨fun _ _ => trivial, ?_⟩
     rw [Oper.semAt_eq _ _ _ (fun c hc => by simp only [compOp, hc] at hins; cases hins)]
     cases hrun : (execOp a.eval o).run P w with
     | halt x w => rw [hrun] at hfin; simp [fin] at hfin
     | ok nx w2 =>
      rw [hrun] at hfin
      cases nx <;> simp only [fin, oiq, piq] at hfin <;> try (cases hfin; done)
      ·obtain ⟨rfl, rfl⟩ := hfin
       exact hKK _ _ _ h1 h2 h3
      ·obtain ⟨rfl, rfl⟩ := hfin
       exact hKK _ _ _ h1 h2 h3
 ·cases hc
end
def Opd.uses : Opd → List Nat
 | .t n => [n]
 | _ => []
def usesO : Option Opd → List Nat
 | some x => x.uses
 | none => []
def Ins.uses : Ins → List Nat
 | .mv x => x.uses
 | .nilrow _ _ => []
 | .pick c a b => c.uses ++ a.uses ++ b.uses
 | .alloc _ _ => []
 | .box _ x => x.uses
 | .boxL x => x.uses
 | .build _ ps => ps.flatMap fun p => p.2.2.uses
 | .buildR _ ps => ps.flatMap fun p => p.2.2.uses
 | .buildS _ _ _ _ ps => ps.flatMap fun p => p.2.uses
 | .buildL _ _ _ ps => ps.flatMap fun p => p.2.uses
 | .load _ _ x => x.uses
 | .loadF _ _ _ x => x.uses
 | .store _ a v => a.uses ++ v.uses
 | .nilChk x => x.uses
 | .bin _ x y => x.uses ++ y.uses
 | .eqA _ _ _ x y => x.uses ++ y.uses
 | .eqN _ x => x.uses
 | .eqI _ x => x.uses
 | .eqS _ x => x.uses
 | .un _ x => x.uses
 | .convI _ x => x.uses
 | .convS x => x.uses
 | .convB x => x.uses
 | .mkB _ x => x.uses
 | .mkfn _ cs => cs.flatMap Opd.uses
 | .makeS _ _ _ _ l c => l.uses ++ c.uses
 | .sliceS x l h => x.uses ++ usesO l ++ usesO h
 | .slice _ x l h => x.uses ++ usesO l ++ usesO h
 | .sliceX _ x l h => x.uses ++ usesO l ++ usesO h
 | .fieldA _ x => x.uses
 | .field _ _ _ x => x.uses
 | .indexA _ _ x i => x.uses ++ i.uses
 | .indexS x i => x.uses ++ i.uses
 | .index _ _ _ x i => x.uses ++ i.uses
 | .extract x _ => x.uses
 | .len x => x.uses
 | .lenS x => x.uses
 | .append _ _ _ _ x y => x.uses ++ y.uses
 | .eqP _ x y => x.uses ++ y.uses
 | .cvU x => x.uses
 | .cvP _ x => x.uses
 | .ixb x y => x.uses ++ y.uses
 | .cnb x y => x.uses ++ y.uses
 | .capN x => x.uses
 | .mkNZ _ x => x.uses
 | .cpy0 x y => x.uses ++ y.uses
 | .clrS _ _ x => x.uses
 | .clrM x => x.uses
 | .slData x => x.uses
 | .uStr _ x n => x.uses ++ n.uses
 | .mkMap => []
 | .lkUp _ _ _ _ _ m k => m.uses ++ k.uses
 | .mapEn _ _ _ _ m k => m.uses ++ k.uses
 | .mapUp _ _ m k v => m.uses ++ k.uses ++ v.uses
 | .entSt m s v => m.uses ++ s.uses ++ v.uses
 | .appN _ _ _ x y => x.uses ++ y.uses
 | .appF _ _ _ x y => x.uses ++ y.uses
 | .min2 _ x y => x.uses ++ y.uses
 | .call _ f as => f.uses ++ as.flatMap Opd.uses
 | .callX _ f as => f.uses ++ as.flatMap Opd.uses
def IOp.uses (o : IOp) : List Nat := o.ins.uses ++ (match o.guard with | some (t, _) => [t] | none => [])
def Ins.cls : Ins → Nat
 | .load _ _ _ => 1
 | .loadF _ _ _ _ => 1
 | .slice _ _ _ _ => 1
 | .convB _ => 1
 | .cvU _ => 3
 | .clrS _ _ _ => 3
 | .clrM _ => 3
 | .cvP _ _ => 3
 | .slData _ => 1
 | .uStr _ _ _ => 3
 | .mkMap => 2
 | .lkUp _ _ _ _ _ _ _ => 3
 | .mapEn _ _ _ _ _ _ => 3
 | .mapUp _ _ _ _ _ => 3
 | .entSt _ _ _ => 3
 | .nilrow _ _ => 2
 | .alloc _ _ => 2
 | .box _ _ => 2
 | .buildS _ _ _ _ _ => 2
 | .mkB _ _ => 2
 | .mkNZ _ _ => 2
 | .appN _ _ _ _ _ => 2
 | .makeS _ _ _ _ _ _ => 2
 | .store _ _ _ => 3
 | .append _ _ _ _ _ _ => 3
 | .appF _ _ _ _ _ => 3
 | .call true _ _ => 3
 | .callX _ _ _ => 5
 | .buildR _ _ => 3
 | .call false _ _ => 4
 | _ => 0
def AV.lt (n : Nat) : AV → Prop
 | .ptr b _ => b < n
 | .rp b _ _ _ _ => b < n
 | .sl b _ _ _ _ => b < n
 | _ => True
theorem VR_lt {g : G} {w : World} {x : AV} {v : Value} (h : VR g w x v) : x.lt g.N := by
 cases x <;> simp only [AV.lt] <;> simp only [VR] at h
 ·exact h.1.1
 ·exact h.1.1
 ·exact h.1.1
def okC : Opd → Bool
 | .c (.p _) => true
 | .c (.fn _ _) => true
 | .c (.agg _) => true
 | .c _ => false
 | _ => true
def actO (E : Env) (o : IOp) (f : List AV) (h : List AB) : Option (AV × List AB) :=
 match wantedA f o.guard with
 | none => none
 | some false => some (ud, h)
 | some true => stepI E o.ins ⟨f, h⟩
theorem stepO_act {E : Env} {o : IOp} {s : St} : stepO E o s = (actO E o s.f s.h).map fun r => ⟨putA s.f o.dst r.1, r.2⟩ := by
 unfold stepO actO
 cases hw : wantedA s.f o.guard with
 | none => rfl
 | some b => cases b <;> rfl
section
variable {E : Env} {f f' : List AV} {gl : Nat → Option (List PV)}
theorem ev_congr {x : Opd} (h : ∀ t ∈ x.uses, getT f t = getT f' t) : x.ev f gl = x.ev f' gl := by
 cases x with
 | t n => exact h n (by simp [Opd.uses])
 | c a => rfl
 | g n => rfl
theorem idxO_congr {d : Nat} {x : Option Opd} (h : ∀ t ∈ usesO x, getT f t = getT f' t) : idxO f gl d x = idxO f' gl d x := by
 cases x with
 | none => rfl
 | some y => simp only [idxO]; rw [ev_congr h]
theorem fillA_congr : ∀ (ps : List (Nat × Nat × Opd)) (cs : List AV), (∀ t ∈ ps.flatMap (fun p => p.2.2.uses), getT f t = getT f' t) → fillA f gl cs ps = fillA f' gl cs ps
 | [], _, _ => rfl
 | (o, s, x) :: ps, cs, h => by
  simp only [List.flatMap_cons, List.mem_append] at h
  simp only [fillA, ev_congr (f := f) (f' := f') (x := x) (fun t ht => h t (.inl ht))]
  split
  ·split
   ·exact fillA_congr ps _ (fun t ht => h t (.inr ht))
   ·rfl
  ·rfl
theorem fillR_congr {size : Nat} : ∀ (ps : List (Nat × Opd)) (cs : List (List AV)), (∀ t ∈ ps.flatMap (fun p => p.2.uses), getT f t = getT f' t) → fillR f gl size cs ps = fillR f' gl size cs ps
 | [], _, _ => rfl
 | (i, x) :: ps, cs, h => by
  simp only [List.flatMap_cons, List.mem_append] at h
  simp only [fillR, ev_congr (f := f) (f' := f') (x := x) (fun t ht => h t (.inl ht))]
  split
  ·split
   ·exact fillR_congr ps _ (fun t ht => h t (.inr ht))
   ·rfl
  ·rfl
theorem map_congr' {cs : List Opd} (h : ∀ t ∈ cs.flatMap Opd.uses, getT f t = getT f' t) : cs.map (·.ev f gl) = cs.map (·.ev f' gl) := by
 induction cs with
 | nil => rfl
 | cons x xs ih =>
  simp only [List.flatMap_cons, List.mem_append] at h
  simp only [mcs, ev_congr (f := f) (f' := f') (x := x) (fun t ht => h t (.inl ht)), ih (fun t ht => h t (.inr ht))]
theorem evI_congr {i : Ins} {h : List AB} (hu : ∀ t ∈ i.uses, getT f t = getT f' t) : evI gl f h i = evI gl f' h i := by
 cases i <;> simp only [Ins.uses, List.mem_append] at hu
 case build => simp only [evI, fillA_congr _ _ hu]
 case buildR => simp only [evI, fillA_congr _ _ hu]
 case buildS => simp only [evI, fillR_congr _ _ hu]
 case buildL => simp only [evI, fillR_congr _ _ hu]
 case mkfn => simp only [evI, map_congr' hu]
 case call => rfl
 case nilrow => rfl
 case mkMap => rfl
 case lkUp _ _ _ _ _ m k => simp only [evI, ev_congr (f := f) (f' := f') (x := m) (fun t ht => hu t (.inl ht)), ev_congr (f := f) (f' := f') (x := k) (fun t ht => hu t (.inr ht))]
 case mapEn _ _ _ _ m k => simp only [evI, ev_congr (f := f) (f' := f') (x := m) (fun t ht => hu t (.inl ht)), ev_congr (f := f) (f' := f') (x := k) (fun t ht => hu t (.inr ht))]
 case mapUp _ _ m k v => simp only [evI, ev_congr (f := f) (f' := f') (x := m) (fun t ht => hu t (.inl (.inl ht))), ev_congr (f := f) (f' := f') (x := k) (fun t ht => hu t (.inl (.inr ht))), ev_congr (f := f) (f' := f') (x := v) (fun t ht => hu t (.inr ht))]
 case entSt m s v => simp only [evI, ev_congr (f := f) (f' := f') (x := m) (fun t ht => hu t (.inl (.inl ht))), ev_congr (f := f) (f' := f') (x := s) (fun t ht => hu t (.inl (.inr ht))), ev_congr (f := f) (f' := f') (x := v) (fun t ht => hu t (.inr ht))]
 case alloc => rfl
 case pick c a b => simp only [evI, ev_congr (f := f) (f' := f') (x := c) (fun t ht => hu t (.inl (.inl ht))), ev_congr (f := f) (f' := f') (x := a) (fun t ht => hu t (.inl (.inr ht))), ev_congr (f := f) (f' := f') (x := b) (fun t ht => hu t (.inr ht))]
 case sliceS x l r => simp only [evI, ev_congr (f := f) (f' := f') (x := x) (fun t ht => hu t (.inl (.inl ht))), idxO_congr (f := f) (f' := f') (x := l) (fun t ht => hu t (.inl (.inr ht))), idxO_congr (f := f) (f' := f') (x := r) (fun t ht => hu t (.inr ht))]
 case slice n x l r => simp only [evI, ev_congr (f := f) (f' := f') (x := x) (fun t ht => hu t (.inl (.inl ht))), idxO_congr (f := f) (f' := f') (x := l) (fun t ht => hu t (.inl (.inr ht))), idxO_congr (f := f) (f' := f') (x := r) (fun t ht => hu t (.inr ht))]
 case sliceX n x l r => simp only [evI, ev_congr (f := f) (f' := f') (x := x) (fun t ht => hu t (.inl (.inl ht))), idxO_congr (f := f) (f' := f') (x := l) (fun t ht => hu t (.inl (.inr ht))), idxO_congr (f := f) (f' := f') (x := r) (fun t ht => hu t (.inr ht))]
 case indexA n s x y => cases n <;> simp only [evI, ev_congr (f := f) (f' := f') (x := x) (fun t ht => hu t (.inl ht)), ev_congr (f := f) (f' := f') (x := y) (fun t ht => hu t (.inr ht))]
 case mv x => simp only [evI, ev_congr (f := f) (f' := f') (x := x) hu]
 case box _ x => simp only [evI, ev_congr (f := f) (f' := f') (x := x) hu]
 case boxL x => simp only [evI, ev_congr (f := f) (f' := f') (x := x) hu]
 case callX => rfl
 case load b n x => simp only [evI, ev_congr (f := f) (f' := f') (x := x) hu]
 case loadF d b n x => simp only [evI, ev_congr (f := f) (f' := f') (x := x) hu]
 case appF t size bytes x y => simp only [evI, ev_congr (f := f) (f' := f') (x := x) (fun t ht => hu t (by simp [Ins.uses, ht])), ev_congr (f := f) (f' := f') (x := y) (fun t ht => hu t (by simp [Ins.uses, ht]))]
 case nilChk x => simp only [evI, ev_congr (f := f) (f' := f') (x := x) hu]
 case eqN b x => simp only [evI, ev_congr (f := f) (f' := f') (x := x) hu]
 case eqI b x => simp only [evI, ev_congr (f := f) (f' := f') (x := x) hu]
 case eqS b x => simp only [evI, ev_congr (f := f) (f' := f') (x := x) hu]
 case un b x => simp only [evI, ev_congr (f := f) (f' := f') (x := x) hu]
 case convI b x => simp only [evI, ev_congr (f := f) (f' := f') (x := x) hu]
 case cvU x => simp only [evI, ev_congr (f := f) (f' := f') (x := x) hu]
 case cvP n x => simp only [evI, ev_congr (f := f) (f' := f') (x := x) hu]
 case slData x => simp only [evI, ev_congr (f := f) (f' := f') (x := x) hu]
 case eqP n x y => simp only [evI, ev_congr (f := f) (f' := f') (x := x) (fun t ht => hu t (.inl ht)), ev_congr (f := f) (f' := f') (x := y) (fun t ht => hu t (.inr ht))]
 case ixb x y => simp only [evI, ev_congr (f := f) (f' := f') (x := x) (fun t ht => hu t (.inl ht)), ev_congr (f := f) (f' := f') (x := y) (fun t ht => hu t (.inr ht))]
 case cnb x y => simp only [evI, ev_congr (f := f) (f' := f') (x := x) (fun t ht => hu t (.inl ht)), ev_congr (f := f) (f' := f') (x := y) (fun t ht => hu t (.inr ht))]
 case cpy0 x y => simp only [evI, ev_congr (f := f) (f' := f') (x := x) (fun t ht => hu t (.inl ht)), ev_congr (f := f) (f' := f') (x := y) (fun t ht => hu t (.inr ht))]
 case clrS s z x => simp only [evI, ev_congr (f := f) (f' := f') (x := x) hu]
 case clrM x => simp only [evI, ev_congr (f := f) (f' := f') (x := x) hu]
 case capN x => simp only [evI, ev_congr (f := f) (f' := f') (x := x) hu]
 case appN t size bytes x y => simp only [evI, ev_congr (f := f) (f' := f') (x := x) (fun t ht => hu t (by simp [Ins.uses, ht])), ev_congr (f := f) (f' := f') (x := y) (fun t ht => hu t (by simp [Ins.uses, ht]))]
 case mkNZ x => simp only [evI, ev_congr (f := f) (f' := f') (x := x) hu]
 case uStr n x y => simp only [evI, ev_congr (f := f) (f' := f') (x := x) (fun t ht => hu t (.inl ht)), ev_congr (f := f) (f' := f') (x := y) (fun t ht => hu t (.inr ht))]
 case convS x => simp only [evI, ev_congr (f := f) (f' := f') (x := x) hu]
 case convB x => simp only [evI, ev_congr (f := f) (f' := f') (x := x) hu]
 case mkB x => simp only [evI, ev_congr (f := f) (f' := f') (x := x) hu]
 case fieldA n x => simp only [evI, ev_congr (f := f) (f' := f') (x := x) hu]
 case field a n m x => simp only [evI, ev_congr (f := f) (f' := f') (x := x) hu]
 case extract x n => simp only [evI, ev_congr (f := f) (f' := f') (x := x) hu]
 case len x => simp only [evI, ev_congr (f := f) (f' := f') (x := x) hu]
 case lenS x => simp only [evI, ev_congr (f := f) (f' := f') (x := x) hu]
 case store n x y => simp only [evI, ev_congr (f := f) (f' := f') (x := x) (fun t ht => hu t (.inl ht)), ev_congr (f := f) (f' := f') (x := y) (fun t ht => hu t (.inr ht))]
 case bin n x y => simp only [evI, ev_congr (f := f) (f' := f') (x := x) (fun t ht => hu t (.inl ht)), ev_congr (f := f) (f' := f') (x := y) (fun t ht => hu t (.inr ht))]
 case eqA a b n x y => simp only [evI, ev_congr (f := f) (f' := f') (x := x) (fun t ht => hu t (.inl ht)), ev_congr (f := f) (f' := f') (x := y) (fun t ht => hu t (.inr ht))]
 case makeS a b n x y => simp only [evI, ev_congr (f := f) (f' := f') (x := x) (fun t ht => hu t (.inl ht)), ev_congr (f := f) (f' := f') (x := y) (fun t ht => hu t (.inr ht))]
 case indexS x y => simp only [evI, ev_congr (f := f) (f' := f') (x := x) (fun t ht => hu t (.inl ht)), ev_congr (f := f) (f' := f') (x := y) (fun t ht => hu t (.inr ht))]
 case index a b n x y => simp only [evI, ev_congr (f := f) (f' := f') (x := x) (fun t ht => hu t (.inl ht)), ev_congr (f := f) (f' := f') (x := y) (fun t ht => hu t (.inr ht))]
 case append a b n x y => simp only [evI, ev_congr (f := f) (f' := f') (x := x) (fun t ht => hu t (.inl ht)), ev_congr (f := f) (f' := f') (x := y) (fun t ht => hu t (.inr ht))]
 case min2 n x y => simp only [evI, ev_congr (f := f) (f' := f') (x := x) (fun t ht => hu t (.inl ht)), ev_congr (f := f) (f' := f') (x := y) (fun t ht => hu t (.inr ht))]
theorem stepI_ev {E : Env} {i : Ins} {s : St} (hc : (∀ sh fo as, i ≠ .call sh fo as) ∧ ∀ k fo as, i ≠ .callX k fo as) : stepI E i s = evI E.gl s.f s.h i := by
 cases i <;> first | rfl | (exfalso; exact hc.1 _ _ _ rfl) | (exfalso; exact hc.2 _ _ _ rfl)
theorem actO_congr {E : Env} {o : IOp} {h : List AB} (hu : ∀ t ∈ o.uses, getT f t = getT f' t) : actO E o f h = actO E o f' h := by
 have hi : ∀ t ∈ o.ins.uses, getT f t = getT f' t := fun t ht => hu t (by simp [IOp.uses, ht])
 have hw : wantedA f o.guard = wantedA f' o.guard := by
  cases hg : o.guard with
  | none => rfl
  | some p => obtain ⟨t, b⟩ := p; simp only [wantedA]; rw [hu t (by simp [IOp.uses, hg])]
 have hs : stepI E o.ins ⟨f, h⟩ = stepI E o.ins ⟨f', h⟩ := by
  cases hins : o.ins with
  | call sh fo as =>
   rw [hins] at hi
   simp only [Ins.uses, List.mem_append] at hi
   have e1 := ev_congr (gl := E.gl) (f := f) (f' := f') (x := fo) (fun t ht => hi t (.inl ht))
   have e2 := map_congr' (gl := E.gl) (f := f) (f' := f') (cs := as) (fun t ht => hi t (.inr ht))
   cases sh <;> simp only [stepI, e1, e2]
  | callX k fo as =>
   rw [hins] at hi
   simp only [Ins.uses, List.mem_append] at hi
   have e1 := ev_congr (gl := E.gl) (f := f) (f' := f') (x := fo) (fun t ht => hi t (.inl ht))
   have e2 := map_congr' (gl := E.gl) (f := f) (f' := f') (cs := as) (fun t ht => hi t (.inr ht))
   simp only [stepI, evX, e1, e2]
  | _ => rw [← hins, stepI_ev (by rw [hins]; intros; simp), stepI_ev (by rw [hins]; intros; simp)]; exact evI_congr hi
 unfold actO
 rw [hw, hs]
theorem ev0 {i : Ins} {h h' : List AB} {v : AV} (hc : i.cls = 0) (he : evI gl f h i = some (v, h')) : h' = h ∧ ∀ h2, evI gl f h2 i = some (v, h2) := by
 cases i <;> simp only [Ins.cls] at hc <;> try (exfalso; revert hc; decide)
 case call sh a b => cases sh <;> simp at hc
 case indexA n s x y =>
  cases n <;> simp only [evI] at he ⊢
  ·cases hi : idx (y.ev f gl) with
   | none => simp [hi] at he
   | some k =>
    simp only [hi, bsm] at he ⊢
    split at he
    ·split at he
     ·rename_i hk
      simp only [oiq, piq] at he
      obtain ⟨rfl, rfl⟩ := he
      exact ⟨rfl, fun h2 => by simp only [if_pos hk]⟩
     ·cases he
    ·split at he
     ·rename_i hk
      cases hr : (‹List (List PV)›)[k.toNat]? with
      | none => simp [hr] at he
      | some r =>
       simp only [hr, msm, oiq, piq] at he
       obtain ⟨rfl, rfl⟩ := he
       exact ⟨rfl, fun h2 => by simp only [if_pos hk, msm]⟩
     ·cases he
    ·cases he
  ·cases hi : idx (y.ev f gl) with
   | none => simp [hi] at he
   | some k =>
    simp only [hi, bsm] at he ⊢
    split at he
    ·rename_i hk
     cases hp : ptrAdd (k.toNat * s) (x.ev f gl) with
     | none => simp [hp] at he
     | some u =>
      simp only [hp, msm, oiq, piq] at he
      obtain ⟨rfl, rfl⟩ := he
      exact ⟨rfl, fun h2 => by simp only [if_pos hk, msm]⟩
    ·cases he
 case min2 mx x y =>
  simp only [evI] at he ⊢
  split at he
  ·simp only [oiq, piq] at he
   obtain ⟨rfl, rfl⟩ := he
   exact ⟨rfl, fun _ => rfl⟩
  ·cases he
 case index agg n size x i =>
  simp only [evI] at he ⊢
  split at he
  ·cases hi : idx (i.ev f gl) with
   | none => simp [hi] at he
   | some k =>
    simp only [hi, bsm] at he ⊢
    split at he
    ·rename_i xs _ hk
     cases hs : sub xs (k.toNat * size) size with
     | none => simp [hs] at he
     | some cs =>
      simp only [hs, bsm] at he ⊢
      cases ho : oneOr agg cs with
      | none => simp [ho] at he
      | some u =>
       simp only [ho, msm, oiq, piq] at he
       obtain ⟨rfl, rfl⟩ := he
       exact ⟨rfl, fun h2 => by simp only [if_pos hk, bsm, hs, ho, msm]⟩
    ·cases he
  ·cases he
 all_goals (simp only [evI] at he ⊢; (repeat' split at he) <;> first | (simp_all; done) | (simp only [mei, bei, piq] at he ⊢; grind))
theorem lt_get {h e : List AB} {b : Nat} (hb : b < h.length) : (h ++ e)[b]? = h[b]? := gal hb
theorem get_mono {h e : List AB} {b : Nat} {x : AB} (hb : h[b]? = some x) : (h ++ e)[b]? = some x := by
 rw [gal (gei.1 hb).1]; exact hb
theorem loadA_mono {h e : List AB} {n : Nat} {x : AV} {cs : List AV} (hl : loadA h n x = some cs) : loadA (h ++ e) n x = some cs := by
 unfold loadA at hl ⊢
 split at hl
 ·split at hl
  ·rename_i hb; simp only [get_mono hb]; exact hl
  ·cases hl
 ·exact hl
 ·split at hl
  ·rename_i hb; simp only [get_mono hb]; exact hl
  ·rename_i hb; simp only [get_mono hb]; exact hl
  ·cases hl
 ·cases hl
theorem loadA_shrink {h e : List AB} {n : Nat} {x : AV} (hx : x.lt h.length) : loadA (h ++ e) n x = loadA h n x := by
 cases x <;> first | rfl | (simp only [AV.lt] at hx; simp only [loadA, lt_get hx])
theorem rowsOf_mono {h e : List AB} {n : Nat} {x : AV} {cs : List (List AV)} (hl : rowsOf h n x = some cs) : rowsOf (h ++ e) n x = some cs := by
 unfold rowsOf at hl ⊢
 split at hl
 ·split at hl
  ·rename_i hs
   split at hl
   ·rename_i hb; simp only [if_pos hs, get_mono hb]; exact hl
   ·rename_i hb; simp only [if_pos hs, get_mono hb]; exact hl
   ·cases hl
  ·cases hl
 all_goals exact hl
theorem rowsOf_shrink {h e : List AB} {n : Nat} {x : AV} (hx : x.lt h.length) : rowsOf (h ++ e) n x = rowsOf h n x := by
 unfold rowsOf
 split
 ·simp only [AV.lt] at hx
  rw [lt_get hx]
 all_goals rfl
theorem ev1_same {i : Ins} {h h' : List AB} {v : AV} (hc : i.cls = 1) (he : evI gl f h i = some (v, h')) : h' = h := by
 cases i <;> simp only [Ins.cls] at hc <;> try (exfalso; revert hc; decide)
 case call sh a b => cases sh <;> simp at hc
 case load => simp only [evI, bei, mei, piq] at he; obtain ⟨_, _, _, _, _, rfl⟩ := he; rfl
 case loadF d => simp only [evI, bei, mei, piq] at he; obtain ⟨_, _, _, _, _, rfl⟩ := he; rfl
 case convB =>
  simp only [evI] at he
  split at he
  ·cases he
  ·simp only [bei, mei, piq] at he; obtain ⟨_, _, _, _, _, rfl⟩ := he; rfl
 case slData =>
  simp only [evI] at he
  split at he
  ·split at he
   ·split at he
    ·simp only [oiq, piq] at he
     exact he.2.symm
    ·cases he
   ·cases he
  ·cases he
 case slice n x lo hi =>
  simp only [evI] at he
  split at he
  ·split at he
   ·simp only [bei] at he
    obtain ⟨l, h1, r, h2, he⟩ := he
    split at he
    ·split at he
     ·simp only [oiq, piq] at he
      exact he.2.symm
     ·cases he
    ·cases he
   ·cases he
  ·split at he
   ·simp only [bei] at he
    obtain ⟨l, h1, r, h2, he⟩ := he
    split at he
    ·simp only [oiq, piq] at he
     exact he.2.symm
    ·cases he
   ·cases he
  ·simp only [bei] at he
   obtain ⟨l, h1, r, h2, he⟩ := he
   split at he
   ·simp only [oiq, piq] at he
    exact he.2.symm
   ·cases he
  ·cases he
theorem ev1_mono {i : Ins} {h h' e : List AB} {v : AV} (hc : i.cls = 1) (he : evI gl f h i = some (v, h')) : evI gl f (h ++ e) i = some (v, h ++ e) := by
 cases i <;> simp only [Ins.cls] at hc <;> try (exfalso; revert hc; decide)
 case call sh a b => cases sh <;> simp at hc
 case load b n x =>
  simp only [evI, bei, mei, piq] at he ⊢
  obtain ⟨cs, h1, u, h2, rfl, rfl⟩ := he
  exact ⟨cs, loadA_mono h1, u, h2, rfl, trivial⟩
 case loadF d b n x =>
  simp only [evI, bei, mei, piq] at he ⊢
  obtain ⟨cs, h1, u, h2, rfl, rfl⟩ := he
  exact ⟨cs, loadA_mono h1, u, h2, rfl, trivial⟩
 case convB x =>
  simp only [evI] at he ⊢
  split at he
  ·cases he
  ·simp only [bei, mei, piq] at he ⊢
   obtain ⟨rows, h1, l, h2, rfl, rfl⟩ := he
   exact ⟨rows, rowsOf_mono h1, l, h2, rfl, trivial⟩
 case slData x =>
  simp only [evI] at he ⊢
  split at he
  ·split at he
   ·rename_i hb
    split at he
    ·rename_i hcnd
     simp only [oiq, piq] at he
     obtain ⟨rfl, rfl⟩ := he
     simp only [get_mono hb, if_pos hcnd]
    ·cases he
   ·cases he
  ·cases he
 case slice n x lo hi =>
  simp only [evI] at he ⊢
  split at he
  ·split at he
   ·rename_i hs
    simp only [bei] at he
    obtain ⟨l, h1, r, h2, he⟩ := he
    split at he
    ·rename_i hb
     split at he
     ·rename_i hcnd
      simp only [oiq, piq] at he
      obtain ⟨rfl, rfl⟩ := he
      simp only [if_pos hs, h1, h2, bsm, get_mono hb, if_pos hcnd]
     ·cases he
    ·cases he
   ·cases he
  ·split at he
   ·rename_i hs
    simp only [bei] at he
    obtain ⟨l, h1, r, h2, he⟩ := he
    split at he
    ·rename_i hcnd
     simp only [oiq, piq] at he
     obtain ⟨rfl, rfl⟩ := he
     simp only [if_pos hs, h1, h2, bsm, if_pos hcnd]
    ·cases he
   ·cases he
  ·simp only [bei] at he
   obtain ⟨l, h1, r, h2, he⟩ := he
   split at he
   ·rename_i hcnd
    simp only [oiq, piq] at he
    obtain ⟨rfl, rfl⟩ := he
    simp only [h1, h2, bsm, if_pos hcnd]
   ·cases he
  ·cases he
def Ins.src (f : List AV) (gl : Nat → Option (List PV)) : Ins → AV
 | .load _ _ x => x.ev f gl
 | .loadF _ _ _ x => x.ev f gl
 | .slice _ x _ _ => x.ev f gl
 | .convB x => x.ev f gl
 | .slData x => x.ev f gl
 | _ => .und
theorem ev1_shrink {i : Ins} {h h' e : List AB} {v : AV} (hc : i.cls = 1) (hs : (i.src f gl).lt h.length) (he : evI gl f (h ++ e) i = some (v, h')) : evI gl f h i = some (v, h) := by
 cases i <;> simp only [Ins.cls] at hc <;> try (exfalso; revert hc; decide)
 case call sh a b => cases sh <;> simp at hc
 case load b n x =>
  simp only [Ins.src] at hs
  simp only [evI, bei, mei, piq] at he ⊢
  obtain ⟨cs, h1, u, h2, rfl, rfl⟩ := he
  rw [loadA_shrink hs] at h1
  exact ⟨cs, h1, u, h2, rfl, trivial⟩
 case loadF d b n x =>
  simp only [Ins.src] at hs
  simp only [evI, bei, mei, piq] at he ⊢
  obtain ⟨cs, h1, u, h2, rfl, rfl⟩ := he
  rw [loadA_shrink hs] at h1
  exact ⟨cs, h1, u, h2, rfl, trivial⟩
 case convB x =>
  simp only [Ins.src] at hs
  simp only [evI] at he ⊢
  split at he
  ·cases he
  ·simp only [bei, mei, piq] at he ⊢
   obtain ⟨rows, h1, l, h2, rfl, rfl⟩ := he
   rw [rowsOf_shrink hs] at h1
   exact ⟨rows, h1, l, h2, rfl, trivial⟩
 case slData x =>
  simp only [Ins.src] at hs
  simp only [evI] at he ⊢
  split at he
  ·rename_i e0
   rw [e0] at hs
   simp only [AV.lt] at hs
   rw [lt_get hs] at he
   split at he
   ·rename_i hb
    split at he
    ·rename_i hcnd
     simp only [oiq, piq] at he
     obtain ⟨rfl, rfl⟩ := he
     simp only [hb, if_pos hcnd]
    ·cases he
   ·cases he
  ·cases he
 case slice n x lo hi =>
  simp only [Ins.src] at hs
  simp only [evI] at he ⊢
  split at he
  ·rename_i e0
   rw [e0] at hs
   simp only [AV.lt] at hs
   split at he
   ·rename_i hss
    simp only [bei] at he
    obtain ⟨l, h1, r, h2, he⟩ := he
    rw [lt_get hs] at he
    split at he
    ·rename_i hb
     split at he
     ·rename_i hcnd
      simp only [oiq, piq] at he
      obtain ⟨rfl, rfl⟩ := he
      simp only [if_pos hss, h1, h2, bsm, hb, if_pos hcnd]
     ·cases he
    ·cases he
   ·cases he
  ·split at he
   ·rename_i hs
    simp only [bei] at he
    obtain ⟨l, h1, r, h2, he⟩ := he
    split at he
    ·rename_i hcnd
     simp only [oiq, piq] at he
     obtain ⟨rfl, rfl⟩ := he
     simp only [if_pos hs, h1, h2, bsm, if_pos hcnd]
    ·cases he
   ·cases he
  ·simp only [bei] at he
   obtain ⟨l, h1, r, h2, he⟩ := he
   split at he
   ·rename_i hcnd
    simp only [oiq, piq] at he
    obtain ⟨rfl, rfl⟩ := he
    simp only [h1, h2, bsm, if_pos hcnd]
   ·cases he
  ·cases he
theorem ev2_ext {i : Ins} {h h' : List AB} {v : AV} (hc : i.cls = 2) (he : evI gl f h i = some (v, h')) : ∃ e, h' = h ++ e := by
 cases i <;> simp only [Ins.cls] at hc <;> try (exfalso; revert hc; decide)
 case call sh a b => cases sh <;> simp at hc
 case nilrow => simp only [evI, oiq, piq] at he; exact ⟨_, he.2.symm⟩
 case mkMap => simp only [evI, oiq, piq] at he; exact ⟨_, he.2.symm⟩
 case alloc => simp only [evI, oiq, piq] at he; exact ⟨_, by rw [← he.2, List.append_assoc]⟩
 case box => simp only [evI, mei, piq] at he; obtain ⟨_, _, _, rfl⟩ := he; exact ⟨_, rfl⟩
 case buildS => simp only [evI, mei, piq] at he; obtain ⟨_, _, _, rfl⟩ := he; exact ⟨_, rfl⟩
 case mkB =>
  simp only [evI] at he
  split at he
  ·split at he
   ·simp only [oiq, piq] at he
    exact ⟨_, he.2.symm⟩
   ·cases he
  ·cases he
 case appN =>
  simp only [evI] at he
  split at he
  ·simp only [bei] at he
   obtain ⟨_, _, he⟩ := he
   split at he
   ·simp only [oiq, piq] at he
    exact ⟨_, he.2.symm⟩
   ·cases he
  ·cases he
 case mkNZ =>
  simp only [evI] at he
  split at he
  ·split at he
   ·simp only [oiq, piq] at he
    exact ⟨_, he.2.symm⟩
   ·cases he
  ·cases he
 case makeS =>
  simp only [evI, bei] at he
  obtain ⟨_, _, _, _, he⟩ := he
  split at he
  ·simp only [oiq, piq] at he; exact ⟨_, he.2.symm⟩
  ·cases he
end
def indepB (x y : IOp) : Bool :=
 (match x.dst with | some d => !y.uses.contains d && y.dst != some d | none => true) &&
 (match y.dst with | some d => !x.uses.contains d | none => true) &&
 (x.ins.cls == 0 || y.ins.cls == 0 || ((x.ins.cls == 1 || x.ins.cls == 4) && (y.ins.cls == 1 || y.ins.cls == 4)) || (x.ins.cls == 1 && y.ins.cls == 2) || (x.ins.cls == 2 && y.ins.cls == 1))
theorem getT_put {f : List AV} {d : Option Nat} {v : AV} {t : Nat} (h : d ≠ some t) : getT (putA f d v) t = getT f t := by
 cases d with
 | none => rfl
 | some d =>
  simp only [putA, getT, List.getElem?_set]
  rw [if_neg (fun e => h (by rw [e]))]
theorem putA_comm {f : List AV} {c d : Option Nat} {u v : AV} (h : ∀ t, c = some t → d ≠ some t) : putA (putA f c u) d v = putA (putA f d v) c u := by
 cases c with
 | none => rfl
 | some c =>
  cases d with
  | none => rfl
  | some d =>
   simp only [putA]
   exact List.set_comm _ _ (fun e => h c rfl (by rw [e]))
theorem commute {E : Env} {x y : IOp} {s s1 s2 : St} (hi : indepB x y = true) (hcl : (y.ins.src s.f E.gl).lt s.h.length) (hx : stepO E x s = some s1) (hy : stepO E y s1 = some s2) :
  ∃ s1', stepO E y s = some s1' ∧ stepO E x s1' = some s2 := by
 rw [stepO_act, mei] at hx hy
 obtain ⟨⟨vx, h1⟩, hax, rfl⟩ := hx
 obtain ⟨⟨vy, h2⟩, hay, rfl⟩ := hy
 simp only at hay ⊢
 unfold indepB at hi
 simp only [aet] at hi
 obtain ⟨⟨hi1, hi2⟩, hi3⟩ := hi
 have hyx : ∀ t ∈ y.uses, x.dst ≠ some t := by
  intro t ht e
  rw [e] at hi1
  simp only [aet, Bool.not_eq_true', List.contains_eq_mem, decide_eq_false_iff_not] at hi1
  exact hi1.1 ht
 have hxy : ∀ t ∈ x.uses, y.dst ≠ some t := by
  intro t ht e
  rw [e] at hi2
  simp only [Bool.not_eq_true', List.contains_eq_mem, decide_eq_false_iff_not] at hi2
  exact hi2 ht
 have hdd : ∀ t, x.dst = some t → y.dst ≠ some t := by
  intro t e
  rw [e] at hi1
  simp only [aet, bne_iff_ne] at hi1
  exact hi1.2
 have hay' : actO E y s.f h1 = some (vy, h2) := by
  rw [← hay]
  exact actO_congr (fun t ht => (getT_put (hyx t ht)).symm)
 have hax' : ∀ h, actO E x (putA s.f y.dst vy) h = actO E x s.f h := fun h => actO_congr (fun t ht => getT_put (hxy t ht))
 have fin : ∀ hm, actO E y s.f s.h = some (vy, hm) → actO E x s.f hm = some (vx, h2) → ∃ s1', stepO E y s = some s1' ∧ stepO E x s1' = some ⟨putA (putA s.f x.dst vx) y.dst vy, h2⟩ := by
  intro hm k1 k2
  refine ⟨⟨putA s.f y.dst vy, hm⟩, by rw [stepO_act, k1]; rfl, ?_⟩
  rw [stepO_act]
  simp only
  rw [hax', k2]
  simp only [msm]
  rw [putA_comm hdd]
 have P0 : ∀ (o : IOp) (h h' : List AB) (v : AV), o.ins.cls = 0 → actO E o s.f h = some (v, h') → h' = h ∧ ∀ h2, actO E o s.f h2 = some (v, h2) := by
  intro o h h' v hc ha
  unfold actO at ha ⊢
  split at ha
  ·cases ha
  ·simp only [oiq, piq] at ha
   obtain ⟨rfl, rfl⟩ := ha
   exact ⟨rfl, fun _ => rfl⟩
  ·have hn : (∀ sh fo as, o.ins ≠ .call sh fo as) ∧ ∀ k fo as, o.ins ≠ .callX k fo as := ⟨by intro sh fo as e; rw [e] at hc; cases sh <;> simp [Ins.cls] at hc, by intro k fo as e; rw [e] at hc; simp [Ins.cls] at hc⟩
   rw [stepI_ev hn] at ha
   obtain ⟨k1, k2⟩ := ev0 hc ha
   exact ⟨k1, fun h2 => by rw [stepI_ev hn]; exact k2 h2⟩
 have S1 : ∀ (o : IOp) (h h' : List AB) (v : AV), (o.ins.cls = 1 ∨ o.ins.cls = 4) → actO E o s.f h = some (v, h') → h' = h := by
  intro o h h' v hc ha
  unfold actO at ha
  split at ha
  ·cases ha
  ·simp only [oiq, piq] at ha; exact ha.2.symm
  ·rcases hc with hc | hc
   ·have hn : (∀ sh fo as, o.ins ≠ .call sh fo as) ∧ ∀ k fo as, o.ins ≠ .callX k fo as := ⟨by intro sh fo as e; rw [e] at hc; cases sh <;> simp [Ins.cls] at hc, by intro k fo as e; rw [e] at hc; simp [Ins.cls] at hc⟩
    rw [stepI_ev hn] at ha
    exact ev1_same hc ha
   ·cases hins : o.ins with
    | call sh fo as =>
     rw [hins] at ha hc
     cases sh with
     | true => simp [Ins.cls] at hc
     | false =>
      simp only [stepI] at ha
      split at ha
      ·simp only [mei, piq] at ha
       obtain ⟨_, _, _, rfl⟩ := ha
       rfl
      ·cases ha
    | _ => rw [hins] at hc; simp [Ins.cls] at hc
 have M1 : ∀ (o : IOp) (h h' e : List AB) (v : AV), o.ins.cls = 1 → actO E o s.f h = some (v, h') → actO E o s.f (h ++ e) = some (v, h ++ e) := by
  intro o h h' e v hc ha
  unfold actO at ha ⊢
  split at ha
  ·cases ha
  ·simp only [oiq, piq] at ha
   obtain ⟨rfl, rfl⟩ := ha
   rfl
  ·have hn : (∀ sh fo as, o.ins ≠ .call sh fo as) ∧ ∀ k fo as, o.ins ≠ .callX k fo as := ⟨by intro sh fo as e; rw [e] at hc; cases sh <;> simp [Ins.cls] at hc, by intro k fo as e; rw [e] at hc; simp [Ins.cls] at hc⟩
   rw [stepI_ev hn] at ha
   rw [stepI_ev hn]
   exact ev1_mono hc ha
 have K1 : ∀ (h h' e : List AB) (v : AV), y.ins.cls = 1 → (y.ins.src s.f E.gl).lt h.length → actO E y s.f (h ++ e) = some (v, h') → actO E y s.f h = some (v, h) := by
  intro h h' e v hc hl ha
  unfold actO at ha ⊢
  split at ha
  ·cases ha
  ·simp only [oiq, piq] at ha
   obtain ⟨rfl, rfl⟩ := ha
   rfl
  ·have hn : (∀ sh fo as, y.ins ≠ .call sh fo as) ∧ ∀ k fo as, y.ins ≠ .callX k fo as := ⟨by intro sh fo as e; rw [e] at hc; cases sh <;> simp [Ins.cls] at hc, by intro k fo as e; rw [e] at hc; simp [Ins.cls] at hc⟩
   rw [stepI_ev hn] at ha
   rw [stepI_ev hn]
   exact ev1_shrink hc hl ha
 have A2 : ∀ (o : IOp) (h h' : List AB) (v : AV), o.ins.cls = 2 → actO E o s.f h = some (v, h') → ∃ e, h' = h ++ e := by
  intro o h h' v hc ha
  unfold actO at ha
  split at ha
  ·cases ha
  ·simp only [oiq, piq] at ha; exact ⟨[], by rw [← ha.2]; simp⟩
  ·have hn : (∀ sh fo as, o.ins ≠ .call sh fo as) ∧ ∀ k fo as, o.ins ≠ .callX k fo as := ⟨by intro sh fo as e; rw [e] at hc; cases sh <;> simp [Ins.cls] at hc, by intro k fo as e; rw [e] at hc; simp [Ins.cls] at hc⟩
   rw [stepI_ev hn] at ha
   exact ev2_ext hc ha
 simp only [Bool.or_eq_true, aet, beq_iff_eq] at hi3
 rcases hi3 with (((hc | hc) | ⟨hc1, hc2⟩) | ⟨hc1, hc2⟩) | ⟨hc1, hc2⟩
 ·obtain ⟨rfl, k2⟩ := P0 x _ _ _ hc hax
  exact fin h2 hay' (k2 h2)
 ·obtain ⟨rfl, k2⟩ := P0 y _ _ _ hc hay'
  exact fin s.h (k2 s.h) hax
 ·have e1 := S1 x _ _ _ hc1 hax
  subst e1
  have e2 := S1 y _ _ _ hc2 hay'
  subst e2
  exact fin _ hay' hax
 ·have e1 := S1 x _ _ _ (.inl hc1) hax
  subst e1
  obtain ⟨e, rfl⟩ := A2 y _ _ _ hc2 hay'
  exact fin _ hay' (M1 x _ _ e _ hc1 hax)
 ·obtain ⟨e, rfl⟩ := A2 x _ _ _ hc1 hax
  have e2 := S1 y _ _ _ (.inl hc2) hay'
  subst e2
  exact fin _ (K1 _ _ e _ hc2 hcl hay') hax
mutual
def AV.blw (n : Nat) : AV → Bool
 | .p _ => true
 | .ro _ => true
 | .und => true
 | .anyp => true
 | .anye => true
 | .agg xs => belows n xs
 | .tup xs => belows n xs
 | .fn _ xs => belows n xs
 | .ptr b _ => b < n
 | .rp b _ _ _ _ => b < n
 | .sl b _ _ _ _ => b < n
 | .mp b => b < n
 | .yl b => b < n
def belows (n : Nat) : List AV → Bool
 | [] => true
 | x :: xs => x.blw n && belows n xs
end
def AB.blw (n : Nat) : AB → Bool
 | .cells _ xs => belows n xs
 | .row _ _ _ rows => rows.all (belows n)
 | .loop _ _ _ f _ _ => belows n f
 | .map _ es => es.all fun e => e.1.blw n && e.2.blw n
 | .frz _ _ _ => true
 | .dead => true
 | .hole => true
mutual
def AV.top : AV → Nat
 | .agg xs => topB xs
 | .tup xs => topB xs
 | .fn _ xs => topB xs
 | .ptr b _ => b + 1
 | .rp b _ _ _ _ => b + 1
 | .sl b _ _ _ _ => b + 1
 | .mp b => b + 1
 | .yl b => b + 1
 | _ => 0
def topB : List AV → Nat
 | [] => 0
 | x :: xs => Nat.max x.top (topB xs)
end
def okF (m : Nat) (args : List AV) (h : List AB) (r : AV × List AB) : Bool := m.ble h.length && (belows m args && ((h.take m).all (AB.blw m) && (r.1.blw m && (m.ble r.2.length && (r.2.take m).all (AB.blw m)))))
mutual
def valq : Value → Value → Bool
 | .bool a, .bool b => a == b
 | .int k n, .int k' n' => k == k' && n == n'
 | .float k n, .float k' n' => k == k' && n == n'
 | .complex k n m, .complex k' n' m' => k == k' && (n == n' && m == m')
 | .string a, .string b => a == b
 | .pointer a, .pointer b => a == b
 | .slice x a b, .slice y a' b' => x == y && (a == a' && b == b')
 | .map a, .map b => a == b
 | .chan a, .chan b => a == b
 | .func f x y, .func f' x' y' => f == f' && (valqA x x' && valqA y y')
 | .nilFunc, .nilFunc => true
 | .iface t v, .iface t' v' => t == t' && valq v v'
 | .nilIface, .nilIface => true
 | .agg x, .agg y => valqA x y
 | .tuple x, .tuple y => valqA x y
 | _, _ => false
def valqA : Array Value → Array Value → Bool
 | ⟨x⟩, ⟨y⟩ => valqL x y
def valqL : List Value → List Value → Bool
 | [], [] => true
 | x :: xs, y :: ys => valq x y && valqL xs ys
 | _, _ => false
end
theorem bts_eq {x y : ByteArray} (h : (x == y) = true) : x = y := by
 have h : (x.data == y.data) = true := h
 simp only [beq_iff_eq] at h
 obtain ⟨x⟩ := x
 obtain ⟨y⟩ := y
 simp only at h
 rw [h]
mutual
theorem valq_eq : ∀ (a b : Value), valq a b = true → a = b
 | .bool a, y, h => by
  cases y <;> simp only [valq] at h <;> first | (cases h; done) | skip
  simp only [beq_iff_eq] at h; rw [h]
 | .int k n, y, h => by
  cases y <;> simp only [valq] at h <;> first | (cases h; done) | skip
  simp only [aet, beq_iff_eq] at h; rw [h.1, h.2]
 | .float k n, y, h => by
  cases y <;> simp only [valq] at h <;> first | (cases h; done) | skip
  simp only [aet, beq_iff_eq] at h; rw [h.1, h.2]
 | .complex k n m, y, h => by
  cases y <;> simp only [valq] at h <;> first | (cases h; done) | skip
  simp only [aet, beq_iff_eq] at h; rw [h.1, h.2.1, h.2.2]
 | .string a, y, h => by
  cases y <;> simp only [valq] at h <;> first | (cases h; done) | skip
  rw [bts_eq h]
 | .pointer a, y, h => by
  cases y <;> simp only [valq] at h <;> first | (cases h; done) | skip
  simp only [beq_iff_eq] at h; rw [h]
 | .slice x a b, y, h => by
  cases y <;> simp only [valq] at h <;> first | (cases h; done) | skip
  simp only [aet, beq_iff_eq] at h; rw [h.1, h.2.1, h.2.2]
 | .map a, y, h => by
  cases y <;> simp only [valq] at h <;> first | (cases h; done) | skip
  simp only [beq_iff_eq] at h; rw [h]
 | .chan a, y, h => by
  cases y <;> simp only [valq] at h <;> first | (cases h; done) | skip
  simp only [beq_iff_eq] at h; rw [h]
 | .func f x z, y, h => by
  cases y <;> simp only [valq] at h <;> first | (cases h; done) | skip
  simp only [aet, beq_iff_eq] at h; rw [h.1, valqA_eq _ _ h.2.1, valqA_eq _ _ h.2.2]
 | .nilFunc, y, h => by cases y <;> simp only [valq] at h <;> first | (cases h; done) | rfl
 | .iface t v, y, h => by
  cases y <;> simp only [valq] at h <;> first | (cases h; done) | skip
  simp only [aet, beq_iff_eq] at h; rw [h.1, valq_eq _ _ h.2]
 | .nilIface, y, h => by cases y <;> simp only [valq] at h <;> first | (cases h; done) | rfl
 | .agg x, y, h => by
  cases y <;> simp only [valq] at h <;> first | (cases h; done) | skip
  rw [valqA_eq _ _ h]
 | .tuple x, y, h => by
  cases y <;> simp only [valq] at h <;> first | (cases h; done) | skip
  rw [valqA_eq _ _ h]
theorem valqA_eq : ∀ (a b : Array Value), valqA a b = true → a = b
 | ⟨x⟩, ⟨y⟩, h => by
  simp only [valqA] at h
  rw [valqL_eq x y h]
theorem valqL_eq : ∀ (a b : List Value), valqL a b = true → a = b
 | [], [], _ => rfl
 | x :: xs, y :: ys, h => by
  simp only [valqL, aet] at h
  rw [valq_eq x y h.1, valqL_eq xs ys h.2]
 | [], _ :: _, h => by simp [valqL] at h
 | _ :: _, [], h => by simp [valqL] at h
end
mutual
def PV.eqb : PV → PV → Bool
 | .val a, .val b => valq a b
 | .lst s r, .lst s' r' => s == s' && PV.eqbr r r'
 | .lsx s r m, .lsx s' r' m' => s == s' && (PV.eqbr r r' && PV.eqbr m m')
 | _, _ => false
def PV.eqbs : List PV → List PV → Bool
 | [], [] => true
 | x :: xs, y :: ys => PV.eqb x y && PV.eqbs xs ys
 | _, _ => false
def PV.eqbr : List (List PV) → List (List PV) → Bool
 | [], [] => true
 | x :: xs, y :: ys => PV.eqbs x y && PV.eqbr xs ys
 | _, _ => false
end
mutual
theorem PV.eqb_eq : ∀ (x y : PV), PV.eqb x y = true → x = y
 | .val a, .val b, h => by simp only [PV.eqb] at h; rw [valq_eq _ _ h]
 | .lst s r, .lst s' r', h => by
  simp only [PV.eqb, aet, beq_iff_eq] at h
  rw [h.1, PV.eqbr_eq r r' h.2]
 | .lsx s r m, .lsx s' r' m', h => by
  simp only [PV.eqb, aet, beq_iff_eq] at h
  rw [h.1, PV.eqbr_eq r r' h.2.1, PV.eqbr_eq m m' h.2.2]
 | .val _, .lst _ _, h => by simp [PV.eqb] at h
 | .lst _ _, .val _, h => by simp [PV.eqb] at h
 | .val _, .lsx _ _ _, h => by simp [PV.eqb] at h
 | .lsx _ _ _, .val _, h => by simp [PV.eqb] at h
 | .lst _ _, .lsx _ _ _, h => by simp [PV.eqb] at h
 | .lsx _ _ _, .lst _ _, h => by simp [PV.eqb] at h
theorem PV.eqbs_eq : ∀ (x y : List PV), PV.eqbs x y = true → x = y
 | [], [], _ => rfl
 | x :: xs, y :: ys, h => by
  simp only [PV.eqbs, aet] at h
  rw [PV.eqb_eq x y h.1, PV.eqbs_eq xs ys h.2]
 | [], _ :: _, h => by simp [PV.eqbs] at h
 | _ :: _, [], h => by simp [PV.eqbs] at h
theorem PV.eqbr_eq : ∀ (x y : List (List PV)), PV.eqbr x y = true → x = y
 | [], [], _ => rfl
 | x :: xs, y :: ys, h => by
  simp only [PV.eqbr, aet] at h
  rw [PV.eqbs_eq x y h.1, PV.eqbr_eq xs ys h.2]
 | [], _ :: _, h => by simp [PV.eqbr] at h
 | _ :: _, [], h => by simp [PV.eqbr] at h
end
mutual
def AV.eqb : AV → AV → Bool
 | .p a, .p b => PV.eqb a b
 | .agg xs, .agg ys => AV.eqbs xs ys
 | .tup xs, .tup ys => AV.eqbs xs ys
 | .fn f xs, .fn f' ys => f == f' && AV.eqbs xs ys
 | .ro xs, .ro ys => PV.eqbs xs ys
 | .ptr b o, .ptr b' o' => b == b' && o == o'
 | .rp b g s k o, .rp b' g' s' k' o' => b == b' && (g == g' && (s == s' && (k == k' && o == o')))
 | .sl b g s o l, .sl b' g' s' o' l' => b == b' && (g == g' && (s == s' && (o == o' && l == l')))
 | .mp b, .mp b' => b == b'
 | .yl b, .yl b' => b == b'
 | .anyp, .anyp => true
 | .anye, .anye => true
 | .und, .und => true
 | _, _ => false
def AV.eqbs : List AV → List AV → Bool
 | [], [] => true
 | x :: xs, y :: ys => AV.eqb x y && AV.eqbs xs ys
 | _, _ => false
end
mutual
theorem AV.eqb_eq : ∀ (x y : AV), AV.eqb x y = true → x = y
 | .p a, y, h => by
  cases y <;> simp only [AV.eqb] at h <;> first | (cases h; done) | skip
  rw [PV.eqb_eq _ _ h]
 | .agg xs, y, h => by
  cases y <;> simp only [AV.eqb] at h <;> first | (cases h; done) | skip
  rw [AV.eqbs_eq _ _ h]
 | .tup xs, y, h => by
  cases y <;> simp only [AV.eqb] at h <;> first | (cases h; done) | skip
  rw [AV.eqbs_eq _ _ h]
 | .fn f xs, y, h => by
  cases y <;> simp only [AV.eqb] at h <;> first | (cases h; done) | skip
  simp only [aet, beq_iff_eq] at h
  rw [h.1, AV.eqbs_eq _ _ h.2]
 | .ro xs, y, h => by
  cases y <;> simp only [AV.eqb] at h <;> first | (cases h; done) | skip
  rw [PV.eqbs_eq _ _ h]
 | .ptr b o, y, h => by
  cases y <;> simp only [AV.eqb] at h <;> first | (cases h; done) | skip
  simp only [aet, beq_iff_eq] at h
  rw [h.1, h.2]
 | .rp b g s k o, y, h => by
  cases y <;> simp only [AV.eqb] at h <;> first | (cases h; done) | skip
  simp only [aet, beq_iff_eq] at h
  rw [h.1, h.2.1, h.2.2.1, h.2.2.2.1, h.2.2.2.2]
 | .sl b g s o l, y, h => by
  cases y <;> simp only [AV.eqb] at h <;> first | (cases h; done) | skip
  simp only [aet, beq_iff_eq] at h
  rw [h.1, h.2.1, h.2.2.1, h.2.2.2.1, h.2.2.2.2]
 | .mp b, y, h => by
  cases y <;> simp only [AV.eqb] at h <;> first | (cases h; done) | skip
  simp only [beq_iff_eq] at h
  rw [h]
 | .yl b, y, h => by
  cases y <;> simp only [AV.eqb] at h <;> first | (cases h; done) | skip
  simp only [beq_iff_eq] at h
  rw [h]
 | .anyp, y, h => by cases y <;> simp only [AV.eqb] at h <;> first | (cases h; done) | rfl
 | .anye, y, h => by cases y <;> simp only [AV.eqb] at h <;> first | (cases h; done) | rfl
 | .und, y, h => by cases y <;> simp only [AV.eqb] at h <;> first | (cases h; done) | rfl
theorem AV.eqbs_eq : ∀ (x y : List AV), AV.eqbs x y = true → x = y
 | [], [], _ => rfl
 | x :: xs, y :: ys, h => by
  simp only [AV.eqbs, aet] at h
  rw [AV.eqb_eq x y h.1, AV.eqbs_eq xs ys h.2]
 | [], _ :: _, h => by simp [AV.eqbs] at h
 | _ :: _, [], h => by simp [AV.eqbs] at h
end
def rowsq : List (List AV) → List (List AV) → Bool
 | [], [] => true
 | x :: xs, y :: ys => AV.eqbs x y && rowsq xs ys
 | _, _ => false
theorem rowsq_eq : ∀ (x y : List (List AV)), rowsq x y = true → x = y
 | [], [], _ => rfl
 | x :: xs, y :: ys, h => by
  simp only [rowsq, aet] at h
  rw [AV.eqbs_eq x y h.1, rowsq_eq xs ys h.2]
 | [], _ :: _, h => by simp [rowsq] at h
 | _ :: _, [], h => by simp [rowsq] at h
def entsq : List (AV × AV) → List (AV × AV) → Bool
 | [], [] => true
 | x :: xs, y :: ys => AV.eqb x.1 y.1 && (AV.eqb x.2 y.2 && entsq xs ys)
 | _, _ => false
theorem entsq_eq : ∀ (x y : List (AV × AV)), entsq x y = true → x = y
 | [], [], _ => rfl
 | x :: xs, y :: ys, h => by
  simp only [entsq, aet] at h
  rw [entsq_eq xs ys h.2.2, show x = y from Prod.ext (AV.eqb_eq _ _ h.1) (AV.eqb_eq _ _ h.2.1)]
 | [], _ :: _, h => by simp [entsq] at h
 | _ :: _, [], h => by simp [entsq] at h
def AB.eqb : AB → AB → Bool
 | .cells t xs, .cells t' ys => t == t' && AV.eqbs xs ys
 | .row t s g r, .row t' s' g' r' => t == t' && (s == s' && (g == g' && rowsq r r'))
 | .map q es, .map q' es' => q == q' && entsq es es'
 | .frz s g r, .frz s' g' r' => s == s' && (g == g' && PV.eqbr r r')
 | .dead, .dead => true
 | .hole, .hole => true
 | _, _ => false
theorem AB.eqb_eq {x y : AB} (h : AB.eqb x y = true) : x = y := by
 unfold AB.eqb at h
 split at h
 ·simp only [aet, beq_iff_eq] at h; rw [h.1, AV.eqbs_eq _ _ h.2]
 ·simp only [aet, beq_iff_eq] at h; rw [h.1, h.2.1, h.2.2.1, rowsq_eq _ _ h.2.2.2]
 ·simp only [aet, beq_iff_eq] at h; rw [h.1, entsq_eq _ _ h.2]
 ·simp only [aet, beq_iff_eq] at h; rw [h.1, h.2.1, PV.eqbr_eq _ _ h.2.2]
 ·rfl
 ·rfl
 ·cases h
def AB.noL : AB → Bool
 | .loop .. => false
 | _ => true
def sameB : List AB → List AB → Bool
 | [], [] => true
 | x :: xs, y :: ys => AB.eqb x y && sameB xs ys
 | _, _ => false
theorem sameB_eq : ∀ (x y : List AB), sameB x y = true → x = y
 | [], [], _ => rfl
 | x :: xs, y :: ys, h => by
  simp only [sameB, aet] at h
  rw [AB.eqb_eq h.1, sameB_eq xs ys h.2]
 | [], _ :: _, h => by simp [sameB] at h
 | _ :: _, [], h => by simp [sameB] at h
def apN (t : TypeId) (size bytes : Nat) (y : AV) (r : Nat) : Option (AV × List AB) :=
 (rowsOf [] size y).bind fun news => if news.length * bytes ≤ limit47 ∧ news.length ≤ limit47 then some (.sl r 0 size 0 news.length, [.row t size 0 news]) else none
def evA (gl : Nat → Option (List PV)) (f : List AV) (r : Nat) : Ins → Option (AV × List AB)
 | .nilrow t size => some (.sl r 0 size 0 0, [.row t size 0 []])
 | .alloc t zs => let (a, b) := zeroN zs r; some (.ptr (r + b.length) 0, b ++ [.cells t a])
 | .box t x => (cellsOf (x.ev f gl)).map fun cs => (.ptr r 0, [.cells t cs])
 | .buildS t size zero len parts =>
  (fillR f gl size (List.replicate len (zero.map .p)) parts).map fun rows => (.sl r 0 size 0 len, [.row t size 0 rows])
 | .mkB t x => match x.ev f gl with
  | .p (.val (.string s)) => if s.size ≤ limit47 then some (.sl r 0 1 0 s.size, [.row t 1 0 (s.data.toList.map fun b => [vi .u8 b.toNat])]) else none
  | _ => none
 | .makeS t size bytes zero len cap => (idx (len.ev f gl)).bind fun l => (idx (cap.ev f gl)).bind fun c =>
  if 0 ≤ l ∧ l = c ∧ c * bytes ≤ limit47 ∧ c ≤ limit47 then
   some (.sl r 0 size 0 l.toNat, [.row t size 0 (List.replicate l.toNat (zero.map .p))])
  else none
 | .mkMap => some (.mp r, [.map 0 []])
 | .appN t size bytes x y => match x.ev f gl with
  | .p (.val (.slice none 0 0)) => apN t size bytes (y.ev f gl) r
  | _ => none
 | .mkNZ t x => match x.ev f gl with
  | .p (.val (.int .i64 n)) => if 0 ≤ n ∧ n ≤ limit47 then some (.sl r 0 1 0 n.toNat, [.row t 1 0 []]) else none
  | _ => none
 | _ => none
theorem evI_evA {gl : Nat → Option (List PV)} {f : List AV} {h : List AB} {i : Ins} (hc : i.cls = 2) : evI gl f h i = (evA gl f h.length i).map fun p => (p.1, h ++ p.2) := by
 cases i <;> simp only [Ins.cls] at hc <;> try (exfalso; revert hc; decide)
 case call sh a b => cases sh <;> simp at hc
 case mkB t x =>
  simp only [evI, evA]
  cases x.ev f gl with
  | p y =>
   cases y with
   | val v =>
    cases v <;> try rfl
    simp only
    split <;> rfl
   | lst => rfl
   | lsx => rfl
  | _ => rfl
 case appN t size bytes x y =>
  simp only [evI, evA]
  generalize x.ev f gl = u
  split
  ·unfold apN
   cases rowsOf [] size (y.ev f gl) with
   | none => rfl
   | some news => simp only [bsm]; split <;> rfl
  ·rename_i hne
   split
   ·exact (hne rfl).elim
   ·rfl
 case mkNZ t x =>
  simp only [evI, evA]
  cases x.ev f gl with
  | p y =>
   cases y with
   | val v =>
    cases v <;> try rfl
    rename_i k n
    cases k <;> try rfl
    simp only
    split <;> rfl
   | lst => rfl
   | lsx => rfl
  | _ => rfl
 all_goals simp only [evI, evA, msm, Option.map_map, Function.comp_def, List.append_assoc]
 case makeS t size bytes zero len cap =>
  cases idx (len.ev f gl) with
  | none => rfl
  | some l =>
   cases idx (cap.ev f gl) with
   | none => rfl
   | some c => simp only [bsm]; split <;> rfl
def isNil : Opd → Bool
 | .c (.p (.val (.slice none 0 0))) => true
 | _ => false
def Ins.mks : Ins → Bool
 | .append _ _ _ _ x _ => isNil x
 | i => i.cls == 2 || i.cls == 5
def evM (E : Env) (f : List AV) (r : Nat) : Ins → Option (AV × List AB)
 | .append t size bytes _ x y => if isNil x then apN t size bytes (y.ev f E.gl) r else none
 | i => if i.cls == 5 then evX E f r i else evA E.gl f r i
theorem apN_len {t : TypeId} {size bytes r : Nat} {y : AV} {p : AV × List AB} (h : apN t size bytes y r = some p) : p.2.length = 1 := by
 unfold apN at h
 simp only [bei] at h
 obtain ⟨news, _, h⟩ := h
 split at h
 ·simp only [oiq] at h; subst h; rfl
 ·cases h
theorem evX_len {E : Env} {f : List AV} {r : Nat} {i : Ins} {p : AV × List AB} (h : evX E f r i = some p) : p.2.length ≠ 0 := by
 unfold evX at h
 split at h
 ·split at h
  ·simp only [mei] at h
   obtain ⟨q, hq, rfl⟩ := h
   unfold xRes at hq
   split at hq
   ·split at hq
    ·split at hq
     ·rename_i hl
      cases hq
      have := Nat.eq_of_beq_eq_true hl
      simp [this]
     ·cases hq
    ·cases hq
   ·cases hq
  ·cases h
 ·cases h
def putAt (h : List AB) (r : Nat) : List AB → List AB
 | [] => h
 | x :: xs => putAt (h.set r x) (r + 1) xs
theorem putAt_len : ∀ (nb h : List AB) (r : Nat), (putAt h r nb).length = h.length
 | [], h, r => rfl
 | x :: xs, h, r => by simp only [putAt]; rw [putAt_len xs]; simp
theorem putAt_get : ∀ (nb h : List AB) (r b : Nat), r + nb.length ≤ h.length → (putAt h r nb)[b]? = if r ≤ b ∧ b < r + nb.length then nb[b - r]? else h[b]?
 | [], h, r, b, _ => by simp only [putAt, List.length_nil]; rw [if_neg (by omega)]
 | x :: xs, h, r, b, hl => by
  simp only [lcn] at hl
  simp only [putAt, lcn]
  rw [putAt_get xs (h.set r x) (r + 1) b (by simp; omega)]
  by_cases hb : b = r
  ·subst hb
   rw [if_neg (by omega), if_pos (by omega)]
   simp [List.getElem?_set]
   omega
  ·by_cases h1 : r + 1 ≤ b ∧ b < r + 1 + xs.length
   ·rw [if_pos h1, if_pos (by omega)]
    have : b - r = (b - (r + 1)) + 1 := by omega
    rw [this, List.getElem?_cons_succ]
   ·rw [if_neg h1, if_neg (by omega), List.getElem?_set, if_neg (by omega)]
theorem putAt_comm {h nb nb' : List AB} {r r' : Nat} (h1 : r + nb.length ≤ h.length) (h2 : r' + nb'.length ≤ h.length) (hd : ∀ b, r ≤ b → b < r + nb.length → ¬ (r' ≤ b ∧ b < r' + nb'.length)) :
  putAt (putAt h r nb) r' nb' = putAt (putAt h r' nb') r nb := by
 apply List.ext_getElem?
 intro b
 rw [putAt_get _ _ _ _ (by rw [putAt_len]; exact h2), putAt_get _ _ _ _ h1, putAt_get _ _ _ _ (by rw [putAt_len]; exact h1), putAt_get _ _ _ _ h2]
 by_cases k1 : r ≤ b ∧ b < r + nb.length
 ·rw [if_neg (hd b k1.1 k1.2), if_pos k1, if_pos k1]
 ·rw [if_neg k1, if_neg k1]
def holesAt (h : List AB) : Nat → Nat → Bool
 | _, 0 => true
 | r, k + 1 => (match h[r]? with | some .hole => true | _ => false) && holesAt h (r + 1) k
theorem holesAt_get : ∀ (k r : Nat) {h : List AB}, holesAt h r k = true → ∀ b, r ≤ b → b < r + k → h[b]? = some .hole
 | 0, r, h, _, b, h1, h2 => by omega
 | k + 1, r, h, hh, b, h1, h2 => by
  simp only [holesAt, aet] at hh
  by_cases hb : b = r
  ·subst hb
   have := hh.1
   split at this
   ·assumption
   ·cases this
  ·exact holesAt_get k (r + 1) hh.2 b (by omega) (by omega)
theorem holesAt_le {h : List AB} {r k : Nat} (hk : 0 < k) (hh : holesAt h r k = true) : r + k ≤ h.length := by
 have := holesAt_get k r hh (r + k - 1) (by omega) (by omega)
 rw [gei] at this
 obtain ⟨h1, _⟩ := this
 omega
theorem holesAt_congr : ∀ (k r : Nat) {h h2 : List AB}, (∀ b, r ≤ b → b < r + k → h2[b]? = h[b]?) → holesAt h r k = true → holesAt h2 r k = true
 | 0, r, h, h2, _, _ => rfl
 | k + 1, r, h, h2, ha, hh => by
  simp only [holesAt, aet] at hh ⊢
  rw [ha r (by omega) (by omega)]
  exact ⟨hh.1, holesAt_congr k (r + 1) (fun b h1 h2 => ha b (by omega) (by omega)) hh.2⟩
def ROp.fz (o : ROp) : Bool := match o.op.ins with | .call true _ _ => !(o.z == 0) | _ => false
def okG (m : Nat) (args : List AV) (h : List AB) (q : List AB) : Bool := m.ble h.length && (belows m args && ((h.take m).all (AB.blw m) && m.ble q.length))
def frA (z r k m : Nat) (args : List AV) (h : List AB) (q : AV × List AB) : Option (AV × List AB) :=
 match z with
 | 1 => if (k == 0 && (okF m args h q && sameB (h.take m) (q.2.take m))) = true then some (q.1, h) else none
 | 2 => match q.1 with
  | .sl b ge s 0 l => match q.2[b]? with
   | some (.row t s' g rows) => if (k == 1 && (holesAt h r 1 && (m.ble b && (okG m args h q.2 && (sameB (h.take m) (q.2.take m) && rows.all (belows m)))))) = true then some (.sl r ge s 0 l, putAt h r [.row t s' g rows]) else none
   | _ => none
  | _ => none
 | 4 => if (k == 0 && (m == 0 && AV.pure.pures args)) = true then some (q.1.ren (· + h.length), h ++ q.2.map (AB.ren (· + h.length))) else none
 | n + 5 => if (k == 0 && ((r + (n + 1)).ble h.length && (m == 0 && AV.pure.pures args))) = true then some (q.1.ren (· + h.length), h ++ q.2.map (AB.ren (· + h.length))) else none
 | _ => if (k == 0 && okF m args h q) = true then some (q.1, putAt h 0 (q.2.take m)) else none
def actF (E : Env) (base : Nat) (o : ROp) (f : List AV) (h : List AB) : Option (AV × List AB) :=
 match o.op.ins with
 | .call true fo args => match fo.ev f E.gl with
  | .fn g caps => (E.callS g (args.map (·.ev f E.gl) ++ caps) (h.take (topB (args.map (·.ev f E.gl) ++ caps)))).bind (frA o.z (base + o.off) o.k (topB (args.map (·.ev f E.gl) ++ caps)) (args.map (·.ev f E.gl) ++ caps) h)
  | _ => none
 | _ => none
def actR (E : Env) (base : Nat) (o : ROp) (f : List AV) (h : List AB) : Option (AV × List AB) :=
 match wantedA f o.op.guard with
 | none => none
 | some false => some (ud, h)
 | some true => if o.fz = true then actF E base o f h else if o.op.ins.mks then (evM E f (base + o.off) o.op.ins).bind fun p => if p.2.length.beq o.k && holesAt h (base + o.off) o.k then some (p.1, putAt h (base + o.off) p.2) else none
  else stepI E o.op.ins ⟨f, h⟩
def stepR (E : Env) (base : Nat) (o : ROp) (s : St) : Option St := (actR E base o s.f s.h).map fun r => ⟨putA s.f o.op.dst r.1, r.2⟩
inductive FP where
 | pt (R : List Nat) (r k : Nat)
 | all
 | beh (n : Nat)
def AV.blk : AV → List Nat
 | .ptr b _ => [b]
 | .rp b _ _ _ _ => [b]
 | .sl b _ _ _ _ => [b]
 | .mp b => [b]
 | _ => []
def wrAt (R : List Nat) : AV → FP
 | .ptr b _ => .pt R b 1
 | .rp b _ _ _ _ => .pt R b 1
 | .sl b _ _ _ _ => .pt R b 1
 | .mp b => .pt R b 1
 | _ => .all
def fpI (gl : Nat → Option (List PV)) (f : List AV) (r k : Nat) : Ins → FP
 | .load _ _ x => .pt (x.ev f gl).blk 0 0
 | .loadF _ _ _ x => .pt (x.ev f gl).blk 0 0
 | .slice _ x _ _ => .pt (x.ev f gl).blk 0 0
 | .convB x => .pt (x.ev f gl).blk 0 0
 | .slData x => .pt (x.ev f gl).blk 0 0
 | .lkUp _ _ _ _ _ m _ => .pt (m.ev f gl).blk 0 0
 | .store _ a _ => wrAt [] (a.ev f gl)
 | .mapEn _ _ _ _ m _ => wrAt [] (m.ev f gl)
 | .mapUp _ _ m _ _ => wrAt [] (m.ev f gl)
 | .entSt m _ _ => wrAt [] (m.ev f gl)
 | .append _ _ _ _ x y => if isNil x then .pt [] r k else wrAt (y.ev f gl).blk (x.ev f gl)
 | .appF _ _ _ x y => wrAt (y.ev f gl).blk (x.ev f gl)
 | .call false fo args => match fo.ev f gl with
  | .fn _ caps => if AV.pure.pures (args.map (·.ev f gl) ++ caps) then .pt [] 0 0 else .all
  | _ => .all
 | i => if i.cls == 0 then .pt [] 0 0 else if i.mks then .pt [] r k else .all
def fpF (gl : Nat → Option (List PV)) (base : Nat) (o : ROp) (f : List AV) : FP :=
 match o.op.ins with
 | .call true fo args => match fo.ev f gl with
  | .fn _ caps => match o.z with
   | 1 => .pt (List.range (topB (args.map (·.ev f gl) ++ caps))) 0 0
   | 2 => .pt (List.range (topB (args.map (·.ev f gl) ++ caps))) (base + o.off) 1
   | 4 => .all
   | n + 5 => .beh (base + o.off + (n + 1))
   | _ => .pt (List.range (topB (args.map (·.ev f gl) ++ caps))) 0 (topB (args.map (·.ev f gl) ++ caps))
  | _ => .all
 | _ => .all
def fpO (gl : Nat → Option (List PV)) (base : Nat) (o : ROp) (f : List AV) : FP :=
 match wantedA f o.op.guard with
 | some true => if o.fz = true then fpF gl base o f else fpI gl f (base + o.off) o.k o.op.ins
 | _ => .pt [] 0 0
def clearOf (r k : Nat) (R : List Nat) : Bool := k == 0 || R.all fun b => b.blt r || (r + k).ble b
def FP.pure : FP → Bool
 | .pt R _ k => R.isEmpty && k == 0
 | _ => false
def okFP : FP → FP → Bool
 | .pt R r k, .pt R' r' k' => (R.isEmpty && k == 0) || (R'.isEmpty && k' == 0) || (clearOf r k R' && clearOf r' k' R && (k == 0 || k' == 0 || (r + k).ble r' || (r' + k').ble r))
 | a, b => a.pure || b.pure
def Loc (act : List AB → Option (AV × List AB)) (R : List Nat) (r k : Nat) : Prop :=
 ∀ h v h', act h = some (v, h') → ∃ nb, nb.length = k ∧ (0 < k → r + k ≤ h.length) ∧ h' = putAt h r nb ∧
  ∀ h2, h2.length = h.length → (∀ b ∈ R, h2[b]? = h[b]?) → (∀ b, r ≤ b → b < r + k → h2[b]? = h[b]?) → act h2 = some (v, putAt h2 r nb)
theorem loc_pure {act : List AB → Option (AV × List AB)} (hp : ∀ h v h', act h = some (v, h') → h' = h ∧ ∀ h2, act h2 = some (v, h2)) : Loc act [] 0 0 := by
 intro h v h' ha
 obtain ⟨k1, k2⟩ := hp h v h' ha
 exact ⟨[], rfl, by omega, k1, fun h2 _ _ _ => k2 h2⟩
theorem loc_read {act : List AB → Option (AV × List AB)} {R : List Nat} (h1 : ∀ h v h', act h = some (v, h') → h' = h) (h2 : ∀ h h2, (∀ b ∈ R, h2[b]? = h[b]?) → (act h2).map (·.1) = (act h).map (·.1)) : Loc act R 0 0 := by
 intro h v h' ha
 refine ⟨[], rfl, by omega, h1 h v h' ha, fun h3 _ hr _ => ?_⟩
 have := h2 h h3 hr
 rw [ha] at this
 cases he : act h3 with
 | none => rw [he] at this; simp at this
 | some p =>
  obtain ⟨v', h4⟩ := p
  rw [he] at this
  simp only [msm, oiq] at this
  subst this
  rw [h1 _ _ _ he]
  rfl
theorem loc_one {act : List AB → Option (AV × List AB)} {R : List Nat} {b : Nat}
  (h : ∀ h v h', act h = some (v, h') → ∃ x, b < h.length ∧ h' = h.set b x ∧ ∀ h2, h2.length = h.length → (∀ c ∈ R, h2[c]? = h[c]?) → h2[b]? = h[b]? → act h2 = some (v, h2.set b x)) : Loc act R b 1 := by
 intro h1 v h' he
 obtain ⟨x, k1, k2, k3⟩ := h h1 v h' he
 exact ⟨[x], rfl, fun _ => by omega, k2, fun h2 hl hr hw => k3 h2 hl hr (hw b (Nat.le_refl _) (by omega))⟩
theorem loc_vac {act : List AB → Option (AV × List AB)} {R : List Nat} {r k : Nat} (h : ∀ x, act x = none) : Loc act R r k := by
 intro h1 v h' he
 rw [h] at he
 cases he
section
variable {gl : Nat → Option (List PV)} {f : List AV}
theorem loadA_loc {n : Nat} {x : AV} {h h2 : List AB} (ha : ∀ b ∈ x.blk, h2[b]? = h[b]?) : loadA h2 n x = loadA h n x := by
 cases x <;> simp only [loadA] <;> simp only [AV.blk, List.mem_singleton, forall_eq] at ha <;> rw [ha]
theorem map_ite {c : Prop} [Decidable c] {a : AV} {h h2 : List AB} : (if c then some (a, h2) else none : Option (AV × List AB)).map (·.1) = (if c then some (a, h) else none : Option (AV × List AB)).map (·.1) := by split <;> rfl
theorem rowsOf_loc {n : Nat} {x : AV} {h h2 : List AB} (ha : ∀ b ∈ x.blk, h2[b]? = h[b]?) : rowsOf h2 n x = rowsOf h n x := by
 cases x
 case sl => simp only [rowsOf]; simp only [AV.blk, List.mem_singleton, forall_eq] at ha; rw [ha]
 all_goals (simp only [rowsOf]; try (split <;> first | rfl | contradiction))
theorem slice_loc {size : Nat} {x : Opd} {lo hi : Option Opd} {h h2 : List AB} (ha : ∀ b ∈ (x.ev f gl).blk, h2[b]? = h[b]?) :
  (evI gl f h2 (.slice size x lo hi)).map (·.1) = (evI gl f h (.slice size x lo hi)).map (·.1) := by
 simp only [evI]
 generalize x.ev f gl = u at ha
 cases u <;> try rfl
 case sl b gen s off len =>
  simp only [AV.blk, List.mem_singleton, forall_eq] at ha
  simp only
  split
  ·rw [ha]
   cases idxO f gl 0 lo with
   | none => rfl
   | some l =>
    cases idxO f gl len hi with
    | none => rfl
    | some r => simp only [bsm]; split <;> first | exact map_ite | rfl
  ·rfl
 case p y =>
  cases y with
  | lst s rows =>
   simp only
   split
   ·cases idxO f gl 0 lo with
    | none => rfl
    | some l =>
     simp only [bsm]
     cases idxO f gl _ hi with
     | none => rfl
     | some r => exact map_ite
   ·rfl
  | lsx s rows m => rfl
  | val v =>
   split
   ·rename_i e; cases e
   ·rename_i e; cases e
   ·cases idxO f gl 0 lo with
    | none => rfl
    | some l =>
     simp only [bsm]
     cases idxO f gl _ hi with
     | none => rfl
     | some r => exact map_ite
   ·rfl
theorem mapAt_loc {x : AV} {h h2 : List AB} (ha : ∀ b ∈ x.blk, h2[b]? = h[b]?) : mapAt h2 x = mapAt h x := by
 cases x <;> simp only [mapAt] <;> simp only [AV.blk, List.mem_singleton, forall_eq] at ha <;> rw [ha]
theorem loc_map {m : AV} {F : Nat → List (AV × AV) → Option (AV × List (AV × AV))} {R : List Nat} {r k : Nat} (hw : wrAt [] m = .pt R r k) :
  Loc (fun h => (mapAt h m).bind fun p => (F p.2.1 p.2.2).map fun x => (x.1, h.set p.1 (.map p.2.1 x.2))) R r k := by
 cases m <;> simp only [wrAt, FP.pt.injEq] at hw <;> try (cases hw; done)
 case mp b =>
  obtain ⟨rfl, rfl, rfl⟩ := hw
  refine loc_one ?_
  intro h v h' he
  simp only [mapAt] at he
  split at he
  ·rename_i q es hb
   simp only [bsm, mei, piq] at he
   obtain ⟨p, h1, rfl, rfl⟩ := he
   refine ⟨_, (gei.1 hb).1, rfl, fun h2 _ _ h3 => ?_⟩
   simp only [mapAt, h3, hb, bsm, h1, msm]
  ·cases he
 all_goals
  obtain ⟨rfl, rfl, rfl⟩ := hw
  exact loc_vac (fun x => by simp [mapAt])
theorem loc_store {size : Nat} {a : AV} {c : Option (List AV)} {R : List Nat} {r k : Nat} (hw : wrAt [] a = .pt R r k) :
  Loc (fun h => c.bind fun cs => if cs.length = size then (storeA h cs a).map (ud, ·) else none) R r k := by
 cases c with
 | none => exact loc_vac (fun _ => rfl)
 | some cs =>
  simp only [bsm]
  split
  ·cases a <;> simp only [wrAt, FP.pt.injEq] at hw <;> try (cases hw; done)
   case ptr b off =>
    obtain ⟨rfl, rfl, rfl⟩ := hw
    refine loc_one ?_
    intro h v h' he
    simp only [storeA] at he
    split at he
    ·rename_i t xs hb
     split at he
     ·rename_i hlen
      simp only [msm, oiq, piq] at he
      obtain ⟨rfl, rfl⟩ := he
      refine ⟨_, (gei.1 hb).1, rfl, fun h2 _ _ h3 => ?_⟩
      simp only [storeA, h3, hb, if_pos hlen, msm]
     ·cases he
    ·cases he
   case rp b gen s kk off =>
    obtain ⟨rfl, rfl, rfl⟩ := hw
    refine loc_one ?_
    intro h v h' he
    simp only [storeA] at he
    split at he
    ·rename_i t s' g rows hb
     split at he
     ·rename_i hg
      split at he
      ·rename_i row hrow
       split at he
       ·rename_i hlen
        simp only [msm, oiq, piq] at he
        obtain ⟨rfl, rfl⟩ := he
        refine ⟨_, (gei.1 hb).1, rfl, fun h2 _ _ h3 => ?_⟩
        simp only [storeA, h3, hb, if_pos hg, hrow, if_pos hlen, msm]
       ·cases he
      ·cases he
     ·cases he
    ·cases he
   all_goals
    obtain ⟨rfl, rfl, rfl⟩ := hw
    exact loc_vac (fun x => by simp [storeA])
  ·exact loc_vac (fun _ => rfl)
theorem loc_append {t : TypeId} {size bytes : Nat} {x y : AV} {R : List Nat} {r k : Nat} (hw : wrAt y.blk x = .pt R r k) :
  Loc (fun h => (rowsOf h size y).bind fun news => appendA h t size bytes x news) R r k := by
 cases x <;> simp only [wrAt, FP.pt.injEq] at hw <;> try (cases hw; done)
 case sl b gen s off len =>
  obtain ⟨rfl, rfl, rfl⟩ := hw
  refine loc_one ?_
  intro h v h' he
  simp only [bei] at he
  obtain ⟨news, hn, he⟩ := he
  simp only [appendA] at he
  split at he
  ·rename_i h1
   split at he
   ·rename_i t' s' g rows hb
    split at he
    ·rename_i h2
     split at he
     ·rename_i h3
      simp only [oiq, piq] at he
      obtain ⟨rfl, rfl⟩ := he
      refine ⟨_, (gei.1 hb).1, rfl, fun h4 _ hr h5 => ?_⟩
      simp only [rowsOf_loc hr, hn, bsm, appendA, if_pos h1, h5, hb, if_pos h2, if_pos h3]
     ·rename_i h3
      simp only [oiq, piq] at he
      obtain ⟨rfl, rfl⟩ := he
      refine ⟨_, (gei.1 hb).1, rfl, fun h4 _ hr h5 => ?_⟩
      simp only [rowsOf_loc hr, hn, bsm, appendA, if_pos h1, h5, hb, if_pos h2, if_neg h3]
    ·cases he
   ·cases he
  ·cases he
 all_goals
  obtain ⟨rfl, rfl, rfl⟩ := hw
  refine loc_vac (fun z => ?_)
  cases rowsOf z size y <;> simp [appendA]
theorem loc_appF {t : TypeId} {size bytes : Nat} {x y : AV} {R : List Nat} {r k : Nat} (hw : wrAt y.blk x = .pt R r k) :
  Loc (fun h => ((rowsOf h size y).bind fun news => appendA h t size bytes x news).bind frzRes) R r k := by
 have hl := loc_append (t := t) (size := size) (bytes := bytes) hw
 cases x <;> simp only [wrAt, FP.pt.injEq] at hw <;> try (cases hw; done)
 case sl b gen s off len =>
  obtain ⟨rfl, rfl, rfl⟩ := hw
  intro h v h' he
  simp only [bei] at he
  obtain ⟨⟨u, h1⟩, ⟨news, hn, ha⟩, hz⟩ := he
  obtain ⟨nb, n1, n2, n3, n4⟩ := hl h u h1 (by simp only [hn, bsm]; exact ha)
  have hu : ∃ ge l, u = .sl b ge size 0 l := by
   simp only [appendA] at ha
   split at ha
   ·split at ha
    ·split at ha
     ·split at ha
      ·simp only [oiq, piq] at ha; exact ⟨_, _, ha.1.symm⟩
      ·simp only [oiq, piq] at ha; exact ⟨_, _, ha.1.symm⟩
     ·cases ha
    ·cases ha
   ·cases ha
  obtain ⟨ge, l, rfl⟩ := hu
  obtain ⟨z, rfl⟩ : ∃ z, nb = [z] := List.length_eq_one_iff.1 n1
  have hb := n2 (by omega)
  have hset : ∀ (q : List AB) (y : AB), putAt q b [y] = q.set b y := fun q y => by simp [putAt]
  rw [hset] at n3
  subst n3
  have hfz : ∀ (q : List AB), q.length = h.length → frzRes (.sl b ge size 0 l, q.set b z) = (match z with | .row _ s' g rows => if g = ge ∧ s' = size ∧ l ≤ rows.length then (pvr rows).map fun ys => (.p (.lst size (ys.take l)), q.set b .dead) else none | _ => none) := by
   intro q hq
   unfold frzRes
   simp only [List.getElem?_set_self (show b < q.length by omega), List.set_set]
   cases z <;> simp
  rw [hfz h rfl] at hz
  cases z <;> simp only at hz <;> try (cases hz; done)
  rename_i t' s' g rows
  split at hz
  ·rename_i hc
   simp only [mei, piq] at hz
   obtain ⟨ys, hp, rfl, rfl⟩ := hz
   refine ⟨[.dead], rfl, fun _ => by omega, by rw [hset], fun h2 hl2 hR hW => ?_⟩
   have := n4 h2 hl2 hR hW
   rw [hset] at this
   simp only at this ⊢
   rw [this, bsm, hfz h2 hl2, hset]
   simp only [if_pos hc, hp, msm]
  ·cases hz
 all_goals
  obtain ⟨rfl, rfl, rfl⟩ := hw
  refine loc_vac (fun z => ?_)
  cases rowsOf z size y <;> simp [appendA]
end
theorem take_congr {h h2 : List AB} {m : Nat} (hl : h2.length = h.length) (hr : ∀ b ∈ List.range m, h2[b]? = h[b]?) : h2.take m = h.take m := by
 apply List.ext_getElem?
 intro b
 rw [List.getElem?_take, List.getElem?_take]
 split
 ·rename_i hb; exact hr b (List.mem_range.2 hb)
 ·rfl
theorem okF_congr {h h2 : List AB} {m : Nat} {args : List AV} {q : AV × List AB} (hl : h2.length = h.length) (ht : h2.take m = h.take m) : okF m args h2 q = okF m args h q := by
 unfold okF; rw [hl, ht]
theorem okG_congr {h h2 : List AB} {m : Nat} {args : List AV} {q : List AB} (hl : h2.length = h.length) (ht : h2.take m = h.take m) : okG m args h2 q = okG m args h q := by
 unfold okG; rw [hl, ht]
theorem okF_len {h : List AB} {m : Nat} {args : List AV} {q : AV × List AB} (hk : okF m args h q = true) : m ≤ h.length ∧ (q.2.take m).length = m := by
 unfold okF at hk
 simp only [aet] at hk
 have h1 := lbt hk.1
 have h2 := lbt hk.2.2.2.2.1
 exact ⟨h1, by rw [List.length_take]; omega⟩
theorem loc_F {E : Env} {base : Nat} {o : ROp} {f : List AV} {R : List Nat} {r k : Nat} (hf : fpF E.gl base o f = .pt R r k) : Loc (actF E base o f) R r k := by
 cases hi : o.op.ins <;> (try (refine loc_vac (fun h => ?_); simp only [actF, hi]; done))
 rename_i sh fo args
 cases sh with
 | false => exact loc_vac (fun h => by simp only [actF, hi])
 | true =>
  cases hfo : fo.ev f E.gl <;> (try (refine loc_vac (fun h => ?_); simp only [actF, hi, hfo]; done))
  rename_i g caps
  have hact : actF E base o f = fun h => (E.callS g (args.map (·.ev f E.gl) ++ caps) (h.take (topB (args.map (·.ev f E.gl) ++ caps)))).bind (frA o.z (base + o.off) o.k (topB (args.map (·.ev f E.gl) ++ caps)) (args.map (·.ev f E.gl) ++ caps) h) := by
   funext h; simp only [actF, hi, hfo]
  rw [hact]
  simp only [fpF, hi, hfo] at hf
  generalize args.map (·.ev f E.gl) ++ caps = as at hf
  generalize topB as = m at hf
  intro h v h' ha
  simp only [bei] at ha
  obtain ⟨q, hq, ha⟩ := ha
  unfold frA at ha
  split at ha
  ·rename_i hz
   split at ha
   ·rename_i hk
    simp only [oiq, piq] at ha
    obtain ⟨rfl, rfl⟩ := ha
    rw [hz] at hf
    simp only [FP.pt.injEq] at hf
    obtain ⟨rfl, rfl, rfl⟩ := hf
    refine ⟨[], rfl, fun h => by omega, rfl, fun h2 hl hr _ => ?_⟩
    have ht := take_congr hl hr
    simp only [ht, hq, bsm, frA, hz, okF_congr hl ht, hk, if_true]
    rfl
   ·cases ha
  ·rename_i hz
   split at ha
   ·rename_i b ge s l hv
    split at ha
    ·rename_i t s' g' rows hb
     split at ha
     ·rename_i hk
      simp only [oiq, piq] at ha
      obtain ⟨rfl, rfl⟩ := ha
      rw [hz] at hf
      simp only [FP.pt.injEq] at hf
      obtain ⟨rfl, rfl, rfl⟩ := hf
      have hk' := hk
      simp only [aet] at hk'
      refine ⟨_, rfl, fun _ => holesAt_le (by omega) hk'.2.1, rfl, fun h2 hl hr hw => ?_⟩
      have ht := take_congr hl hr
      have hh : holesAt h2 (base + o.off) 1 = holesAt h (base + o.off) 1 := by rw [hk'.2.1]; exact holesAt_congr _ _ hw hk'.2.1
      simp only [ht, hq, bsm, frA, hz, okG_congr hl ht, hh, hv, hb, hk, if_true]
     ·cases ha
    ·cases ha
   ·cases ha
  ·rename_i hz
   rw [hz] at hf
   cases hf
  ·rename_i n hz
   rw [hz] at hf
   cases hf
  ·rename_i h1 hz2 hz4 hz5
   split at ha
   ·rename_i hk
    simp only [oiq, piq] at ha
    obtain ⟨rfl, rfl⟩ := ha
    have hf : FP.pt (List.range m) 0 m = .pt R r k := by
     revert hf
     split
     ·rename_i e; exact absurd e h1
     ·rename_i e; exact absurd e hz2
     ·rename_i e; exact absurd e hz4
     ·rename_i n e; exact absurd e (hz5 n)
     ·exact id
    simp only [FP.pt.injEq] at hf
    obtain ⟨rfl, rfl, rfl⟩ := hf
    simp only [aet] at hk
    obtain ⟨k1, k2⟩ := okF_len hk.2
    refine ⟨q.2.take m, k2, fun _ => by omega, rfl, fun h2 hl hr _ => ?_⟩
    have ht := take_congr hl hr
    simp only [ht, hq, bsm]
    unfold frA
    split
    ·rename_i e; exact absurd e h1
    ·rename_i e; exact absurd e hz2
    ·rename_i e; exact absurd e hz4
    ·rename_i n e; exact absurd e (hz5 n)
    ·rw [if_pos (by rw [okF_congr hl ht, hk.1, hk.2]; rfl)]
   ·cases ha
theorem loc_of {E : Env} {base : Nat} {o : ROp} {f : List AV} {R : List Nat} {r k : Nat} (hf : fpO E.gl base o f = .pt R r k) : Loc (actR E base o f) R r k := by
 unfold fpO at hf
 cases hw : wantedA f o.op.guard with
 | none => exact loc_vac (fun h => by simp only [actR, hw])
 | some b =>
  cases b with
  | false =>
   rw [hw] at hf
   simp only [FP.pt.injEq] at hf
   obtain ⟨rfl, rfl, rfl⟩ := hf
   refine loc_pure (fun h v h' ha => ?_)
   simp only [actR, hw, oiq, piq] at ha
   obtain ⟨rfl, rfl⟩ := ha
   exact ⟨rfl, fun h2 => by simp only [actR, hw]⟩
  | true =>
   rw [hw] at hf
   simp only at hf
   by_cases hz : o.fz = true
   ·rw [if_pos hz] at hf
    have hact : actR E base o f = actF E base o f := by funext h; simp only [actR, hw, hz, if_true]
    rw [hact]
    exact loc_F hf
   rw [if_neg hz] at hf
   have hz : o.fz = false := by simpa using hz
   have hact : actR E base o f = fun h => if o.op.ins.mks then (evM E f (base + o.off) o.op.ins).bind fun p => if p.2.length.beq o.k && holesAt h (base + o.off) o.k then some (p.1, putAt h (base + o.off) p.2) else none else stepI E o.op.ins ⟨f, h⟩ := by
    funext h; simp only [actR, hw, hz, fet, if_false]
   rw [hact]
   by_cases hc2 : o.op.ins.mks = true
   ·have e2 : fpI E.gl f (base + o.off) o.k o.op.ins = .pt [] (base + o.off) o.k := by
     cases hi : o.op.ins <;> rw [hi] at hc2 <;> simp only [Ins.mks, Ins.cls] at hc2 <;> try (exfalso; revert hc2; decide)
     case call sh a b => cases sh <;> simp at hc2
     case append t size bytes zero x y => simp only [fpI, hc2, if_true]
     all_goals (simp only [fpI, Ins.mks, Ins.cls]; rfl)
    rw [e2, FP.pt.injEq] at hf
    obtain ⟨rfl, rfl, rfl⟩ := hf
    simp only [hc2, if_true]
    cases hev : evM E f (base + o.off) o.op.ins with
    | none => exact loc_vac (fun _ => rfl)
    | some p =>
     simp only [bsm]
     intro h v h' ha
     simp only at ha
     split at ha
     ·rename_i hh
      simp only [aet] at hh
      simp only [oiq, piq] at ha
      obtain ⟨rfl, rfl⟩ := ha
      refine ⟨p.2, Nat.eq_of_beq_eq_true hh.1, fun hk => holesAt_le hk hh.2, rfl, fun h2 _ _ hw2 => ?_⟩
      simp only
      rw [if_pos (by rw [hh.1, holesAt_congr _ _ hw2 hh.2]; rfl)]
     ·cases ha
   ·have hb : o.op.ins.mks = false := by simpa using hc2
    simp only [hb, fet, if_false]
    by_cases hc0 : o.op.ins.cls = 0
    ·have e0 : fpI E.gl f (base + o.off) o.k o.op.ins = .pt [] 0 0 := by
      cases hi : o.op.ins <;> rw [hi] at hc0 <;> simp only [Ins.cls] at hc0 <;> try (exfalso; revert hc0; decide)
      case call sh a b => cases sh <;> simp at hc0
      all_goals (simp only [fpI, Ins.cls]; rfl)
     rw [e0, FP.pt.injEq] at hf
     obtain ⟨rfl, rfl, rfl⟩ := hf
     refine loc_pure (fun h v h' ha => ?_)
     have hn : (∀ sh fo as, o.op.ins ≠ .call sh fo as) ∧ ∀ k fo as, o.op.ins ≠ .callX k fo as := ⟨by intro sh fo as e; rw [e] at hc0; cases sh <;> simp [Ins.cls] at hc0, by intro k fo as e; rw [e] at hc0; simp [Ins.cls] at hc0⟩
     rw [stepI_ev hn] at ha
     obtain ⟨k1, k2⟩ := ev0 hc0 ha
     exact ⟨k1, fun h2 => by rw [stepI_ev hn]; exact k2 h2⟩
    ·cases hi : o.op.ins <;> rw [hi] at hc0 hc2 hf <;> simp only [Ins.mks, Ins.cls] at hc0 hc2 <;> try (exfalso; revert hc0 hc2; decide)
     case load agg size x =>
      simp only [fpI, FP.pt.injEq] at hf
      obtain ⟨rfl, rfl, rfl⟩ := hf
      refine loc_read ?_ ?_
      ·intro h v h' ha; rw [stepI_ev (by intros; simp)] at ha; exact ev1_same rfl ha
      ·intro h h2 hr; simp only [stepI_ev (i := .load agg size x) (by intros; simp), evI, loadA_loc hr]; cases loadA h size (x.ev f E.gl) <;> simp only [bsm, Option.bind_none, Option.map_none, Option.map_map, Function.comp_def]
     case loadF deep agg size x =>
      simp only [fpI, FP.pt.injEq] at hf
      obtain ⟨rfl, rfl, rfl⟩ := hf
      refine loc_read ?_ ?_
      ·intro h v h' ha; rw [stepI_ev (by intros; simp)] at ha; exact ev1_same rfl ha
      ·intro h h2 hr; simp only [stepI_ev (i := .loadF deep agg size x) (by intros; simp), evI, loadA_loc hr]; cases loadA h size (x.ev f E.gl) <;> simp only [bsm, Option.bind_none, Option.map_none, Option.map_map, Function.comp_def]
     case store size a v =>
      simp only [fpI] at hf
      have e : (fun h => stepI E (.store size a v) ⟨f, h⟩) = fun h => (cellsOf (v.ev f E.gl)).bind fun cs => if cs.length = size then (storeA h cs (a.ev f E.gl)).map (ud, ·) else none := by
       funext h; rw [stepI_ev (by intros; simp)]; simp only [evI]
      rw [e]
      exact loc_store hf
     case append t size bytes zero x y =>
      simp only [fpI, hc2, if_false] at hf
      have e : (fun h => stepI E (.append t size bytes zero x y) ⟨f, h⟩) = fun h => (rowsOf h size (y.ev f E.gl)).bind fun news => appendA h t size bytes (x.ev f E.gl) news := by
       funext h; rw [stepI_ev (by intros; simp)]; simp only [evI]
      rw [e]
      exact loc_append hf
     case appF t size bytes x y =>
      simp only [fpI] at hf
      have e : (fun h => stepI E (.appF t size bytes x y) ⟨f, h⟩) = fun h => ((rowsOf h size (y.ev f E.gl)).bind fun news => appendA h t size bytes (x.ev f E.gl) news).bind frzRes := by
       funext h; rw [stepI_ev (by intros; simp)]; simp only [evI]
      rw [e]
      exact loc_appF hf
     case mapEn ks agg vagg zero m k =>
      simp only [fpI] at hf
      have e : (fun h => stepI E (.mapEn ks agg vagg zero m k) ⟨f, h⟩) = fun h => (mapAt h (m.ev f E.gl)).bind fun r => (enterM agg ks (oneOr vagg (zero.map .p)) (k.ev f E.gl) r.2.1 r.2.2).map fun x => (x.1, h.set r.1 (.map r.2.1 x.2)) := by
       funext h; rw [stepI_ev (by intros; simp)]; simp only [evI]
      rw [e]
      exact loc_map (F := fun q es => enterM agg ks (oneOr vagg (zero.map .p)) (k.ev f E.gl) q es) hf
     case mapUp ks agg m k v =>
      simp only [fpI] at hf
      have e : (fun h => stepI E (.mapUp ks agg m k v) ⟨f, h⟩) = fun h => (mapAt h (m.ev f E.gl)).bind fun r => ((updM agg ks (k.ev f E.gl) (v.ev f E.gl) r.2.2).map fun x => ((ud, x) : AV × List (AV × AV))).map fun x => (x.1, h.set r.1 (.map r.2.1 x.2)) := by
       funext h; rw [stepI_ev (by intros; simp)]; simp only [evI, Option.map_map, Function.comp_def]
      rw [e]
      exact loc_map (F := fun _ es => (updM agg ks (k.ev f E.gl) (v.ev f E.gl) es).map fun x => (ud, x)) hf
     case entSt m s v =>
      simp only [fpI] at hf
      have e : (fun h => stepI E (.entSt m s v) ⟨f, h⟩) = fun h => (mapAt h (m.ev f E.gl)).bind fun r => ((match s.ev f E.gl with
  | .p (.val (.int .i64 n)) => if (r.2.1 : Int) ≤ n then (putM r.2.2 (n.toNat - r.2.1) (v.ev f E.gl)).map fun x => (ud, x) else none
  | _ => none : Option (AV × List (AV × AV)))).map fun x => (x.1, h.set r.1 (.map r.2.1 x.2)) := by
       funext h; rw [stepI_ev (by intros; simp)]; simp only [evI]
       cases mapAt h (m.ev f E.gl) with
       | none => rfl
       | some r =>
        simp only [bsm]
        split
        ·rename_i n heq
         simp only [heq]
         split
         ·simp only [Option.map_map, Function.comp_def]
         ·rfl
        ·rename_i hne
         split
         ·exact absurd (by assumption) (hne _)
         ·rfl
      rw [e]
      exact loc_map (F := fun q es => match s.ev f E.gl with
  | .p (.val (.int .i64 n)) => if (q : Int) ≤ n then (putM es (n.toNat - q) (v.ev f E.gl)).map fun x => (ud, x) else none
  | _ => none) hf
     case lkUp ks agg vagg zero ok m k =>
      simp only [fpI, FP.pt.injEq] at hf
      obtain ⟨rfl, rfl, rfl⟩ := hf
      refine loc_read ?_ ?_
      ·intro h v h' ha
       rw [stepI_ev (by intros; simp)] at ha
       simp only [evI] at ha
       split at ha
       ·split at ha
        ·simp only [mei, piq] at ha; obtain ⟨_, _, _, rfl⟩ := ha; rfl
        ·cases ha
       ·simp only [bei, mei, piq] at ha; obtain ⟨_, _, _, _, _, rfl⟩ := ha; rfl
      ·intro h h2 hr
       simp only [stepI_ev (i := .lkUp ks agg vagg zero ok m k) (by intros; simp), evI]
       have hm := mapAt_loc hr
       generalize m.ev f E.gl = u at hm ⊢
       split
       ·split <;> simp only [Option.map_map, Function.comp_def]
       ·rw [hm]
        cases mapAt h u with
        | none => rfl
        | some r => simp only [bsm, Option.map_map, Function.comp_def]
     case slice size x lo hi' =>
      simp only [fpI, FP.pt.injEq] at hf
      obtain ⟨rfl, rfl, rfl⟩ := hf
      refine loc_read ?_ ?_
      ·intro h v h' ha; rw [stepI_ev (by intros; simp)] at ha; exact ev1_same rfl ha
      ·intro h h2 hr
       rw [stepI_ev (by intros; simp), stepI_ev (by intros; simp)]
       exact slice_loc hr
     case convB x =>
      simp only [fpI, FP.pt.injEq] at hf
      obtain ⟨rfl, rfl, rfl⟩ := hf
      refine loc_read ?_ ?_
      ·intro h v h' ha; rw [stepI_ev (by intros; simp)] at ha; exact ev1_same rfl ha
      ·intro h h2 hr
       simp only [stepI_ev (i := .convB x) (by intros; simp), evI]
       split
       ·rfl
       ·rw [rowsOf_loc hr]
        cases rowsOf h 1 (x.ev f E.gl) with
        | none => rfl
        | some r => simp only [bsm, Option.map_map, Function.comp_def]
     case slData x =>
      simp only [fpI, FP.pt.injEq] at hf
      obtain ⟨rfl, rfl, rfl⟩ := hf
      refine loc_read ?_ ?_
      ·intro h v h' ha; rw [stepI_ev (by intros; simp)] at ha; exact ev1_same rfl ha
      ·intro h h2 hr
       simp only [stepI_ev (i := .slData x) (by intros; simp), evI]
       cases hx : x.ev f E.gl <;> simp only [hx, AV.blk, List.mem_singleton, forall_eq] at hr <;> try rfl
       simp only
       rw [hr]
       split <;> (try split) <;> rfl
     case call sh a b =>
      cases sh with
      | true => simp [fpI, Ins.mks, Ins.cls] at hf
      | false =>
       simp only [fpI] at hf
       split at hf
       ·rename_i gg caps hfo
        split at hf
        ·rename_i hpu
         simp only [FP.pt.injEq] at hf
         obtain ⟨rfl, rfl, rfl⟩ := hf
         refine loc_pure (fun h v h' ha => ?_)
         simp only [stepI, hfo] at ha ⊢
         obtain ⟨u, h1, h2⟩ := mei.1 ha
         simp only [piq] at h2
         obtain ⟨rfl, rfl⟩ := h2
         exact ⟨rfl, fun h2 => by rw [← E.pureI _ _ h h2 hpu, h1]; rfl⟩
        ·cases hf
       ·cases hf
     all_goals (simp [fpI, Ins.mks, Ins.cls] at hf)
theorem loc_comm {a1 a2 : List AB → Option (AV × List AB)} {R R' : List Nat} {r r' k k' : Nat} (l1 : Loc a1 R r k) (l2 : Loc a2 R' r' k')
  (hd : (clearOf r k R' && clearOf r' k' R && (k == 0 || k' == 0 || (r + k).ble r' || (r' + k').ble r)) = true) {h h1 h2 : List AB} {v1 v2 : AV} (e1 : a1 h = some (v1, h1)) (e2 : a2 h1 = some (v2, h2)) :
  ∃ hm, a2 h = some (v2, hm) ∧ a1 hm = some (v1, h2) := by
 simp only [aet, Bool.or_eq_true, beq_iff_eq, Nat.ble_eq] at hd
 obtain ⟨⟨c1, c2⟩, c3⟩ := hd
 have hcl : ∀ {r k : Nat} {R : List Nat}, clearOf r k R = true → ∀ b ∈ R, ¬ (r ≤ b ∧ b < r + k) := by
  intro r k R hc b hb
  unfold clearOf at hc
  rw [Bool.or_eq_true] at hc
  rcases hc with hc | hc
  ·have := eq_of_beq hc
   omega
  have := List.all_eq_true.1 hc b hb
  simp only [Bool.or_eq_true, Nat.blt_eq, Nat.ble_eq] at this
  omega
 obtain ⟨nb, n1, n2, rfl, n4⟩ := l1 h v1 h1 e1
 obtain ⟨nb', m1, m2, rfl, m4⟩ := l2 _ v2 h2 e2
 rw [putAt_len] at m2
 have hsame : ∀ (nb : List AB) (r k : Nat) (h : List AB), nb.length = k → (0 < k → r + k ≤ h.length) → ∀ b, ¬ (r ≤ b ∧ b < r + k) → (putAt h r nb)[b]? = h[b]? := by
  intro nb r k h hl hle b hb
  by_cases hk : 0 < k
  ·rw [putAt_get _ _ _ _ (by rw [hl]; exact hle hk), if_neg (by rw [hl]; exact hb)]
  ·have : nb = [] := enz (by omega)
   subst this
   rfl
 have ha2 := m4 h (by rw [putAt_len]) (fun b hb => (hsame nb r k h n1 n2 b (hcl c1 b hb)).symm) (fun b h3 h4 => (hsame nb r k h n1 n2 b (by omega)).symm)
 refine ⟨_, ha2, ?_⟩
 have ha1 := n4 (putAt h r' nb') (by rw [putAt_len]) (fun b hb => hsame nb' r' k' h m1 m2 b (hcl c2 b hb)) (fun b h3 h4 => hsame nb' r' k' h m1 m2 b (by omega))
 rw [ha1]
 congr 2
 by_cases hk : 0 < k
 ·by_cases hk' : 0 < k'
  ·exact (putAt_comm (by rw [n1]; exact n2 hk) (by rw [m1]; exact m2 hk') (fun b h3 h4 => by rw [n1] at h4; rw [m1]; omega)).symm
  ·have : nb' = [] := enz (by omega)
   subst this
   rfl
 ·have : nb = [] := enz (by omega)
  subst this
  rfl
def indepS (x y : IOp) : Bool :=
 (match x.dst with | some d => !y.uses.contains d && y.dst != some d | none => true) &&
 (match y.dst with | some d => !x.uses.contains d | none => true)
section
variable {E : Env} {base : Nat}
theorem range_nil {m : Nat} (h : List.range m = []) : m = 0 := by
 have := congrArg List.length h
 simpa using this
theorem pureF {o : ROp} {f : List AV} {r : Nat} (ho : fpF E.gl base o f = .pt [] r 0) {h h' : List AB} {v : AV} (ha : actF E base o f h = some (v, h')) (g : List AB) : actF E base o f g = some (v, g) := by
 cases hi : o.op.ins <;> (try (simp only [actF, hi] at ha; cases ha; done))
 rename_i sh fo args
 cases sh with
 | false => simp only [actF, hi] at ha; cases ha
 | true =>
  cases hfo : fo.ev f E.gl <;> (try (simp only [actF, hi, hfo] at ha; cases ha; done))
  rename_i fn caps
  simp only [actF, hi, hfo] at ha ⊢
  simp only [fpF, hi, hfo] at ho
  generalize args.map (·.ev f E.gl) ++ caps = as at ho ha
  have e0 : topB as = 0 := by
   split at ho <;> first | (cases ho; done) | (simp only [FP.pt.injEq] at ho; exact range_nil ho.1)
  rw [e0] at ha ho ⊢
  simp only [List.take_zero, bei] at ha ⊢
  obtain ⟨q, hq, ha⟩ := ha
  refine ⟨q, hq, ?_⟩
  have b0 : ∀ n, Nat.ble 0 n = true := fun n => by cases n <;> rfl
  have ho0 : ∀ x y, okF 0 as x q = okF 0 as y q := by intro x y; simp [okF, b0]
  unfold frA at ha ⊢
  split at ha
  ·rw [ho0 g h]
   split at ha
   ·rename_i hk
    simp only [oiq, piq] at ha
    refine (if_pos ?_).trans (by rw [ha.1])
    exact hk
   ·cases ha
  ·rename_i hz
   rw [hz] at ho
   simp at ho
  ·rename_i hz
   rw [hz] at ho
   cases ho
  ·rename_i n hz
   rw [hz] at ho
   cases ho
  ·rename_i h1 h2 h4 h5
   split at ha
   ·rename_i hk
    simp only [oiq, piq] at ha
    rw [ho0 g h, if_pos hk, ha.1]
    rfl
   ·cases ha
theorem actF_congr {o : ROp} {f f' : List AV} {h : List AB} (hu : ∀ t ∈ o.op.ins.uses, getT f t = getT f' t) : actF E base o f h = actF E base o f' h := by
 cases hi : o.op.ins <;> (try (simp only [actF, hi]; done))
 rename_i sh fo args
 rw [hi] at hu
 simp only [Ins.uses, List.mem_append] at hu
 have e1 := ev_congr (gl := E.gl) (f := f) (f' := f') (x := fo) (fun t ht => hu t (.inl ht))
 have e2 := map_congr' (gl := E.gl) (f := f) (f' := f') (cs := args) (fun t ht => hu t (.inr ht))
 cases sh <;> simp only [actF, hi, e1, e2]
theorem fpF_congr {gl : Nat → Option (List PV)} {o : ROp} {f f' : List AV} (hu : ∀ t ∈ o.op.ins.uses, getT f t = getT f' t) : fpF gl base o f = fpF gl base o f' := by
 cases hi : o.op.ins <;> (try (simp only [fpF, hi]; done))
 rename_i sh fo args
 rw [hi] at hu
 simp only [Ins.uses, List.mem_append] at hu
 have e1 := ev_congr (gl := gl) (f := f) (f' := f') (x := fo) (fun t ht => hu t (.inl ht))
 have e2 := map_congr' (gl := gl) (f := f) (f' := f') (cs := args) (fun t ht => hu t (.inr ht))
 cases sh <;> simp only [fpF, hi, e1, e2]
theorem actR_congr {o : ROp} {f f' : List AV} {h : List AB} (hu : ∀ t ∈ o.op.uses, getT f t = getT f' t) : actR E base o f h = actR E base o f' h := by
 have hi : ∀ t ∈ o.op.ins.uses, getT f t = getT f' t := fun t ht => hu t (by simp [IOp.uses, ht])
 have hw : wantedA f o.op.guard = wantedA f' o.op.guard := by
  cases hg : o.op.guard with
  | none => rfl
  | some p => obtain ⟨t, b⟩ := p; simp only [wantedA]; rw [hu t (by simp [IOp.uses, hg])]
 have h0 := actO_congr (E := E) (o := { o.op with guard := none }) (h := h) (f := f) (f' := f') (fun t ht => hi t (by simpa [IOp.uses] using ht))
 simp only [actO, wantedA] at h0
 have h1 : evA E.gl f (base + o.off) o.op.ins = evA E.gl f' (base + o.off) o.op.ins := by
  cases hins : o.op.ins <;> rw [hins] at hi <;> simp only [evA]
  ·rename_i x; rw [ev_congr (gl := E.gl) (fun t ht => hi t ht)]
  ·rename_i t size zero len ps
   rw [fillR_congr ps _ (fun t ht => hi t ht)]
  ·rename_i x; rw [ev_congr (gl := E.gl) (fun t ht => hi t ht)]
  ·rename_i t size bytes zero l c
   rw [ev_congr (gl := E.gl) (x := l) (fun t ht => hi t (by simp [Ins.uses, ht])), ev_congr (gl := E.gl) (x := c) (fun t ht => hi t (by simp [Ins.uses, ht]))]
  ·rename_i t size bytes x y
   rw [ev_congr (gl := E.gl) (x := x) (fun t ht => hi t (by simp [Ins.uses, ht])), ev_congr (gl := E.gl) (x := y) (fun t ht => hi t (by simp [Ins.uses, ht]))]
  ·rename_i x; rw [ev_congr (gl := E.gl) (fun t ht => hi t ht)]
 have h2 : evM E f (base + o.off) o.op.ins = evM E f' (base + o.off) o.op.ins := by
  cases hins : o.op.ins with
  | append t size bytes zero x y =>
   rw [hins] at hi
   simp only [Ins.uses, List.mem_append] at hi
   simp only [evM, ev_congr (gl := E.gl) (f := f) (f' := f') (x := y) (fun t ht => hi t (.inr ht))]
  | callX k fo as =>
   rw [hins] at hi
   simp only [evM]
   simp only [Ins.uses, List.mem_append] at hi
   have e1 := ev_congr (gl := E.gl) (f := f) (f' := f') (x := fo) (fun t ht => hi t (.inl ht))
   have e2 := map_congr' (gl := E.gl) (f := f) (f' := f') (cs := as) (fun t ht => hi t (.inr ht))
   simp only [Ins.cls, evX, e1, e2, beq_self_eq_true, if_true]
  | _ => rw [hins] at h1; simp only [evM, h1, Ins.cls]; rfl
 unfold actR
 rw [hw, h0, h2, actF_congr hi]
theorem fpO_congr {o : ROp} {f f' : List AV} {gl : Nat → Option (List PV)} (hu : ∀ t ∈ o.op.uses, getT f t = getT f' t) : fpO gl base o f = fpO gl base o f' := by
 have hi : ∀ t ∈ o.op.ins.uses, getT f t = getT f' t := fun t ht => hu t (by simp [IOp.uses, ht])
 have hw : wantedA f o.op.guard = wantedA f' o.op.guard := by
  cases hg : o.op.guard with
  | none => rfl
  | some p => obtain ⟨t, b⟩ := p; simp only [wantedA]; rw [hu t (by simp [IOp.uses, hg])]
 have h1 : fpI gl f (base + o.off) o.k o.op.ins = fpI gl f' (base + o.off) o.k o.op.ins := by
  cases hins : o.op.ins <;> rw [hins] at hi <;> simp only [fpI, Ins.cls] <;> simp only [Ins.uses, List.mem_append] at hi
  case load x => rw [ev_congr (gl := gl) hi]
  case loadF x => rw [ev_congr (gl := gl) hi]
  case appF x y => rw [ev_congr (gl := gl) (x := x) (fun t ht => hi t (.inl ht)), ev_congr (gl := gl) (x := y) (fun t ht => hi t (.inr ht))]
  case store a v => rw [ev_congr (gl := gl) (x := a) (fun t ht => hi t (.inl ht))]
  case convB x => rw [ev_congr (gl := gl) hi]
  case slice x l r => rw [ev_congr (gl := gl) (x := x) (fun t ht => hi t (.inl (.inl ht)))]
  case append x y => rw [ev_congr (gl := gl) (x := x) (fun t ht => hi t (.inl ht)), ev_congr (gl := gl) (x := y) (fun t ht => hi t (.inr ht))]
  case slData x => rw [ev_congr (gl := gl) hi]
  case lkUp m k => rw [ev_congr (gl := gl) (x := m) (fun t ht => hi t (by simp [ht]))]
  case mapEn m k => rw [ev_congr (gl := gl) (x := m) (fun t ht => hi t (by simp [ht]))]
  case mapUp m k v => rw [ev_congr (gl := gl) (x := m) (fun t ht => hi t (by simp [ht]))]
  case entSt m s v => rw [ev_congr (gl := gl) (x := m) (fun t ht => hi t (by simp [ht]))]
  case call sh fo args =>
   cases sh with
   | true => rfl
   | false => simp only [fpI, ev_congr (gl := gl) (x := fo) (fun t ht => hi t (by simp [ht])), map_congr' (gl := gl) (cs := args) (fun t ht => hi t (by simp [ht]))]
 unfold fpO
 rw [hw, h1, fpF_congr hi]
theorem indep_get {x y : IOp} (hi : indepS x y = true) : (∀ t ∈ y.uses, x.dst ≠ some t) ∧ (∀ t ∈ x.uses, y.dst ≠ some t) ∧ ∀ t, x.dst = some t → y.dst ≠ some t := by
 unfold indepS at hi
 simp only [aet] at hi
 obtain ⟨hi1, hi2⟩ := hi
 refine ⟨?_, ?_, ?_⟩
 ·intro t ht e
  rw [e] at hi1
  simp only [aet, Bool.not_eq_true', List.contains_eq_mem, decide_eq_false_iff_not] at hi1
  exact hi1.1 ht
 ·intro t ht e
  rw [e] at hi2
  simp only [Bool.not_eq_true', List.contains_eq_mem, decide_eq_false_iff_not] at hi2
  exact hi2 ht
 ·intro t e
  rw [e] at hi1
  simp only [aet, bne_iff_ne] at hi1
  exact hi1.2
def commA (a1 a2 : List AB → Option (AV × List AB)) : Prop := ∀ h h1 h2 v1 v2, a1 h = some (v1, h1) → a2 h1 = some (v2, h2) → ∃ hm, a2 h = some (v2, hm) ∧ a1 hm = some (v1, h2)
theorem commA_fp {x y : ROp} {f : List AV} (h : okFP (fpO E.gl base x f) (fpO E.gl base y f) = true) : commA (actR E base x f) (actR E base y f) := by
 intro h0 h1 h2 v1 v2 e1 e2
 have pureL : ∀ {o : ROp} {r}, fpO E.gl base o f = .pt [] r 0 → ∀ h v h', actR E base o f h = some (v, h') → h' = h := by
  intro o r ho h v h' ha
  obtain ⟨nb, n1, _, rfl, _⟩ := loc_of ho h v h' ha
  have : nb = [] := enz n1
  subst this; rfl
 have pureA : ∀ {o : ROp} {r}, fpO E.gl base o f = .pt [] r 0 → ∀ h v h', actR E base o f h = some (v, h') → ∀ g, actR E base o f g = some (v, g) := by
  intro o r ho h v h' ha g
  unfold fpO at ho
  cases hw : wantedA f o.op.guard with
  | none => simp only [actR, hw] at ha; cases ha
  | some b =>
   cases b with
   | false =>
    simp only [actR, hw, oiq, piq] at ha ⊢
    exact ⟨ha.1, trivial⟩
   | true =>
    rw [hw] at ho
    simp only at ho
    by_cases hz : o.fz = true
    ·rw [if_pos hz] at ho
     simp only [actR, hw, hz, if_true] at ha ⊢
     exact pureF ho ha g
    rw [if_neg hz] at ho
    have hz : o.fz = false := by simpa using hz
    simp only [actR, hw, hz, fet, if_false] at ha ⊢
    by_cases hc0 : o.op.ins.cls = 0
    ·have hb : o.op.ins.mks = false := by cases hi : o.op.ins <;> rw [hi] at hc0 <;> simp only [Ins.mks, hc0] <;> first | rfl | (exfalso; revert hc0; simp [Ins.cls])
     simp only [hb, fet, if_false] at ha ⊢
     have hn : (∀ sh fo as, o.op.ins ≠ .call sh fo as) ∧ ∀ k fo as, o.op.ins ≠ .callX k fo as := ⟨by intro sh fo as e; rw [e] at hc0; cases sh <;> simp [Ins.cls] at hc0, by intro k fo as e; rw [e] at hc0; simp [Ins.cls] at hc0⟩
     rw [stepI_ev hn] at ha ⊢
     exact (ev0 hc0 ha).2 g
    ·by_cases hc2 : o.op.ins.mks = true
     ·-- nothing made: not so
      simp only [hc2, if_true, bei] at ha
      obtain ⟨p, hp, ha⟩ := ha
      split at ha
      ·rename_i hh
       simp only [aet] at hh
       have hk : o.k = 0 := by
        cases hi : o.op.ins <;> rw [hi] at hc2 ho <;> simp only [Ins.mks, Ins.cls] at hc2 <;> try (exfalso; revert hc2; decide)
        case call sh a b => cases sh <;> simp at hc2
        case append t size bytes zero x y => simp [fpI, hc2] at ho; exact ho.2
        all_goals (simp [fpI, Ins.mks, Ins.cls] at ho; exact ho.2)
       have hlen := Nat.eq_of_beq_eq_true hh.1
       rw [hk] at hlen
       exfalso
       cases hi : o.op.ins <;> rw [hi] at hp <;> simp only [evM, Ins.cls] at hp <;> try (simp [evA] at hp; done)
       case callX => simp only [beq_self_eq_true, if_true] at hp; exact evX_len hp hlen
       case append t size bytes zero x y =>
        split at hp
        ·have := apN_len hp; omega
        ·cases hp
       case call sh fo as => cases sh <;> simp [evA] at hp
       all_goals simp only [show ((2 : Nat) == 5) = false from rfl, fet, if_false, evA] at hp
       case nilrow => simp only [oiq] at hp; subst hp; simp at hlen
       case alloc t zs => simp only [oiq] at hp; subst hp; simp at hlen
       case box => simp only [mei] at hp; obtain ⟨_, _, rfl⟩ := hp; simp at hlen
       case buildS => simp only [mei] at hp; obtain ⟨_, _, rfl⟩ := hp; simp at hlen
       case mkB =>
        split at hp
        ·split at hp
         ·simp only [oiq] at hp; subst hp; simp at hlen
         ·cases hp
        ·cases hp
       case appN =>
        split at hp
        ·rw [apN_len hp] at hlen; simp at hlen
        ·cases hp
       case mkNZ =>
        split at hp
        ·split at hp
         ·simp only [oiq] at hp; subst hp; simp at hlen
         ·cases hp
        ·cases hp
       case makeS =>
        simp only [bei] at hp
        obtain ⟨_, _, _, _, hp⟩ := hp
        split at hp
        ·simp only [oiq] at hp; subst hp; simp at hlen
        ·cases hp
       case mkMap => simp only [oiq] at hp; subst hp; simp at hlen
      ·cases ha
     ·have hb : o.op.ins.mks = false := by simpa using hc2
      simp only [hb, fet, if_false] at ha ⊢
      cases hi : o.op.ins <;> rw [hi] at hc0 hc2 ho ha <;> simp only [Ins.mks, Ins.cls] at hc0 hc2 <;> try (exfalso; revert hc0 hc2; decide)
      case load agg size x =>
       simp only [fpI, FP.pt.injEq] at ho
       have hr : ∀ b ∈ (x.ev f E.gl).blk, g[b]? = h[b]? := by rw [ho.1]; simp
       rw [stepI_ev (by intros; simp)] at ha ⊢
       have e := ev1_same rfl ha
       subst e
       simp only [evI, loadA_loc hr, bei, mei, piq] at ha ⊢
       obtain ⟨cs, k1, v', k2, k3, _⟩ := ha
       exact ⟨cs, k1, v', k2, k3, trivial⟩
      case loadF deep agg size x =>
       simp only [fpI, FP.pt.injEq] at ho
       have hr : ∀ b ∈ (x.ev f E.gl).blk, g[b]? = h[b]? := by rw [ho.1]; simp
       rw [stepI_ev (by intros; simp)] at ha ⊢
       have e := ev1_same rfl ha
       subst e
       simp only [evI, loadA_loc hr, bei, mei, piq] at ha ⊢
       obtain ⟨cs, k1, v', k2, k3, _⟩ := ha
       exact ⟨cs, k1, v', k2, k3, trivial⟩
      case appF x y =>
       simp only [fpI] at ho
       cases hx : x.ev f E.gl <;> rw [hx] at ho <;> simp [wrAt] at ho
      case store a v =>
       simp only [fpI] at ho
       cases hx : a.ev f E.gl <;> rw [hx] at ho <;> simp [wrAt] at ho
      case append x y =>
       simp only [fpI, hc2, if_false] at ho
       cases hx : x.ev f E.gl <;> rw [hx] at ho <;> simp [wrAt] at ho
      case mapEn m k =>
       simp only [fpI] at ho
       cases hx : m.ev f E.gl <;> rw [hx] at ho <;> simp [wrAt] at ho
      case mapUp m k v =>
       simp only [fpI] at ho
       cases hx : m.ev f E.gl <;> rw [hx] at ho <;> simp [wrAt] at ho
      case entSt m k v =>
       simp only [fpI] at ho
       cases hx : m.ev f E.gl <;> rw [hx] at ho <;> simp [wrAt] at ho
      case lkUp ks agg vagg zero ok m k =>
       simp only [fpI, FP.pt.injEq] at ho
       rw [stepI_ev (by intros; simp)] at ha ⊢
       simp only [evI] at ha ⊢
       split at ha
       ·split at ha
        ·rename_i hk
         simp only [mei, piq] at ha ⊢
         obtain ⟨v', k2, k3, _⟩ := ha
         rw [if_pos hk]
         simp only [mei, piq]
         exact ⟨v', k2, k3, trivial⟩
        ·cases ha
       ·exfalso
        simp only [bei] at ha
        obtain ⟨p, hp, _⟩ := ha
        cases hx : m.ev f E.gl <;> rw [hx] at ho hp <;> simp [AV.blk, mapAt] at ho hp
      case slice size x lo hi' =>
       simp only [fpI, FP.pt.injEq] at ho
       rw [stepI_ev (by intros; simp)] at ha ⊢
       have e := ev1_same rfl ha
       subst e
       simp only [evI] at ha ⊢
       cases hx : x.ev f E.gl <;> rw [hx] at ho ha <;> try (simp [AV.blk] at ho; done)
       case p x =>
        cases x with
        | lst s rows =>
         simp only at ha ⊢
         split at ha
         ·rename_i hs
          rw [if_pos hs]
          simp only [bei] at ha ⊢
          obtain ⟨l, k1, r, k2, ha⟩ := ha
          refine ⟨l, k1, r, k2, ?_⟩
          split at ha
          ·rename_i hh
           rw [if_pos hh]
           simp only [oiq, piq] at ha ⊢
           exact ⟨ha.1, trivial⟩
          ·cases ha
         ·cases ha
        | lsx s rows m => cases ha
        | val u =>
         split at ha
         ·rename_i e; cases e
         ·rename_i e; cases e
         ·rename_i e
          cases e
          simp only [bei] at ha ⊢
          obtain ⟨l, k1, r, k2, ha⟩ := ha
          refine ⟨l, k1, r, k2, ?_⟩
          split at ha
          ·rename_i hh
           rw [if_pos hh]
           simp only [oiq, piq] at ha ⊢
           exact ⟨ha.1, trivial⟩
          ·cases ha
         ·cases ha
       all_goals (simp at ha)
      case convB x =>
       simp only [fpI, FP.pt.injEq] at ho
       have hr : ∀ b ∈ (x.ev f E.gl).blk, g[b]? = h[b]? := by rw [ho.1]; simp
       rw [stepI_ev (by intros; simp)] at ha ⊢
       have e := ev1_same rfl ha
       subst e
       simp only [evI] at ha ⊢
       split at ha
       ·cases ha
       ·rename_i hne
        have : ∀ {α : Type} (a b : α), (match x.ev f E.gl with | .p (.val (.string _)) => a | _ => b) = b := by
         intro α a b
         split
         ·exact absurd (by assumption) (hne _)
         ·rfl
        simp only [rowsOf_loc hr, bei, mei, piq] at ha ⊢
        obtain ⟨cs, k1, v', k2, k3, _⟩ := ha
        exact ⟨cs, k1, v', k2, k3, trivial⟩
      case slData x =>
       simp only [fpI, FP.pt.injEq] at ho
       rw [stepI_ev (by intros; simp)] at ha ⊢
       simp only [evI] at ha ⊢
       cases hx : x.ev f E.gl <;> rw [hx] at ho ha <;> first | (simp [AV.blk] at ho; done) | (simp at ha; done)
      case call sh a b =>
       cases sh with
       | true => simp [fpI, Ins.mks, Ins.cls] at ho
       | false =>
        simp only [fpI] at ho
        split at ho
        ·rename_i gg caps hfo
         split at ho
         ·rename_i hpu
          simp only [stepI, hfo] at ha ⊢
          obtain ⟨u, h1, h2⟩ := mei.1 ha
          simp only [piq] at h2
          obtain ⟨rfl, rfl⟩ := h2
          rw [← E.pureI _ _ h g hpu, h1]; rfl
         ·cases ho
        ·cases ho
      all_goals (simp [fpI, Ins.mks, Ins.cls] at ho)
 have getP : ∀ {o : ROp}, (fpO E.gl base o f).pure = true → ∃ r, fpO E.gl base o f = .pt [] r 0 := by
  intro o ho
  cases hf : fpO E.gl base o f with
  | all => rw [hf] at ho; simp [FP.pure] at ho
  | beh n => rw [hf] at ho; simp [FP.pure] at ho
  | pt R r k =>
   rw [hf] at ho
   simp only [FP.pure, aet, List.isEmpty_iff, beq_iff_eq] at ho
   rw [ho.1, ho.2]
   exact ⟨r, rfl⟩
 have fin1 : (fpO E.gl base x f).pure = true → ∃ hm, actR E base y f h0 = some (v2, hm) ∧ actR E base x f hm = some (v1, h2) := by
  intro hp
  obtain ⟨r, hr⟩ := getP hp
  have := pureL hr _ _ _ e1
  subst this
  exact ⟨h2, e2, pureA hr _ _ _ e1 _⟩
 have fin2 : (fpO E.gl base y f).pure = true → ∃ hm, actR E base y f h0 = some (v2, hm) ∧ actR E base x f hm = some (v1, h2) := by
  intro hp
  obtain ⟨r, hr⟩ := getP hp
  have := pureL hr _ _ _ e2
  subst this
  exact ⟨h0, pureA hr _ _ _ e2 _, e1⟩
 unfold okFP at h
 split at h
 ·rename_i R r k R' r' k' hx hy
  simp only [Bool.or_eq_true] at h
  rcases h with (h | h) | h
  ·exact fin1 (by rw [hx]; exact h)
  ·exact fin2 (by rw [hy]; exact h)
  ·exact loc_comm (loc_of hx) (loc_of hy) h e1 e2
 ·rw [Bool.or_eq_true] at h
  exact h.elim fin1 fin2
theorem stepR_comm {x y : ROp} (hi : indepS x.op y.op = true) {s s1 s2 : St} (hc : commA (actR E base x s.f) (actR E base y s.f)) (hx : stepR E base x s = some s1) (hy : stepR E base y s1 = some s2) :
  ∃ s1', stepR E base y s = some s1' ∧ stepR E base x s1' = some s2 := by
 obtain ⟨hyx, hxy, hdd⟩ := indep_get hi
 simp only [stepR, mei] at hx hy
 obtain ⟨⟨vx, h1⟩, hax, rfl⟩ := hx
 obtain ⟨⟨vy, h2⟩, hay, rfl⟩ := hy
 simp only at hay ⊢
 have hay' : actR E base y s.f h1 = some (vy, h2) := by
  rw [← hay]
  exact actR_congr (fun t ht => (getT_put (hyx t ht)).symm)
 obtain ⟨hm, k1, k2⟩ := hc _ _ _ _ _ hax hay'
 refine ⟨⟨putA s.f y.op.dst vy, hm⟩, by simp only [stepR, k1, msm], ?_⟩
 have : actR E base x (putA s.f y.op.dst vy) hm = actR E base x s.f hm := actR_congr (fun t ht => getT_put (hxy t ht))
 simp only [stepR, this, k2, msm]
 rw [putA_comm hdd]
end
def refC : List Nat → List AV → Bool
 | [], [] => true
 | 0 :: ks, .p (.val (.bool _)) :: xs => refC ks xs
 | 1 :: ks, .p (.val (.int _ _)) :: xs => refC ks xs
 | 2 :: ks, .p (.val (.string _)) :: xs => refC ks xs
 | _, _ => false
def refK (agg : Bool) (ks : List Nat) (k : AV) : Bool := (isAggA k == agg) && (match cellsOf k with | some cs => refC ks cs | none => false)
def zeq : List PV → List PV → Bool
 | [.val (.int k a)], [.val (.int k' b)] => k == k' && a == b
 | _, _ => false
def rfO (gl : Nat → Option (List PV)) (f : List AV) (o : ROp) : Bool :=
 match o.op with
 | ⟨_, .lkUp ks agg _ _ _ _ k, none⟩ => refK agg ks (k.ev f gl)
 | ⟨_, .mapEn ks agg _ _ _ k, none⟩ => refK agg ks (k.ev f gl)
 | ⟨_, .call true _ _, none⟩ => true
 | _ => false
def special (x y : ROp) : Bool :=
 match x.op, y.op with
 | ⟨_, .lkUp ks agg vagg zero false (.t m) (.t k), none⟩, ⟨_, .mapEn ks' agg' vagg' zero' (.t m') (.t k'), none⟩ => ks == ks' && (agg == agg' && (vagg == vagg' && (zeq zero zero' && (m == m' && k == k'))))
 | ⟨_, .mapEn ks agg vagg zero (.t m) (.t k), none⟩, ⟨_, .lkUp ks' agg' vagg' zero' false (.t m') (.t k'), none⟩ => ks == ks' && (agg == agg' && (vagg == vagg' && (zeq zero zero' && (m == m' && k == k'))))
 | ⟨_, .load _ _ _, none⟩, ⟨_, .call true (.c (.fn _ _)) _, none⟩ => y.z == 4
 | _, _ => false
theorem refC_eq : ∀ (ks : List Nat) (xs : List AV), refC ks xs = true → eqC ks xs xs = some true
 | [], [], _ => rfl
 | k :: ks, [], h => by simp [refC] at h
 | [], x :: xs, h => by simp [refC] at h
 | k :: ks, x :: xs, h => by
  unfold refC at h
  split at h
  ·rename_i e1 e2; cases e1
  ·rename_i ks' b xs' e1 e2
   simp only [List.cons.injEq] at e1 e2
   obtain ⟨rfl, rfl⟩ := e1
   obtain ⟨rfl, rfl⟩ := e2
   simp [eqC, eqV, refC_eq ks xs h]
  ·rename_i ks' k' b xs' e1 e2
   simp only [List.cons.injEq] at e1 e2
   obtain ⟨rfl, rfl⟩ := e1
   obtain ⟨rfl, rfl⟩ := e2
   simp [eqC, eqV, refC_eq ks xs h]
  ·rename_i ks' b xs' e1 e2
   simp only [List.cons.injEq] at e1 e2
   obtain ⟨rfl, rfl⟩ := e1
   obtain ⟨rfl, rfl⟩ := e2
   have hb : (b == b) = true := by show (b.data == b.data) = true; simp
   simp [eqC, eqV, refC_eq ks xs h, hb]
  ·cases h
theorem refK_eq {agg : Bool} {ks : List Nat} {k : AV} (h : refK agg ks k = true) : eqK agg ks k k = some true := by
 unfold refK at h
 simp only [aet, beq_iff_eq] at h
 obtain ⟨h1, h2⟩ := h
 unfold eqK
 rw [if_pos ⟨h1, h1⟩]
 split at h2
 ·rename_i cs hc
  simp only [hc, bsm]
  exact refC_eq ks cs h2
 ·cases h2
theorem findM_app {agg : Bool} {ks : List Nat} {k : AV} {e : AV × AV} : ∀ (es : List (AV × AV)) (i : Nat), findM agg ks k (es ++ [e]) i = match findM agg ks k es i with
  | some (some j) => some (some j)
  | some none => findM agg ks k [e] (i + es.length)
  | none => none
 | [], i => rfl
 | x :: es, i => by
  simp only [List.cons_append, findM]
  cases eqK agg ks k x.1 with
  | none => rfl
  | some b =>
   cases b with
   | true => rfl
   | false =>
    simp only
    rw [findM_app es (i + 1)]
    have : i + 1 + es.length = i + (x :: es).length := by simp; omega
    rw [this]
    simp only [findM]
theorem look_enter {agg : Bool} {ks : List Nat} {z : Option AV} {k : AV} {q : Nat} {es es' : List (AV × AV)} {r : AV} (hr : refK agg ks k = true) (h : enterM agg ks z k q es = some (r, es')) :
  lookM agg ks z false k es' = lookM agg ks z false k es := by
 unfold enterM at h
 split at h
 ·rename_i hk
  unfold lookM
  rw [if_pos hk, if_pos hk]
  cases hf : findM agg ks k es 0 with
  | none => rw [hf] at h; cases h
  | some o =>
   rw [hf] at h
   cases o with
   | some i =>
    simp only [mei, piq] at h
    obtain ⟨e, he, _, rfl⟩ := h
    rw [hf]
   | none =>
    simp only [mei, piq] at h
    obtain ⟨v, rfl, _, rfl⟩ := h
    rw [findM_app, hf]
    simp only [findM, refK_eq hr, Nat.zero_add]
    simp [lkRes]
 ·cases h
theorem zeq_eq {a b : List PV} (h : zeq a b = true) : a = b := by
 unfold zeq at h
 split at h
 ·simp only [aet, beq_iff_eq] at h
  rw [h.1, h.2]
 ·cases h
section
variable {E : Env} {base : Nat}
theorem loadA_more {h nb : List AB} {n : Nat} {x : AV} {cs : List AV} (hl : loadA h n x = some cs) : loadA (h ++ nb) n x = some cs := by
 have key : ∀ b : Nat, ∀ y, h[b]? = some y → (h ++ nb)[b]? = some y := fun b y hb => by
  rw [gal (gei.1 hb).1]
  exact hb
 cases x <;> simp only [loadA] at hl ⊢ <;> try (cases hl; done)
 case ptr b off =>
  cases hb : h[b]? with
  | none => rw [hb] at hl; cases hl
  | some y => rw [hb] at hl; rw [key b y hb]; exact hl
 case rp b g s k off =>
  cases hb : h[b]? with
  | none => rw [hb] at hl; cases hl
  | some y => rw [hb] at hl; rw [key b y hb]; exact hl
 case ro => exact hl
theorem special_comm {x y : ROp} {f : List AV} (h : special x y = true) (hr : rfO E.gl f y = true) : commA (actR E base x f) (actR E base y f) := by
 have lk : ∀ {o : ROp} {d : Option Nat} {ks : List Nat} {agg vagg : Bool} {zero : List PV} {m k : Opd}, o.op = ⟨d, .lkUp ks agg vagg zero false m k, none⟩ → ∀ h, actR E base o f h = evI E.gl f h (.lkUp ks agg vagg zero false m k) := by
  intro o d ks agg vagg zero m k ho h
  simp only [actR, ROp.fz, ho, wantedA, Ins.cls]
  rfl
 have en : ∀ {o : ROp} {d : Option Nat} {ks : List Nat} {agg vagg : Bool} {zero : List PV} {m k : Opd}, o.op = ⟨d, .mapEn ks agg vagg zero m k, none⟩ → ∀ h, actR E base o f h = evI E.gl f h (.mapEn ks agg vagg zero m k) := by
  intro o d ks agg vagg zero m k ho h
  simp only [actR, ROp.fz, ho, wantedA, Ins.cls]
  rfl
 have key : ∀ {ks : List Nat} {agg vagg : Bool} {zero : List PV} {m k : Nat} {h h1 : List AB} {v : AV}, refK agg ks (getT f k) = true → evI E.gl f h (.mapEn ks agg vagg zero (.t m) (.t k)) = some (v, h1) →
   ∃ b q es es', mapAt h (getT f m) = some (b, q, es) ∧ mapAt h1 (getT f m) = some (b, q, es') ∧ (∀ g, evI E.gl f g (.lkUp ks agg vagg zero false (.t m) (.t k)) = (mapAt g (getT f m)).bind fun r => (lookM agg ks (oneOr vagg (zero.map .p)) false (getT f k) r.2.2).map fun v => (v, g)) ∧
    lookM agg ks (oneOr vagg (zero.map .p)) false (getT f k) es' = lookM agg ks (oneOr vagg (zero.map .p)) false (getT f k) es := by
  intro ks agg vagg zero m k h h1 v hk he
  simp only [evI, Opd.ev, bei, mei, piq] at he
  obtain ⟨⟨b, q, es⟩, hm, ⟨r, es'⟩, hen, _, rfl⟩ := he
  refine ⟨b, q, es, es', hm, ?_, ?_, look_enter hk hen⟩
  ·cases hx : getT f m <;> rw [hx] at hm <;> simp only [mapAt] at hm ⊢ <;> try (cases hm; done)
   split at hm
   ·rename_i q0 es0 hb
    simp only [oiq, piq] at hm
    obtain ⟨rfl, rfl, rfl⟩ := hm
    simp [List.getElem?_set, (gei.1 hb).1]
   ·cases hm
  ·intro g
   simp only [evI, Opd.ev]
   split
   ·rename_i hx
    rw [hx] at hm
    simp [mapAt] at hm
   ·rfl
 intro h0 h1 h2 v1 v2 e1 e2
 unfold special at h
 split at h
 ·rename_i d ks agg vagg zero m k d' ks' agg' vagg' zero' m' k' hx hy
  simp only [aet, beq_iff_eq] at h
  obtain ⟨rfl, rfl, rfl, hz, rfl, rfl⟩ := h
  have hz := zeq_eq hz
  subst hz
  simp only [rfO, hy, Opd.ev] at hr
  rw [lk hx] at e1
  rw [en hy] at e2
  have hh : h1 = h0 := by
   simp only [evI] at e1
   split at e1
   ·split at e1
    ·simp only [mei, piq] at e1; obtain ⟨_, _, _, rfl⟩ := e1; rfl
    ·cases e1
   ·simp only [bei, mei, piq] at e1; obtain ⟨_, _, _, _, _, rfl⟩ := e1; rfl
  subst hh
  obtain ⟨b, q, es, es', k1, k2, k3, k4⟩ := key hr e2
  refine ⟨h2, by rw [en hy]; exact e2, ?_⟩
  rw [lk hx]
  rw [k3, k1] at e1
  rw [k3, k2]
  simp only [bsm] at e1 ⊢
  rw [k4]
  simp only [mei, piq] at e1 ⊢
  obtain ⟨v, h3, h4, _⟩ := e1
  exact ⟨v, h3, h4, trivial⟩
 ·rename_i d ks agg vagg zero m k d' ks' agg' vagg' zero' m' k' hx hy
  simp only [aet, beq_iff_eq] at h
  obtain ⟨rfl, rfl, rfl, hz, rfl, rfl⟩ := h
  have hz := zeq_eq hz
  subst hz
  simp only [rfO, hy, Opd.ev] at hr
  rw [en hx] at e1
  rw [lk hy] at e2
  obtain ⟨b, q, es, es', k1, k2, k3, k4⟩ := key hr e1
  rw [k3, k2] at e2
  simp only [bsm] at e2
  rw [k4] at e2
  simp only [mei, piq] at e2
  obtain ⟨v, h3, rfl, rfl⟩ := e2
  refine ⟨h0, ?_, by rw [en hx]; exact e1⟩
  rw [lk hy, k3, k1]
  simp only [bsm, h3, msm]
 ·rename_i d agg size z d' fn caps args hx hy
  have hz := eq_of_beq h
  have el : ∀ h, actR E base x f h = evI E.gl f h (.load agg size z) := fun h => by
   simp only [actR, ROp.fz, hx, wantedA, Ins.cls]
   rfl
  have ec : ∀ h, actR E base y f h = actF E base y f h := fun h => by
   simp only [actR, ROp.fz, hy, wantedA, hz]
   rfl
  rw [el] at e1
  have hh := ev1_same rfl e1
  subst hh
  rw [ec] at e2
  refine ⟨h2, by rw [ec]; exact e2, ?_⟩
  obtain ⟨nb, rfl⟩ : ∃ nb, h2 = h1 ++ nb := by
   simp only [actF, hy, Opd.ev, bei] at e2
   obtain ⟨q, _, hq⟩ := e2
   rw [hz] at hq
   simp only [frA] at hq
   split at hq
   ·simp only [oiq, piq] at hq
    exact ⟨_, hq.2.symm⟩
   ·cases hq
  rw [el]
  simp only [evI, bei, mei, piq] at e1 ⊢
  obtain ⟨cs, k1, v', k2, k3, _⟩ := e1
  exact ⟨cs, loadA_more k1, v', k2, k3, trivial⟩
 ·cases h
theorem rfO_congr {o : ROp} {f f' : List AV} {gl : Nat → Option (List PV)} (hu : ∀ t ∈ o.op.uses, getT f t = getT f' t) : rfO gl f o = rfO gl f' o := by
 have hi : ∀ t ∈ o.op.ins.uses, getT f t = getT f' t := fun t ht => hu t (by simp [IOp.uses, ht])
 unfold rfO
 split
 ·rename_i d ks agg vagg zero ok m k ho
  rw [ho] at hi
  rw [ev_congr (gl := gl) (x := k) (fun t ht => hi t (by simp [Ins.uses, ht]))]
 ·rename_i d ks agg vagg zero m k ho
  rw [ho] at hi
  rw [ev_congr (gl := gl) (x := k) (fun t ht => hi t (by simp [Ins.uses, ht]))]
 ·rfl
 ·rfl
structure TR where
 o : ROp
 p : FP
 r : Bool
def behP (x y : TR) : Bool := match x.p, y.p, y.o.op with
 | .beh n, .pt R _ _, ⟨_, .load _ _ _, none⟩ => R.all (·.blt n)
 | .beh n, .pt _ r k, ⟨_, .alloc _ _, none⟩ => (r + k).ble n
 | _, _, _ => false
def okPr (x y : TR) : Bool := (okFP x.p y.p || (y.r && special x.o y.o)) || behP x y
def TR.fits (gl : Nat → Option (List PV)) (base : Nat) (t : TR) (f : List AV) : Prop := fpO gl base t.o f = t.p ∧ rfO gl f t.o = t.r
theorem TR.fits.fits_congr {t : TR} {f f' : List AV} {gl : Nat → Option (List PV)} (hu : ∀ x ∈ t.o.op.uses, getT f x = getT f' x) (h : t.fits gl base f) : t.fits gl base f' :=
 ⟨(fpO_congr (fun x hx => (hu x hx).symm)).trans h.1, (rfO_congr (fun x hx => (hu x hx).symm)).trans h.2⟩
def RunF (E : Env) (base : Nat) : List TR → St → St → Prop
 | [], s, s' => s = s'
 | o :: os, s, s' => o.fits E.gl base s.f ∧ ∃ s1, stepR E base o.o s = some s1 ∧ RunF E base os s1 s'
theorem wrAt_nb {R : List Nat} {x : AV} {n : Nat} : wrAt R x ≠ .beh n := by
 cases x <;> simp [wrAt]
theorem fpI_nb {gl : Nat → Option (List PV)} {f : List AV} {r k n : Nat} {i : Ins} : fpI gl f r k i ≠ .beh n := by
 intro h
 unfold fpI at h
 split at h
 all_goals first
  | exact wrAt_nb h
  | (cases h; done)
  | (split at h <;> first | exact wrAt_nb h | (cases h; done) | (split at h <;> first | (cases h; done) | (split at h <;> cases h)))
theorem putAt_append {nb : List AB} : ∀ (xs h : List AB) (r : Nat), r + xs.length ≤ h.length → putAt (h ++ nb) r xs = putAt h r xs ++ nb
 | [], h, r, _ => rfl
 | x :: xs, h, r, hl => by
  simp only [lcn] at hl
  simp only [putAt]
  rw [List.set_append_left _ _ (by omega)]
  exact putAt_append xs (h.set r x) (r + 1) (by rw [List.length_set]; omega)
theorem beh_spec {E : Env} {base : Nat} {o : ROp} {f : List AV} {n : Nat} (hf : fpO E.gl base o f = .beh n) : ∀ h v h', actR E base o f h = some (v, h') → n ≤ h.length ∧ ∃ nb, h' = h ++ nb ∧ ∀ h2, h2.length = h.length → actR E base o f h2 = some (v, h2 ++ nb) := by
 unfold fpO at hf
 split at hf
 ·rename_i hw
  split at hf
  ·rename_i hz
   unfold fpF at hf
   split at hf
   ·rename_i fo args hi
    split at hf
    ·rename_i g caps hfo
     split at hf <;> (try (cases hf; done))
     rename_i m hzz
     simp only [FP.beh.injEq] at hf
     have hact : ∀ h, actR E base o f h = (E.callS g (args.map (·.ev f E.gl) ++ caps) (h.take (topB (args.map (·.ev f E.gl) ++ caps)))).bind (frA o.z (base + o.off) o.k (topB (args.map (·.ev f E.gl) ++ caps)) (args.map (·.ev f E.gl) ++ caps) h) := fun h => by
      simp only [actR, hw, hz, if_true, actF, hi, hfo]
     intro h v h' ha
     rw [hact] at ha
     simp only [hact]
     generalize args.map (·.ev f E.gl) ++ caps = as at ha ⊢
     obtain ⟨q, hq, ha⟩ := bei.1 ha
     rw [hzz] at ha ⊢
     simp only [frA] at ha
     split at ha
     ·rename_i hk
      simp only [oiq, piq] at ha
      obtain ⟨rfl, rfl⟩ := ha
      have hk' := hk
      simp only [aet, beq_iff_eq] at hk'
      refine ⟨by have := lbt hk'.2.1; omega, _, rfl, fun h2 hl => ?_⟩
      have h0 : ∀ x : List AB, x.take (topB as) = [] := fun x => by rw [hk'.2.2.1, List.take_zero]
      rw [h0] at hq ⊢
      rw [hq, bsm]
      simp only [frA, hl, hk, if_true]
     ·cases ha
    ·cases hf
   ·cases hf
  ·exact absurd hf fpI_nb
 ·cases hf
theorem beh_comm {E : Env} {base : Nat} {x y : TR} {f : List AV} (hx : fpO E.gl base x.o f = x.p) (hy : fpO E.gl base y.o f = y.p) (h : behP x y = true) : commA (actR E base x.o f) (actR E base y.o f) := by
 intro h0 h1 h2 v1 v2 e1 e2
 unfold behP at h
 split at h
 ·rename_i n R r k d agg size z ex ey ei
  rw [ex] at hx
  rw [ey] at hy
  obtain ⟨hn, nb, rfl, hall⟩ := beh_spec hx _ _ _ e1
  have el : ∀ h, actR E base y.o f h = evI E.gl f h (.load agg size z) := fun h => by
   simp only [actR, ROp.fz, ei, wantedA, Ins.cls]
   rfl
  have hR : R = (z.ev f E.gl).blk := by
   simp only [fpO, ROp.fz, ei, wantedA, fet, if_false, fpI, FP.pt.injEq] at hy
   exact hy.1.symm
  rw [el] at e2
  have hh := ev1_same rfl e2
  subst hh
  refine ⟨h0, ?_, e1⟩
  rw [el]
  simp only [evI, bei, mei, piq] at e2 ⊢
  obtain ⟨cs, k1, v', k2, k3, _⟩ := e2
  refine ⟨cs, ?_, v', k2, k3, trivial⟩
  rw [← k1]
  refine (loadA_loc (fun b hb => ?_)).symm
  rw [← hR] at hb
  have := lbt (List.all_eq_true.1 h b hb)
  exact gal (by omega)
 ·rename_i n R r k d t zs ex ey ei
  rw [ex] at hx
  rw [ey] at hy
  obtain ⟨hn, nb, rfl, hall⟩ := beh_spec hx _ _ _ e1
  have ea : ∀ h, actR E base y.o f h = (evM E f (base + y.o.off) (.alloc t zs)).bind fun p => if p.2.length.beq y.o.k && holesAt h (base + y.o.off) y.o.k then some (p.1, putAt h (base + y.o.off) p.2) else none := fun h => by
   simp only [actR, ROp.fz, ei, wantedA, fet, if_false]
   exact if_pos rfl
  have hrk : base + y.o.off = r ∧ y.o.k = k := by
   simp only [fpO, ROp.fz, ei, wantedA, fet, if_false] at hy
   have hy : FP.pt [] (base + y.o.off) y.o.k = .pt R r k := hy
   simp only [FP.pt.injEq] at hy
   exact hy.2
  have hle := lbt h
  rw [ea, hrk.1, hrk.2] at e2
  obtain ⟨p, hp, e2⟩ := bei.1 e2
  split at e2
  ·rename_i hk
   simp only [oiq, piq] at e2
   obtain ⟨rfl, rfl⟩ := e2
   simp only [aet] at hk
   have hlen := Nat.eq_of_beq_eq_true hk.1
   have hh : holesAt h0 r k = true :=
    holesAt_congr _ _ (fun b _ h2 => (gal (by omega)).symm) hk.2
   have hput : putAt (h0 ++ nb) r p.2 = putAt h0 r p.2 ++ nb := putAt_append _ _ _ (by omega)
   refine ⟨putAt h0 r p.2, ?_, ?_⟩
   ·rw [ea, hrk.1, hrk.2, hp, bsm, hk.1, hh]
    rfl
   ·rw [hput]
    refine hall _ ?_
    exact putAt_len _ _ _
  ·cases e2
 ·cases h
theorem frontR : ∀ (pre : List TR) (y : TR) (post : List TR) (s s' : St), (∀ x ∈ pre, indepS x.o.op y.o.op = true ∧ (okPr x y = true ∨ x.o.op.ins.cls = 0 ∨ y.o.op.ins.cls = 0)) →
  RunF E base (pre ++ y :: post) s s' → y.fits E.gl base s.f ∧ ∃ s1, stepR E base y.o s = some s1 ∧ RunF E base (pre ++ post) s1 s'
 | [], y, post, s, s', _, h => h
 | x :: pre, y, post, s, s', hi, h => by
  simp only [List.cons_append, RunF] at h
  obtain ⟨hfx, s1, h1, h2⟩ := h
  obtain ⟨hfy, s2, h3, h4⟩ := frontR pre y post s1 s' (fun z hz => hi z (by simp [hz])) h2
  obtain ⟨k1, k2⟩ := hi x (by simp)
  obtain ⟨hyx, hxy, hdd⟩ := indep_get k1
  have hs1 : ∀ t ∈ y.o.op.uses, getT s1.f t = getT s.f t := by
   intro t ht
   simp only [stepR, mei] at h1
   obtain ⟨p, _, rfl⟩ := h1
   exact getT_put (hyx t ht)
  have hfy' : y.fits E.gl base s.f := hfy.fits_congr hs1
  have cls0 : ∀ (o : ROp) (f : List AV), o.op.ins.cls = 0 → fpO E.gl base o f = .pt [] 0 0 := by
   intro o f hc
   have e0 : fpI E.gl f (base + o.off) o.k o.op.ins = .pt [] 0 0 := by
    cases hi : o.op.ins <;> rw [hi] at hc <;> simp only [Ins.cls] at hc <;> try (exfalso; revert hc; decide)
    case call sh a b => cases sh <;> simp at hc
    all_goals (simp only [fpI, Ins.cls]; rfl)
   have hz : o.fz = false := by
    unfold ROp.fz
    split
    ·rename_i e; rw [e] at hc; simp [Ins.cls] at hc
    ·rfl
   unfold fpO
   split
   ·rw [hz]; exact e0
   ·rfl
  have hcomm : commA (actR E base x.o s.f) (actR E base y.o s.f) := by
   rcases k2 with k2 | k2 | k2
   ·unfold okPr at k2
    rw [Bool.or_eq_true, Bool.or_eq_true, aet] at k2
    rcases k2 with (k2 | ⟨k2, k3⟩) | k2
    ·exact commA_fp (by rw [hfx.1, hfy'.1]; exact k2)
    ·exact special_comm k3 (by rw [hfy'.2]; exact k2)
    ·exact beh_comm hfx.1 hfy'.1 k2
   ·refine commA_fp ?_
    rw [cls0 x.o s.f k2]
    cases fpO E.gl base y.o s.f <;> simp [okFP, FP.pure]
   ·refine commA_fp ?_
    rw [cls0 y.o s.f k2]
    cases fpO E.gl base x.o s.f <;> simp [okFP, FP.pure]
  obtain ⟨s1', h5, h6⟩ := stepR_comm k1 hcomm h1 h3
  refine ⟨hfy', s1', h5, ?_⟩
  simp only [List.cons_append, RunF]
  refine ⟨hfx.fits_congr (fun t ht => ?_), s2, h6, h4⟩
  simp only [stepR, mei] at h5
  obtain ⟨p, _, rfl⟩ := h5
  exact (getT_put (hxy t ht)).symm
end
def Ins.srcOk : Ins → Bool
 | .load _ _ x => okC x
 | .loadF _ _ _ x => okC x
 | .slice _ x _ _ => okC x
 | .convB x => okC x
 | .slData x => okC x
 | _ => true
def ancOf (acc : List Nat) (o : Oper) : Nat := o.after.toList.foldl (fun s e => if Region.binds .any e then s ||| 2 ^ e.on ||| acc[e.on]?.getD 0 else s) 0
def ancs : List Oper → List Nat → List Nat
 | [], acc => acc
 | o :: os, acc => ancs os (acc ++ [ancOf acc o])
def backOk (k : Nat) (o : Oper) : Bool := o.after.toList.all fun e => !Region.binds .any e || e.on < k
def allBack : Nat → List Oper → Bool
 | _, [] => true
 | k, o :: os => backOk k o && allBack (k + 1) os
def freeAt (y : IOp) (anc : Nat) : Nat → List IOp → Bool
 | _, [] => true
 | i, x :: xs => (indepB x y || anc.testBit i) && freeAt y anc (i + 1) xs
def allFree (pre : List IOp) : List IOp → List Nat → Bool
 | [], _ => true
 | y :: ys, a :: as => y.ins.srcOk && freeAt y a 0 pre && allFree (pre ++ [y]) ys as
 | _ :: _, [] => false
def orderOk (ops : Array Oper) (is : List IOp) : Bool := allBack 0 ops.toList && allFree [] is (ancs ops.toList [])
theorem ancOf_spec {acc : List Nat} {D : Nat → Prop} (hacc : ∀ k m, acc[k]? = some m → D k → ∀ b, m.testBit b = true → D b) (o : Oper) (he : ∀ e ∈ o.after.toList, Region.binds .any e = true → D e.on) :
  ∀ b, (ancOf acc o).testBit b = true → D b := by
 unfold ancOf
 have : ∀ (es : List Edge) (s : Nat), (∀ e ∈ es, Region.binds .any e = true → D e.on) → (∀ b, s.testBit b = true → D b) →
   ∀ b, (es.foldl (fun s e => if Region.binds .any e then s ||| 2 ^ e.on ||| acc[e.on]?.getD 0 else s) s).testBit b = true → D b := by
  intro es
  induction es with
  | nil => intro s _ hs b hb; exact hs b hb
  | cons e es ih =>
   intro s he hs
   simp only [List.foldl_cons]
   refine ih _ (fun e' h' => he e' (by simp [h'])) ?_
   intro b hb
   split at hb
   ·rename_i hbd
    have hD := he e (by simp) hbd
    rw [Nat.testBit_or, Nat.testBit_or, Bool.or_eq_true, Bool.or_eq_true] at hb
    rcases hb with (hb | hb) | hb
    ·exact hs b hb
    ·rw [Nat.testBit_two_pow] at hb
     simp at hb
     subst hb
     exact hD
    ·cases hm : acc[e.on]? with
     | none => rw [hm] at hb; simp at hb
     | some m => rw [hm] at hb; exact hacc e.on m hm hD b hb
   ·exact hs b hb
 exact this _ 0 he (by simp)
theorem ancs_len : ∀ (os : List Oper) (acc : List Nat), (ancs os acc).length = acc.length + os.length
 | [], acc => by simp [ancs]
 | o :: os, acc => by simp only [ancs, ancs_len os, lap, lcn, List.length_nil]; omega
theorem ancs_spec {D : Nat → Prop} : ∀ (os : List Oper) (acc : List Nat), (∀ k o, os[k]? = some o → D (acc.length + k) → ∀ e ∈ o.after.toList, Region.binds .any e = true → D e.on) →
  (∀ k m, acc[k]? = some m → D k → ∀ b, m.testBit b = true → D b) → ∀ k m, (ancs os acc)[k]? = some m →
   ((k < acc.length ∧ D k) ∨ ∃ o, acc.length ≤ k ∧ os[k - acc.length]? = some o ∧ ∀ e ∈ o.after.toList, Region.binds .any e = true → D e.on) → ∀ b, m.testBit b = true → D b
 | [], acc, _, hacc, k, m, hm, hk, b, hb => by
  simp only [ancs] at hm
  rcases hk with ⟨_, hk⟩ | ⟨o, _, ho, _⟩
  ·exact hacc k m hm hk b hb
  ·simp at ho
 | o :: os, acc, hdown, hacc, k, m, hm, hk, b, hb => by
  simp only [ancs] at hm
  have hlen : (acc ++ [ancOf acc o]).length = acc.length + 1 := by simp
  have hacc' : ∀ k m, (acc ++ [ancOf acc o])[k]? = some m → D k → ∀ b, m.testBit b = true → D b := by
   intro k m hm hk
   rw [List.getElem?_append] at hm
   split at hm
   ·exact hacc k m hm hk
   ·rename_i hlt
    have : k = acc.length := by
     rcases Nat.lt_or_ge acc.length k with h' | h'
     ·have : k - acc.length = (k - acc.length - 1) + 1 := by omega
      rw [this] at hm; simp at hm
     ·omega
    subst this
    simp at hm
    subst hm
    exact ancOf_spec hacc o (fun e he hb => hdown 0 o rfl hk e he hb)
  by_cases hkl : k = acc.length
  ·subst hkl
   have hsame : ∀ (os : List Oper) (acc : List Nat) (j : Nat), j < acc.length → (ancs os acc)[j]? = acc[j]? := by
    intro os
    induction os with
    | nil => intro acc j hj; rfl
    | cons o os ih =>
     intro acc j hj
     simp only [ancs]
     rw [ih _ j (by simp; omega), gal hj]
   rw [hsame os _ acc.length (by simp)] at hm
   simp at hm
   subst hm
   rcases hk with ⟨hk, _⟩ | ⟨o', _, ho', he⟩
   ·omega
   ·simp at ho'
    subst ho'
    exact ancOf_spec hacc o he b hb
  ·refine ancs_spec os (acc ++ [ancOf acc o]) ?_ hacc' k m hm ?_ b hb
   ·intro j o' hj hD
    exact hdown (j + 1) o' (by simpa using hj) (by rw [hlen] at hD; rwa [show acc.length + (j + 1) = acc.length + 1 + j from by omega])
   ·rw [hlen]
    rcases hk with ⟨hk, hD⟩ | ⟨o', hk, ho', he⟩
    ·exact .inl ⟨by omega, hD⟩
    ·refine .inr ⟨o', by omega, ?_, he⟩
     have : k - acc.length = (k - (acc.length + 1)) + 1 := by omega
     rw [this] at ho'
     simpa using ho'
theorem freeAt_spec {y : IOp} {anc : Nat} : ∀ (xs : List IOp) (i : Nat), freeAt y anc i xs = true → ∀ j x, xs[j]? = some x → indepB x y = true ∨ anc.testBit (i + j) = true
 | [], _, _, j, x, hx => by simp at hx
 | z :: zs, i, h, j, x, hx => by
  simp only [freeAt, aet, Bool.or_eq_true] at h
  cases j with
  | zero => simp at hx; subst hx; exact h.1
  | succ j =>
   have := freeAt_spec zs (i + 1) h.2 j x (by simpa using hx)
   rwa [show i + 1 + j = i + (j + 1) from by omega] at this
theorem allFree_spec : ∀ (ys pre : List IOp) (as : List Nat), allFree pre ys as = true → ∀ k y a, ys[k]? = some y → as[k]? = some a →
  y.ins.srcOk = true ∧ ∀ j x, j < pre.length + k → (pre ++ ys)[j]? = some x → indepB x y = true ∨ a.testBit j = true
 | [], _, _, _, k, y, a, hy, _ => by simp at hy
 | z :: zs, pre, b :: bs, h, k, y, a, hy, ha => by
  simp only [allFree, aet] at h
  cases k with
  | zero =>
   simp at hy ha
   subst hy; subst ha
   refine ⟨h.1.1, fun j x hj hx => ?_⟩
   have := freeAt_spec pre 0 h.1.2 j x (by rwa [gal (by omega)] at hx)
   rwa [Nat.zero_add] at this
  | succ k =>
   obtain ⟨k1, k2⟩ := allFree_spec zs (pre ++ [z]) bs h.2 k y a (by simpa using hy) (by simpa using ha)
   refine ⟨k1, fun j x hj hx => k2 j x (by simp; omega) (by simpa using hx)⟩
 | z :: zs, pre, [], h, _, _, _, _, _ => by simp [allFree] at h
theorem allBack_spec : ∀ (os : List Oper) (i : Nat), allBack i os = true → ∀ k o, os[k]? = some o → ∀ e ∈ o.after.toList, Region.binds .any e = true → e.on < i + k
 | [], _, _, k, o, ho => by simp at ho
 | o :: os, i, h, k, o', ho => by
  simp only [allBack, aet] at h
  cases k with
  | zero =>
   simp at ho
   subst ho
   intro e he hb
   have := List.all_eq_true.1 h.1 e he
   simp [hb] at this
   omega
  | succ k =>
   intro e he hb
   have := allBack_spec os (i + 1) h.2 k o' (by simpa using ho) e he hb
   omega
section
variable {rd : Option Nat} {en : Nat} {P : Program} {C : IC → Code → Prop} {E : Env} {shf : Operand → Bool} {ops : Array Oper} {Q : Exit → Act → World → Prop}
theorem compOps_get : ∀ {os : List Oper} {is : List IOp}, compOps P shf ops os = some is → is.length = os.length ∧ ∀ (k : Nat) (o : Oper), os[k]? = some o → ∃ i, is[k]? = some i ∧ compOper P shf ops o = some i
 | [], is, h => by simp only [compOps, oiq] at h; subst h; simp
 | o :: os, is, h => by
  simp only [compOps] at h
  split at h
  ·rename_i x xs hx hxs
   simp only [oiq] at h
   subst h
   obtain ⟨h1, h2⟩ := compOps_get hxs
   refine ⟨by simp [h1], fun k o' hk => ?_⟩
   cases k with
   | zero => simp at hk; subst hk; exact ⟨x, rfl, hx⟩
   | succ k => exact h2 k o' (by simpa using hk)
  ·cases h
theorem src_lt {s : St} {g : G} {a : Act} {w : World} (hs : SR P C E.gl en s g a w) {i : Ins} (hi : i.srcOk = true) : (i.src s.f E.gl).lt s.h.length := by
 have key : ∀ x : Opd, okC x = true → (x.ev s.f E.gl).lt s.h.length := by
  intro x hx
  cases x with
  | t n =>
   have := VR_lt (getT_rel hs n)
   rw [hs.c.hr.n] at this
   exact this
  | c v => cases v <;> first | trivial | (simp [okC] at hx)
  | g n => simp only [Opd.ev]; split <;> trivial
 cases i <;> simp only [Ins.src] <;> first | trivial | (exact key _ hi)
theorem ops_sound (hE : Sound P C E) {Q : Exit → Act → World → Prop} : ∀ (os : List Oper) (is : List IOp) (k : Nat) (s s' : St) (g : G) (a : Act) (w : World), ops.toList.drop k = os → compOps P shf ops os = some is → runOps E is s = some s' →
  SR P C E.gl en s g a w → (∀ a' w' g', Ext g w g' w' → SR P C E.gl en s' g' a' w' → Q .normal a' w') → wpOpsIn (FW rd) 0 P ops Q (List.range' k os.length) a w
 | [], is, k, s, s', g, a, w, _, hc, hr, hs, hQ => by
  simp only [compOps, oiq] at hc
  subst hc
  simp only [runOps, oiq] at hr
  subst hr
  exact hQ a w g (Ext.refl g w) hs
 | o :: os, is, k, s, s', g, a, w, hd, hc, hr, hs, hQ => by
  simp only [compOps] at hc
  split at hc
  ·rename_i x xs hx hxs
   simp only [oiq] at hc
   subst hc
   simp only [runOps, bei] at hr
   obtain ⟨s1, hr1, hr2⟩ := hr
   have hk : ops[k]? = some o := by
    have : (ops.toList.drop k)[0]? = some o := by rw [hd]; rfl
    simpa [List.getElem?_drop] using this
   have hd' : ops.toList.drop (k + 1) = os := by rw [← List.drop_drop, hd]; rfl
   simp only [lcn, List.range'_succ]
   rw [wpOpsIn_cons]
   exact stepO_sound hE hs hk hx hr1 (fun a' w' g' h1 h2 => ops_sound hE os xs (k + 1) s1 s' g' a' w' hd' hxs hr2 h2 (fun a2 w2 g2 h3 h4 => hQ a2 w2 g2 (h1.trans h3) h4))
  ·cases hc
theorem front : ∀ (pre : List IOp) (y : IOp) (post : List IOp) (s s' : St), (∀ x ∈ pre, indepB x y = true) → (y.ins.src s.f E.gl).lt s.h.length → (∀ x ∈ pre, ∀ s s1, stepO E x s = some s1 → (y.ins.src s.f E.gl).lt s.h.length → (y.ins.src s1.f E.gl).lt s1.h.length) →
  runOps E (pre ++ y :: post) s = some s' → ∃ s1, stepO E y s = some s1 ∧ runOps E (pre ++ post) s1 = some s'
 | [], y, post, s, s', _, _, _, h => by
  simp only [List.nil_append, runOps, bei] at h
  exact h
 | x :: pre, y, post, s, s', hi, hl, hk, h => by
  simp only [List.cons_append, runOps, bei] at h
  obtain ⟨s1, h1, h2⟩ := h
  obtain ⟨s2, h3, h4⟩ := front pre y post s1 s' (fun z hz => hi z (by simp [hz])) (hk x (by simp) s s1 h1 hl) (fun z hz => hk z (by simp [hz])) h2
  obtain ⟨s1', h5, h6⟩ := commute (hi x (by simp)) hl h1 h3
  exact ⟨s1', h5, by simp only [List.cons_append, runOps, h6, bsm]; exact h4⟩
theorem src_keep {x y : IOp} (hi : indepB x y = true) {s s1 : St} (h : stepO E x s = some s1) (hl : (y.ins.src s.f E.gl).lt s.h.length) (hc : y.ins.cls = 1 → s.h.length ≤ s1.h.length) : (y.ins.src s1.f E.gl).lt s1.h.length := by
 have huses : ∀ t ∈ y.ins.uses, getT s1.f t = getT s.f t := by
  intro t ht
  rw [stepO_act, mei] at h
  obtain ⟨⟨v, h'⟩, _, rfl⟩ := h
  refine getT_put ?_
  intro e
  unfold indepB at hi
  rw [e] at hi
  simp only [aet, Bool.not_eq_true', List.contains_eq_mem, decide_eq_false_iff_not] at hi
  exact hi.1.1.1 (by simp [IOp.uses, ht])
 have key : ∀ x : Opd, (∀ t ∈ x.uses, getT s1.f t = getT s.f t) → x.ev s1.f E.gl = x.ev s.f E.gl := fun x hx => ev_congr hx
 have mono : ∀ {v : AV} {n m : Nat}, v.lt n → n ≤ m → v.lt m := by
  intro v n m hv hnm
  cases v <;> first | trivial | (exact Nat.lt_of_lt_of_le hv hnm)
 cases hins : y.ins <;> rw [hins] at hl huses hc <;> simp only [Ins.src] at hl ⊢ <;> first | trivial | skip
 ·rw [key _ huses]; exact mono hl (hc rfl)
 ·rw [key _ huses]; exact mono hl (hc rfl)
 ·rw [key _ huses]; exact mono hl (hc rfl)
 ·rw [key _ (fun t ht => huses t (by simp [Ins.uses, ht]))]; exact mono hl (hc rfl)
 ·rw [key _ huses]; exact mono hl (hc rfl)
theorem grows {x y : IOp} (hi : indepB x y = true) (hy : y.ins.cls = 1) {s s1 : St} (h : stepO E x s = some s1) : s.h.length ≤ s1.h.length := by
 rw [stepO_act, mei] at h
 obtain ⟨⟨v, h'⟩, ha, rfl⟩ := h
 unfold indepB at hi
 simp only [aet, Bool.or_eq_true, beq_iff_eq, hy] at hi
 have hi3 := hi.2
 unfold actO at ha
 split at ha
 ·cases ha
 ·simp only [oiq, piq] at ha; rw [ha.2]; exact Nat.le_refl _
 ·by_cases hcl : ∃ sh fo as, x.ins = .call sh fo as
  ·obtain ⟨sh, fo, as, e⟩ := hcl
   rw [e] at ha hi3
   cases sh with
   | true => simp [Ins.cls] at hi3
   | false =>
    simp only [stepI] at ha
    split at ha
    ·simp only [mei, piq] at ha
     obtain ⟨_, _, _, rfl⟩ := ha
     exact Nat.le_refl _
    ·cases ha
  ·have hx : ∀ k fo as, x.ins ≠ .callX k fo as := by intro k fo as e; rw [e] at hi3; simp [Ins.cls] at hi3
   rw [stepI_ev ⟨fun sh fo as e => hcl ⟨sh, fo, as, e⟩, hx⟩] at ha
   simp at hi3
   rcases hi3 with (hc | (hc | hc)) | hc
   ·rw [(ev0 hc ha).1]; exact Nat.le_refl _
   ·rw [ev1_same hc ha]; exact Nat.le_refl _
   ·exfalso
    cases hins : x.ins <;> rw [hins] at hc <;> simp [Ins.cls] at hc
    rename_i sh fo as
    exact hcl ⟨_, _, _, hins⟩
   ·obtain ⟨e, rfl⟩ := ev2_ext hc ha; simp
def remI (listed : Array Bool) (n : Nat) : List Nat := (List.range n).filter fun k => !listed.getD k false
theorem rem_split {listed : Array Bool} {n i : Nat} (hi : i < n) (hl : listed.getD i false = false) (hs : i < listed.size) :
  ∃ pre post, remI listed n = pre ++ i :: post ∧ remI (listed.setIfInBounds i true) n = pre ++ post ∧ ∀ x ∈ pre, x < i ∧ listed.getD x false = false := by
 have hr : List.range n = List.range i ++ i :: List.range' (i + 1) (n - (i + 1)) := by
  rw [List.range_eq_range', List.range_eq_range']
  have e1 : List.range' 0 n = List.range' 0 i ++ List.range' (0 + i) (n - i) := by rw [List.range'_append_1]; congr 1; omega
  rw [e1]
  have e2 : n - i = (n - (i + 1)) + 1 := by omega
  rw [e2, List.range'_succ]
  simp
 refine ⟨(List.range i).filter fun k => !listed.getD k false, (List.range' (i + 1) (n - (i + 1))).filter fun k => !listed.getD k false, ?_, ?_, ?_⟩
 ·unfold remI
  rw [hr, List.filter_append, List.filter_cons, if_pos (by simp [hl])]
 ·unfold remI
  rw [hr, List.filter_append, List.filter_cons]
  have hii : (listed.setIfInBounds i true).getD i false = true := by simp [Array.getD, hs]
  rw [if_neg (by simp [hii])]
  congr 1
  ·refine List.filter_congr (fun x hx => ?_)
   rw [getD_set_ne false (by simp at hx; omega)]
  ·refine List.filter_congr (fun x hx => ?_)
   rw [getD_set_ne false (by simp at hx; omega)]
 ·intro x hx
  simp only [List.mem_filter, List.mem_range, Bool.not_eq_true'] at hx
  exact hx
theorem any_sound (hE : Sound P C E) {is : List IOp} (hc : compOps P shf ops ops.toList = some is) (hok : orderOk ops is = true) {s' : St} :
  ∀ (fuel : Nat) (listed : Array Bool) (s : St) (g : G) (a : Act) (w : World), listed.size = ops.size → (remI listed ops.size).length ≤ fuel →
   (∀ k o, ops[k]? = some o → listed.getD k false = true → ∀ e ∈ o.after.toList, Region.binds .any e = true → listed.getD e.on false = true) →
   runOps E ((remI listed ops.size).filterMap (is[·]?)) s = some s' → SR P C E.gl en s g a w → (∀ a' w' g', Ext g w g' w' → SR P C E.gl en s' g' a' w' → Q .normal a' w') → wpAnyIn (FW rd) 0 P .any ops Q fuel listed a w := by
 have hcg := compOps_get hc
 unfold orderOk at hok
 simp only [aet] at hok
 have hback := allBack_spec ops.toList 0 hok.1
 have hlenI : is.length = ops.size := by rw [hcg.1, Array.length_toList]
 have hgetO : ∀ k o, ops[k]? = some o → ops.toList[k]? = some o := fun k o h => by rw [agtl]; exact h
 have hprog : ∀ (listed : Array Bool), listed.size = ops.size → Region.ready .any ops listed = [] → remI listed ops.size = [] := by
  intro listed hsz hr
  cases hrem : remI listed ops.size with
  | nil => rfl
  | cons i rest =>
   exfalso
   have hmem : i ∈ remI listed ops.size := by rw [hrem]; simp
   have hi := hmem
   simp only [remI, List.mem_filter, List.mem_range, Bool.not_eq_true'] at hi
   have hlow : ∀ k, k < i → listed.getD k false = true := by
    intro k hk
    cases hb : listed.getD k false with
    | true => rfl
    | false =>
     exfalso
     have hkm : k ∈ remI listed ops.size := by simp only [remI, List.mem_filter, List.mem_range, Bool.not_eq_true']; exact ⟨by omega, hb⟩
     have hsorted : (remI listed ops.size).Pairwise (· < ·) := List.Pairwise.filter _ List.pairwise_lt_range
     rw [hrem] at hkm hsorted
     rcases List.mem_cons.1 hkm with rfl | hkm
     ·omega
     ·have := (List.pairwise_cons.1 hsorted).1 k hkm
      omega
   have hio : ops[i]? = some ops[i] := Array.getElem?_eq_getElem hi.1
   have : i ∈ Region.ready .any ops listed := by
    rw [mem_ready]
    refine ⟨?_, ops[i], hio, fun e he hb => ?_⟩
    ·have := hi.2
     simp only [Array.getD] at this ⊢
     split at this
     ·rename_i h; simp only [dif_pos h]; exact this
     ·rename_i h; omega
    ·have := hback i ops[i] (hgetO _ _ hio) e (Array.mem_toList_iff.2 he) hb
     exact hlow _ (by omega)
   rw [hr] at this
   simp at this
 intro fuel
 induction fuel with
 | zero =>
  intro listed s g a w hsz hf hdown hr hs hQ
  have hrem : remI listed ops.size = [] := enz (by omega)
  rw [hrem] at hr
  simp only [List.filterMap_nil, runOps, oiq] at hr
  subst hr
  refine ⟨?_, hQ a w g (Ext.refl g w) hs⟩
  cases hrd : Region.ready .any ops listed with
  | nil => rfl
  | cons i r =>
   exfalso
   have : i ∈ Region.ready .any ops listed := by rw [hrd]; simp
   rw [mem_ready] at this
   obtain ⟨h1, o, ho, _⟩ := this
   have hlt := (Array.getElem?_eq_some_iff.1 ho).1
   have : i ∈ remI listed ops.size := by
    simp only [remI, List.mem_filter, List.mem_range, Bool.not_eq_true']
    refine ⟨hlt, ?_⟩
    simp only [Array.getD] at h1 ⊢
    split at h1
    ·rename_i h; simp only [dif_pos h]; exact h1
    ·cases h1
   rw [hrem] at this
   simp at this
 | succ fuel ih =>
  intro listed s g a w hsz hf hdown hr hs hQ
  refine ⟨fun hrd => ?_, fun i hi => ?_⟩
  ·have hrem := hprog listed hsz hrd
   rw [hrem] at hr
   simp only [List.filterMap_nil, runOps, oiq] at hr
   subst hr
   exact hQ a w g (Ext.refl g w) hs
  ·rw [mem_ready] at hi
   obtain ⟨h1, o, ho, hedges⟩ := hi
   have hlt := (Array.getElem?_eq_some_iff.1 ho).1
   have hlf : listed.getD i false = false := by
    simp only [Array.getD] at h1 ⊢
    split at h1
    ·rename_i h; simp only [dif_pos h]; exact h1
    ·cases h1
   obtain ⟨pre, post, hrem, hrem', hpre⟩ := rem_split hlt hlf (by omega)
   obtain ⟨io, hio, hco⟩ := hcg.2 i o (hgetO _ _ ho)
   rw [hrem] at hr
   rw [List.filterMap_append, List.filterMap_cons, hio] at hr
   simp only at hr
   have hanc : ∃ m, (ancs ops.toList [])[i]? = some m := by
    refine ⟨_, List.getElem?_eq_getElem (by rw [ancs_len]; simpa using hlt)⟩
   obtain ⟨m, hm⟩ := hanc
   have hD := ancs_spec (D := fun k => listed.getD k false = true) ops.toList [] (fun k o' ho' hk => by
     rw [List.length_nil, Nat.zero_add] at hk
     exact hdown k o' (by rw [agtl] at ho'; exact ho') hk) (by simp) i m hm (.inr ⟨o, by simp, by rw [List.length_nil, Nat.sub_zero, agtl]; exact ho, fun e he hb => hedges e (Array.mem_toList_iff.1 he) hb⟩)
   obtain ⟨hsrc, hfree⟩ := allFree_spec is [] (ancs ops.toList []) hok.2 i io m hio hm
   have hind : ∀ x ∈ pre.filterMap (is[·]?), indepB x io = true := by
    intro x hx
    simp only [List.mem_filterMap] at hx
    obtain ⟨j, hj, hxj⟩ := hx
    obtain ⟨hji, hjl⟩ := hpre j hj
    rcases hfree j x (by simpa using hji) (by simpa using hxj) with h | h
    ·exact h
    ·have := hD j h
     rw [hjl] at this
     cases this
   obtain ⟨s1, h5, h6⟩ := front (pre.filterMap (is[·]?)) io (post.filterMap (is[·]?)) s s' hind (src_lt hs hsrc)
    (fun x hx s s1 hst hl => src_keep (hind x hx) hst hl (fun hcl => grows (hind x hx) hcl hst)) hr
   refine stepO_sound hE hs ho hco h5 (fun a' w' g' he' hs' => ?_)
   refine ih (listed.setIfInBounds i true) s1 g' a' w' (by simpa using hsz) ?_ ?_ ?_ hs' (fun a2 w2 g2 h3 h4 => hQ a2 w2 g2 (he'.trans h3) h4)
   ·rw [hrem] at hf
    rw [hrem']
    simp only [lap, lcn] at hf ⊢
    omega
   ·intro k o' ho' hk e he hb
    by_cases hki : i = k
    ·subst hki
     rw [ho] at ho'
     simp only [oiq] at ho'
     subst ho'
     exact getD_set_true (hedges e (Array.mem_toList_iff.1 he) hb)
    ·rw [getD_set_ne false hki] at hk
     exact getD_set_true (hdown k o' ho' hk e he hb)
   ·rw [hrem', List.filterMap_append]
    exact h6
end
def G.cut (g : G) (n : Nat) : G := { g with N := n, Ho := fun b => g.Ho b ∧ b < n }
theorem G.cut_D {g : G} {n b : Nat} (hb : b < n) (h : g.D b) : (g.cut n).D b := ⟨hb, fun e => h.2 e.1⟩
def Fz (g : G) (h : List AB) (n c : Nat) : Prop := ∃ b x, n ≤ b ∧ h[b]? = some x ∧ cid g b x = some c
def G.cutF (g : G) (n : Nat) (h : List AB) : G := { g with N := n, Ho := fun b => g.Ho b ∧ b < n, S := fun c => g.S c ∨ Fz g h n c, Pr := fun c => g.Pr c ∨ Fz g h n c }
theorem G.cutF_D {g : G} {n b : Nat} {h : List AB} (hb : b < n) (k : g.D b) : (g.cutF n h).D b := ⟨hb, fun e => k.2 e.1⟩
mutual
theorem VR_trim {g : G} {w : World} {n : Nat} : ∀ (x : AV) (v : Value), x.blw n = true → VR g w x v → VR (g.cut n) w x v
 | .p x, v, _, h => by simp only [VR] at h ⊢; exact h
 | .ro x, v, _, h => by simp only [VR] at h ⊢; exact h
 | .und, v, _, h => by simp [VR]
 | .agg xs, v, hb, h => by
  simp only [VR] at h ⊢
  obtain ⟨cs, rfl, h⟩ := h
  exact ⟨cs, rfl, VRs_trim xs _ (by simpa only [AV.blw] using hb) h⟩
 | .tup xs, v, hb, h => by
  simp only [VR] at h ⊢
  obtain ⟨cs, rfl, h⟩ := h
  exact ⟨cs, rfl, VRs_trim xs _ (by simpa only [AV.blw] using hb) h⟩
 | .fn f xs, v, hb, h => by
  simp only [VR] at h ⊢
  obtain ⟨cs, rfl, h⟩ := h
  exact ⟨cs, rfl, VRs_trim xs _ (by simpa only [AV.blw] using hb) h⟩
 | .ptr b o, v, hb, h => by
  simp only [VR] at h ⊢
  exact ⟨G.cut_D (by simpa [AV.blw] using hb) h.1, h.2⟩
 | .rp b ge s k o, v, hb, h => by
  simp only [VR] at h ⊢
  exact ⟨G.cut_D (by simpa [AV.blw] using hb) h.1, h.2⟩
 | .sl b ge s k o, v, hb, h => by
  simp only [VR] at h ⊢
  exact ⟨G.cut_D (by simpa [AV.blw] using hb) h.1, h.2⟩
 | .mp b, v, hb, h => by
  simp only [VR] at h ⊢
  exact ⟨G.cut_D (by simpa [AV.blw] using hb) h.1, h.2⟩
 | .yl b, v, hb, h => by
  simp only [VR] at h ⊢
  exact ⟨G.cut_D (by simpa [AV.blw] using hb) h.1, h.2⟩
 | .anyp, v, hb, h => by simpa only [VR] using h
 | .anye, v, hb, h => by simpa only [VR] using h
theorem VRs_trim {g : G} {w : World} {n : Nat} : ∀ (xs : List AV) (vs : List Value), belows n xs = true → VRs g w xs vs → VRs (g.cut n) w xs vs
 | [], [], _, _ => by simp [VRs]
 | x :: xs, v :: vs, hb, h => by
  simp only [belows, aet] at hb
  simp only [VRs] at h ⊢
  exact ⟨VR_trim x v hb.1 h.1, VRs_trim xs vs hb.2 h.2⟩
 | [], _ :: _, _, h => by simp [VRs] at h
 | _ :: _, [], _, h => by simp [VRs] at h
end
theorem MpR_trim {g : G} {w : World} {n : Nat} : ∀ (i : Nat) (es : List (AV × AV)) (vs : List MapEntry), es.all (fun e => e.1.blw n && e.2.blw n) = true → MpR g w i es vs → MpR (g.cut n) w i es vs
 | _, [], [], _, _ => by simp [MpR]
 | i, x :: es, v :: vs, hb, h => by
  simp only [List.all_cons, aet] at hb
  simp only [MpR] at h ⊢
  exact ⟨⟨VR_trim _ _ hb.1.1 h.1.1, VR_trim _ _ hb.1.2 h.1.2.1, h.1.2.2⟩, MpR_trim (i + 1) es vs hb.2 h.2⟩
 | _, [], _ :: _, _, h => by simp [MpR] at h
 | _, _ :: _, [], _, h => by simp [MpR] at h
theorem belows_flatten {n : Nat} : ∀ (rows : List (List AV)), rows.all (belows n) = true → belows n rows.flatten = true
 | [], _ => rfl
 | r :: rs, h => by
  simp only [List.all_cons, aet] at h
  have : ∀ (xs ys : List AV), belows n xs = true → belows n ys = true → belows n (xs ++ ys) = true := by
   intro xs
   induction xs with
   | nil => intro ys _ h; exact h
   | cons x xs ih => intro ys h1 h2; simp only [belows, aet, List.cons_append] at h1 ⊢; exact ⟨h1.1, ih ys h1.2 h2⟩
  rw [List.flatten_cons]
  exact this _ _ h.1 (belows_flatten rs h.2)
mutual
theorem VR_pr {g : G} {w : World} {Q : Nat → Prop} : ∀ (x : AV) (v : Value), VR g w x v → VR { g with Pr := Q } w x v
 | .p x, v, h => by simpa only [VR] using h
 | .ro x, v, h => by simpa only [VR] using h
 | .und, v, h => by simp [VR]
 | .agg xs, v, h => by
  simp only [VR] at h ⊢
  obtain ⟨cs, rfl, h⟩ := h
  exact ⟨cs, rfl, VRs_pr xs _ h⟩
 | .tup xs, v, h => by
  simp only [VR] at h ⊢
  obtain ⟨cs, rfl, h⟩ := h
  exact ⟨cs, rfl, VRs_pr xs _ h⟩
 | .fn f xs, v, h => by
  simp only [VR] at h ⊢
  obtain ⟨cs, rfl, h⟩ := h
  exact ⟨cs, rfl, VRs_pr xs _ h⟩
 | .ptr b o, v, h => by simp only [VR] at h ⊢; exact h
 | .rp b ge s k o, v, h => by simp only [VR] at h ⊢; exact h
 | .sl b ge s k o, v, h => by simp only [VR] at h ⊢; exact h
 | .mp b, v, h => by simp only [VR] at h ⊢; exact h
 | .yl b, v, h => by simp only [VR] at h ⊢; exact h
 | .anyp, v, h => by simpa only [VR] using h
 | .anye, v, h => by simpa only [VR] using h
theorem VRs_pr {g : G} {w : World} {Q : Nat → Prop} : ∀ (xs : List AV) (vs : List Value), VRs g w xs vs → VRs { g with Pr := Q } w xs vs
 | [], [], _ => by simp [VRs]
 | x :: xs, v :: vs, h => by
  simp only [VRs] at h ⊢
  exact ⟨VR_pr x v h.1, VRs_pr xs vs h.2⟩
 | [], _ :: _, h => by simp [VRs] at h
 | _ :: _, [], h => by simp [VRs] at h
end
theorem MpR_pr {g : G} {w : World} {Q : Nat → Prop} : ∀ (i : Nat) (es : List (AV × AV)) (vs : List MapEntry), MpR g w i es vs → MpR { g with Pr := Q } w i es vs
 | _, [], [], _ => by simp [MpR]
 | i, x :: es, v :: vs, h => by
  simp only [MpR] at h ⊢
  exact ⟨⟨VR_pr _ _ h.1.1, VR_pr _ _ h.1.2.1, h.1.2.2⟩, MpR_pr (i + 1) es vs h.2⟩
 | _, [], _ :: _, h => by simp [MpR] at h
 | _, _ :: _, [], h => by simp [MpR] at h
theorem BR_pr {g : G} {w : World} {Q : Nat → Prop} {b : Nat} {x : AB} (h : BR g w b x) : BR { g with Pr := Q } w b x := by
 cases x with
 | cells t xs =>
  simp only [BR] at h ⊢
  obtain ⟨cs, fz, k1, k2, k3⟩ := h
  exact ⟨cs, fz, k1, k2, VRs_pr _ _ k3.1, k3.2⟩
 | row t size gen rows =>
  simp only [BR] at h ⊢
  refine ⟨h.1, h.2.1, ?_⟩
  have hrow := h.2.2
  show RowR _ w t size rows (g.hd b gen)
  cases hd : g.hd b gen with
  | none => rw [hd] at hrow; exact hrow
  | some p =>
   obtain ⟨c, cap⟩ := p
   rw [hd] at hrow
   simp only [RowR] at hrow ⊢
   obtain ⟨cs, fz, k1, k2, k3, k4, k5, k6⟩ := hrow
   exact ⟨cs, fz, k1, k2, k3, k4, k5, VRs_pr _ _ k6.1, k6.2⟩
 | loop st pend ps f ia ib =>
  simp only [BR] at h ⊢
  obtain ⟨rec, k1, k⟩ := h
  exact ⟨rec, k1, ⟨k.st, k.pend, k.ps, VRs_pr _ _ k.f, k.ia, k.ib⟩⟩
 | map q es =>
  simp only [BR] at h ⊢
  obtain ⟨arr, k1, k2⟩ := h
  exact ⟨arr, k1, MpR_pr q es _ k2⟩
 | frz size gen rows => simp only [BR] at h ⊢; exact h
 | dead => simp [BR]
 | hole => simp [BR]
theorem BR_trim {g : G} {w : World} {n b : Nat} {x : AB} (hx : x.blw n = true) (h : BR g w b x) : BR (g.cut n) w b x := by
 cases x with
 | cells t xs =>
  simp only [AB.blw] at hx
  simp only [BR] at h ⊢
  obtain ⟨cs, fz, k1, k2, k3⟩ := h
  exact ⟨cs, fz, k1, k2, VRs_trim _ _ hx k3.1, k3.2⟩
 | row t size gen rows =>
  simp only [AB.blw] at hx
  simp only [BR] at h ⊢
  obtain ⟨h1, h2, h3⟩ := h
  refine ⟨h1, h2, ?_⟩
  show RowR (g.cut n) w t size rows (g.hd b gen)
  cases hh : g.hd b gen with
  | none => rw [hh] at h3; exact h3
  | some p =>
   obtain ⟨c, cap⟩ := p
   rw [hh] at h3
   simp only [RowR] at h3 ⊢
   obtain ⟨cs, fz, k1, k2, k3, k4, k5, k6⟩ := h3
   exact ⟨cs, fz, k1, k2, k3, k4, k5, VRs_trim _ _ (belows_flatten rows hx) k6.1, k6.2⟩
 | loop st pend ps f ia ib =>
  simp only [AB.blw] at hx
  simp only [BR] at h ⊢
  obtain ⟨rec, k1, k⟩ := h
  exact ⟨rec, k1, ⟨k.st, k.pend, k.ps, VRs_trim _ _ hx k.f, k.ia, k.ib⟩⟩
 | map q es =>
  simp only [AB.blw] at hx
  simp only [BR] at h ⊢
  obtain ⟨arr, k1, k2⟩ := h
  exact ⟨arr, k1, MpR_trim q es _ hx k2⟩
 | frz size gen rows => simp only [BR] at h ⊢; exact h
 | dead => simp [BR]
 | hole => simp [BR]
section
variable {P : Program} {C : IC → Code → Prop} {gl : Nat → Option (List PV)}
theorem callR_frame {fn m : Nat} {args : List AV} {h h1 : List AB} {v : AV} (hk : okF m args h (v, h1) = true) (hc : CallR P C gl fn args (h.take m) v h1) : CallR P C gl fn args h v (h1.take m ++ h.drop m) := by
 unfold okF at hk
 simp only [aet] at hk
 obtain ⟨k0, ka, kh, kv, k1, kb⟩ := hk
 have k0 := lbt k0
 have k1 := lbt k1
 refine ⟨hc.1, ?_⟩
 intro g w vals hcr hgr hr hvs
 have hn := hr.n
 have hget0 : ∀ {b x}, (h.take m)[b]? = some x → b < m ∧ h[b]? = some x := by
  intro b x hb
  rw [List.getElem?_take] at hb
  split at hb
  ·rename_i hl; exact ⟨hl, hb⟩
  ·cases hb
 have hget1 : ∀ {b x}, (h1.take m)[b]? = some x → b < m ∧ h1[b]? = some x := by
  intro b x hb
  rw [List.getElem?_take] at hb
  split at hb
  ·rename_i hl; exact ⟨hl, hb⟩
  ·cases hb
 let g0 : G := { g with N := m, Ho := fun b => g.Ho b ∧ b < m, Pr := fun c => g.Pr c ∨ Fz g h m c }
 have hcid0 : ∀ b x, cid g0 b x = cid g b x := fun b x => by cases x <;> rfl
 have hr0 : HR g0 (h.take m) w := by
  refine ⟨by simp only [g0, List.length_take]; omega, ?_, ?_, ?_, ?_, ?_, ?_⟩
  ·intro b x hb
   exact BR_pr (BR_trim (List.all_eq_true.1 kh x (mog hb)) (hr.br b x (hget0 hb).2))
  ·intro b b' x x' c hb hb' hc hc'
   rw [hcid0] at hc hc'
   exact hr.dis b b' x x' c (hget0 hb).2 (hget0 hb').2 hc hc'
  ·intro b x c hb hc
   rw [hcid0] at hc
   rintro (q | ⟨b', x', q1, q2, q3⟩)
   ·exact hr.own b x c (hget0 hb).2 hc q
   ·have := hr.dis b b' x x' c (hget0 hb).2 q2 hc q3
    have := (hget0 hb).1
    omega
  ·intro c hc
   exact .inl (hr.spr c hc)
  ·rintro c (q | ⟨b', x', q1, q2, q3⟩)
   ·exact hr.prs c q
   ·exact cid_lt hr q2 q3
  ·intro b
   constructor
   ·rintro ⟨q1, q2⟩
    rw [List.getElem?_take, if_pos q2]
    exact (hr.ho b).1 q1
   ·intro q
    exact ⟨(hr.ho b).2 (hget0 q).2, (hget0 q).1⟩
 have hv0 : VRs g0 w args vals := VRs_pr _ _ (VRs_trim _ _ ka hvs)
 refine (hc.2 g0 w vals hcr hgr hr0 hv0).mono ?_
 rintro e w1 ⟨x, g1, rfl, e1, r1, v1⟩
 have hHo1 : ∀ b, b < m → (g1.Ho b ↔ h1[b]? = some .hole) := fun b _ => r1.ho b
 have hn1 := r1.n
 let g2 : G := ⟨g1.S, fun c => g.Pr c ∨ g1.S c, g.N, fun b => (b < m ∧ g1.Ho b) ∨ (m ≤ b ∧ g.Ho b), fun b => if b < m then g1.m b else g.m b, fun b => if b < m then g1.gen b else g.gen b, fun b => if b < m then g1.hd b else g.hd b, g1.cr⟩
 have hmL : ∀ b, b < m → g2.m b = g1.m b := fun b hb => if_pos hb
 have hgL : ∀ b, b < m → g2.gen b = g1.gen b := fun b hb => if_pos hb
 have hhL : ∀ b, b < m → g2.hd b = g1.hd b := fun b hb => if_pos hb
 have hmH : ∀ b, ¬ b < m → g2.m b = g.m b := fun b hb => if_neg hb
 have hgH : ∀ b, ¬ b < m → g2.gen b = g.gen b := fun b hb => if_neg hb
 have hhH : ∀ b, ¬ b < m → g2.hd b = g.hd b := fun b hb => if_neg hb
 have hD0 : ∀ b, b < m → g.D b → g0.D b := fun b hb hd => ⟨hb, fun q => hd.2 q.1⟩
 have hSn : ∀ c, g1.S c → g.S c ∨ ¬ (g.Pr c ∨ Fz g h m c) := fun c hc => e1.Sn c hc
 have e2 : Ext g w g2 w1 := by
  refine ⟨fun c hc => e1.S c hc, fun c hc => .inl hc, fun c hc => e1.pr c (.inl hc), Nat.le_refl _, ?_, ?_, ?_, ?_, e1.size, e1.os, e1.tape, e1.output, ?_, e1.cr, e1.drawn⟩
  ·intro b hb
   refine ⟨hb.1, ?_⟩
   rintro (⟨q1, q2⟩ | ⟨q1, q2⟩)
   ·exact (e1.D b (hD0 b q1 hb)).2 q2
   ·exact hb.2 q2
  ·intro b hb
   by_cases hl : b < m
   ·rw [hmL b hl]; exact e1.m b (hD0 b hl hb)
   ·rw [hmH b hl]
  ·intro b hb
   by_cases hl : b < m
   ·rw [hgL b hl]; exact e1.gen b (hD0 b hl hb)
   ·rw [hgH b hl]; exact Nat.le_refl _
  ·intro b hb k hk
   by_cases hl : b < m
   ·rw [hhL b hl]; exact e1.hd b (hD0 b hl hb) k hk
   ·rw [hhH b hl]
  ·intro c hc
   rcases hSn c hc with q | q
   ·exact .inl q
   ·exact .inr (fun hp => q (.inl hp))
 let ga : G := { g1.cut m with Pr := g2.Pr }
 have hcida : ∀ b x, cid ga b x = cid g1 b x := fun b x => by cases x <;> rfl
 have hfz : ∀ c, Fz g h m c → ¬ g2.Pr c := by
  rintro c ⟨b, y, q1, q2, q3⟩ (q | q)
  ·exact hr.own b y c q2 q3 q
  ·rcases hSn c q with q | q
   ·exact hr.own b y c q2 q3 (hr.spr c q)
   ·exact q (.inr ⟨b, y, q1, q2, q3⟩)
 have hra : HR ga (h1.take m) w1 := by
  refine ⟨by simp only [ga, G.cut, List.length_take]; omega, ?_, ?_, ?_, ?_, ?_, ?_⟩
  ·intro b y hb
   exact BR_pr (BR_trim (List.all_eq_true.1 kb y (mog hb)) (r1.br b y (hget1 hb).2))
  ·intro b b' y y' c hb hb' hc hc'
   rw [hcida] at hc hc'
   exact r1.dis b b' y y' c (hget1 hb).2 (hget1 hb').2 hc hc'
  ·intro b y c hb hc
   rw [hcida] at hc
   rintro (q | q)
   ·exact r1.own b y c (hget1 hb).2 hc (e1.Pr c (.inl q))
   ·exact r1.own b y c (hget1 hb).2 hc (r1.spr c q)
  ·intro c hc
   exact .inr hc
  ·rintro c (q | q)
   ·exact Nat.lt_of_lt_of_le (hr.prs c q) e1.size
   ·exact r1.prs c (r1.spr c q)
  ·intro b
   constructor
   ·rintro ⟨q1, q2⟩
    rw [List.getElem?_take, if_pos q2]
    exact (r1.ho b).1 q1
   ·intro q
    exact ⟨(r1.ho b).2 (hget1 q).2, (hget1 q).1⟩
 have ea : Ext ga w1 g2 w1 := by
  refine ⟨fun c hc => hc, fun c hc => hc, fun c hc => rfl, by show m ≤ g.N; omega, ?_, fun b hb => hmL b hb.1, fun b hb => by rw [hgL b hb.1]; exact Nat.le_refl _, fun b hb k hk => by rw [hhL b hb.1]; rfl, Nat.le_refl _, rfl, rfl, rfl, fun c hc => .inl hc, rfl, fun _ => Nat.le_refl _⟩
  intro b hb
  refine ⟨by show b < g.N; have : b < m := hb.1; omega, ?_⟩
  rintro (⟨q1, q2⟩ | ⟨q1, q2⟩)
  ·exact hb.2 ⟨q2, q1⟩
  ·have : b < m := hb.1
   omega
 have hlen1 : (h1.take m).length = m := by rw [List.length_take]; omega
 have hget : ∀ {b y}, (h1.take m ++ h.drop m)[b]? = some y → (b < m ∧ (h1.take m)[b]? = some y) ∨ (m ≤ b ∧ h[b]? = some y) := by
  intro b y hb
  rw [List.getElem?_append] at hb
  split at hb
  ·rename_i hl; exact .inl ⟨by omega, hb⟩
  ·rename_i hl
   rw [hlen1] at hb hl
   rw [List.getElem?_drop, show m + (b - m) = b by omega] at hb
   exact .inr ⟨by omega, hb⟩
 have cid_lo : ∀ b y, b < m → cid g2 b y = cid g1 b y := by
  intro b y hb
  cases y <;> simp only [cid, hmL b hb, hhL b hb]
 have cid_hi : ∀ b y, m ≤ b → cid g2 b y = cid g b y := by
  intro b y hb
  cases y <;> simp only [cid, hmH b (by omega), hhH b (by omega)]
 refine ⟨x, g2, rfl, e2, ⟨?_, ?_, ?_, ?_, fun c hc => .inr hc, ?_, ?_⟩, ?_⟩
 ·show g.N = _
  rw [lap, hlen1, List.length_drop]; omega
 ·intro b y hb
  rcases hget hb with ⟨hl, hb⟩ | ⟨hl, hb⟩
  ·exact BR_mono hra ea hb (hgL b hl) (fun c hc => rfl)
  ·exact BR_mono hr e2 hb (hgH b (by omega)) (fun c hc => e1.pr c (.inr ⟨b, y, hl, hb, hc⟩))
 ·intro b b' y y' c hb hb' hc hc'
  rcases hget hb with ⟨hl, hb⟩ | ⟨hl, hb⟩ <;> rcases hget hb' with ⟨hl', hb'⟩ | ⟨hl', hb'⟩
  ·rw [cid_lo _ _ hl] at hc
   rw [cid_lo _ _ hl'] at hc'
   exact r1.dis b b' y y' c (hget1 hb).2 (hget1 hb').2 hc hc'
  ·rw [cid_lo _ _ hl] at hc
   rw [cid_hi _ _ hl'] at hc'
   exact absurd (e1.Pr c (.inr ⟨b', y', hl', hb', hc'⟩)) (r1.own b y c (hget1 hb).2 hc)
  ·rw [cid_hi _ _ hl] at hc
   rw [cid_lo _ _ hl'] at hc'
   exact absurd (e1.Pr c (.inr ⟨b, y, hl, hb, hc⟩)) (r1.own b' y' c (hget1 hb').2 hc')
  ·rw [cid_hi _ _ hl] at hc
   rw [cid_hi _ _ hl'] at hc'
   exact hr.dis b b' y y' c hb hb' hc hc'
 ·intro b y c hb hc
  rcases hget hb with ⟨hl, hb⟩ | ⟨hl, hb⟩
  ·rw [cid_lo _ _ hl] at hc
   rintro (q | q)
   ·exact r1.own b y c (hget1 hb).2 hc (e1.Pr c (.inl q))
   ·exact r1.own b y c (hget1 hb).2 hc (r1.spr c q)
  ·rw [cid_hi _ _ hl] at hc
   exact hfz c ⟨b, y, hl, hb, hc⟩
 ·rintro c (q | q)
  ·exact Nat.lt_of_lt_of_le (hr.prs c q) e1.size
  ·exact r1.prs c (r1.spr c q)
 ·intro b
  constructor
  ·rintro (⟨q1, q2⟩ | ⟨q1, q2⟩)
   ·have := (r1.ho b).1 q2
    rw [gal (by omega), List.getElem?_take, if_pos q1]
    exact this
   ·have := (hr.ho b).1 q2
    rw [gar (by omega), hlen1, List.getElem?_drop, show m + (b - m) = b by omega]
    exact this
  ·intro q
   rcases hget q with ⟨hl, hb⟩ | ⟨hl, hb⟩
   ·exact .inl ⟨hl, (r1.ho b).2 (hget1 hb).2⟩
   ·exact .inr ⟨hl, (hr.ho b).2 hb⟩
 ·exact VR_mono ea (fun c hc => .inr hc) v x (VR_pr _ _ (VR_trim _ _ kv v1))
theorem callR_row {fn m b0 ge s l t s' g' : Nat} {args : List AV} {rows : List (List AV)} {h h1 : List AB} (k0 : m ≤ h.length) (ka : belows m args = true) (kh : (h.take m).all (AB.blw m) = true) (k1 : m ≤ h1.length) (kb : (h1.take m).all (AB.blw m) = true)
  (kb0 : m ≤ b0) (hb0 : h1[b0]? = some (.row t s' g' rows)) (kr : rows.all (belows m) = true) (hc : CallR P C gl fn args (h.take m) (.sl b0 ge s 0 l) h1) : CallR P C gl fn args h (.sl h.length ge s 0 l) ((h1.take m ++ h.drop m) ++ [.row t s' g' rows]) := by
 refine ⟨hc.1, ?_⟩
 intro g w vals hcr hgr hr hvs
 have hn := hr.n
 have hget0 : ∀ {b x}, (h.take m)[b]? = some x → b < m ∧ h[b]? = some x := by
  intro b x hb
  rw [List.getElem?_take] at hb
  split at hb
  ·rename_i hl; exact ⟨hl, hb⟩
  ·cases hb
 have hget1 : ∀ {b x}, (h1.take m)[b]? = some x → b < m ∧ h1[b]? = some x := by
  intro b x hb
  rw [List.getElem?_take] at hb
  split at hb
  ·rename_i hl; exact ⟨hl, hb⟩
  ·cases hb
 let g0 : G := { g with N := m, Ho := fun b => g.Ho b ∧ b < m, Pr := fun c => g.Pr c ∨ Fz g h m c }
 have hcid0 : ∀ b x, cid g0 b x = cid g b x := fun b x => by cases x <;> rfl
 have hr0 : HR g0 (h.take m) w := by
  refine ⟨by simp only [g0, List.length_take]; omega, ?_, ?_, ?_, ?_, ?_, ?_⟩
  ·intro b x hb
   exact BR_pr (BR_trim (List.all_eq_true.1 kh x (mog hb)) (hr.br b x (hget0 hb).2))
  ·intro b b' x x' c hb hb' hc hc'
   rw [hcid0] at hc hc'
   exact hr.dis b b' x x' c (hget0 hb).2 (hget0 hb').2 hc hc'
  ·intro b x c hb hc
   rw [hcid0] at hc
   rintro (q | ⟨b', x', q1, q2, q3⟩)
   ·exact hr.own b x c (hget0 hb).2 hc q
   ·have := hr.dis b b' x x' c (hget0 hb).2 q2 hc q3
    have := (hget0 hb).1
    omega
  ·intro c hc
   exact .inl (hr.spr c hc)
  ·rintro c (q | ⟨b', x', q1, q2, q3⟩)
   ·exact hr.prs c q
   ·exact cid_lt hr q2 q3
  ·intro b
   constructor
   ·rintro ⟨q1, q2⟩
    rw [List.getElem?_take, if_pos q2]
    exact (hr.ho b).1 q1
   ·intro q
    exact ⟨(hr.ho b).2 (hget0 q).2, (hget0 q).1⟩
 have hv0 : VRs g0 w args vals := VRs_pr _ _ (VRs_trim _ _ ka hvs)
 refine (hc.2 g0 w vals hcr hgr hr0 hv0).mono ?_
 rintro e w1 ⟨x, g1, rfl, e1, r1, v1⟩
 have hHo1 : ∀ b, b < m → (g1.Ho b ↔ h1[b]? = some .hole) := fun b _ => r1.ho b
 have hn1 := r1.n
 let g2 : G := ⟨g1.S, fun c => g.Pr c ∨ g1.S c, g.N + 1, fun b => (b < m ∧ g1.Ho b) ∨ (m ≤ b ∧ g.Ho b), fun b => if b < m then g1.m b else if b = g.N then g1.m b0 else g.m b, fun b => if b < m then g1.gen b else if b = g.N then g1.gen b0 else g.gen b, fun b => if b < m then g1.hd b else if b = g.N then g1.hd b0 else g.hd b, g1.cr⟩
 have hmL : ∀ b, b < m → g2.m b = g1.m b := fun b hb => if_pos hb
 have hgL : ∀ b, b < m → g2.gen b = g1.gen b := fun b hb => if_pos hb
 have hhL : ∀ b, b < m → g2.hd b = g1.hd b := fun b hb => if_pos hb
 have hmH : ∀ b, ¬ b < m → b < g.N → g2.m b = g.m b := fun b hb hn => (if_neg hb).trans (if_neg (by omega))
 have hgH : ∀ b, ¬ b < m → b < g.N → g2.gen b = g.gen b := fun b hb hn => (if_neg hb).trans (if_neg (by omega))
 have hhH : ∀ b, ¬ b < m → b < g.N → g2.hd b = g.hd b := fun b hb hn => (if_neg hb).trans (if_neg (by omega))
 have hNm : ¬ g.N < m := by omega
 have hmN : g2.m g.N = g1.m b0 := (if_neg hNm).trans (if_pos rfl)
 have hgN : g2.gen g.N = g1.gen b0 := (if_neg hNm).trans (if_pos rfl)
 have hhN : g2.hd g.N = g1.hd b0 := (if_neg hNm).trans (if_pos rfl)
 have hD0 : ∀ b, b < m → g.D b → g0.D b := fun b hb hd => ⟨hb, fun q => hd.2 q.1⟩
 have hSn : ∀ c, g1.S c → g.S c ∨ ¬ (g.Pr c ∨ Fz g h m c) := fun c hc => e1.Sn c hc
 have e2 : Ext g w g2 w1 := by
  refine ⟨fun c hc => e1.S c hc, fun c hc => .inl hc, fun c hc => e1.pr c (.inl hc), Nat.le_succ _, ?_, ?_, ?_, ?_, e1.size, e1.os, e1.tape, e1.output, ?_, e1.cr, e1.drawn⟩
  ·intro b hb
   refine ⟨Nat.lt_succ_of_lt hb.1, ?_⟩
   rintro (⟨q1, q2⟩ | ⟨q1, q2⟩)
   ·exact (e1.D b (hD0 b q1 hb)).2 q2
   ·exact hb.2 q2
  ·intro b hb
   by_cases hl : b < m
   ·rw [hmL b hl]; exact e1.m b (hD0 b hl hb)
   ·rw [hmH b hl hb.1]
  ·intro b hb
   by_cases hl : b < m
   ·rw [hgL b hl]; exact e1.gen b (hD0 b hl hb)
   ·rw [hgH b hl hb.1]; exact Nat.le_refl _
  ·intro b hb k hk
   by_cases hl : b < m
   ·rw [hhL b hl]; exact e1.hd b (hD0 b hl hb) k hk
   ·rw [hhH b hl hb.1]
  ·intro c hc
   rcases hSn c hc with q | q
   ·exact .inl q
   ·exact .inr (fun hp => q (.inl hp))
 let ga : G := { g1.cut m with Pr := g2.Pr }
 have hcida : ∀ b x, cid ga b x = cid g1 b x := fun b x => by cases x <;> rfl
 have hfz : ∀ c, Fz g h m c → ¬ g2.Pr c := by
  rintro c ⟨b, y, q1, q2, q3⟩ (q | q)
  ·exact hr.own b y c q2 q3 q
  ·rcases hSn c q with q | q
   ·exact hr.own b y c q2 q3 (hr.spr c q)
   ·exact q (.inr ⟨b, y, q1, q2, q3⟩)
 have hra : HR ga (h1.take m) w1 := by
  refine ⟨by simp only [ga, G.cut, List.length_take]; omega, ?_, ?_, ?_, ?_, ?_, ?_⟩
  ·intro b y hb
   exact BR_pr (BR_trim (List.all_eq_true.1 kb y (mog hb)) (r1.br b y (hget1 hb).2))
  ·intro b b' y y' c hb hb' hc hc'
   rw [hcida] at hc hc'
   exact r1.dis b b' y y' c (hget1 hb).2 (hget1 hb').2 hc hc'
  ·intro b y c hb hc
   rw [hcida] at hc
   rintro (q | q)
   ·exact r1.own b y c (hget1 hb).2 hc (e1.Pr c (.inl q))
   ·exact r1.own b y c (hget1 hb).2 hc (r1.spr c q)
  ·intro c hc
   exact .inr hc
  ·rintro c (q | q)
   ·exact Nat.lt_of_lt_of_le (hr.prs c q) e1.size
   ·exact r1.prs c (r1.spr c q)
  ·intro b
   constructor
   ·rintro ⟨q1, q2⟩
    rw [List.getElem?_take, if_pos q2]
    exact (r1.ho b).1 q1
   ·intro q
    exact ⟨(r1.ho b).2 (hget1 q).2, (hget1 q).1⟩
 have ea : Ext ga w1 g2 w1 := by
  refine ⟨fun c hc => hc, fun c hc => hc, fun c hc => rfl, by show m ≤ g.N + 1; omega, ?_, fun b hb => hmL b hb.1, fun b hb => by rw [hgL b hb.1]; exact Nat.le_refl _, fun b hb k hk => by rw [hhL b hb.1]; rfl, Nat.le_refl _, rfl, rfl, rfl, fun c hc => .inl hc, rfl, fun _ => Nat.le_refl _⟩
  intro b hb
  refine ⟨by show b < g.N + 1; have : b < m := hb.1; omega, ?_⟩
  rintro (⟨q1, q2⟩ | ⟨q1, q2⟩)
  ·exact hb.2 ⟨q2, q1⟩
  ·have : b < m := hb.1
   omega
 have hlen1 : (h1.take m).length = m := by rw [List.length_take]; omega
 have hlen2 : (h1.take m ++ h.drop m).length = g.N := by rw [lap, hlen1, List.length_drop]; omega
 have hget : ∀ {b y}, ((h1.take m ++ h.drop m) ++ [AB.row t s' g' rows])[b]? = some y → (b < m ∧ (h1.take m)[b]? = some y) ∨ (m ≤ b ∧ b < g.N ∧ h[b]? = some y) ∨ (b = g.N ∧ y = .row t s' g' rows) := by
  intro b y hb
  rw [List.getElem?_append] at hb
  split at hb
  ·rename_i hl0
   rw [List.getElem?_append] at hb
   split at hb
   ·rename_i hl; exact .inl ⟨by omega, hb⟩
   ·rename_i hl
    rw [hlen1] at hb hl
    rw [List.getElem?_drop, show m + (b - m) = b by omega] at hb
    exact .inr (.inl ⟨by omega, by omega, hb⟩)
  ·rename_i hl0
   rw [hlen2] at hb hl0
   have e0 : b - g.N = 0 := by
    rcases Nat.eq_zero_or_pos (b - g.N) with e | e
    ·exact e
    ·exfalso
     rw [List.getElem?_eq_none (by simp only [List.length_singleton]; omega)] at hb
     cases hb
   rw [e0] at hb
   simp only [List.getElem?_cons_zero, oiq] at hb
   exact .inr (.inr ⟨by omega, hb.symm⟩)
 have cid_lo : ∀ b y, b < m → cid g2 b y = cid g1 b y := by
  intro b y hb
  cases y <;> simp only [cid, hmL b hb, hhL b hb]
 have cid_hi : ∀ b y, m ≤ b → b < g.N → cid g2 b y = cid g b y := by
  intro b y hb hn
  cases y <;> simp only [cid, hmH b (by omega) hn, hhH b (by omega) hn]
 have cid_n : ∀ y, cid g2 g.N y = cid g1 b0 y := by
  intro y
  cases y <;> simp only [cid, hmN, hhN]
 have hpr : ∀ c, g2.Pr c → cid g1 b0 (.row t s' g' rows) ≠ some c := by
  rintro c (q | q) hc
  ·exact r1.own b0 _ c hb0 hc (e1.Pr c (.inl q))
  ·exact r1.own b0 _ c hb0 hc (r1.spr c q)
 have hrow : BR g2 w1 g.N (.row t s' g' rows) := by
  have hb1 := r1.br b0 _ hb0
  simp only [BR] at hb1 ⊢
  refine ⟨by rw [hgN]; exact hb1.1, hb1.2.1, ?_⟩
  have hrow := hb1.2.2
  rw [hhN]
  cases hd : g1.hd b0 g' with
  | none => rw [hd] at hrow; exact hrow
  | some p =>
   obtain ⟨c, cap⟩ := p
   rw [hd] at hrow
   simp only [RowR] at hrow ⊢
   obtain ⟨cs, fz, q1, q2, q3, q4, q5, q6⟩ := hrow
   exact ⟨cs, fz, q1, q2, q3, q4, q5, VRs_mono ea (fun c hc => .inr hc) _ _ (VRs_pr _ _ (VRs_trim _ _ (belows_flatten rows kr) q6.1)), q6.2⟩
 refine ⟨x, g2, rfl, e2, ⟨?_, ?_, ?_, ?_, fun c hc => .inr hc, ?_, ?_⟩, ?_⟩
 ·show g.N + 1 = _
  rw [lap, hlen2]; rfl
 ·intro b y hb
  rcases hget hb with ⟨hl, hb⟩ | ⟨hl, hn2, hb⟩ | ⟨rfl, rfl⟩
  ·exact BR_mono hra ea hb (hgL b hl) (fun c hc => rfl)
  ·exact BR_mono hr e2 hb (hgH b (by omega) hn2) (fun c hc => e1.pr c (.inr ⟨b, y, hl, hb, hc⟩))
  ·exact hrow
 ·intro b b' y y' c hb hb' hc hc'
  rcases hget hb with ⟨hl, hb⟩ | ⟨hl, hn2, hb⟩ | ⟨rfl, rfl⟩ <;> rcases hget hb' with ⟨hl', hb'⟩ | ⟨hl', hn2', hb'⟩ | ⟨rfl, rfl⟩
  ·rw [cid_lo _ _ hl] at hc
   rw [cid_lo _ _ hl'] at hc'
   exact r1.dis b b' y y' c (hget1 hb).2 (hget1 hb').2 hc hc'
  ·rw [cid_lo _ _ hl] at hc
   rw [cid_hi _ _ hl' hn2'] at hc'
   exact absurd (e1.Pr c (.inr ⟨b', y', hl', hb', hc'⟩)) (r1.own b y c (hget1 hb).2 hc)
  ·rw [cid_lo _ _ hl] at hc
   rw [cid_n] at hc'
   have := r1.dis b b0 y _ c (hget1 hb).2 hb0 hc hc'
   omega
  ·rw [cid_hi _ _ hl hn2] at hc
   rw [cid_lo _ _ hl'] at hc'
   exact absurd (e1.Pr c (.inr ⟨b, y, hl, hb, hc⟩)) (r1.own b' y' c (hget1 hb').2 hc')
  ·rw [cid_hi _ _ hl hn2] at hc
   rw [cid_hi _ _ hl' hn2'] at hc'
   exact hr.dis b b' y y' c hb hb' hc hc'
  ·rw [cid_hi _ _ hl hn2] at hc
   rw [cid_n] at hc'
   exact absurd (e1.Pr c (.inr ⟨b, y, hl, hb, hc⟩)) (r1.own b0 _ c hb0 hc')
  ·rw [cid_n] at hc
   rw [cid_lo _ _ hl'] at hc'
   have := r1.dis b' b0 y' _ c (hget1 hb').2 hb0 hc' hc
   omega
  ·rw [cid_n] at hc
   rw [cid_hi _ _ hl' hn2'] at hc'
   exact absurd (e1.Pr c (.inr ⟨b', y', hl', hb', hc'⟩)) (r1.own b0 _ c hb0 hc)
  ·rfl
 ·intro b y c hb hc
  rcases hget hb with ⟨hl, hb⟩ | ⟨hl, hn2, hb⟩ | ⟨rfl, rfl⟩
  ·rw [cid_lo _ _ hl] at hc
   rintro (q | q)
   ·exact r1.own b y c (hget1 hb).2 hc (e1.Pr c (.inl q))
   ·exact r1.own b y c (hget1 hb).2 hc (r1.spr c q)
  ·rw [cid_hi _ _ hl hn2] at hc
   exact hfz c ⟨b, y, hl, hb, hc⟩
  ·rw [cid_n] at hc
   exact fun q => hpr c q hc
 ·rintro c (q | q)
  ·exact Nat.lt_of_lt_of_le (hr.prs c q) e1.size
  ·exact r1.prs c (r1.spr c q)
 ·intro b
  constructor
  ·rintro (⟨q1, q2⟩ | ⟨q1, q2⟩)
   ·have := (r1.ho b).1 q2
    rw [gal (by omega), gal (by omega), List.getElem?_take, if_pos q1]
    exact this
   ·have := (hr.ho b).1 q2
    have hl := (gei.1 this).1
    rw [gal (by omega), gar (by omega), hlen1, List.getElem?_drop, show m + (b - m) = b by omega]
    exact this
  ·intro q
   rcases hget q with ⟨hl, hb⟩ | ⟨hl, hn2, hb⟩ | ⟨_, hb⟩
   ·exact .inl ⟨hl, (r1.ho b).2 (hget1 hb).2⟩
   ·exact .inr ⟨hl, (hr.ho b).2 hb⟩
   ·cases hb
 ·simp only [VR] at v1 ⊢
  rw [← hn, hgN, hhN]
  refine ⟨⟨Nat.lt_succ_self _, ?_⟩, v1.2⟩
  rintro (⟨q1, q2⟩ | ⟨q1, q2⟩)
  ·exact hNm q1
  ·have := (gei.1 ((hr.ho g.N).1 q2)).1
   omega
end
section
variable {q : Nat → Nat} {n : Nat}
mutual
theorem ren_id (hq : ∀ b, b < n → q b = b) : ∀ (x : AV), x.blw n = true → x.ren q = x
 | .p _, _ => rfl
 | .ro _, _ => rfl
 | .und, _ => rfl
 | .anyp, _ => rfl
 | .anye, _ => rfl
 | .agg xs, h => by simp only [AV.ren]; rw [rens_id hq xs (by simpa only [AV.blw] using h)]
 | .tup xs, h => by simp only [AV.ren]; rw [rens_id hq xs (by simpa only [AV.blw] using h)]
 | .fn f xs, h => by simp only [AV.ren]; rw [rens_id hq xs (by simpa only [AV.blw] using h)]
 | .ptr b o, h => by simp only [AV.ren]; rw [hq b (by simpa [AV.blw] using h)]
 | .rp b g s k o, h => by simp only [AV.ren]; rw [hq b (by simpa [AV.blw] using h)]
 | .sl b g s k o, h => by simp only [AV.ren]; rw [hq b (by simpa [AV.blw] using h)]
 | .mp b, h => by simp only [AV.ren]; rw [hq b (by simpa [AV.blw] using h)]
 | .yl b, h => by simp only [AV.ren]; rw [hq b (by simpa [AV.blw] using h)]
theorem rens_id (hq : ∀ b, b < n → q b = b) : ∀ (xs : List AV), belows n xs = true → rens q xs = xs
 | [], _ => rfl
 | x :: xs, h => by
  simp only [belows, aet] at h
  simp only [rens]
  rw [ren_id hq x h.1, rens_id hq xs h.2]
end
theorem rows_id (hq : ∀ b, b < n → q b = b) (rows : List (List AV)) (h : rows.all (belows n) = true) : rows.map (rens q) = rows := by
 induction rows with
 | nil => rfl
 | cons r rs ih =>
  simp only [List.all_cons, aet] at h
  simp only [mcs]
  rw [rens_id hq r h.1, ih h.2]
theorem AB.ren_id' (hq : ∀ b, b < n → q b = b) (x : AB) (h : x.blw n = true) : x.ren q = x := by
 cases x <;> simp only [AB.blw] at h <;> simp only [AB.ren]
 ·rw [rens_id hq _ h]
 ·rw [rows_id hq _ h]
 ·rw [rens_id hq _ h]
 ·rename_i es
  congr 1
  induction es with
  | nil => rfl
  | cons e es ih =>
   simp only [List.all_cons, aet] at h
   simp only [mcs]
   rw [ren_id hq _ h.1.1, ren_id hq _ h.1.2, ih h.2]
theorem belows_app : ∀ (xs ys : List AV), belows n (xs ++ ys) = (belows n xs && belows n ys)
 | [], ys => by simp [belows]
 | x :: xs, ys => by simp only [List.cons_append, belows, belows_app xs ys, Bool.and_assoc]
theorem belows_p (xs : List PV) : belows n (xs.map .p) = true := by
 induction xs with
 | nil => rfl
 | cons x xs ih => simp only [mcs, belows, AV.blw, ih, Bool.and_self]
end
mutual
theorem VR_blw {g : G} {w : World} : ∀ (x : AV) (v : Value), VR g w x v → x.blw g.N = true
 | .p _, _, _ => rfl
 | .ro _, _, _ => rfl
 | .und, _, _ => rfl
 | .anyp, _, _ => rfl
 | .anye, _, _ => rfl
 | .agg xs, v, h => by simp only [VR] at h; obtain ⟨_, _, h⟩ := h; simp only [AV.blw]; exact VRs_blw xs _ h
 | .tup xs, v, h => by simp only [VR] at h; obtain ⟨_, _, h⟩ := h; simp only [AV.blw]; exact VRs_blw xs _ h
 | .fn f xs, v, h => by simp only [VR] at h; obtain ⟨_, _, h⟩ := h; simp only [AV.blw]; exact VRs_blw xs _ h
 | .ptr b o, v, h => by simp only [VR] at h; simpa [AV.blw] using h.1.1
 | .rp b g s k o, v, h => by simp only [VR] at h; simpa [AV.blw] using h.1.1
 | .sl b g s k o, v, h => by simp only [VR] at h; simpa [AV.blw] using h.1.1
 | .mp b, v, h => by simp only [VR] at h; simpa [AV.blw] using h.1.1
 | .yl b, v, h => by simp only [VR] at h; simpa [AV.blw] using h.1.1
theorem VRs_blw {g : G} {w : World} : ∀ (xs : List AV) (vs : List Value), VRs g w xs vs → belows g.N xs = true
 | [], _, _ => rfl
 | x :: xs, v :: vs, h => by simp only [VRs] at h; simp only [belows, VR_blw x v h.1, VRs_blw xs vs h.2, Bool.and_self]
 | _ :: _, [], h => by simp [VRs] at h
end
theorem MpR_blw {g : G} {w : World} : ∀ (i : Nat) (es : List (AV × AV)) (vs : List MapEntry), MpR g w i es vs → es.all (fun e => e.1.blw g.N && e.2.blw g.N) = true
 | _, [], _, _ => rfl
 | i, x :: es, v :: vs, h => by
  simp only [MpR] at h
  simp only [List.all_cons, VR_blw _ _ h.1.1, VR_blw _ _ h.1.2.1, MpR_blw (i + 1) es vs h.2, Bool.and_self]
 | _, _ :: _, [], h => by simp [MpR] at h
theorem belows_unflat {n : Nat} : ∀ (rows : List (List AV)), belows n rows.flatten = true → rows.all (belows n) = true
 | [], _ => rfl
 | r :: rs, h => by
  rw [List.flatten_cons, belows_app, aet] at h
  simp only [List.all_cons, h.1, belows_unflat rs h.2, Bool.and_self]
theorem BR_blw {g : G} {w : World} {b : Nat} {x : AB} (h : BR g w b x) : x.blw g.N = true := by
 cases x <;> simp only [BR] at h <;> simp only [AB.blw]
 ·obtain ⟨cs, fz, _, _, h⟩ := h
  exact VRs_blw _ _ h.1
 ·rename_i t size gen rows
  cases hd : g.hd b gen with
  | none => rw [hd] at h; simp only [RowR] at h; rw [h.2.2]; rfl
  | some p =>
   obtain ⟨c, cap⟩ := p
   rw [hd] at h
   simp only [RowR] at h
   obtain ⟨_, _, cs, fz, _, _, _, _, _, h⟩ := h
   exact belows_unflat _ (VRs_blw _ _ h.1)
 ·obtain ⟨rec, _, h⟩ := h
  exact VRs_blw _ _ h.f
 ·obtain ⟨arr, _, h⟩ := h
  exact MpR_blw _ _ _ h
def mv (n r b : Nat) : Nat := if b < n then b else r + (b - n)
theorem fill {g g1 : G} {h nb : List AB} {w w1 : World} {r : Nat} (hr : HR g h w) (hr1 : HR g1 (h ++ nb) w1) (he : Ext g w g1 w1) (hk : 0 < nb.length) (hh : holesAt h r nb.length = true) :
  ∃ g2, Ext g w g2 w1 ∧ HR g2 (putAt h r (nb.map (AB.ren (mv h.length r)))) w1 ∧ Tr g1 g2 (mv h.length r) ∧ g2.Pr = g1.Pr ∧ g2.S = g1.S := by
 have hle := holesAt_le hk hh
 have hhole := holesAt_get nb.length r hh
 have hn : g.N = h.length := hr.n
 have hn1 : g1.N = h.length + nb.length := by rw [hr1.n]; simp
 let t : Nat → Nat := fun b => if r ≤ b ∧ b < r + nb.length then h.length + (b - r) else b
 let g2 : G := { g1 with N := h.length, Ho := fun b => b < h.length ∧ g1.Ho (t b), m := fun b => g1.m (t b), gen := fun b => g1.gen (t b), hd := fun b => g1.hd (t b) }
 have t_in : ∀ b, r ≤ b → b < r + nb.length → t b = h.length + (b - r) := fun b h1 h2 => if_pos ⟨h1, h2⟩
 have t_out : ∀ b, ¬ (r ≤ b ∧ b < r + nb.length) → t b = b := fun b h1 => if_neg h1
 have holeD : ∀ b, r ≤ b → b < r + nb.length → ¬ g1.D b := by
  intro b h1 h2 hd
  refine hd.2 ((hr1.ho b).2 ?_)
  rw [gal (by omega)]
  exact hhole b h1 h2
 have t_mv : ∀ b, g1.D b → t (mv h.length r b) = b := by
  intro b hd
  have hb := hd.1
  unfold mv
  by_cases hb1 : b < h.length
  ·rw [if_pos hb1, t_out]
   intro hc
   exact holeD b hc.1 hc.2 hd
  ·rw [if_neg hb1, t_in _ (by omega) (by omega)]
   omega
 have hput : ∀ b x, (putAt h r (nb.map (AB.ren (mv h.length r))))[b]? = some x → b < h.length ∧ ∃ y, (h ++ nb)[t b]? = some y ∧ y.ren (mv h.length r) = x ∧ mv h.length r (t b) = b := by
  intro b x hx
  have hblt : b < h.length := by
   have := (gei.1 hx).1
   rwa [putAt_len] at this
  refine ⟨hblt, ?_⟩
  rw [putAt_get _ _ _ _ (by rw [lmp]; exact hle), lmp] at hx
  by_cases hc : r ≤ b ∧ b < r + nb.length
  ·rw [if_pos hc, gmp, mei] at hx
   obtain ⟨y, hy, rfl⟩ := hx
   refine ⟨y, ?_, rfl, ?_⟩
   ·rw [t_in b hc.1 hc.2, gar (by omega)]
    rw [show h.length + (b - r) - h.length = b - r from by omega]
    exact hy
   ·rw [t_in b hc.1 hc.2]
    unfold mv
    rw [if_neg (by omega)]
    omega
  ·rw [if_neg hc] at hx
   refine ⟨x, ?_, ?_, ?_⟩
   ·rw [t_out b hc, gal hblt]; exact hx
   ·refine AB.ren_id' (n := h.length) (fun c hc => by unfold mv; rw [if_pos hc]) x ?_
    have := BR_blw (hr.br b x hx)
    rwa [hn] at this
   ·rw [t_out b hc]
    unfold mv
    rw [if_pos hblt]
 have hT : Tr g1 g2 (mv h.length r) := by
  refine ⟨rfl, rfl, ?_, ?_, ?_, ?_⟩
  ·intro b hd
   refine ⟨?_, ?_⟩
   ·show mv h.length r b < h.length
    have := hd.1
    unfold mv
    split <;> omega
   ·intro hc
    have := hc.2
    rw [t_mv b hd] at this
    exact hd.2 this
  ·intro b hd; show g1.m (t _) = _; rw [t_mv b hd]
  ·intro b hd; show g1.gen (t _) = _; rw [t_mv b hd]
  ·intro b hd; show g1.hd (t _) = _; rw [t_mv b hd]
 have t_old : ∀ b, g.D b → t b = b := by
  intro b hd
  refine t_out b (fun hc => hd.2 ((hr.ho b).2 (hhole b hc.1 hc.2)))
 refine ⟨g2, ?_, ?_, hT, rfl, rfl⟩
 ·refine ⟨he.S, he.Pr, he.pr, by show g.N ≤ h.length; omega, ?_, ?_, ?_, ?_, he.size, he.os, he.tape, he.output, he.Sn, he.cr, he.drawn⟩
  ·intro b hd
   refine ⟨by show b < h.length; have := hd.1; omega, fun hc => ?_⟩
   have := hc.2
   rw [t_old b hd] at this
   exact (he.D b hd).2 this
  ·intro b hd; show g1.m (t b) = _; rw [t_old b hd]; exact he.m b hd
  ·intro b hd; show _ ≤ g1.gen (t b); rw [t_old b hd]; exact he.gen b hd
  ·intro b hd k hk; show g1.hd (t b) k = _; rw [t_old b hd]; exact he.hd b hd k hk
 ·refine ⟨by rw [putAt_len], ?_, ?_, ?_, hr1.spr, hr1.prs, ?_⟩
  ·intro b x hx
   obtain ⟨_, y, h1, rfl, h3⟩ := hput b x hx
   have := BR_ren hT (hr1.d h1) (hr1.br _ _ h1)
   rwa [h3] at this
  ·intro b b' x x' c hx hx' hc hc'
   obtain ⟨_, y, h1, rfl, h3⟩ := hput b x hx
   obtain ⟨_, y', h1', rfl, h3'⟩ := hput b' x' hx'
   have e := cid_ren hT (hr1.d h1)
   have e' := cid_ren hT (hr1.d h1')
   rw [h3] at e
   rw [h3'] at e'
   rw [e] at hc
   rw [e'] at hc'
   have := hr1.dis _ _ _ _ c h1 h1' hc hc'
   rw [← h3, ← h3', this]
  ·intro b x c hx hc
   obtain ⟨_, y, h1, rfl, h3⟩ := hput b x hx
   have e := cid_ren hT (hr1.d h1)
   rw [h3] at e
   rw [e] at hc
   exact hr1.own _ _ c h1 hc
  ·intro b
   constructor
   ·rintro ⟨h1, h2⟩
    have h2 := (hr1.ho _).1 h2
    cases hx : (putAt h r (nb.map (AB.ren (mv h.length r))))[b]? with
    | none =>
     rw [List.getElem?_eq_none_iff, putAt_len] at hx
     omega
    | some x =>
     obtain ⟨_, y, h3, rfl, h4⟩ := hput b x hx
     rw [h3] at h2
     simp only [oiq] at h2
     subst h2
     rfl
   ·intro hx
    obtain ⟨h1, y, h3, h4, _⟩ := hput b _ hx
    rw [ren_hole] at h4
    subst h4
    exact ⟨h1, (hr1.ho _).2 h3⟩
def pvOnly : List AV → Bool
 | [] => true
 | .p _ :: xs => pvOnly xs
 | _ => false
theorem pvOnly_blw {n : Nat} : ∀ (xs : List AV), pvOnly xs = true → belows n xs = true
 | [], _ => rfl
 | .p _ :: xs, h => by simp only [belows, AV.blw, Bool.true_and]; exact pvOnly_blw xs h
 | .agg _ :: _, h => by cases h
 | .tup _ :: _, h => by cases h
 | .ptr _ _ :: _, h => by cases h
 | .ro _ :: _, h => by cases h
 | .rp _ _ _ _ _ :: _, h => by cases h
 | .sl _ _ _ _ _ :: _, h => by cases h
 | .mp _ :: _, h => by cases h
 | .yl _ :: _, h => by cases h
 | .anyp :: _, h => by cases h
 | .anye :: _, h => by cases h
 | .fn _ _ :: _, h => by cases h
 | .und :: _, h => by cases h
def okO : Opd → Bool
 | .c (.p _) => true
 | .c (.agg xs) => pvOnly xs
 | .c (.fn _ []) => true
 | .c _ => false
 | _ => true
def Ins.opds2 : Ins → List Opd
 | .box _ x => [x]
 | .buildS _ _ _ _ ps => ps.map (·.2)
 | _ => []
section
variable {gl : Nat → Option (List PV)} {f : List AV} {n r : Nat}
theorem zeroN_ren : ∀ (zs : List ZC) (j : Nat), (zeroN zs (r + j)).1 = rens (mv n r) (zeroN zs (n + j)).1 ∧ (zeroN zs (r + j)).2 = (zeroN zs (n + j)).2.map (AB.ren (mv n r))
 | [], j => ⟨rfl, rfl⟩
 | .z x :: zs, j => by
  obtain ⟨h1, h2⟩ := zeroN_ren zs j
  simp only [zeroN, rens, AV.ren, h1, h2, and_self]
 | .r t size :: zs, j => by
  obtain ⟨h1, h2⟩ := zeroN_ren zs (j + 1)
  simp only [zeroN, rens, AV.ren, mcs, AB.ren, List.map_nil]
  rw [show r + j + 1 = r + (j + 1) from rfl, show n + j + 1 = n + (j + 1) from rfl, h1, h2]
  refine ⟨?_, rfl⟩
  congr 2
  unfold mv
  rw [if_neg (by omega)]
  omega
theorem zeroN_len : ∀ (zs : List ZC) (i j : Nat), (zeroN zs i).2.length = (zeroN zs j).2.length
 | [], _, _ => rfl
 | .z x :: zs, i, j => by simp only [zeroN]; exact zeroN_len zs i j
 | .r t size :: zs, i, j => by simp only [zeroN, lcn]; rw [zeroN_len zs (i + 1) (j + 1)]
theorem cellsOf_blw {x : AV} {cs : List AV} (h : cellsOf x = some cs) (hx : x.blw n = true) : belows n cs = true := by
 unfold cellsOf at h
 split at h
 ·split at h
  ·simp only [oiq] at h; subst h; simpa only [AV.blw] using hx
  ·cases h
 ·split at h
  ·simp only [oiq] at h; subst h; simp only [belows, hx, Bool.and_self]
  ·cases h
theorem fillR_blw {size : Nat} : ∀ (ps : List (Nat × Opd)) (cs rows : List (List AV)), (∀ p ∈ ps, (p.2.ev f gl).blw n = true) → cs.all (belows n) = true → fillR f gl size cs ps = some rows → rows.all (belows n) = true
 | [], cs, rows, _, hc, h => by simp only [fillR, oiq] at h; subst h; exact hc
 | (i, x) :: ps, cs, rows, hp, hc, h => by
  simp only [fillR] at h
  split at h
  ·rename_i us hu
   split at h
   ·refine fillR_blw ps _ rows (fun p hp' => hp p (by simp [hp'])) ?_ h
    rw [List.all_eq_true] at hc ⊢
    intro y hy
    rcases List.mem_or_eq_of_mem_set hy with h1 | rfl
    ·exact hc y h1
    ·exact cellsOf_blw hu (hp (i, x) (by simp))
   ·cases h
  ·cases h
theorem mv_n : mv n r n = r := by unfold mv; rw [if_neg (by omega)]; omega
theorem mv_lt : ∀ b, b < n → mv n r b = b := fun b hb => if_pos hb
theorem rowsOf_p {size : Nat} {y : AV} {news : List (List AV)} (h : rowsOf [] size y = some news) : news.all (belows n) = true ∧ ∀ h2, rowsOf h2 size y = some news := by
 unfold rowsOf at h ⊢
 split at h
 ·simp at h
 ·split at h
  ·rename_i hs
   simp only [oiq] at h
   subst h
   refine ⟨?_, fun _ => if_pos hs⟩
   rw [List.all_eq_true]
   intro x hx
   simp only [List.mem_map] at hx
   obtain ⟨r, _, rfl⟩ := hx
   exact belows_p r
  ·cases h
 ·simp only [oiq] at h; subst h; exact ⟨rfl, fun _ => rfl⟩
 ·simp only [oiq] at h; subst h; exact ⟨rfl, fun _ => rfl⟩
 ·split at h
  ·rename_i hs
   simp only [oiq] at h
   subst h
   refine ⟨?_, fun _ => if_pos hs⟩
   rw [List.all_eq_true]
   intro x hx
   simp only [List.mem_map] at hx
   obtain ⟨r, _, rfl⟩ := hx
   rfl
  ·cases h
 ·cases h
theorem evA_ren {i : Ins} {v : AV} {nb : List AB} (hop : ∀ x ∈ i.opds2, (x.ev f gl).blw n = true) (h : evA gl f r i = some (v, nb)) :
  ∃ v1 nb1, evA gl f n i = some (v1, nb1) ∧ v1.ren (mv n r) = v ∧ nb1.map (AB.ren (mv n r)) = nb := by
 cases i <;> simp only [evA] at h ⊢ <;> try (cases h; done)
 case nilrow t size =>
  simp only [oiq, piq] at h
  obtain ⟨rfl, rfl⟩ := h
  exact ⟨_, _, rfl, by simp only [AV.ren, mv_n], rfl⟩
 case alloc t zs =>
  simp only [oiq, piq] at h
  obtain ⟨rfl, rfl⟩ := h
  obtain ⟨h1, h2⟩ := zeroN_ren (n := n) (r := r) zs 0
  rw [Nat.add_zero, Nat.add_zero] at h1 h2
  refine ⟨_, _, rfl, ?_, ?_⟩
  ·simp only [AV.ren]
   congr 1
   unfold mv
   rw [if_neg (by omega), zeroN_len zs n r]
   omega
  ·simp only [List.map_append, mcs, List.map_nil, AB.ren, h1, h2]
 case box t x =>
  simp only [mei, piq] at h
  obtain ⟨cs, hc, rfl, rfl⟩ := h
  refine ⟨_, _, by simp only [hc, msm]; rfl, by simp only [AV.ren, mv_n], ?_⟩
  simp only [mcs, List.map_nil, AB.ren]
  rw [rens_id mv_lt cs (cellsOf_blw hc (hop x (by simp [Ins.opds2])))]
 case buildS t size zero len ps =>
  simp only [mei, piq] at h
  obtain ⟨rows, hc, rfl, rfl⟩ := h
  refine ⟨_, _, by simp only [hc, msm]; rfl, by simp only [AV.ren, mv_n], ?_⟩
  simp only [mcs, List.map_nil, AB.ren]
  rw [rows_id mv_lt rows (fillR_blw ps _ rows (fun p hp => hop _ (by simp only [Ins.opds2, List.mem_map]; exact ⟨p, hp, rfl⟩)) (by
   rw [List.all_eq_true]
   intro y hy
   rw [List.eq_of_mem_replicate hy]
   exact belows_p zero) hc)]
 case mkB t x =>
  split at h
  ·rename_i s hs
   split at h
   ·rename_i hl
    simp only [oiq, piq] at h
    obtain ⟨rfl, rfl⟩ := h
    refine ⟨_, _, by simp only [if_pos hl]; rfl, by simp only [AV.ren, mv_n], ?_⟩
    simp only [mcs, List.map_nil, AB.ren, List.map_map]
    rfl
   ·cases h
  ·cases h
 case appN t size bytes x y =>
  split at h
  ·unfold apN at h ⊢
   simp only [bei] at h
   obtain ⟨news, h1, h⟩ := h
   split at h
   ·rename_i hl
    simp only [oiq, piq] at h
    obtain ⟨rfl, rfl⟩ := h
    refine ⟨_, _, by simp only [h1, bsm, if_pos hl]; rfl, by simp only [AV.ren, mv_n], ?_⟩
    simp only [mcs, List.map_nil, AB.ren]
    rw [rows_id mv_lt _ (rowsOf_p h1).1]
   ·cases h
  ·cases h
 case mkNZ t x =>
  split at h
  ·rename_i n hs
   split at h
   ·rename_i hl
    simp only [oiq, piq] at h
    obtain ⟨rfl, rfl⟩ := h
    refine ⟨_, _, by simp only [if_pos hl]; rfl, by simp only [AV.ren, mv_n], ?_⟩
    rfl
   ·cases h
  ·cases h
 case makeS t size bytes zero len cap =>
  simp only [bei] at h
  obtain ⟨l, hl, c, hc, h⟩ := h
  split at h
  ·rename_i hh
   simp only [oiq, piq] at h
   obtain ⟨rfl, rfl⟩ := h
   refine ⟨_, _, by simp only [hl, hc, bsm, if_pos hh]; rfl, by simp only [AV.ren, mv_n], ?_⟩
   simp only [mcs, List.map_nil, AB.ren]
   rw [rows_id mv_lt _ (by
    rw [List.all_eq_true]
    intro y hy
    rw [List.eq_of_mem_replicate hy]
    exact belows_p zero)]
  ·cases h
 case mkMap =>
  simp only [oiq, piq] at h
  obtain ⟨rfl, rfl⟩ := h
  exact ⟨_, _, rfl, by simp only [AV.ren, mv_n], rfl⟩
end
section
variable {p q : Nat → Nat}
mutual
theorem ren_ren : ∀ (x : AV), (x.ren p).ren q = x.ren (fun b => q (p b))
 | .p _ => rfl
 | .ro _ => rfl
 | .und => rfl
 | .anyp => rfl
 | .anye => rfl
 | .agg xs => by simp only [AV.ren, rens_rens xs]
 | .tup xs => by simp only [AV.ren, rens_rens xs]
 | .fn f xs => by simp only [AV.ren, rens_rens xs]
 | .ptr b o => rfl
 | .rp b g s k o => rfl
 | .sl b g s k o => rfl
 | .mp b => rfl
 | .yl b => rfl
theorem rens_rens : ∀ (xs : List AV), rens q (rens p xs) = rens (fun b => q (p b)) xs
 | [] => rfl
 | x :: xs => by simp only [rens, ren_ren x, rens_rens xs]
end
theorem AB.ren_ren (x : AB) : (x.ren p).ren q = x.ren (fun b => q (p b)) := by
 cases x <;> simp only [AB.ren, rens_rens, List.map_map, Function.comp_def, Go.Vs.ren_ren]
end
section
variable {E : Env} {f : List AV} {n r : Nat}
theorem evX_ren {i : Ins} {v : AV} {nb : List AB} (h : evX E f r i = some (v, nb)) :
  ∃ v1 nb1, evX E f n i = some (v1, nb1) ∧ v1.ren (mv n r) = v ∧ nb1.map (AB.ren (mv n r)) = nb := by
 have hq : (fun b => mv n r (b + n)) = (· + r) := by funext b; unfold mv; rw [if_neg (by omega)]; omega
 unfold evX at h ⊢
 split at h
 ·split at h
  ·simp only [mei, piq] at h
   obtain ⟨p, hp, rfl, rfl⟩ := h
   refine ⟨_, _, by simp only [hp, msm]; rfl, ?_, ?_⟩
   ·rw [ren_ren, hq]
   ·rw [List.map_map]; congr 1; funext x; rw [Function.comp, AB.ren_ren, hq]
  ·cases h
 ·cases h
theorem evM_ren {i : Ins} {v : AV} {nb : List AB} (hop : ∀ x ∈ i.opds2, (x.ev f E.gl).blw n = true) (h : evM E f r i = some (v, nb)) :
  ∃ v1 nb1, evM E f n i = some (v1, nb1) ∧ v1.ren (mv n r) = v ∧ nb1.map (AB.ren (mv n r)) = nb := by
 unfold evM at h ⊢
 split at h
 ·split at h
  ·rename_i hx
   simp only [hx, if_true]
   unfold apN at h ⊢
   simp only [bei] at h
   obtain ⟨news, h1, h⟩ := h
   split at h
   ·rename_i hl
    simp only [oiq, piq] at h
    obtain ⟨rfl, rfl⟩ := h
    refine ⟨_, _, by simp only [h1, bsm, if_pos hl]; rfl, by simp only [AV.ren, mv_n], ?_⟩
    simp only [mcs, List.map_nil, AB.ren]
    rw [rows_id mv_lt _ (rowsOf_p h1).1]
   ·cases h
  ·cases h
 ·split at h
  ·rename_i h5
   simp only [h5, if_true]
   exact evX_ren h
  ·rename_i h5
   simp only [h5, if_false]
   exact evA_ren hop h
theorem stepI_evM {i : Ins} {h : List AB} (hc : i.mks = true) {p : AV × List AB} (hp : evM E f h.length i = some p) : stepI E i ⟨f, h⟩ = some (p.1, h ++ p.2) := by
 unfold evM at hp
 split at hp
 ·rename_i t size bytes z x y
  split at hp
  ·rename_i hx
   unfold isNil at hx
   split at hx
   ·unfold apN at hp
    simp only [bei] at hp
    obtain ⟨news, h1, hp⟩ := hp
    split at hp
    ·rename_i hl
     simp only [oiq] at hp
     subst hp
     rw [stepI_ev ⟨by intros; simp, by intros; simp⟩]
     have h2 := (rowsOf_p (n := 0) h1).2 h
     show (rowsOf h size (y.ev f E.gl)).bind (fun news => appendA h t size bytes (.p (.val (.slice none 0 0))) news) = _
     rw [h2]
     simp only [bsm, appendA, if_pos hl]
    ·cases hp
   ·cases hx
  ·cases hp
 ·rename_i hna
  split at hp
  ·rename_i h5
   cases i <;> simp only [Ins.cls] at h5 <;> try (exfalso; revert h5; decide)
   case call sh a b => cases sh <;> simp at h5
   case callX => show Option.map _ (evX E f h.length _) = _; rw [hp]; rfl
  ·rename_i h5
   have hc2 : i.cls = 2 := by
    cases i <;> first | exact absurd rfl (hna _ _ _ _ _ _) | skip
    all_goals (simp only [Ins.mks, Bool.or_eq_true, beq_iff_eq] at hc h5; exact hc.resolve_right h5)
   have hn : (∀ sh fo as, i ≠ .call sh fo as) ∧ ∀ k fo as, i ≠ .callX k fo as := ⟨by intro sh fo as e; rw [e] at hc2; cases sh <;> simp [Ins.cls] at hc2, by intro k fo as e; rw [e] at hc2; simp [Ins.cls] at hc2⟩
   rw [stepI_ev hn]
   show evI E.gl f h i = _
   rw [evI_evA hc2, hp]
   rfl
theorem evA_pos {i : Ins} {v1 : AV} {nb1 : List AB} (k1 : evA E.gl f r i = some (v1, nb1)) : 0 < nb1.length := by
 cases i <;> simp only [evA] at k1 <;> try (cases k1; done)
 case nilrow => simp only [oiq, piq] at k1; rw [← k1.2]; simp
 case alloc t zs => simp only [oiq, piq] at k1; rw [← k1.2]; simp
 case box => simp only [mei, piq] at k1; obtain ⟨_, _, _, e⟩ := k1; rw [← e]; simp
 case buildS => simp only [mei, piq] at k1; obtain ⟨_, _, _, e⟩ := k1; rw [← e]; simp
 case mkB =>
  split at k1
  ·split at k1
   ·simp only [oiq, piq] at k1; rw [← k1.2]; simp
   ·cases k1
  ·cases k1
 case appN =>
  split at k1
  ·have := apN_len k1; simp only at this; omega
  ·cases k1
 case mkNZ =>
  split at k1
  ·split at k1
   ·simp only [oiq, piq] at k1; rw [← k1.2]; simp
   ·cases k1
  ·cases k1
 case makeS =>
  simp only [bei] at k1
  obtain ⟨_, _, _, _, k1⟩ := k1
  split at k1
  ·simp only [oiq, piq] at k1; rw [← k1.2]; simp
  ·cases k1
 case mkMap => simp only [oiq, piq] at k1; rw [← k1.2]; simp
theorem evM_pos {i : Ins} {v1 : AV} {nb1 : List AB} (k1 : evM E f r i = some (v1, nb1)) : 0 < nb1.length := by
 unfold evM at k1
 split at k1
 ·split at k1
  ·have := apN_len k1; simp only at this; omega
  ·cases k1
 split at k1
 ·exact Nat.pos_of_ne_zero (evX_len k1)
 ·exact evA_pos k1
end
section
variable {rd : Option Nat} {en : Nat} {P : Program} {C : IC → Code → Prop} {E : Env} {s s' : St} {g g' : G} {a : Act} {w w' : World}
theorem okO_blw (hs : SR P C E.gl en s g a w) {x : Opd} (hx : okO x = true) : (x.ev s.f E.gl).blw g.N = true := by
 cases x with
 | t n => exact VR_blw _ _ (getT_rel hs n)
 | c v =>
  unfold okO at hx
  split at hx
  ·rename_i e; cases e; rfl
  ·rename_i e; cases e; exact pvOnly_blw _ hx
  ·rename_i e; cases e; rfl
  ·cases hx
  ·rename_i h1 h2 h3 h4; exact absurd rfl (h4 _)
 | g n => simp only [Opd.ev]; split <;> rfl
theorem fill_SR (hs : SR P C E.gl en s g a w) {d : Option Nat} {nb1 : List AB} {v1 : AV} {g1 : G} {r : Nat} {a' : Act} (he1 : Ext g w g1 w') (hs1 : SR P C E.gl en ⟨putA s.f d v1, s.h ++ nb1⟩ g1 a' w') (hne : 0 < nb1.length) (hh : holesAt s.h r nb1.length = true) :
  ∃ g2, Ext g w g2 w' ∧ SR P C E.gl en ⟨putA s.f d (v1.ren (mv s.h.length r)), putAt s.h r (nb1.map (AB.ren (mv s.h.length r)))⟩ g2 a' w' := by
 obtain ⟨g2, e2, r2, t2, p2, s2⟩ := fill (r := r) hs.c.hr hs1.c.hr he1 hne hh
 refine ⟨g2, e2, ⟨⟨?_, r2, ?_⟩, ?_, hs1.nd, hs1.sz, by rw [t2.cr]; exact hs1.cr⟩⟩
 ·intro k xs hx
  rw [s2]
  exact hs1.c.gr k xs hx
 ·have := VRs_ren t2 _ _ hs1.c.fr
  have e : rens (mv s.h.length r) (putA s.f d v1) = putA s.f d (v1.ren (mv s.h.length r)) := by
   have hf := VRs_blw _ _ hs.c.fr
   rw [hs.c.hr.n] at hf
   have hset : ∀ (q : Nat → Nat) (xs : List AV) (d : Nat) (x : AV), rens q (xs.set d x) = (rens q xs).set d (x.ren q) := by
    intro q xs
    induction xs with
    | nil => intro d x; rfl
    | cons y ys ih =>
     intro d x
     cases d with
     | zero => rfl
     | succ d => simp only [List.set_cons_succ, rens, ih]
   cases d with
   | none => exact rens_id mv_lt _ hf
   | some d => simp only [putA, hset, rens_id mv_lt _ hf]
  rw [e] at this
  exact this
 ·intro d hd
  obtain ⟨D, q1, q0, q2, q3, q4⟩ := hs1.d d hd
  exact ⟨D, q1, q0, by rw [p2]; exact q2, by rw [s2]; exact q3, q4⟩
theorem putAt_zero {h nb : List AB} (hl : nb.length ≤ h.length) : putAt h 0 nb = nb ++ h.drop nb.length := by
 apply List.ext_getElem?
 intro b
 rw [putAt_get _ _ _ _ (by omega), List.getElem?_append]
 split
 ·rename_i hb
  rw [if_pos (by omega), Nat.sub_zero]
 ·rename_i hb
  rw [if_neg (by omega), List.getElem?_drop, show nb.length + (b - nb.length) = b by omega]
theorem frA_sound (hE : Sound P C E) (hs : SR P C E.gl en s g a w) {fn z r k : Nat} {args : List AV} {q : AV × List AB} {v : AV} {h' : List AB} (hq : E.callS fn args (s.h.take (topB args)) = some q) (ha : frA z r k (topB args) args s.h q = some (v, h'))
  {o : Oper} {c : Call} {fo : Operand} {caps : List AV} (ho : o.op = .call c) (hc : c.callee = .value fo) (hf : (opd fo).ev s.f E.gl = .fn fn caps) (has : args = c.args.toList.map (fun x => (opd x).ev s.f E.gl) ++ caps)
  {K : Act → World → Prop} {Q : Exit → Act → World → Prop} (hK : ∀ a' w' g', Ext g w g' w' → SR P C E.gl en ⟨putA s.f o.dst v, h'⟩ g' a' w' → K a' w') : o.wpIn (FW rd) 0 P a w K Q := by
 have hS := hE.s _ _ _ _ _ hq
 unfold frA at ha
 split at ha
 ·split at ha
  ·rename_i hk
   simp only [oiq, piq] at ha
   obtain ⟨rfl, rfl⟩ := ha
   simp only [aet] at hk
   have hcall := callR_frame (v := q.1) (h1 := q.2) hk.2.1 hS
   rw [← sameB_eq _ _ hk.2.2, List.take_append_drop] at hcall
   rw [has] at hcall
   exact call_step hs ho hc hf hcall (fun x w' g' h1 h2 h3 => hK _ _ g' h1 (hs.put h1 h2 h3 o.dst))
  ·cases ha
 ·split at ha
  ·rename_i b ge s' l hv
   split at ha
   ·rename_i t s2 g' rows hb
    split at ha
    ·rename_i hk
     simp only [oiq, piq] at ha
     obtain ⟨rfl, rfl⟩ := ha
     simp only [aet] at hk
     obtain ⟨_, hh, hmb, hg, hsame, hrows⟩ := hk
     unfold okG at hg
     simp only [aet] at hg
     obtain ⟨k0, ka, kh, k1⟩ := hg
     have k0 := lbt k0
     have e := sameB_eq _ _ hsame
     obtain ⟨v0, h1⟩ := q
     simp only at hv hb hsame e k1
     subst hv
     have hcall := callR_row k0 ka kh (lbt k1) (by rw [← e]; exact kh) (lbt hmb) hb hrows hS
     rw [← e, List.take_append_drop] at hcall
     have hid : ∀ b, b < topB args → mv s.h.length r b = b := fun b hb => mv_lt b (by omega)
     have em : [AB.row t s2 g' rows].map (AB.ren (mv s.h.length r)) = [AB.row t s2 g' rows] := by
      simp only [mcs, List.map_nil, AB.ren]
      rw [rows_id hid rows hrows]
     rw [has] at hcall
     refine call_step hs ho hc hf hcall (fun x w' g1 h1 h2 h3 => ?_)
     obtain ⟨g2, e2, s2⟩ := fill_SR (r := r) hs h1 (hs.put h1 h2 h3 o.dst) (by simp) hh
     refine hK _ _ g2 e2 ?_
     have er : (AV.sl s.h.length ge s' 0 l).ren (mv s.h.length r) = .sl r ge s' 0 l := by
      simp only [AV.ren, mv]
      congr 1
      first | (rw [if_neg (by omega)]; omega) | (rw [if_pos (by omega)]; omega) | simp
     rw [er, em] at s2
     exact s2
    ·cases ha
   ·cases ha
  ·cases ha
 ·split at ha
  ·rename_i hk
   simp only [oiq, piq] at ha
   obtain ⟨rfl, rfl⟩ := ha
   simp only [aet, beq_iff_eq] at hk
   rw [hk.2.1, List.take_zero] at hS
   have hcall := callR_import (h := s.h) hk.2.2 hS
   rw [has] at hcall
   exact call_step hs ho hc hf hcall (fun x w' g' h1 h2 h3 => hK _ _ g' h1 (hs.put h1 h2 h3 o.dst))
  ·cases ha
 ·split at ha
  ·rename_i hk
   simp only [oiq, piq] at ha
   obtain ⟨rfl, rfl⟩ := ha
   simp only [aet, beq_iff_eq] at hk
   rw [hk.2.2.1, List.take_zero] at hS
   have hcall := callR_import (h := s.h) hk.2.2.2 hS
   rw [has] at hcall
   exact call_step hs ho hc hf hcall (fun x w' g' h1 h2 h3 => hK _ _ g' h1 (hs.put h1 h2 h3 o.dst))
  ·cases ha
 ·split at ha
  ·rename_i hk
   simp only [oiq, piq] at ha
   obtain ⟨rfl, rfl⟩ := ha
   simp only [aet] at hk
   obtain ⟨l1, l2⟩ := okF_len hk.2
   have hcall := callR_frame (v := q.1) (h1 := q.2) hk.2 hS
   rw [putAt_zero (by omega), l2] at hK
   rw [has] at hcall
   rw [has] at hK
   exact call_step hs ho hc hf hcall (fun x w' g' h1 h2 h3 => hK _ _ g' h1 (hs.put h1 h2 h3 o.dst))
  ·cases ha
theorem stepR_sound (hE : Sound P C E) (hs : SR P C E.gl en s g a w) {shf : Operand → Bool} {ops : Array Oper} {i : Nat} {o : Oper} {ro : ROp} {base : Nat} (ho : ops[i]? = some o) (hc : compOper P shf ops o = some ro.op) (h2 : ro.op.ins.opds2.all okO = true) (he : stepR E base ro s = some s')
  {K : Act → World → Prop} {Q : Exit → Act → World → Prop} (hK : ∀ a' w' g', Ext g w g' w' → SR P C E.gl en s' g' a' w' → K a' w') : wpOpIn (FW rd) 0 P ops Q i K a w := by
 by_cases hz : wantedA s.f ro.op.guard = some true ∧ ro.fz = true
 ·obtain ⟨hw, hz⟩ := hz
  simp only [stepR, actR, hw, hz, if_true, mei] at he
  obtain ⟨⟨v, h'⟩, he, rfl⟩ := he
  unfold compOper at hc
  split at hc
  ·rename_i ins gd hins hgd
   simp only [oiq] at hc
   unfold actF at he
   split at he
   ·rename_i fo args hi
    have hi : ins = .call true fo args := by rw [← hi, ← hc]
    rw [hi] at hins
    obtain ⟨c, f', hop, hcal, rfl, rfl⟩ := compOp_call hins
    split at he
    ·rename_i fn caps hfn
     simp only [bei] at he
     obtain ⟨q, hq, he⟩ := he
     unfold wpOpIn
     rw [ho]
     simp only
     rw [← hc] at hw hK
     rw [wanted_rel hs hgd hw]
     simp only [if_true]
     exact frA_sound hE hs hq he hop hcal hfn (by rw [List.map_map]; rfl) hK
    ·cases he
   ·cases he
  ·cases hc
 by_cases hcl : wantedA s.f ro.op.guard = some true ∧ ro.op.ins.mks = true
 ·obtain ⟨hw, hcl⟩ := hcl
  have hz : ro.fz = false := by
   cases hx : ro.fz with
   | false => rfl
   | true => exact absurd ⟨hw, hx⟩ hz
  simp only [stepR, actR, hw, hz, hcl, fet, if_false, if_true, mei, bei] at he
  obtain ⟨⟨v, h'⟩, ⟨p, hp, he⟩, rfl⟩ := he
  split at he
  ·rename_i hh
   simp only [aet] at hh
   simp only [oiq, piq] at he
   obtain ⟨rfl, rfl⟩ := he
   obtain ⟨v, nb⟩ := p
   have hlen := Nat.eq_of_beq_eq_true hh.1
   simp only at hlen
   obtain ⟨v1, nb1, k1, rfl, rfl⟩ := evM_ren (n := s.h.length) (fun x hx => by have := okO_blw hs (List.all_eq_true.1 h2 x hx); rwa [hs.c.hr.n] at this) hp
   rw [lmp] at hlen
   have hst : stepO E ro.op s = some ⟨putA s.f ro.op.dst v1, s.h ++ nb1⟩ := by
    have e : stepI E ro.op.ins s = _ := stepI_evM (f := s.f) (h := s.h) hcl k1
    simp only [stepO, hw, e, msm]
   refine stepO_sound hE hs ho hc hst (fun a' w' g1 he1 hs1 => ?_)
   obtain ⟨g2, e2, s2⟩ := fill_SR (r := base + ro.off) hs he1 hs1 (evM_pos k1) (by rw [hlen]; exact hh.2)
   exact hK a' w' g2 e2 s2
  ·cases he
 ·have hst : stepO E ro.op s = some s' := by
   rw [← he]
   simp only [stepO, stepR, actR]
   cases hw : wantedA s.f ro.op.guard with
   | none => rfl
   | some b =>
    cases b with
    | false => rfl
    | true =>
     have hb : ro.op.ins.mks = false := by
      cases hx : ro.op.ins.mks with
      | false => rfl
      | true => exact absurd ⟨hw, hx⟩ hcl
     have hz : ro.fz = false := by
      cases hx : ro.fz with
      | false => rfl
      | true => exact absurd ⟨hw, hx⟩ hz
     simp only [hb, hz, fet, if_false]
  exact stepO_sound hE hs ho hc hst hK
theorem reserve (hs : SR P C E.gl en s g a w) (K : Nat) : ∃ g', Ext g w g' w ∧ SR P C E.gl en ⟨s.f, s.h ++ List.replicate K .hole⟩ g' a w := by
 have hr := hs.c.hr
 let g2 : G := { g with N := g.N + K, Ho := fun b => g.Ho b ∨ (g.N ≤ b ∧ b < g.N + K) }
 have he : Ext g w g2 w := by
  refine ⟨fun _ h => h, fun _ h => h, fun _ _ => rfl, Nat.le_add_right _ _, ?_, fun _ _ => rfl, fun _ _ => Nat.le_refl _, fun _ _ _ _ => rfl, Nat.le_refl _, rfl, rfl, rfl, fun _ h => .inl h, rfl, by first | assumption | exact fun _ => (by first | assumption | exact Nat.le_refl _ | exact Nat.le_succ _)⟩
  intro b hd
  refine ⟨by have := hd.1; show b < g.N + K; omega, fun hc => hc.elim hd.2 (fun hc => ?_)⟩
  have := hd.1
  omega
 have hget : ∀ b x, (s.h ++ List.replicate K AB.hole)[b]? = some x → s.h[b]? = some x ∨ (g.N ≤ b ∧ b < g.N + K ∧ x = .hole) := by
  intro b x hx
  rw [List.getElem?_append] at hx
  split at hx
  ·exact .inl hx
  ·rename_i hl
   rw [List.getElem?_replicate] at hx
   split at hx
   ·rename_i hk
    simp only [oiq] at hx
    rw [hr.n]
    exact .inr ⟨by omega, by omega, hx.symm⟩
   ·cases hx
 refine ⟨g2, he, ⟨⟨GR_mono he hr.spr hs.c.gr, ?_, VRs_mono he hr.spr _ _ hs.c.fr⟩, fun d hd => (hs.d d hd).ext he hr.prs, hs.nd, hs.sz, hs.cr⟩⟩
 refine ⟨by show g.N + K = _; rw [lap, List.length_replicate, hr.n], ?_, ?_, ?_, hr.spr, hr.prs, ?_⟩
 ·intro b x hx
  rcases hget b x hx with h1 | ⟨_, _, rfl⟩
  ·exact BR_mono hr he h1 rfl (fun _ _ => rfl)
  ·simp only [BR]
 ·intro b b' x x' c hx hx' hc hc'
  rcases hget b x hx with h1 | ⟨_, _, rfl⟩
  ·rcases hget b' x' hx' with h1' | ⟨_, _, rfl⟩
   ·exact hr.dis b b' x x' c h1 h1' hc hc'
   ·simp [cid] at hc'
  ·simp [cid] at hc
 ·intro b x c hx hc
  rcases hget b x hx with h1 | ⟨_, _, rfl⟩
  ·exact hr.own b x c h1 hc
  ·simp [cid] at hc
 ·intro b
  constructor
  ·rintro (h1 | ⟨h1, h2⟩)
   ·have := (hr.ho b).1 h1
    rw [gal (gei.1 this).1]
    exact this
   ·rw [hr.n] at h1 h2
    rw [gar h1, List.getElem?_replicate, if_pos (by omega)]
  ·intro hx
   rcases hget b _ hx with h1 | ⟨h1, h2, _⟩
   ·exact .inl ((hr.ho b).2 h1)
   ·exact .inr ⟨h1, h2⟩
end
def trOf (gl : Nat → Option (List PV)) (base : Nat) (o : ROp) (f : List AV) : TR := ⟨o, fpO gl base o f, rfO gl f o⟩
def okNd (acc : List TR) (nd : List Nat) (t : TR) : Bool := nd.all fun j => match acc[j]? with | some x => okPr x t | none => false
def runR (E : Env) (base : Nat) : List ROp → List TR → St → Option St
 | [], _, s => some s
 | o :: os, acc, s => if okNd acc o.nd (trOf E.gl base o s.f) then (stepR E base o s).bind (runR E base os (acc ++ [trOf E.gl base o s.f])) else none
def nBlk : Ins → Nat
 | .alloc _ zs => (zs.filter fun z => match z with | .r _ _ => true | .z _ => false).length + 1
 | .callX k _ _ => k + 1
 | .append _ _ _ _ x _ => if isNil x then 1 else 0
 | i => if i.cls == 2 then 1 else 0
def zAt (shf : Operand → Bool) (n : Nat) : Nat := if !shf (.tmp (5000000 + n)) then 1 else if !shf (.tmp (6000000 + n)) then 2 else if !shf (.tmp (7000000 + n)) then 3 else if !shf (.tmp (15000000 + n)) then 4 else if !shf (.tmp (16000000 + n)) then 6 else 0
def zOf (shf : Operand → Bool) (i : IOp) : Nat := match i.ins with
 | .call true (.t n) _ => zAt shf n
 | .call true (.c (.fn k _)) _ => zAt shf (100000 + k)
 | _ => 0
def mkR (zf : IOp → Nat) (pre : List IOp) (off : Nat) : List IOp → List Nat → List ROp
 | [], _ => []
 | i :: is, as => ⟨i, off, if zf i == 2 then 1 else nBlk i.ins, (List.range pre.length).filter fun j => !(as.headD 0).testBit j && !(i.ins.cls == 0) && !(match pre[j]? with | some x => x.ins.cls == 0 | none => false), zf i⟩ ::
  mkR zf (pre ++ [i]) (off + if zf i == 2 then 1 else nBlk i.ins) is as.tail
def sumR (l : List ROp) : Nat := l.foldl (fun n o => n + o.k) 0
def statAt (pre : List ROp) (anc : Nat) (y : ROp) : Nat → Bool
 | 0 => true
 | j + 1 => (anc.testBit j || (match pre[j]? with | some x => indepS x.op y.op && (y.nd.contains j || x.op.ins.cls == 0 || y.op.ins.cls == 0) | none => false)) && statAt pre anc y j
def statR (pre : List ROp) : List ROp → List Nat → Bool
 | [], _ => true
 | y :: ys, a :: as => y.op.ins.opds2.all okO && statAt pre a y pre.length && statR (pre ++ [y]) ys as
 | _ :: _, [] => false
def okR (ops : Array Oper) (l : List ROp) : Bool := allBack 0 ops.toList && statR [] l (ancs ops.toList [])
theorem statAt_spec {pre : List ROp} {anc : Nat} {y : ROp} : ∀ (n : Nat), statAt pre anc y n = true → ∀ j, j < n → ∀ x, pre[j]? = some x → anc.testBit j = true ∨ (indepS x.op y.op = true ∧ (j ∈ y.nd ∨ x.op.ins.cls = 0 ∨ y.op.ins.cls = 0))
 | 0, _, j, hj, _, _ => by omega
 | n + 1, h, j, hj, x, hx => by
  simp only [statAt, aet, Bool.or_eq_true] at h
  by_cases hjn : j = n
  ·subst hjn
   rw [hx] at h
   rcases h.1 with h1 | h1
   ·exact .inl h1
   ·simp only [aet, Bool.or_eq_true, List.contains_eq_mem, decide_eq_true_eq, beq_iff_eq] at h1
    exact .inr ⟨h1.1, h1.2.elim (fun h => h.elim .inl (fun h => .inr (.inl h))) (fun h => .inr (.inr h))⟩
  ·exact statAt_spec n h.2 j (by omega) x hx
theorem statR_spec : ∀ (ys pre : List ROp) (as : List Nat), statR pre ys as = true → ∀ k y a, ys[k]? = some y → as[k]? = some a →
  y.op.ins.opds2.all okO = true ∧ ∀ j x, j < pre.length + k → (pre ++ ys)[j]? = some x → a.testBit j = true ∨ (indepS x.op y.op = true ∧ (j ∈ y.nd ∨ x.op.ins.cls = 0 ∨ y.op.ins.cls = 0))
 | [], _, _, _, k, y, a, hy, _ => by simp at hy
 | z :: zs, pre, b :: bs, h, k, y, a, hy, ha => by
  simp only [statR, aet] at h
  cases k with
  | zero =>
   simp at hy ha
   subst hy; subst ha
   refine ⟨h.1.1, fun j x hj hx => ?_⟩
   exact statAt_spec pre.length h.1.2 j (by simpa using hj) x (by rwa [gal (by omega)] at hx)
  | succ k =>
   obtain ⟨k1, k2⟩ := statR_spec zs (pre ++ [z]) bs h.2 k y a (by simpa using hy) (by simpa using ha)
   refine ⟨k1, fun j x hj hx => k2 j x (by simp; omega) (by simpa using hx)⟩
 | z :: zs, pre, [], h, _, _, _, _, _ => by simp [statR] at h
theorem runR_spec {E : Env} {base : Nat} : ∀ (os : List ROp) (acc : List TR) (s s' : St), runR E base os acc s = some s' →
  ∃ ts : List TR, ts.map (·.o) = os ∧ RunF E base ts s s' ∧ ∀ (k : Nat) (t : TR), ts[k]? = some t → okNd (acc ++ ts) t.o.nd t = true
 | [], acc, s, s', h => by
  simp only [runR, oiq] at h
  exact ⟨[], rfl, h, by simp⟩
 | o :: os, acc, s, s', h => by
  simp only [runR] at h
  split at h
  ·rename_i hok
   simp only [bei] at h
   obtain ⟨s1, h1, h2⟩ := h
   obtain ⟨ts, k1, k2, k3⟩ := runR_spec os _ s1 s' h2
   refine ⟨trOf E.gl base o s.f :: ts, by simp [k1, trOf], ⟨⟨rfl, rfl⟩, s1, h1, k2⟩, ?_⟩
   intro k t ht
   cases k with
   | zero =>
    simp at ht
    subst ht
    unfold okNd at hok ⊢
    rw [List.all_eq_true] at hok ⊢
    intro j hj
    have := hok j hj
    cases hx : acc[j]? with
    | none => rw [hx] at this; cases this
    | some x =>
     rw [hx] at this
     rw [gal (gei.1 hx).1, hx]
     exact this
   | succ k =>
    have := k3 k t (by simpa using ht)
    rwa [List.append_assoc, List.singleton_append] at this
  ·cases h
section
variable {rd : Option Nat} {en : Nat} {P : Program} {C : IC → Code → Prop} {E : Env} {shf : Operand → Bool} {ops : Array Oper} {Q : Exit → Act → World → Prop}
theorem any_soundR (hE : Sound P C E) {l : List ROp} (hc : compOps P shf ops ops.toList = some (l.map (·.op))) (hok : okR ops l = true) {base : Nat} {ts : List TR} (hts : ts.map (·.o) = l) (hnd : ∀ (k : Nat) (t : TR), ts[k]? = some t → okNd ts t.o.nd t = true) {s' : St} :
  ∀ (fuel : Nat) (listed : Array Bool) (s : St) (g : G) (a : Act) (w : World), listed.size = ops.size → (remI listed ops.size).length ≤ fuel →
   (∀ k o, ops[k]? = some o → listed.getD k false = true → ∀ e ∈ o.after.toList, Region.binds .any e = true → listed.getD e.on false = true) →
   RunF E base ((remI listed ops.size).filterMap (ts[·]?)) s s' → SR P C E.gl en s g a w → (∀ a' w' g', Ext g w g' w' → SR P C E.gl en s' g' a' w' → Q .normal a' w') → wpAnyIn (FW rd) 0 P .any ops Q fuel listed a w := by
 have hcg := compOps_get hc
 unfold okR at hok
 simp only [aet] at hok
 have hback := allBack_spec ops.toList 0 hok.1
 have hgetO : ∀ k o, ops[k]? = some o → ops.toList[k]? = some o := fun k o h => by rw [agtl]; exact h
 have hprog : ∀ (listed : Array Bool), listed.size = ops.size → Region.ready .any ops listed = [] → remI listed ops.size = [] := by
  intro listed hsz hr
  cases hrem : remI listed ops.size with
  | nil => rfl
  | cons i rest =>
   exfalso
   have hmem : i ∈ remI listed ops.size := by rw [hrem]; simp
   have hi := hmem
   simp only [remI, List.mem_filter, List.mem_range, Bool.not_eq_true'] at hi
   have hlow : ∀ k, k < i → listed.getD k false = true := by
    intro k hk
    cases hb : listed.getD k false with
    | true => rfl
    | false =>
     exfalso
     have hkm : k ∈ remI listed ops.size := by simp only [remI, List.mem_filter, List.mem_range, Bool.not_eq_true']; exact ⟨by omega, hb⟩
     have hsorted : (remI listed ops.size).Pairwise (· < ·) := List.Pairwise.filter _ List.pairwise_lt_range
     rw [hrem] at hkm hsorted
     rcases List.mem_cons.1 hkm with rfl | hkm
     ·omega
     ·have := (List.pairwise_cons.1 hsorted).1 k hkm
      omega
   have hio : ops[i]? = some ops[i] := Array.getElem?_eq_getElem hi.1
   have : i ∈ Region.ready .any ops listed := by
    rw [mem_ready]
    refine ⟨?_, ops[i], hio, fun e he hb => ?_⟩
    ·have := hi.2
     simp only [Array.getD] at this ⊢
     split at this
     ·rename_i h; simp only [dif_pos h]; exact this
     ·rename_i h; omega
    ·have := hback i ops[i] (hgetO _ _ hio) e (Array.mem_toList_iff.2 he) hb
     exact hlow _ (by omega)
   rw [hr] at this
   simp at this
 intro fuel
 induction fuel with
 | zero =>
  intro listed s g a w hsz hf hdown hr hs hQ
  have hrem : remI listed ops.size = [] := enz (by omega)
  rw [hrem] at hr
  simp only [List.filterMap_nil, RunF] at hr
  subst hr
  refine ⟨?_, hQ a w g (Ext.refl g w) hs⟩
  cases hrd : Region.ready .any ops listed with
  | nil => rfl
  | cons i r =>
   exfalso
   have : i ∈ Region.ready .any ops listed := by rw [hrd]; simp
   rw [mem_ready] at this
   obtain ⟨h1, o, ho, _⟩ := this
   have hlt := (Array.getElem?_eq_some_iff.1 ho).1
   have : i ∈ remI listed ops.size := by
    simp only [remI, List.mem_filter, List.mem_range, Bool.not_eq_true']
    refine ⟨hlt, ?_⟩
    simp only [Array.getD] at h1 ⊢
    split at h1
    ·rename_i h; simp only [dif_pos h]; exact h1
    ·cases h1
   rw [hrem] at this
   simp at this
 | succ fuel ih =>
  intro listed s g a w hsz hf hdown hr hs hQ
  refine ⟨fun hrd => ?_, fun i hi => ?_⟩
  ·have hrem := hprog listed hsz hrd
   rw [hrem] at hr
   simp only [List.filterMap_nil, RunF] at hr
   subst hr
   exact hQ a w g (Ext.refl g w) hs
  ·rw [mem_ready] at hi
   obtain ⟨h1, o, ho, hedges⟩ := hi
   have hlt := (Array.getElem?_eq_some_iff.1 ho).1
   have hlf : listed.getD i false = false := by
    simp only [Array.getD] at h1 ⊢
    split at h1
    ·rename_i h; simp only [dif_pos h]; exact h1
    ·cases h1
   obtain ⟨pre, post, hrem, hrem', hpre⟩ := rem_split hlt hlf (by omega)
   obtain ⟨io, hio, hco⟩ := hcg.2 i o (hgetO _ _ ho)
   rw [gmp, mei] at hio
   obtain ⟨ro, hro, rfl⟩ := hio
   have hto : ∃ t, ts[i]? = some t ∧ t.o = ro := by
    rw [← hts, gmp, mei] at hro
    exact hro
   obtain ⟨t, hti, rfl⟩ := hto
   rw [hrem, List.filterMap_append, List.filterMap_cons, hti] at hr
   simp only at hr
   have hanc : ∃ m, (ancs ops.toList [])[i]? = some m := by
    refine ⟨_, List.getElem?_eq_getElem (by rw [ancs_len]; simpa using hlt)⟩
   obtain ⟨m, hm⟩ := hanc
   have hD := ancs_spec (D := fun k => listed.getD k false = true) ops.toList [] (fun k o' ho' hk => by
     rw [List.length_nil, Nat.zero_add] at hk
     exact hdown k o' (by rw [agtl] at ho'; exact ho') hk) (by simp) i m hm (.inr ⟨o, by simp, by rw [List.length_nil, Nat.sub_zero, agtl]; exact ho, fun e he hb => hedges e (Array.mem_toList_iff.1 he) hb⟩)
   obtain ⟨hop2, hfree⟩ := statR_spec l [] (ancs ops.toList []) hok.2 i t.o m hro hm
   have hind : ∀ x ∈ pre.filterMap (ts[·]?), indepS x.o.op t.o.op = true ∧ (okPr x t = true ∨ x.o.op.ins.cls = 0 ∨ t.o.op.ins.cls = 0) := by
    intro x hx
    simp only [List.mem_filterMap] at hx
    obtain ⟨j, hj, hxj⟩ := hx
    obtain ⟨hji, hjl⟩ := hpre j hj
    have hxl : l[j]? = some x.o := by rw [← hts, gmp, hxj]; rfl
    rcases hfree j x.o (by simpa using hji) (by simpa using hxl) with h | ⟨h, h'⟩
    ·have := hD j h
     rw [hjl] at this
     cases this
    ·refine ⟨h, ?_⟩
     rcases h' with h' | h' | h'
     ·have := List.all_eq_true.1 (hnd i t hti) j h'
      rw [hxj] at this
      exact .inl this
     ·exact .inr (.inl h')
     ·exact .inr (.inr h')
   obtain ⟨_, s1, h5, h6⟩ := frontR (pre.filterMap (ts[·]?)) t (post.filterMap (ts[·]?)) s s' hind hr
   refine stepR_sound hE hs ho hco hop2 h5 (fun a' w' g' he' hs' => ?_)
   refine ih (listed.setIfInBounds i true) s1 g' a' w' (by simpa using hsz) ?_ ?_ ?_ hs' (fun a2 w2 g2 h3 h4 => hQ a2 w2 g2 (he'.trans h3) h4)
   ·rw [hrem] at hf
    rw [hrem']
    simp only [lap, lcn] at hf ⊢
    omega
   ·intro k o' ho' hk e he hb
    by_cases hki : i = k
    ·subst hki
     rw [ho] at ho'
     simp only [oiq] at ho'
     subst ho'
     exact getD_set_true (hedges e (Array.mem_toList_iff.1 he) hb)
    ·rw [getD_set_ne false hki] at hk
     exact getD_set_true (hdown k o' ho' hk e he hb)
   ·rw [hrem', List.filterMap_append]
    exact h6
end
end Go.Vs
