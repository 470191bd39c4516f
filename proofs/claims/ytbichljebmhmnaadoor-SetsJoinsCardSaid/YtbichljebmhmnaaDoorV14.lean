/- Every instruction does what its operation does. -/
import Derived.Test.YtbichljebmhmnaaDoorV13b
namespace Go.Vs
set_option linter.unusedSimpArgs false
set_option linter.unusedVariables false
open Go Go.RowKit

section
variable {P : Program} {gl : Nat → Option (List PV)} {a : Act} {f : List AV} {g : G} {h : List AB} {w : World} {o : Oper}

theorem bin_sound (c : Ctx P gl a f g h w) {op : BinOp} {t yt : TypeId} {x y : Operand} {i : Ins} {v : AV} {h' : List AB} (ho : o.op = .binOp op t x y yt) (hc : compBin P op t x y = some i) (he : evI gl f h i = some (v, h')) : Fits P o a g w v h' := by
  have hbin : evI gl f h (.bin op (opd x) (opd y)) = some (v, h') → Fits P o a g w v h' := by
    intro he
    simp only [evI] at he
    split at he
    · rename_i u1 u2 e1 e2
      cases hb : binV op u1 u2 with
      | none => simp [hb] at he
      | some r =>
        simp only [hb, Option.map_some, Option.some.injEq, Prod.mk.injEq] at he
        obtain ⟨rfl, rfl⟩ := he
        exact s_bin c ho e1 e2 hb
    · cases he
  have hq : op = .eql ∨ op = .neq → ∀ (b : Bool), ((b = false ∧ P.underlying t = some .bool) ∨ (b = true ∧ P.eqGuardType P.depth t = false ∧ aggT P t = some true)) →
      (plainK P 40 t).map (fun ks => Ins.eqA b ks (op == .neq) (opd x) (opd y)) = some i → Fits P o a g w v h' := by
    intro hop b hb hi
    cases hk : plainK P 40 t with
    | none => simp [hk] at hi
    | some ks =>
      simp only [hk, Option.map_some, Option.some.injEq] at hi
      subst hi
      simp only [evI] at he
      split at he
      · rename_i hag
        cases h1 : cellsOf ((opd x).ev f gl) with
        | none => simp [h1] at he
        | some xs =>
          cases h2 : cellsOf ((opd y).ev f gl) with
          | none => simp [h1, h2] at he
          | some ys =>
            simp only [h1, h2, Option.bind_some] at he
            cases h3 : eqC ks xs ys with
            | none => simp [h3] at he
            | some r =>
              simp only [h3, Option.map_some, Option.some.injEq, Prod.mk.injEq] at he
              obtain ⟨rfl, rfl⟩ := he
              exact s_eqA c ho hop hk hb hag.1 hag.2 h1 h2 h3
      · cases he
  have hqq : (op = .eql ∨ op = .neq) → compEq P op t x y = some i → Fits P o a g w v h' := by
    intro hop hc2
    unfold compEq at hc2
    split at hc2
    · simp only [Option.some.injEq] at hc2; subst hc2; exact hbin he
    · simp only [Option.some.injEq] at hc2; subst hc2; exact hbin he
    · rename_i hu; exact hq hop false (.inl ⟨rfl, hu⟩) hc2
    · rename_i fs hu
      split at hc2
      · cases hc2
      · rename_i hg; exact hq hop true (.inr ⟨rfl, by simpa using hg, by simp [aggT, hu, isAggD]⟩) hc2
    · rename_i n e hu
      split at hc2
      · cases hc2
      · rename_i hg; exact hq hop true (.inr ⟨rfl, by simpa using hg, by simp [aggT, hu, isAggD]⟩) hc2
    · rename_i ps rs vd hu
      split at hc2
      · rename_i hy
        have hy' : y = .const .nilFunc := by
          unfold isNilF at hy
          split at hy
          · rfl
          · cases hy
        subst hy'
        simp only [Option.some.injEq] at hc2
        subst hc2
        unfold evI at he
        simp only at he
        split at he
        · rename_i f' cs e1
          simp only [Option.some.injEq, Prod.mk.injEq] at he
          obtain ⟨rfl, rfl⟩ := he
          exact s_eqN c ho hop hu (.inl ⟨f', cs, e1, rfl⟩)
        · rename_i e1
          simp only [Option.some.injEq, Prod.mk.injEq] at he
          obtain ⟨rfl, rfl⟩ := he
          exact s_eqN c ho hop hu (.inr ⟨e1, rfl⟩)
        · cases he
      · cases hc2
    · rename_i te hu
      split at hc2
      · rename_i hi
        obtain ⟨j, hj⟩ := Option.isSome_iff_exists.1 hi
        simp only [Option.some.injEq] at hc2
        subst hc2
        exact s_eqP c ho hop hu hj he
      · cases hc2
    · cases hc2
  unfold compBin at hc
  cases op
  case eql => exact hqq (.inl rfl) hc
  case neq => exact hqq (.inr rfl) hc
  all_goals (simp only [Option.some.injEq] at hc; subst hc; exact hbin he)

theorem conv_sound (c : Ctx P gl a f g h w) {src dst : TypeId} {x : Operand} {i : Ins} {v : AV} {h' : List AB} (ho : o.op = .convert src dst x) (hc : compConv P src dst x = some i) (he : evI gl f h i = some (v, h')) : Fits P o a g w v h' := by
  unfold compConv at hc
  split at hc
  · rename_i k1 k2 hs hd
    simp only [Option.some.injEq] at hc
    subst hc
    simp only [evI] at he
    cases hi : idx ((opd x).ev f gl) with
    | none => simp [hi] at he
    | some n =>
      simp only [hi, Option.map_some, Option.some.injEq, Prod.mk.injEq] at he
      obtain ⟨rfl, rfl⟩ := he
      exact s_convI c ho hs hd hi
  · rename_i k1 hs hd
    simp only [Option.some.injEq] at hc
    subst hc
    simp only [evI] at he
    cases hi : idx ((opd x).ev f gl) with
    | none => simp [hi] at he
    | some n =>
      simp only [hi, Option.map_some, Option.some.injEq, Prod.mk.injEq] at he
      obtain ⟨rfl, rfl⟩ := he
      exact s_convS c ho hs hd hi
  · rename_i e hs hd
    split at hc
    · rename_i hue
      split at hc
      · simp only [Option.some.injEq] at hc
        subst hc
        simp only [evI] at he
        split at he
        · cases he
        · rename_i hns
          cases hr : rowsOf h 1 ((opd x).ev f gl) with
          | none => simp [hr] at he
          | some rows =>
            simp only [hr, Option.bind_some] at he
            cases hb : bytesOf rows with
            | none => simp [hb] at he
            | some l =>
              simp only [hb, Option.map_some, Option.some.injEq, Prod.mk.injEq] at he
              obtain ⟨rfl, rfl⟩ := he
              exact s_convB c ho hs hd hue hr hb (fun s e => hns s e)
      · cases hc
    · cases hc
  · rename_i e hs hd
    split at hc
    · rename_i hue
      split at hc
      · simp only [Option.some.injEq] at hc
        subst hc
        simp only [evI] at he
        split at he
        · rename_i s e1
          split at he
          · rename_i hl
            simp only [Option.some.injEq, Prod.mk.injEq] at he
            obtain ⟨rfl, rfl⟩ := he
            exact s_mkB c ho hs hd hue e1 hl
          · cases he
        · cases he
      · cases hc
    · cases hc
  · rename_i t hs hd
    split at hc
    · rename_i n hn
      split at hc
      · rename_i h0
        simp only [Option.some.injEq] at hc
        subst hc
        exact s_cvU c ho hs hd hn h0 he
      · cases hc
    · cases hc
  · rename_i u hs hd
    split at hc
    · rename_i hi
      obtain ⟨n, hn⟩ := Option.isSome_iff_exists.1 hi
      simp only [Option.some.injEq] at hc
      subst hc
      exact s_cvP c ho hs hd hn (fun q hq => (List.mem_filter.1 hq).2) he
    · cases hc
  · cases hc

theorem extOf_spec {fo : Operand} {n : String} (h : extOf P fo = some n) : ∃ k fn, fo = .func k ∧ P.funcs[k]? = some fn ∧ fn.body.isNone = true ∧ fn.origin = "" ∧ fn.name = n := by
  unfold extOf at h
  split at h
  · rename_i k
    split at h
    · rename_i fn hf
      split at h
      · rename_i hc
        simp only [Bool.and_eq_true, beq_iff_eq] at hc
        simp only [Option.some.injEq] at h
        exact ⟨k, fn, rfl, hf, hc.1, hc.2, h⟩
      · cases h
    · cases h
  · cases h

theorem call_sound (c : Ctx P gl a f g h w) {cl : Call} {i : Ins} {v : AV} {h' : List AB} (ho : o.op = .call cl) {shf : Operand → Bool} (hc : compCall P shf cl o.type = some i) (he : evI gl f h i = some (v, h')) : Fits P o a g w v h' := by
  unfold compCall at hc
  split at hc
  · rename_i fo h1
    split at hc
    · rename_i n hext
      obtain ⟨k, fn, rfl, hf, hb, hor, rfl⟩ := extOf_spec hext
      unfold extI at hc
      split at hc
      · rename_i hname
        split at hc
        · rename_i x h2
          simp only [Option.some.injEq] at hc
          subst hc
          simp only [evI, Option.some.injEq, Prod.mk.injEq] at he
          obtain ⟨rfl, rfl⟩ := he
          exact s_nes c ho h1 h2 hf hb hname hor
        · cases hc
      · split at hc
        · rename_i hname
          split at hc
          · rename_i x y h2
            simp only [Option.some.injEq] at hc
            subst hc
            simp only [evI] at he
            split at he
            · rename_i s n e1 e2
              simp only [Option.some.injEq, Prod.mk.injEq] at he
              obtain ⟨rfl, rfl⟩ := he
              exact s_ixb c ho h1 h2 hf hb hname hor e1 e2
            · cases he
          · cases hc
        · cases hc
    · simp only [Option.some.injEq] at hc
      subst hc
      simp [evI] at he
  · rename_i h1
    split at hc
    · rename_i x te h2 ht
      simp only [Option.some.injEq] at hc
      subst hc
      exact s_slData c ho h1 h2 ht he
    · cases hc
  · rename_i h1
    split at hc
    · rename_i x n pt it h2 h3
      split at hc
      · rename_i e hp
        split at hc
        · rename_i hcl
          simp only [Option.some.injEq] at hc
          subst hc
          exact s_uStr c ho h1 h2 h3 hp hcl he
        · cases hc
      · cases hc
    · cases hc
  · rename_i h1
    split at hc
    · rename_i x t h2 h3
      split at hc
      · rename_i e hu
        simp only [Option.some.injEq] at hc
        subst hc
        simp only [evI] at he
        cases hl : lenA ((opd x).ev f gl) with
        | none => simp [hl] at he
        | some n =>
          simp only [hl, Option.map_some, Option.some.injEq, Prod.mk.injEq] at he
          obtain ⟨rfl, rfl⟩ := he
          exact s_len c ho h1 h2 h3 hu hl
      · rename_i hu
        simp only [Option.some.injEq] at hc
        subst hc
        simp only [evI] at he
        split at he
        · rename_i s e1
          simp only [Option.some.injEq, Prod.mk.injEq] at he
          obtain ⟨rfl, rfl⟩ := he
          exact s_lenS c ho h1 h2 h3 hu e1
        · cases he
      · rename_i n e hu
        simp only [Option.some.injEq] at hc
        subst hc
        simp only [evI, Opd.ev, Option.some.injEq, Prod.mk.injEq] at he
        obtain ⟨rfl, rfl⟩ := he
        exact s_lenArr c ho h1 h2 h3 hu
      · cases hc
    · cases hc
  · rename_i h1
    split at hc
    · rename_i x y t u h2 h3
      split at hc
      · rename_i e hu
        have key : ∀ (s b : Nat) (z : List Value), szT P e = some s → byT P e = some b → zeroT P e = some z → 0 < s → z.length = s → ((∃ e', P.underlying u = some (.slice e')) ∨ P.underlying u = some .string) →
            i = .append e s b (z.map .val) (opd x) (opd y) → Fits P o a g w v h' := by
          intro s b z hs hb hz h0 hzl huu hi
          subst hi
          simp only [evI] at he
          cases hr : rowsOf h s ((opd y).ev f gl) with
          | none => simp [hr] at he
          | some news =>
            simp only [hr, Option.bind_some] at he
            exact s_append c ho h1 h2 h3 hu huu hs hb hz h0 hzl hr he
        split at hc
        · rename_i s b z e' hs hb hz hue
          split at hc
          · rename_i hcc
            simp only [Option.some.injEq] at hc
            exact key s b z hs hb hz hcc.1 hcc.2 (.inl ⟨e', hue⟩) hc.symm
          · cases hc
        · rename_i s b z hs hb hz hue
          split at hc
          · rename_i hcc
            simp only [Option.some.injEq] at hc
            exact key s b z hs hb hz (by omega) hcc.2 (.inr hue) hc.symm
          · cases hc
        · cases hc
      · cases hc
    · cases hc
  · rename_i h1
    split at hc
    · rename_i x y h2
      simp only [Option.some.injEq] at hc
      subst hc
      simp only [evI] at he
      split at he
      · rename_i k m k' n e1 e2
        simp only [Option.some.injEq, Prod.mk.injEq] at he
        obtain ⟨rfl, rfl⟩ := he
        exact s_min2 (mx := false) c ho h1 h2 e1 e2
      · cases he
    · cases hc
  · rename_i h1
    split at hc
    · rename_i x y h2
      simp only [Option.some.injEq] at hc
      subst hc
      simp only [evI] at he
      split at he
      · rename_i k m k' n e1 e2
        simp only [Option.some.injEq, Prod.mk.injEq] at he
        obtain ⟨rfl, rfl⟩ := he
        exact s_min2 (mx := true) c ho h1 h2 e1 e2
      · cases he
    · cases hc
  · cases hc

theorem map_val (z : List Value) : (z.map PV.val).map AV.p = z.map fun v => AV.p (.val v) := by simp

theorem evI_sound (c : Ctx P gl a f g h w) {shf : Operand → Bool} {i : Ins} {v : AV} {h' : List AB} (hc : compOp P shf o = some i) (he : evI gl f h i = some (v, h')) : Fits P o a g w v h' := by
  unfold compOp at hc
  cases hop : o.op <;> simp only [hop] at hc <;> try (cases hc; done)
  case move x =>
    simp only [Option.some.injEq] at hc; subst hc
    simp only [evI, Option.some.injEq, Prod.mk.injEq] at he; obtain ⟨rfl, rfl⟩ := he
    exact s_mv c x (.inl hop)
  case assign x =>
    split at hc
    · rename_i hx
      split at hc
      · rename_i e hu
        cases hs : szT P e with
        | none => simp [hs] at hc
        | some s =>
          simp only [hs, Option.map_some, Option.some.injEq] at hc; subst hc
          simp only [evI, Option.some.injEq, Prod.mk.injEq] at he; obtain ⟨rfl, rfl⟩ := he
          exact s_nilrow c e s (by rw [hop])
      · cases hc
    · simp only [Option.some.injEq] at hc; subst hc
      simp only [evI, Option.some.injEq, Prod.mk.injEq] at he; obtain ⟨rfl, rfl⟩ := he
      exact s_mv c _ (.inr hop)
  case pick x y z =>
    simp only [Option.some.injEq] at hc; subst hc
    simp only [evI] at he
    split at he
    · rename_i t e1
      simp only [Option.some.injEq, Prod.mk.injEq] at he; obtain ⟨rfl, rfl⟩ := he
      exact s_pick c hop e1
    · cases he
  case alloc t =>
    cases hz : zeroT P t with
    | none => simp [hz] at hc
    | some z =>
      simp only [hz, Option.map_some, Option.some.injEq] at hc; subst hc
      simp only [evI, Option.some.injEq, Prod.mk.injEq] at he; obtain ⟨rfl, rfl⟩ := he
      exact s_alloc c hop hz _
  case box t x =>
    simp only [Option.some.injEq] at hc; subst hc
    simp only [evI] at he
    cases hx : cellsOf ((opd x).ev f gl) with
    | none => simp [hx] at he
    | some cs =>
      simp only [hx, Option.map_some, Option.some.injEq, Prod.mk.injEq] at he; obtain ⟨rfl, rfl⟩ := he
      exact s_box c hop hx
  case build t parts =>
    split at hc
    · rename_i z fields hz hu
      split at hc
      · rename_i hall
        cases hp : compParts P fields parts.toList with
        | none => simp [hp] at hc
        | some ps =>
          simp only [hp, Option.map_some, Option.some.injEq] at hc; subst hc
          simp only [evI, map_val] at he
          cases hx : fillA f gl (z.map fun v => AV.p (.val v)) ps with
          | none => simp [hx] at he
          | some cs =>
            simp only [hx, Option.map_some, Option.some.injEq, Prod.mk.injEq] at he; obtain ⟨rfl, rfl⟩ := he
            exact s_buildSt c hop hz hu hall hp hx
      · cases hc
    · rename_i z n e hz hu
      cases hs : szT P e with
      | none => simp [hs] at hc
      | some s =>
        simp only [hs, Option.map_some, Option.some.injEq] at hc; subst hc
        simp only [evI, map_val] at he
        cases hx : fillA f gl (z.map fun v => AV.p (.val v)) (parts.toList.map fun (i, x) => (i * s, s, opd x)) with
        | none => simp [hx] at he
        | some cs =>
          simp only [hx, Option.map_some, Option.some.injEq, Prod.mk.injEq] at he; obtain ⟨rfl, rfl⟩ := he
          exact s_buildArr c hop hz hu hs hx
    · cases hc
  case buildSlice t n parts =>
    split at hc
    · rename_i e hu
      split at hc
      · rename_i s z hs hz
        split at hc
        · rename_i hcc
          simp only [Option.some.injEq] at hc; subst hc
          simp only [evI, map_val] at he
          cases hx : fillR f gl s (List.replicate n (z.map fun v => AV.p (.val v))) (parts.toList.map fun (i, x) => (i, opd x)) with
          | none => simp [hx] at he
          | some rows =>
            simp only [hx, Option.map_some, Option.some.injEq, Prod.mk.injEq] at he; obtain ⟨rfl, rfl⟩ := he
            exact s_buildS c hop hz hu hs hcc.1 hcc.2.1 hcc.2.2 hx
        · cases hc
      · cases hc
    · cases hc
  case load t x =>
    split at hc
    · rename_i b s hb hs
      simp only [Option.some.injEq] at hc; subst hc
      simp only [evI] at he
      cases hx : loadA h (if b then s else 1) ((opd x).ev f gl) with
      | none => simp [hx] at he
      | some cs =>
        simp only [hx, Option.bind_some] at he
        cases hv : oneOr b cs with
        | none => simp [hv] at he
        | some u =>
          simp only [hv, Option.map_some, Option.some.injEq, Prod.mk.injEq] at he; obtain ⟨rfl, rfl⟩ := he
          exact s_load c hop hb hs hx hv
    · cases hc
  case store t x y =>
    cases hs : szT P t with
    | none => simp [hs] at hc
    | some s =>
      simp only [hs, Option.map_some, Option.some.injEq] at hc; subst hc
      simp only [evI] at he
      cases hy : cellsOf ((opd y).ev f gl) with
      | none => simp [hy] at he
      | some cs =>
        simp only [hy, Option.bind_some] at he
        split at he
        · rename_i hl
          cases hx : storeA h cs ((opd x).ev f gl) with
          | none => simp [hx] at he
          | some h2 =>
            simp only [hx, Option.map_some, Option.some.injEq, Prod.mk.injEq] at he; obtain ⟨rfl, rfl⟩ := he
            exact s_store c hop hs hy hl hx
        · cases he
  case nilCheck x =>
    simp only [Option.some.injEq] at hc; subst hc
    simp only [evI] at he
    cases hx : nilCk ((opd x).ev f gl) with
    | none => simp [hx] at he
    | some u =>
      simp only [hx, Option.map_some, Option.some.injEq, Prod.mk.injEq] at he; obtain ⟨rfl, rfl⟩ := he
      exact s_nilChk c hop hx
  case binOp op t x y yt => exact bin_sound c hop hc he
  case unOp op t x =>
    simp only [Option.some.injEq] at hc; subst hc
    simp only [evI] at he
    split at he
    · rename_i u e1
      cases hr : unV op u with
      | none => simp [hr] at he
      | some r =>
        simp only [hr, Option.map_some, Option.some.injEq, Prod.mk.injEq] at he; obtain ⟨rfl, rfl⟩ := he
        exact s_un c hop e1 hr
    · cases he
  case convert src dst x => exact conv_sound c hop hc he
  case makeFunc fn first caps =>
    cases fn <;> simp only at hc <;> try (cases hc; done)
    split at hc
    · rename_i h0
      simp only [Option.some.injEq] at hc; subst hc
      simp only [evI, Option.some.injEq, Prod.mk.injEq, List.map_map] at he; obtain ⟨rfl, rfl⟩ := he
      exact s_mkfn c hop h0
    · cases hc
  case makeSlice t x y =>
    split at hc
    · rename_i e hu
      split at hc
      · rename_i s b z hs hb hz
        split at hc
        · rename_i hcc
          simp only [Option.some.injEq] at hc; subst hc
          simp only [evI, map_val] at he
          cases hx : idx ((opd x).ev f gl) with
          | none => simp [hx] at he
          | some l =>
            cases hy : idx ((opd y).ev f gl) with
            | none => simp [hx, hy] at he
            | some k =>
              simp only [hx, hy, Option.bind_some] at he
              split at he
              · rename_i h4
                simp only [Option.some.injEq, Prod.mk.injEq] at he; obtain ⟨rfl, rfl⟩ := he
                exact s_makeS c hop hz hu hs hb hcc.1 hcc.2 hx hy h4
              · cases he
        · cases hc
      · cases hc
    · cases hc
  case slice t x lo hi mx =>
    cases mx with
    | some m => simp at hc
    | none =>
      simp only at hc
      split at hc
      · rename_i hu
        simp only [Option.some.injEq] at hc; subst hc
        simp only [evI] at he
        split at he
        · rename_i s e1
          cases hl : idxO f gl 0 (lo.map opd) with
          | none => simp [hl] at he
          | some l =>
            cases hr : idxO f gl s.size (hi.map opd) with
            | none => simp [hl, hr] at he
            | some r =>
              simp only [hl, hr, Option.bind_some] at he
              split at he
              · rename_i h4
                simp only [Option.some.injEq, Prod.mk.injEq] at he; obtain ⟨rfl, rfl⟩ := he
                exact s_sliceS c hop hu e1 hl hr h4.1 h4.2.1 h4.2.2
              · cases he
        · cases he
      · rename_i e hu
        split at hc
        · rename_i s hs
          split at hc
          · simp only [Option.some.injEq] at hc; subst hc
            exact s_slice c hop hu hs he
          · cases hc
        · cases hc
      · cases hc
  case fieldAddr s x i =>
    split at hc
    · rename_i fields hu
      split at hc
      · rename_i fd hf
        split at hc
        · rename_i n hn
          split at hc
          · rename_i h0
            simp only [Option.some.injEq] at hc; subst hc
            simp only [evI] at he
            cases hx : ptrAdd fd.offset ((opd x).ev f gl) with
            | none => simp [hx] at he
            | some u =>
              simp only [hx, Option.map_some, Option.some.injEq, Prod.mk.injEq] at he; obtain ⟨rfl, rfl⟩ := he
              exact s_fieldA c hop hu hf hn h0 hx
          · cases hc
        · cases hc
      · cases hc
    · cases hc
  case field s x i =>
    split at hc
    · rename_i fields hu
      split at hc
      · rename_i fd hf
        split at hc
        · rename_i b n hb hn
          simp only [Option.some.injEq] at hc; subst hc
          simp only [evI] at he
          split at he
          · rename_i xs e1
            cases hcs : sub xs fd.offset (if b then n else 1) with
            | none => simp [hcs] at he
            | some cs =>
              simp only [hcs, Option.bind_some] at he
              cases hv : oneOr b cs with
              | none => simp [hv] at he
              | some u =>
                simp only [hv, Option.map_some, Option.some.injEq, Prod.mk.injEq] at he; obtain ⟨rfl, rfl⟩ := he
                exact s_field c hop hu hf hb hn e1 hcs hv
          · cases he
        · cases hc
      · cases hc
    · cases hc
  case indexAddr t x i =>
    split at hc
    · rename_i n e hu
      cases hs : szT P e with
      | none => simp [hs] at hc
      | some s =>
        simp only [hs, Option.map_some, Option.some.injEq] at hc; subst hc
        simp only [evI] at he
        cases hi : idx ((opd i).ev f gl) with
        | none => simp [hi] at he
        | some k =>
          simp only [hi, Option.bind_some] at he
          split at he
          · rename_i hk
            cases hx : ptrAdd (k.toNat * s) ((opd x).ev f gl) with
            | none => simp [hx] at he
            | some u =>
              simp only [hx, Option.map_some, Option.some.injEq, Prod.mk.injEq] at he; obtain ⟨rfl, rfl⟩ := he
              exact s_indexArr c hop hu hs hi hk hx
          · cases he
    · rename_i e hu
      cases hs : szT P e with
      | none => simp [hs] at hc
      | some s =>
        simp only [hs, Option.map_some, Option.some.injEq] at hc; subst hc
        simp only [evI] at he
        cases hi : idx ((opd i).ev f gl) with
        | none => simp [hi] at he
        | some k =>
          simp only [hi, Option.bind_some] at he
          split at he
          · rename_i b gen s2 off len e1
            split at he
            · rename_i hk
              obtain ⟨rfl, hk1, hk2⟩ := hk
              simp only [Option.some.injEq, Prod.mk.injEq] at he; obtain ⟨rfl, rfl⟩ := he
              exact s_indexSl c hop hu hs hi (.inl ⟨b, gen, off, len, e1, hk1, hk2, rfl⟩)
            · cases he
          · rename_i s2 rows e1
            split at he
            · rename_i hk
              obtain ⟨rfl, hk1⟩ := hk
              cases hr : rows[k.toNat]? with
              | none => simp [hr] at he
              | some r =>
                simp only [hr, Option.map_some, Option.some.injEq, Prod.mk.injEq] at he; obtain ⟨rfl, rfl⟩ := he
                exact s_indexSl c hop hu hs hi (.inr ⟨rows, r, e1, hk1, hr, rfl⟩)
            · cases he
          · cases he
    · cases hc
  case index t x i =>
    split at hc
    · rename_i n e hu
      split at hc
      · rename_i b s hb hs
        split at hc
        · rename_i hbs
          simp only [Option.some.injEq] at hc; subst hc
          simp only [evI] at he
          split at he
          · rename_i xs e1
            cases hi : idx ((opd i).ev f gl) with
            | none => simp [hi] at he
            | some k =>
              simp only [hi, Option.bind_some] at he
              split at he
              · rename_i hk
                cases hcs : sub xs (k.toNat * s) s with
                | none => simp [hcs] at he
                | some cs =>
                  simp only [hcs, Option.bind_some] at he
                  cases hv : oneOr b cs with
                  | none => simp [hv] at he
                  | some u =>
                    simp only [hv, Option.map_some, Option.some.injEq, Prod.mk.injEq] at he; obtain ⟨rfl, rfl⟩ := he
                    exact s_index c hop hu hs hb (by simpa using hbs) e1 hi hk hcs hv
              · cases he
          · cases he
        · cases hc
      · cases hc
    · rename_i hu
      simp only [Option.some.injEq] at hc; subst hc
      simp only [evI] at he
      split at he
      · rename_i s e1
        cases hi : idx ((opd i).ev f gl) with
        | none => simp [hi] at he
        | some k =>
          simp only [hi, Option.bind_some] at he
          split at he
          · rename_i hk
            cases hb : s.data.toList[k.toNat]? with
            | none => simp [hb] at he
            | some b =>
              simp only [hb, Option.map_some, Option.some.injEq, Prod.mk.injEq] at he; obtain ⟨rfl, rfl⟩ := he
              exact s_indexS c hop hu e1 hi hk hb
          · cases he
      · cases he
    · cases hc
  case extract x i =>
    simp only [Option.some.injEq] at hc; subst hc
    simp only [evI] at he
    split at he
    · rename_i xs e1
      cases hi : xs[i]? with
      | none => simp [hi] at he
      | some u =>
        simp only [hi, Option.map_some, Option.some.injEq, Prod.mk.injEq] at he; obtain ⟨rfl, rfl⟩ := he
        exact s_extract c hop e1 hi
    · cases he
  case call cl => exact call_sound c hop hc he

end
end Go.Vs
