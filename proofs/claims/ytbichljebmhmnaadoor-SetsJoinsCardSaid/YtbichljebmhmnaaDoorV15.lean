/- Operations one behind the other, with calls; the parts of the machine that steps through them. -/
import Derived.Test.YtbichljebmhmnaaDoorV14
import Derived.OrdersIn
import Derived.LoopNIn
import Derived.RangeFuncLeaves
import Derived.RangeFuncIn
import Derived.RangeFuncRecord
namespace Go.Vs
set_option linter.unusedSimpArgs false
set_option linter.unusedVariables false
open Go Go.RowKit

/-- Pure all through: no own block is named. -/
def AV.pure : AV → Bool
  | .p _ => true
  | .ro _ => true
  | .agg xs => pures xs
  | .tup xs => pures xs
  | .fn _ xs => pures xs
  | _ => false
where
  pures : List AV → Bool
  | [] => true
  | x :: xs => x.pure && pures xs

structure Env where
  gl : Nat → Option (List PV)
  callP : Nat → List AV → List AB → Option AV
  callS : Nat → List AV → List AB → Option (AV × List AB)
  yld : Nat → List AV → List AB → Option (AV × List AB)

def wantedA (f : List AV) : Option (Nat × Bool) → Option Bool
  | none => some true
  | some (t, b) => match getT f t with
    | .und => none
    | .p (.val (.bool x)) => some (x == b)
    | _ => some false

def putA (f : List AV) (d : Option Nat) (v : AV) : List AV :=
  match d with
  | some d => f.set d v
  | none => f

def stepI (E : Env) (i : Ins) (s : St) : Option (AV × List AB) :=
  match i with
  | .call false fo args => match fo.ev s.f E.gl with
    | .fn g caps => (E.callP g (args.map (·.ev s.f E.gl) ++ caps) s.h).map (·, s.h)
    | _ => none
  | .call true fo args => match fo.ev s.f E.gl with
    | .fn g caps => E.callS g (args.map (·.ev s.f E.gl) ++ caps) s.h
    | .yl b => E.yld b (args.map (·.ev s.f E.gl)) s.h
    | _ => none
  | i => evI E.gl s.f s.h i

def stepO (E : Env) (o : IOp) (s : St) : Option St :=
  match wantedA s.f o.guard with
  | none => none
  | some false => some ⟨putA s.f o.dst ud, s.h⟩
  | some true => (stepI E o.ins s).map fun r => ⟨putA s.f o.dst r.1, r.2⟩

def runOps (E : Env) : List IOp → St → Option St
  | [], s => some s
  | o :: os, s => (stepO E o s).bind (runOps E os)

def compGuard (ops : Array Oper) : Option (Nat × Bool) → Option (Option (Nat × Bool))
  | none => some none
  | some (j, b) => match (ops[j]?).bind (·.dst) with
    | some t => some (some (t, b))
    | none => none

def compOper (P : Program) (shf : Operand → Bool) (ops : Array Oper) (o : Oper) : Option IOp :=
  match compOp P shf o, compGuard ops o.guard with
  | some i, some g => some ⟨o.dst, i, g⟩
  | _, _ => none

def compOps (P : Program) (shf : Operand → Bool) (ops : Array Oper) : List Oper → Option (List IOp)
  | [] => some []
  | o :: os => match compOper P shf ops o, compOps P shf ops os with
    | some x, some xs => some (x :: xs)
    | _, _ => none

/-- The fence that lets all in, in a round or in none. -/
abbrev FW (r : Option Nat) : Fence := { Fence.wide with round := r }

theorem calls_FW {P : Program} {f : FuncId} {args : Array Value} {w : World} {R : Ending → World → Prop} {r : Option Nat} {n : Nat} (h : Calls P f args w R) : CallsIn (FW r) n P f args w R :=
  callsIn_wide.2 h

/-- What a call must do in the model. -/
def CallR (P : Program) (C : IC → Code → Prop) (gl : Nat → Option (List PV)) (fn : Nat) (args : List AV) (h : List AB) (v : AV) (h' : List AB) : Prop :=
  (∃ fd : Func, P.funcs[fn]? = some fd ∧ fd.body.isNone = false ∧ (fd.name == "runtime.NumGoroutine") = false) ∧
  ∀ (g : G) (w : World) (vals : List Value), g.cr = C → GR g w gl → HR g h w → VRs g w args vals →
    Calls P fn vals.toArray w fun e w' => ∃ x g', e = .returned x ∧ Ext g w g' w' ∧ HR g' h' w' ∧ VR g' w' v x

/-- A round, as yield asks for it. -/
def YieldR (P : Program) (C : IC → Code → Prop) (gl : Nat → Option (List PV)) (b : Nat) (args : List AV) (h : List AB) (v : AV) (h' : List AB) : Prop :=
  ∃ st pend ps f ia ib, h[b]? = some (.loop st pend ps f ia ib) ∧ args.length = ps.length ∧
  ∀ (rd : Option Nat) (g : G) (w : World) (vals : List Value) (rec : Loop), g.cr = C → GR g w gl → HR g h w → VRs g w args vals → w.heap[g.m b]? = some (.loop rec) →
    RoundIn (FW rd) 0 P (g.m b) rec.fn ((rec.params.zip vals.toArray).foldl (fun tmps (t, a) => tmps.setIfInBounds t a) rec.tmps) rec.assign rec.body w
      fun e w' => ∃ x g', e = .returned x ∧ Ext g w g' w' ∧ HR g' h' w' ∧ VR g' w' v x

structure Sound (P : Program) (C : IC → Code → Prop) (E : Env) : Prop where
  p : ∀ fn args h v, E.callP fn args h = some v → CallR P C E.gl fn args h v h
  s : ∀ fn args h v h', E.callS fn args h = some (v, h') → CallR P C E.gl fn args h v h'
  y : ∀ b args h v h', E.yld b args h = some (v, h') → YieldR P C E.gl b args h v h'

/-- A deferred call that is a mark alone: no round has deferred anything. -/
def MarkR (en : Nat) (g : G) (w : World) (d : Deferred) : Prop := ∃ D, d = { target := .collected D, args := #[] } ∧ en ≤ D ∧ g.Pr D ∧ ¬ g.S D ∧ w.heap[D]? = some (.deferred (some []))

theorem MarkR.ext {en : Nat} {g g' : G} {w w' : World} {d : Deferred} (h : MarkR en g w d) (he : Ext g w g' w') (hp : ∀ c, g.Pr c → c < w.heap.size) : MarkR en g' w' d := by
  obtain ⟨D, h1, h0, h2, h3, h4⟩ := h
  refine ⟨D, h1, h0, he.Pr D h2, fun hs => ?_, (he.pr D h2).trans h4⟩
  rcases he.Sn D hs with h | h
  · exact h3 h
  · have := hp D h2; omega

structure SR (P : Program) (C : IC → Code → Prop) (gl : Nat → Option (List PV)) (en : Nat) (s : St) (g : G) (a : Act) (w : World) : Prop where
  c : Ctx P gl a s.f g s.h w
  d : ∀ d ∈ a.defers, MarkR en g w d
  nd : a.defers.Nodup
  sz : en ≤ w.heap.size
  cr : g.cr = C

theorem GR_mono {g g' : G} {w w' : World} {gl : Nat → Option (List PV)} (he : Ext g w g' w') (hs : ∀ c, g.S c → g.Pr c) (h : GR g w gl) : GR g' w' gl :=
  fun n xs hx => ⟨he.S n (h n xs hx).1, PRs_mono he.S (fun c hc => he.pr c (hs c hc)) n (h n xs hx).1 0 xs (h n xs hx).2⟩

section
variable {rd : Option Nat} {en : Nat} {P : Program} {C : IC → Code → Prop} {E : Env} {s s' : St} {g g' : G} {a : Act} {w w' : World}

theorem SR.put (h : SR P C E.gl en s g a w) (he : Ext g w g' w') {h' : List AB} (hr : HR g' h' w') {v : AV} {x : Value} (hv : VR g' w' v x) (d : Option Nat) :
    SR P C E.gl en ⟨putA s.f d v, h'⟩ g' (a.put d x) w' := by
  have hdf : (a.put d x).defers = a.defers := by cases d <;> rfl
  refine ⟨⟨GR_mono he h.c.hr.spr h.c.gr, hr, ?_⟩, ?_, by rw [hdf]; exact h.nd, Nat.le_trans h.sz he.size, he.cr.trans h.cr⟩
  · have := VRs_mono he h.c.hr.spr _ _ h.c.fr
    cases d with
    | none => exact this
    | some d => simpa [putA, Act.put, Array.toList_setIfInBounds] using this.set hv
  · rw [hdf]
    exact fun d hd => (h.d d hd).ext he h.c.hr.prs

theorem getT_rel (h : SR P C E.gl en s g a w) (t : Nat) : VR g w (getT s.f t) (a.tmps.getD t undef) := by
  have := h.c.opd (.tmp t)
  simpa [opd, Opd.ev, Act.eval] using this

theorem VR_bool {x : AV} {v : Value} (h : VR g w x v) : (∀ b, x = vb b → v = .bool b) ∧ (x ≠ .und → (∀ b, x ≠ vb b) → ∀ b, v ≠ .bool b) := by
  refine ⟨fun b e => val_of h e, ?_⟩
  intro h1 h2 b hb
  subst hb
  cases x with
  | p x =>
    cases x with
    | val u => simp only [VR, PR] at h; subst h; exact h2 b rfl
    | lst s r => simp only [VR, PR] at h; obtain ⟨A, c, h, _⟩ := h; cases h
  | agg xs => simp only [VR] at h; obtain ⟨_, h, _⟩ := h; cases h
  | tup xs => simp only [VR] at h; obtain ⟨_, h, _⟩ := h; cases h
  | und => exact h1 rfl
  | ptr b o => simp only [VR] at h; cases h.2
  | ro xs => simp only [VR] at h; obtain ⟨_, _, h, _⟩ := h; cases h
  | rp b g s k o => simp only [VR] at h; obtain ⟨_, _, _, _, _, h⟩ := h; cases h
  | sl b g s o l =>
    simp only [VR] at h
    obtain ⟨_, _, h⟩ := h
    unfold SlR at h
    split at h
    · cases h.1
    · obtain ⟨_, _, A, h, _⟩ := h; cases h
  | mp b => simp only [VR] at h; cases h.2
  | yl b => simp only [VR] at h; cases h.2
  | anyp => simp only [VR] at h; obtain ⟨_, h⟩ := h; cases h
  | fn f c => simp only [VR] at h; obtain ⟨_, h, _⟩ := h; cases h

theorem wanted_rel (h : SR P C E.gl en s g a w) {ops : Array Oper} {o : Oper} {gd : Option (Nat × Bool)} {b : Bool} (hc : compGuard ops o.guard = some gd) (hw : wantedA s.f gd = some b) :
    Region.wanted o (yielded ops a.tmps) = b := by
  unfold Region.wanted
  unfold compGuard at hc
  cases hg : o.guard with
  | none =>
    simp only [hg, Option.some.injEq] at hc
    subst hc
    simpa [wantedA] using hw
  | some jb =>
    obtain ⟨j, bb⟩ := jb
    simp only [hg] at hc
    cases ht : (ops[j]?).bind (·.dst) with
    | none => simp [ht] at hc
    | some t =>
      simp only [ht, Option.some.injEq] at hc
      subst hc
      simp only [wantedA] at hw
      have hr := getT_rel h t
      have hlen := h.c.fr.len
      have hnot : getT s.f t ≠ .und → t < s.f.length := by
        intro hne
        rcases Nat.lt_or_ge t s.f.length with h1 | h1
        · exact h1
        · exact absurd (by simp [getT, List.getElem?_eq_none h1]) hne
      have hy : getT s.f t ≠ .und → yielded ops a.tmps j = (match a.tmps.getD t undef with | .bool b => some b | _ => none) := by
        intro hne
        have hlt : t < a.tmps.size := by have := hnot hne; rw [hlen] at this; simpa using this
        unfold yielded
        rw [ht]
        simp only [Option.bind_some, Array.getElem?_eq_getElem hlt]
        have : a.tmps.getD t undef = a.tmps[t] := by simp [Array.getD, hlt]
        rw [this]
        cases a.tmps[t] <;> rfl
      obtain ⟨k1, k2⟩ := VR_bool hr
      split at hw
      · cases hw
      · rename_i x e
        simp only [Option.some.injEq] at hw
        subst hw
        simp only
        rw [hy (by rw [e]; simp), k1 x e]
        cases x <;> cases bb <;> rfl
      · rename_i h1 h2
        simp only [Option.some.injEq] at hw
        subst hw
        have hne := k2 (fun e => h1 e) (fun b e => h2 b e)
        simp only
        rw [hy (fun e => h1 e)]
        cases hv : a.tmps.getD t undef <;> first | (exact absurd hv (hne _)) | rfl

theorem run_resolve {c : Call} {fo : Operand} {fn : Nat} {caps : Array Value} {ty : TypeId} (hc : c.callee = .value fo) (hv : a.eval fo = .func (.func fn) #[] caps) :
    (resolve a.eval c ty).run P w = .ok { target := .fn (.func fn) caps, args := c.args.map a.eval } w := by
  simp [resolve, hc, hv, Deferred.ofValue]

/-- A call, at its operation. -/
theorem call_step (hs : SR P C E.gl en s g a w) {o : Oper} {c : Call} {fo : Operand} {fn : Nat} {caps : List AV} {v : AV} {h' : List AB} (ho : o.op = .call c) (hc : c.callee = .value fo)
    (hf : (opd fo).ev s.f E.gl = .fn fn caps) (hr : CallR P C E.gl fn (c.args.toList.map (fun x => (opd x).ev s.f E.gl) ++ caps) s.h v h')
    {K : Act → World → Prop} {Q : Exit → Act → World → Prop} (hK : ∀ x w' g', Ext g w g' w' → HR g' h' w' → VR g' w' v x → K (a.put o.dst x) w') : o.wpIn (FW rd) 0 P a w K Q := by
  obtain ⟨⟨fd, hfd, hbody, hname⟩, hcall⟩ := hr
  have hv := hs.c.opd fo
  rw [hf] at hv
  simp only [VR] at hv
  obtain ⟨cs, hv, hcs⟩ := hv
  have hargs : VRs g w (c.args.toList.map (fun x => (opd x).ev s.f E.gl) ++ caps) (c.args.toList.map a.eval ++ cs.toList) := (VRs_evs hs.c c.args.toList).append hcs
  have hC := hcall g w _ hs.cr hs.c.gr hs.c.hr hargs
  have hrun : (execOp a.eval o).run P w = .ok (.enter fn (c.args.toList.map a.eval ++ cs.toList).toArray) w := by
    simp only [execOp, ho, Sem.run_bind, run_resolve (ty := o.type) hc hv, Result.andThen_ok, invoke, callFunc, run_program, hfd, hname, Bool.false_eq_true, if_false, hbody, Sem.run_pure]
    congr 2
    apply Array.ext'
    simp
  refine ⟨fun _ _ => trivial, ?_⟩
  rw [Oper.semAt_eq _ _ _ (by rw [ho]; simp), hrun]
  rw [Oper.uponIn_enter]
  refine ⟨fun h => absurd h (by simp [FW, Fence.wide]), (calls_FW hC).mono ?_⟩
  rintro e w' ⟨x, g', rfl, h1, h2, h3⟩
  exact hK x w' g' h1 h2 h3

/-- A call of yield, at its operation. -/
theorem yield_step (hs : SR P C E.gl en s g a w) {o : Oper} {c : Call} {fo : Operand} {b : Nat} {v : AV} {h' : List AB} (ho : o.op = .call c) (hc : c.callee = .value fo)
    (hf : (opd fo).ev s.f E.gl = .yl b) (hr : YieldR P C E.gl b (c.args.toList.map (fun x => (opd x).ev s.f E.gl)) s.h v h')
    {K : Act → World → Prop} {Q : Exit → Act → World → Prop} (hK : ∀ x w' g', Ext g w g' w' → HR g' h' w' → VR g' w' v x → K (a.put o.dst x) w') : o.wpIn (FW rd) 0 P a w K Q := by
  obtain ⟨st, pend, ps, f, ia, ib, hb, hlen, hround⟩ := hr
  have hv := hs.c.opd fo
  rw [hf] at hv
  simp only [VR] at hv
  obtain ⟨_, hv⟩ := hv
  have hbr := hs.c.hr.br b _ hb
  simp only [BR] at hbr
  obtain ⟨rec, hrec, hl⟩ := hbr
  have hargs := VRs_evs hs.c c.args.toList
  have hR := hround rd g w _ rec hs.cr hs.c.gr hs.c.hr hargs hrec
  have hsz : (c.args.map a.eval).size = rec.params.size := by
    have := hl.ps
    rw [← Array.length_toList, ← Array.length_toList (xs := rec.params), hl.ps, ← hlen]
    simp
  have hrun : (execOp a.eval o).run P w = .ok (.round (g.m b) rec.fn ((rec.params.zip (c.args.toList.map a.eval).toArray).foldl (fun tmps (t, a) => tmps.setIfInBounds t a) rec.tmps) rec.assign rec.body) w := by
    have hres : (resolve a.eval c o.type).run P w = .ok { target := .fn (.yield (g.m b)) #[], args := c.args.map a.eval } w := by simp [resolve, hc, hv, Deferred.ofValue]
    have he : (c.args.toList.map a.eval).toArray = c.args.map a.eval := by apply Array.ext'; simp
    simp only [execOp, ho, Sem.run_bind, hres, Result.andThen_ok, invoke]
    rw [he]
    simpa using run_yield (P := P) hrec hsz
  refine ⟨fun _ _ => trivial, ?_⟩
  rw [Oper.semAt_eq _ _ _ (by rw [ho]; simp), hrun, Oper.uponIn_round]
  refine ⟨fun h => absurd h (by simp [FW, Fence.wide]), hR.mono ?_⟩
  rintro e w' ⟨x, g', rfl, h1, h2, h3⟩
  exact hK x w' g' h1 h2 h3

theorem compOp_call {shf : Operand → Bool} {o : Oper} {sh : Bool} {fo : Opd} {args : List Opd} (h : compOp P shf o = some (.call sh fo args)) :
    ∃ c f', o.op = .call c ∧ c.callee = .value f' ∧ fo = opd f' ∧ args = c.args.toList.map opd := by
  unfold compOp at h
  cases hop : o.op <;> simp only [hop] at h
  case call c =>
    unfold compCall at h
    split at h
    · rename_i f' hcal
      split at h
      · exfalso
        unfold extI at h
        (repeat' split at h) <;> first | (cases h; done) | (simp at h; done)
      · simp only [Option.some.injEq, Ins.call.injEq] at h
        exact ⟨c, f', rfl, hcal, h.2.1.symm, h.2.2.symm⟩
    all_goals (exfalso; (repeat' split at h) <;> first | (cases h; done) | (simp at h; done))
  case binOp op t x y yt =>
    exfalso
    unfold compBin at h
    (repeat' split at h) <;> first | (cases h; done) | (simp at h; done) | (unfold compEq at h; (repeat' split at h) <;> first | (cases h; done) | (simp at h; done))
  case convert s d x =>
    exfalso
    unfold compConv at h
    (repeat' split at h) <;> first | (cases h; done) | (simp at h; done)
  all_goals (exfalso; (repeat' split at h) <;> first | (cases h; done) | (simp at h; done) | contradiction)

theorem stepO_sound (hE : Sound P C E) (hs : SR P C E.gl en s g a w) {shf : Operand → Bool} {ops : Array Oper} {i : Nat} {o : Oper} {io : IOp} (ho : ops[i]? = some o) (hc : compOper P shf ops o = some io) (he : stepO E io s = some s')
    {K : Act → World → Prop} {Q : Exit → Act → World → Prop} (hK : ∀ a' w' g', Ext g w g' w' → SR P C E.gl en s' g' a' w' → K a' w') : wpOpIn (FW rd) 0 P ops Q i K a w := by
  unfold compOper at hc
  split at hc
  · rename_i ins gd hins hgd
    simp only [Option.some.injEq] at hc
    subst hc
    unfold wpOpIn
    rw [ho]
    simp only
    unfold stepO at he
    split at he
    · cases he
    · rename_i hw
      simp only [Option.some.injEq] at he
      subst he
      rw [wanted_rel hs hgd hw]
      simp only [Bool.false_eq_true, if_false]
      exact ⟨fun _ _ => trivial, hK _ _ g (Ext.refl g w) (hs.put (Ext.refl g w) hs.c.hr VR_ud o.dst)⟩
    · rename_i hw
      rw [wanted_rel hs hgd hw]
      simp only [if_true]
      cases hst : stepI E ins s with
      | none => simp [hst] at he
      | some r =>
        obtain ⟨v, h'⟩ := r
        simp only [hst, Option.map_some, Option.some.injEq] at he
        subst he
        have hKK : ∀ x w' g', Ext g w g' w' → HR g' h' w' → VR g' w' v x → K (a.put o.dst x) w' := fun x w' g' h1 h2 h3 => hK _ _ g' h1 (hs.put h1 h2 h3 o.dst)
        unfold stepI at hst
        split at hst
        · rename_i fo args
          obtain ⟨c, f', hop, hcal, rfl, rfl⟩ := compOp_call hins
          split at hst
          · rename_i fn caps hfn
            cases hcp : E.callP fn ((c.args.toList.map opd).map (fun x => x.ev s.f E.gl) ++ caps) s.h with
            | none => rw [hcp] at hst; cases hst
            | some u =>
              simp only [hcp, Option.map_some, Option.some.injEq, Prod.mk.injEq] at hst
              obtain ⟨rfl, rfl⟩ := hst
              rw [List.map_map] at hcp
              exact call_step hs hop hcal hfn (hE.p _ _ _ _ hcp) hKK
          · cases hst
        · rename_i fo args
          obtain ⟨c, f', hop, hcal, rfl, rfl⟩ := compOp_call hins
          split at hst
          · rename_i fn caps hfn
            rw [List.map_map] at hst
            exact call_step hs hop hcal hfn (hE.s _ _ _ _ _ hst) hKK
          · rename_i b hfn
            rw [List.map_map] at hst
            exact yield_step hs hop hcal hfn (hE.y _ _ _ _ _ hst) hKK
          · cases hst
        · obtain ⟨x, w', g', hfin, h1, h2, h3⟩ := evI_sound hs.c hins hst
          refine ⟨fun _ _ => trivial, ?_⟩
          rw [Oper.semAt_eq _ _ _ (fun c hc => by simp only [compOp, hc] at hins; cases hins)]
          cases hrun : (execOp a.eval o).run P w with
          | halt x w => rw [hrun] at hfin; simp [fin] at hfin
          | ok nx w2 =>
            rw [hrun] at hfin
            cases nx <;> simp only [fin, Option.some.injEq, Prod.mk.injEq] at hfin <;> try (cases hfin; done)
            · obtain ⟨rfl, rfl⟩ := hfin
              exact hKK _ _ _ h1 h2 h3
            · obtain ⟨rfl, rfl⟩ := hfin
              exact hKK _ _ _ h1 h2 h3
  · cases hc

end
end Go.Vs
