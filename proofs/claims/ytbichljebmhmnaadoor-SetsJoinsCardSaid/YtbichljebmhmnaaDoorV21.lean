/- Steps for simp: each instruction, region and statement by an equation without binders. -/
import Derived.Test.YtbichljebmhmnaaDoorV20
namespace Go.Vs
set_option linter.unusedSimpArgs false
set_option linter.unusedVariables false
open Go Go.RowKit

section
variable {E : Env} {L : Ev} {f : List AV} {h : List AB}

def opsK (E : Env) (os : List IOp) (f : List AV) (d : Option Nat) : Option (AV × List AB) → Option St
  | some (v, h') => runOps E os ⟨putA f d v, h'⟩
  | none => none

def opsG (E : Env) (os : List IOp) (f : List AV) (h : List AB) (d : Option Nat) (i : Ins) (b : Bool) : AV → Option St
  | .und => none
  | .p (.val (.bool x)) => if x == b then opsK E os f d (stepI E i ⟨f, h⟩) else runOps E os ⟨putA f d ud, h⟩
  | _ => runOps E os ⟨putA f d ud, h⟩

theorem ops_nil (s : St) : runOps E [] s = some s := rfl
theorem ops_c (d : Option Nat) (i : Ins) (os : List IOp) : runOps E (⟨d, i, none⟩ :: os) ⟨f, h⟩ = opsK E os f d (stepI E i ⟨f, h⟩) := by
  simp only [runOps, stepO, wantedA]
  cases stepI E i ⟨f, h⟩ with
  | none => rfl
  | some r => rfl
theorem ops_g (d : Option Nat) (i : Ins) (t : Nat) (b : Bool) (os : List IOp) : runOps E (⟨d, i, some (t, b)⟩ :: os) ⟨f, h⟩ = opsG E os f h d i b (getT f t) := by
  simp only [runOps, stepO, wantedA]
  generalize getT f t = x
  have hs : (Option.map (fun r : AV × List AB => (⟨putA f d r.1, r.2⟩ : St)) (stepI E i ⟨f, h⟩)).bind (runOps E os) = opsK E os f d (stepI E i ⟨f, h⟩) := by
    cases stepI E i ⟨f, h⟩ with
    | none => rfl
    | some r => rfl
  cases x with
  | und => rfl
  | p y =>
    cases y with
    | val v =>
      cases v with
      | bool y => cases y <;> cases b <;> first | exact hs | rfl
      | _ => rfl
    | lst _ _ => rfl
  | _ => rfl

theorem opsK_some (os : List IOp) (d : Option Nat) (v : AV) (h' : List AB) : opsK E os f d (some (v, h')) = runOps E os ⟨putA f d v, h'⟩ := rfl
theorem opsK_none (os : List IOp) (d : Option Nat) : opsK E os f d none = none := rfl
theorem opsK_ite {c : Prop} [Decidable c] (os : List IOp) (d : Option Nat) (x y : Option (AV × List AB)) : opsK E os f d (if c then x else y) = if c then opsK E os f d x else opsK E os f d y := by split <;> rfl
theorem opsG_true (os : List IOp) (d : Option Nat) (i : Ins) : opsG E os f h d i true (vb true) = opsK E os f d (stepI E i ⟨f, h⟩) := rfl
theorem opsG_false (os : List IOp) (d : Option Nat) (i : Ins) : opsG E os f h d i true (vb false) = runOps E os ⟨putA f d ud, h⟩ := rfl
theorem opsG_true' (os : List IOp) (d : Option Nat) (i : Ins) : opsG E os f h d i false (vb true) = runOps E os ⟨putA f d ud, h⟩ := rfl
theorem opsG_false' (os : List IOp) (d : Option Nat) (i : Ins) : opsG E os f h d i false (vb false) = opsK E os f d (stepI E i ⟨f, h⟩) := rfl
theorem opsG_ud (os : List IOp) (d : Option Nat) (i : Ins) (b : Bool) : opsG E os f h d i b ud = runOps E os ⟨putA f d ud, h⟩ := rfl
theorem opsG_b (os : List IOp) (d : Option Nat) (i : Ins) (x : Bool) : opsG E os f h d i true (vb x) = if x = true then opsK E os f d (stepI E i ⟨f, h⟩) else runOps E os ⟨putA f d ud, h⟩ := by cases x <;> rfl
theorem opsG_b' (os : List IOp) (d : Option Nat) (i : Ins) (x : Bool) : opsG E os f h d i false (vb x) = if x = true then runOps E os ⟨putA f d ud, h⟩ else opsK E os f d (stepI E i ⟨f, h⟩) := by cases x <;> rfl

/- ---------- statements ---------- -/

def doneO : Option St → Option (Out × St)
  | some s => some (.norm, s)
  | none => none
def seqK (E : Env) (L : Ev) (b : IC) : Option (Out × St) → Option (Out × St)
  | some (.norm, s) => run E L b s
  | r => r
def condK (E : Env) (L : Ev) (x y : IC) (s : St) : AV → Option (Out × St)
  | .p (.val (.bool b)) => if b = true then run E L x s else run E L y s
  | _ => none
def blockK (id : Nat) : Option (Out × St) → Option (Out × St)
  | some (.brk i, s) => if i = id then some (.norm, s) else some (.brk i, s)
  | r => r
def loopK (L : Ev) (n : Nat) (live : List Nat) (b : IC) : Option (Out × St) → Option (Out × St)
  | some (.norm, s) => L (.loopAt n live b) s
  | r => r

theorem run_skip (s : St) : run E L .skip s = some (.norm, s) := rfl
theorem run_ops (l : List IOp) (s : St) : run E L (.ops l) s = doneO (runOps E l s) := by simp only [run]; cases runOps E l s <;> rfl
theorem run_seq (a b : IC) (s : St) : run E L (.seq a b) s = seqK E L b (run E L a s) := by
  simp only [run]; cases run E L a s with
  | none => rfl
  | some r => obtain ⟨o, s1⟩ := r; cases o <;> rfl
theorem run_cond (c : Opd) (x y : IC) : run E L (.cond c x y) ⟨f, h⟩ = condK E L x y ⟨f, h⟩ (c.ev f E.gl) := by
  simp only [run]; unfold condK; rfl
theorem run_block (id : Nat) (b : IC) (s : St) : run E L (.block id b) s = blockK id (run E L b s) := by
  simp only [run]; cases run E L b s with
  | none => rfl
  | some r => obtain ⟨o, s1⟩ := r; cases o <;> rfl
theorem run_loop (live : List Nat) (b : IC) : run E L (.loop live b) ⟨f, h⟩ = loopK L h.length live b (run E L b (trim h.length live ⟨f, h⟩)) := by
  simp only [run]; cases run E L b (trim h.length live ⟨f, h⟩) with
  | none => rfl
  | some r => obtain ⟨o, s1⟩ := r; cases o <;> rfl
theorem run_loopAt (n : Nat) (live : List Nat) (b : IC) (s : St) : run E L (.loopAt n live b) s = loopK L n live b (run E L b (trim n live s)) := by
  simp only [run]; cases run E L b (trim n live s) with
  | none => rfl
  | some r => obtain ⟨o, s1⟩ := r; cases o <;> rfl
theorem run_exit (id : Nat) (s : St) : run E L (.exit id) s = some (.brk id, s) := rfl
theorem run_ret (s : St) : run E L .ret s = some (.ret, s) := rfl

theorem doneO_some (s : St) : doneO (some s) = some (.norm, s) := rfl
theorem doneO_none : doneO none = none := rfl
theorem doneO_ite {c : Prop} [Decidable c] (x y : Option St) : doneO (if c then x else y) = if c then doneO x else doneO y := by split <;> rfl
theorem seqK_norm (b : IC) (s : St) : seqK E L b (some (.norm, s)) = run E L b s := rfl
theorem seqK_ret (b : IC) (s : St) : seqK E L b (some (.ret, s)) = some (.ret, s) := rfl
theorem seqK_brk (b : IC) (i : Nat) (s : St) : seqK E L b (some (.brk i, s)) = some (.brk i, s) := rfl
theorem seqK_none (b : IC) : seqK E L b none = none := rfl
theorem seqK_ite {c : Prop} [Decidable c] (b : IC) (x y : Option (Out × St)) : seqK E L b (if c then x else y) = if c then seqK E L b x else seqK E L b y := by split <;> rfl
theorem condK_b (x y : IC) (s : St) (b : Bool) : condK E L x y s (vb b) = if b = true then run E L x s else run E L y s := rfl
theorem condK_true (x y : IC) (s : St) : condK E L x y s (vb true) = run E L x s := rfl
theorem condK_false (x y : IC) (s : St) : condK E L x y s (vb false) = run E L y s := rfl
theorem blockK_norm (id : Nat) (s : St) : blockK id (some (.norm, s)) = some (.norm, s) := rfl
theorem blockK_ret (id : Nat) (s : St) : blockK id (some (.ret, s)) = some (.ret, s) := rfl
theorem blockK_brk (id i : Nat) (s : St) : blockK id (some (.brk i, s)) = if i = id then some (.norm, s) else some (.brk i, s) := rfl
theorem blockK_none (id : Nat) : blockK id none = none := rfl
theorem blockK_ite {c : Prop} [Decidable c] (id : Nat) (x y : Option (Out × St)) : blockK id (if c then x else y) = if c then blockK id x else blockK id y := by split <;> rfl
theorem loopK_norm (n : Nat) (live : List Nat) (b : IC) (s : St) : loopK L n live b (some (.norm, s)) = L (.loopAt n live b) s := rfl
theorem loopK_ret (n : Nat) (live : List Nat) (b : IC) (s : St) : loopK L n live b (some (.ret, s)) = some (.ret, s) := rfl
theorem loopK_brk (n : Nat) (live : List Nat) (b : IC) (i : Nat) (s : St) : loopK L n live b (some (.brk i, s)) = some (.brk i, s) := rfl
theorem loopK_none (n : Nat) (live : List Nat) (b : IC) : loopK L n live b none = none := rfl
theorem loopK_ite {c : Prop} [Decidable c] (n : Nat) (live : List Nat) (b : IC) (x y : Option (Out × St)) : loopK L n live b (if c then x else y) = if c then loopK L n live b x else loopK L n live b y := by split <;> rfl

/-- A loop begins as a round at its head. -/
theorem ev_loop (p : Prg) (live : List Nat) (b : IC) : run (envOf p (ev p)) (ev p) (.loop live b) ⟨f, h⟩ = ev p (.loopAt h.length live b) ⟨f, h⟩ := by
  rw [ev_eq]; rfl
theorem ev_loopAt (p : Prg) (n : Nat) (live : List Nat) (b : IC) (s : St) : ev p (.loopAt n live b) s = loopK (ev p) n live b (run (envOf p (ev p)) (ev p) b (trim n live s)) := by
  rw [ev_eq, run_loopAt]

end

theorem envOf_callP (p : Prg) (fn : Nat) (args : List AV) (h : List AB) : (envOf p (ev p)).callP fn args h = CP p fn args h := rfl
theorem envOf_callS (p : Prg) (fn : Nat) (args : List AV) (h : List AB) : (envOf p (ev p)).callS fn args h = CS p fn args h := rfl
theorem envOf_gl (p : Prg) : (envOf p (ev p)).gl = p.gl := rfl

/-- What a function hands back. -/
def after (rs : List IRes) : Option (Out × St) → Option (AV × List AB)
  | some (.ret, s) => (resOf s rs).map fun vs => (packR vs, s.h)
  | some (.norm, s) => (resOf s rs).map fun vs => (packR vs, s.h)
  | _ => none

theorem CS_in {p : Prg} {fn : Nat} {F : IFun} (hF : p.fn fn = some F) (args : List AV) (h : List AB) :
    CS p fn args h = after F.results (run (envOf p (ev p)) (ev p) F.code ⟨args ++ List.replicate (F.ntmps - args.length) ud, h⟩) := by
  unfold CS callS
  rw [hF]
  simp only [ev_eq]
  rfl
theorem CP_in {p : Prg} {fn : Nat} (args : List AV) (h : List AB) (hp : AV.pure.pures args = true) : CP p fn args h = (CS p fn args []).bind fun r => purA r.2 r.1 := by
  unfold CP callP CS
  rw [if_pos hp]
  cases callS p (ev p) fn args [] <;> rfl
theorem after_ret (rs : List IRes) (s : St) : after rs (some (.ret, s)) = (resOf s rs).map fun vs => (packR vs, s.h) := rfl
theorem after_norm (rs : List IRes) (s : St) : after rs (some (.norm, s)) = (resOf s rs).map fun vs => (packR vs, s.h) := rfl
theorem after_ite {c : Prop} [Decidable c] (rs : List IRes) (x y : Option (Out × St)) : after rs (if c then x else y) = if c then after rs x else after rs y := by split <;> rfl

end Go.Vs
