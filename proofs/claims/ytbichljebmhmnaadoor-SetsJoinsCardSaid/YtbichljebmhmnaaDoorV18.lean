/- Control, calls, and the whole: what the abstract machine comes to, the model's machine comes to. -/
import Derived.Test.YtbichljebmhmnaaDoorV17
import Derived.Scope
namespace Go.Vs
set_option linter.unusedSimpArgs false
set_option linter.unusedVariables false
open Go Go.RowKit

mutual
def AV.blw (n : Nat) : AV → Bool
  | .p _ => true
  | .ro _ => true
  | .und => true
  | .anyp => true
  | .agg xs => belows n xs
  | .tup xs => belows n xs
  | .fn _ xs => belows n xs
  | .ptr b _ => b < n
  | .rp b _ _ _ _ => b < n
  | .sl b _ _ _ _ => b < n
  | .mp b => b < n
  | .yl b => b < n
def belows (n : Nat) : List AV → Bool
  | [] => true
  | x :: xs => x.blw n && belows n xs
end

def AB.blw (n : Nat) : AB → Bool
  | .cells _ xs => belows n xs
  | .row _ _ _ rows => rows.all (belows n)
  | .loop _ _ _ f _ _ => belows n f
  | .dead => true

def keepL (n : Nat) (live : List Nat) : Nat → List AV → List AV
  | _, [] => []
  | i, x :: xs => (if live.contains i && x.blw n then x else .und) :: keepL n live (i + 1) xs
def keepA (live : List Nat) : Nat → List AV → List AV
  | _, [] => []
  | i, x :: xs => (if live.contains i then x else .und) :: keepA live (i + 1) xs

/-- At a loop's head: what is not live is let go, and the blocks made since the loop began, if none of them is named. -/
def trim (n : Nat) (live : List Nat) (s : St) : St :=
  if n ≤ s.h.length && (s.h.take n).all (AB.blw n) then ⟨keepL n live 0 s.f, s.h.take n⟩ else ⟨keepA live 0 s.f, s.h⟩

/-- Behind a range over a function: whether a round has left. -/
def afterLoop (f : List AV) (k : Nat) (h : List AB) : Option (Out × St) :=
  match h[k]? with
  | some (.loop 0 none _ _ _ _) => some (.norm, ⟨f, h.set k .dead⟩)
  | some (.loop 2 (some none) _ _ _ _) => some (.ret, ⟨f, h.set k .dead⟩)
  | some (.loop 2 (some (some id)) _ _ _ _) => some (.brk id, ⟨f, h.set k .dead⟩)
  | _ => none

def run (E : Env) (L : IC → St → Option (Out × St)) : IC → St → Option (Out × St)
  | .skip, s => some (.norm, s)
  | .ops l, s => (runOps E l s).map (Out.norm, ·)
  | .seq a b, s => match run E L a s with
    | some (.norm, s1) => run E L b s1
    | r => r
  | .cond c x y, s => match c.ev s.f E.gl with
    | .p (.val (.bool b)) => if b then run E L x s else run E L y s
    | _ => none
  | .block id b, s => match run E L b s with
    | some (.brk i, s1) => if i = id then some (.norm, s1) else some (.brk i, s1)
    | r => r
  | .loop live b, s => match run E L b (trim s.h.length live s) with
    | some (.norm, s1) => L (.loopAt s.h.length live b) s1
    | r => r
  | .loopAt n live b, s => match run E L b (trim n live s) with
    | some (.norm, s1) => L (.loopAt n live b) s1
    | r => r
  | .rangeF fo ps ia ib, s => match fo.ev s.f E.gl with
    | .fn g caps => match E.callS g (.yl s.h.length :: caps) (s.h ++ [.loop 0 none ps s.f ia ib]) with
      | some r => afterLoop s.f s.h.length r.2
      | none => none
    | _ => none
  | .exit id, s => some (.brk id, s)
  | .ret, s => some (.ret, s)
  | .bad, _ => none

/-- No range over a function in it. -/
def noR : Code → Bool
  | .rangeFunc .. => false
  | .seq a b => noR a && noR b
  | .cond _ a b => noR a && noR b
  | .block _ b => noR b
  | .loop b => noR b
  | .scope b => noR b
  | _ => true

def compC (P : Program) (shf : Operand → Bool) : Code → List (List Nat) → IC × List (List Nat)
  | .skip, an => (.skip, an)
  | .region _ ops draw, an => match compOps P shf ops ops.toList with
    | some is => if draw then (if orderOk ops is && P.follows .mixedOrders then (.ops is, an) else (.bad, an)) else (.ops is, an)
    | none => (.bad, an)
  | .seq a b, an => let (x, an1) := compC P shf a an; let (y, an2) := compC P shf b an1; (.seq x y, an2)
  | .cond c x y, an => let (x', an1) := compC P shf x an; let (y', an2) := compC P shf y an1; (.cond (opd c) x' y', an2)
  | .block id b, an => let (x, an1) := compC P shf b an; (.block id x, an1)
  | .loop b, an => match an with
    | live :: an => let (x, an1) := compC P shf b an; (.loop live x, an1)
    | [] => (.bad, [])
  | .rangeFunc f ps a b, an =>
    let (x, an1) := compC P shf a an
    let (y, an2) := compC P shf b an1
    if noR a && noR b then (.rangeF (opd f) ps.toList x y, an2) else (.bad, an2)
  | .scope b, an => compC P shf b an
  | .label _, an => (.skip, an)
  | .exit id, an => (.exit id, an)
  | .ret, an => (.ret, an)
  | _, an => (.bad, an)

/-- What a record's instructions have to do with its code. -/
def Good (P : Program) (ic : IC) (c : Code) : Prop := (∃ shf an, (compC P shf c an).1 = ic) ∧ noR c = true

def ExitR : Out → Exit → Prop
  | .norm, .normal => True
  | .brk i, .exit j => i = j
  | .ret, .ret => True
  | _, _ => False

/-- What code does, for a state and what comes of it. -/
def CodeR (P : Program) (C : IC → Code → Prop) (gl : Nat → Option (List PV)) (ok : Option Nat → Prop) (wp : Option Nat → (Exit → Act → World → Prop) → Act → World → Prop) (s : St) (o : Out) (s' : St) : Prop :=
  ∀ (rd : Option Nat) (en : Nat) (g0 g : G) (a : Act) (w0 w : World), ok rd → SR P C gl en s g a w → Ext g0 w0 g w → ∀ Q : Exit → Act → World → Prop, (∀ e a' w' g', ExitR o e → Ext g0 w0 g' w' → SR P C gl en s' g' a' w' → Q e a' w') → wp rd Q a w

mutual
theorem VR_trim {g : G} {w : World} {n : Nat} : ∀ (x : AV) (v : Value), x.blw n = true → VR g w x v → VR { g with N := n } w x v
  | .p x, v, _, h => by simpa only [VR] using h
  | .ro x, v, _, h => by simpa only [VR] using h
  | .und, v, _, h => by simp [VR]
  | .agg xs, v, hb, h => by
    simp only [VR] at h ⊢
    obtain ⟨cs, rfl, h⟩ := h
    exact ⟨cs, rfl, VRs_trim xs _ (by simpa only [AV.blw] using hb) h⟩
  | .tup xs, v, hb, h => by
    simp only [VR] at h ⊢
    obtain ⟨cs, rfl, h⟩ := h
    exact ⟨cs, rfl, VRs_trim xs _ (by simpa only [AV.blw] using hb) h⟩
  | .fn f xs, v, hb, h => by
    simp only [VR] at h ⊢
    obtain ⟨cs, rfl, h⟩ := h
    exact ⟨cs, rfl, VRs_trim xs _ (by simpa only [AV.blw] using hb) h⟩
  | .ptr b o, v, hb, h => by
    simp only [VR] at h ⊢
    exact ⟨by simpa [AV.blw] using hb, h.2⟩
  | .rp b ge s k o, v, hb, h => by
    simp only [VR] at h ⊢
    exact ⟨by simpa [AV.blw] using hb, h.2⟩
  | .sl b ge s k o, v, hb, h => by
    simp only [VR] at h ⊢
    exact ⟨by simpa [AV.blw] using hb, h.2⟩
  | .mp b, v, hb, h => by
    simp only [VR] at h ⊢
    exact ⟨by simpa [AV.blw] using hb, h.2⟩
  | .yl b, v, hb, h => by
    simp only [VR] at h ⊢
    exact ⟨by simpa [AV.blw] using hb, h.2⟩
  | .anyp, v, hb, h => by simpa only [VR] using h
theorem VRs_trim {g : G} {w : World} {n : Nat} : ∀ (xs : List AV) (vs : List Value), belows n xs = true → VRs g w xs vs → VRs { g with N := n } w xs vs
  | [], [], _, _ => by simp [VRs]
  | x :: xs, v :: vs, hb, h => by
    simp only [belows, Bool.and_eq_true] at hb
    simp only [VRs] at h ⊢
    exact ⟨VR_trim x v hb.1 h.1, VRs_trim xs vs hb.2 h.2⟩
  | [], _ :: _, _, h => by simp [VRs] at h
  | _ :: _, [], _, h => by simp [VRs] at h
end

theorem belows_flatten {n : Nat} : ∀ (rows : List (List AV)), rows.all (belows n) = true → belows n rows.flatten = true
  | [], _ => rfl
  | r :: rs, h => by
    simp only [List.all_cons, Bool.and_eq_true] at h
    have : ∀ (xs ys : List AV), belows n xs = true → belows n ys = true → belows n (xs ++ ys) = true := by
      intro xs
      induction xs with
      | nil => intro ys _ h; exact h
      | cons x xs ih => intro ys h1 h2; simp only [belows, Bool.and_eq_true, List.cons_append] at h1 ⊢; exact ⟨h1.1, ih ys h1.2 h2⟩
    rw [List.flatten_cons]
    exact this _ _ h.1 (belows_flatten rs h.2)

section
variable {P : Program} {C : IC → Code → Prop} {E : Env} {gl : Nat → Option (List PV)} {en : Nat}

theorem keepA_rel {g : G} {w : World} {live : List Nat} : ∀ (i : Nat) (xs : List AV) (vs : List Value), VRs g w xs vs → VRs g w (keepA live i xs) vs
  | _, [], [], _ => by simp [keepA, VRs]
  | i, x :: xs, v :: vs, h => by
    simp only [VRs] at h
    simp only [keepA, VRs]
    refine ⟨?_, keepA_rel (i + 1) xs vs h.2⟩
    split
    · exact h.1
    · simp [VR]
  | _, [], _ :: _, h => by simp [VRs] at h
  | _, _ :: _, [], h => by simp [VRs] at h

theorem keepL_rel {g : G} {w : World} {n : Nat} {live : List Nat} : ∀ (i : Nat) (xs : List AV) (vs : List Value), VRs g w xs vs → VRs { g with N := n } w (keepL n live i xs) vs
  | _, [], [], _ => by simp [keepL, VRs]
  | i, x :: xs, v :: vs, h => by
    simp only [VRs] at h
    simp only [keepL, VRs]
    refine ⟨?_, keepL_rel (i + 1) xs vs h.2⟩
    split
    · rename_i hc
      simp only [Bool.and_eq_true] at hc
      exact VR_trim x v hc.2 h.1
    · simp [VR]
  | _, [], _ :: _, h => by simp [VRs] at h
  | _, _ :: _, [], h => by simp [VRs] at h

theorem trim_sound {s : St} {g0 g : G} {a : Act} {w0 w : World} (hs : SR P C gl en s g a w) (he : Ext g0 w0 g w) (n : Nat) (hn : g0.N ≤ n) (live : List Nat) : ∃ g', SR P C gl en (trim n live s) g' a w ∧ Ext g0 w0 g' w := by
  unfold trim
  split
  · rename_i hc
    simp only [Bool.and_eq_true, decide_eq_true_eq] at hc
    obtain ⟨hle, hall⟩ := hc
    have hr := hs.c.hr
    refine ⟨{ g with N := n }, ⟨⟨hs.c.gr, ?_, keepL_rel 0 _ _ hs.c.fr⟩, hs.d, hs.nd, hs.sz, hs.cr⟩, ⟨he.S, he.Pr, he.pr, hn, he.m, he.gen, he.hd, he.size, he.os, he.tape, he.output, he.Sn, he.cr⟩⟩
    have hget : ∀ (b : Nat) (x : AB), (s.h.take n)[b]? = some x → s.h[b]? = some x ∧ x.blw n = true := by
      intro b x hx
      have h1 := List.all_eq_true.1 hall x (List.mem_of_getElem? hx)
      rw [List.getElem?_take] at hx
      split at hx
      · exact ⟨hx, h1⟩
      · cases hx
    refine ⟨by simp [Nat.min_eq_left hle], ?_, ?_, ?_, hr.spr, hr.prs⟩
    · intro b x hx
      obtain ⟨h1, h2⟩ := hget b x hx
      have hbr := hr.br b x h1
      cases x with
      | cells t xs =>
        simp only [BR] at hbr ⊢
        obtain ⟨cs, fz, k1, k2, k3⟩ := hbr
        exact ⟨cs, fz, k1, k2, VRs_trim _ _ (by simpa only [AB.blw] using h2) k3.1, k3.2⟩
      | row t size gen rows =>
        simp only [BR] at hbr ⊢
        refine ⟨hbr.1, hbr.2.1, ?_⟩
        have hrow := hbr.2.2
        show RowR _ w t size rows (g.hd b gen)
        cases hd : g.hd b gen with
        | none => rw [hd] at hrow; exact hrow
        | some p =>
          obtain ⟨c, cap⟩ := p
          rw [hd] at hrow
          simp only [RowR] at hrow ⊢
          obtain ⟨cs, fz, k1, k2, k3, k4, k5, k6⟩ := hrow
          exact ⟨cs, fz, k1, k2, k3, k4, k5, VRs_trim _ _ (belows_flatten rows (by simpa only [AB.blw] using h2)) k6.1, k6.2⟩
      | loop st pend ps f ia ib =>
        simp only [BR] at hbr ⊢
        obtain ⟨rec, k1, k⟩ := hbr
        exact ⟨rec, k1, ⟨k.st, k.pend, k.ps, VRs_trim _ _ (by simpa only [AB.blw] using h2) k.f, k.ia, k.ib⟩⟩
      | dead => simp [BR]
    · intro b b' x x' c h1 h2 h3 h4
      have e1 : cid g b x = some c := by cases x <;> exact h3
      have e2 : cid g b' x' = some c := by cases x' <;> exact h4
      exact hr.dis b b' x x' c (hget b x h1).1 (hget b' x' h2).1 e1 e2
    · intro b x c h1 h3
      have e1 : cid g b x = some c := by cases x <;> exact h3
      exact hr.own b x c (hget b x h1).1 e1
  · exact ⟨g, ⟨⟨hs.c.gr, hs.c.hr, keepA_rel 0 _ _ hs.c.fr⟩, hs.d, hs.nd, hs.sz, hs.cr⟩, he⟩

/-- The loop's rounds, as the oracle tells them. -/
def LoopS (P : Program) (C : IC → Code → Prop) (gl : Nat → Option (List PV)) (L : IC → St → Option (Out × St)) : Prop :=
  ∀ n live b s o s', L (.loopAt n live b) s = some (o, s') → ∀ (shf : Operand → Bool) (c : Code) (an an' : List (List Nat)), compC P shf c an = (b, an') →
    ∃ m, ∀ (rd : Option Nat) (en : Nat) (g0 g : G) (a : Act) (w0 w : World), (noR c = true ∨ rd = none) → SR P C gl en s g a w → Ext g0 w0 g w → g0.N ≤ n → ∀ Q : Exit → Act → World → Prop, (∀ e a' w' g', ExitR o e → Ext g0 w0 g' w' → SR P C gl en s' g' a' w' → Q e a' w') → Code.roundsIn (FW rd) 0 P c Q m a w

theorem exitR_norm {e : Exit} (h : ExitR .norm e) : e = .normal := by cases e <;> first | rfl | (exact h.elim)
theorem exitR_ret {e : Exit} (h : ExitR .ret e) : e = .ret := by cases e <;> first | rfl | (exact h.elim)
theorem exitR_brk {e : Exit} {i : Nat} (h : ExitR (.brk i) e) : e = .exit i := by cases e <;> first | (simp only [ExitR] at h; rw [h]) | (exact h.elim)

theorem frm : ∀ (l pre : List IOp), (List.range' pre.length l.length).filterMap ((pre ++ l)[·]?) = l
  | [], pre => by simp
  | x :: l, pre => by
    rw [List.length_cons, List.range'_succ, List.filterMap_cons]
    have e : (pre ++ x :: l)[pre.length]? = some x := by simp
    rw [e]
    simp only
    have := frm l (pre ++ [x])
    simp only [List.length_append, List.length_singleton, List.append_assoc, List.singleton_append] at this
    rw [this]

theorem stepR_scope {b : Frame} {a : Act} {k : List Item} {cs : List Frame} {w : World} {c : Code} : step P (lone (b.atR a (.code (.scope c) :: k)) cs w) = .next (lone (b.atR a (.code c :: .inScope c :: k)) cs w) :=
  step_lone_go (by simp [stepG, stepG.exec, Frame.atR])
theorem stepR_inScope {b : Frame} {a : Act} {k : List Item} {cs : List Frame} {w : World} {c : Code} : step P (lone (b.atR a (.inScope c :: k)) cs w) = .next (lone (b.atR a k) cs w) :=
  step_lone_go (by simp [stepG, stepG.exec, Frame.atR])

theorem wpIn_scope' {F : Fence} {n : Nat} {c : Code} {Q : Exit → Act → World → Prop} {a : Act} {w : World} (h : c.wpIn F n P (Exit.noGoto Q) a w) : (Code.scope c).wpIn F n P Q a w := by
  intro b k cs hro hb hr
  have h0 : (lone (b.atR a (.code (.scope c) :: k)) cs w).fenced P F := fenced_calm hb hr rfl
  obtain ⟨e, a₁, w₁, hq, harr⟩ := h b (.inScope c :: k) cs hro hb hr
  cases e with
  | normal => exact ⟨.normal, a₁, w₁, hq, .head h0 stepR_scope (StepsIn.trans harr (.one (fenced_calm hb hr rfl) stepR_inScope))⟩
  | exit id' =>
    have hx : exitTo id' (.inScope c :: k) = exitTo id' k := by simp [exitTo]
    exact ⟨.exit id', a₁, w₁, hq, fun k' hk => .head h0 stepR_scope (harr.1 k' (by rw [hx]; exact hk)),
      fun hr' hk => let ⟨k₁, h1, h2⟩ := harr.2 hr' (by rw [hx]; exact hk); ⟨k₁, h1, .head h0 stepR_scope h2⟩⟩
  | goto l => exact hq.elim
  | ret => exact ⟨_, a₁, w₁, hq, .of_steps (.one h0 stepR_scope) harr⟩
  | panic ch => exact ⟨_, a₁, w₁, hq, .of_steps (.one h0 stepR_scope) harr⟩
  | outgrown => exact ⟨_, a₁, w₁, hq, .of_steps (.one h0 stepR_scope) harr⟩

theorem afterLoop_spec {f : List AV} {k : Nat} {h : List AB} {o : Out} {s' : St} (ha : afterLoop f k h = some (o, s')) :
    ∃ st pend ps f' ia ib, h[k]? = some (.loop st pend ps f' ia ib) ∧ st ≠ 1 ∧ s' = ⟨f, h.set k .dead⟩ ∧
      ((pend = none ∧ o = .norm) ∨ (pend = some none ∧ o = .ret) ∨ (∃ id, pend = some (some id) ∧ o = .brk id)) := by
  unfold afterLoop at ha
  split at ha
  · rename_i e; simp only [Option.some.injEq, Prod.mk.injEq] at ha; exact ⟨_, _, _, _, _, _, e, by omega, ha.2.symm, .inl ⟨rfl, ha.1.symm⟩⟩
  · rename_i e; simp only [Option.some.injEq, Prod.mk.injEq] at ha; exact ⟨_, _, _, _, _, _, e, by omega, ha.2.symm, .inr (.inl ⟨rfl, ha.1.symm⟩)⟩
  · rename_i e; simp only [Option.some.injEq, Prod.mk.injEq] at ha; exact ⟨_, _, _, _, _, _, e, by omega, ha.2.symm, .inr (.inr ⟨_, rfl, ha.1.symm⟩)⟩
  · cases ha

/-- A block that is let go. -/
theorem HR.kill {g : G} {h : List AB} {w w' : World} (hr : HR g h w) {b : Nat} {x : AB} (hb : h[b]? = some x) (he : Ext g w g w') (hold : ∀ c, c < w.heap.size → cid g b x ≠ some c → w'.heap[c]? = w.heap[c]?) : HR g (h.set b .dead) w' :=
  HR.upd hr hb he rfl rfl rfl (fun _ _ => rfl) hold (by simp [BR]) (by intro c hc; simp [cid] at hc)

/-- A range over a function. -/
theorem range_sound (hE : Sound P C E) {shf : Operand → Bool} (hC : C = Good P) {L : IC → St → Option (Out × St)} {f : Operand} {ps : Array Tmp} (x y : Code) (an : List (List Nat)) {s : St} {o : Out} {s' : St}
    (h : run E L (compC P shf (.rangeFunc f ps x y) an).1 s = some (o, s')) {g0 g : G} {a : Act} {w0 w : World} (hs : SR P C E.gl en s g a w) (he : Ext g0 w0 g w) {Q : Exit → Act → World → Prop}
    (hQ : ∀ e a' w' g', ExitR o e → Ext g0 w0 g' w' → SR P C E.gl en s' g' a' w' → Q e a' w') : (Code.rangeFunc f ps x y).wpIn (FW none) 0 P Q a w := by
  simp only [compC] at h
  by_cases hn : (noR x && noR y) = true
  rotate_left
  · rw [if_neg hn] at h; simp [run] at h
  rw [if_pos hn] at h
  simp only [Bool.and_eq_true] at hn
  simp only [run] at h
  split at h
  rotate_left
  · cases h
  rename_i gf caps hf
  split at h
  rotate_left
  · cases h
  rename_i r hcs
  obtain ⟨v, h1⟩ := r
  obtain ⟨st, pend, ps', f', ia', ib', hk, hst, rfl, ho⟩ := afterLoop_spec h
  obtain ⟨⟨fd, hfd, hbody, hname⟩, hcall⟩ := hE.s _ _ _ _ _ hcs
  have hv := hs.c.opd f
  rw [hf] at hv
  simp only [VR] at hv
  obtain ⟨cv, hv, hcv⟩ := hv
  have hr := hs.c.hr
  refine wpIn_rangeFunc ?_
  intro fn _
  obtain ⟨wA, hwA⟩ : ∃ wA, wA = w.alloc (.deferred (some [])) := ⟨_, rfl⟩
  obtain ⟨rec0, hrec0⟩ : ∃ rec0 : Loop, rec0 = { state := .ready, pending := none, fn, tmps := a.tmps, params := ps, assign := x, body := y, defers := w.heap.size } := ⟨_, rfl⟩
  have hszA : wA.heap.size = w.heap.size + 1 := by rw [hwA]; simp
  have holdA : ∀ c, c < w.heap.size → wA.heap[c]? = w.heap[c]? := fun c hc => by rw [hwA]; exact Below.heap_alloc w _ c hc
  have hnewA : wA.heap[w.heap.size]? = some (.deferred (some [])) := by rw [hwA]; exact World.alloc_heap_new w _
  have eA : Ext g w { g with Pr := fun c => g.Pr c ∨ c = w.heap.size } wA :=
    ⟨fun _ h => h, fun _ h => .inl h, fun c hc => holdA c (hr.prs c hc), Nat.le_refl _, fun _ _ => rfl, fun _ _ => Nat.le_refl _, fun _ _ _ _ => rfl, by omega, by rw [hwA]; rfl, by rw [hwA]; rfl, by rw [hwA]; rfl, fun _ h => .inl h, rfl⟩
  have hcidA : ∀ b x, cid { g with Pr := fun c => g.Pr c ∨ c = w.heap.size } b x = cid g b x := fun b x => by cases x <;> rfl
  have hrA : HR { g with Pr := fun c => g.Pr c ∨ c = w.heap.size } s.h wA := by
    refine ⟨hr.n, fun b x hb => BR_mono hr eA hb rfl (fun c hc => holdA c (cid_lt hr hb hc)), ?_, ?_, fun c hS => .inl (hr.spr c hS), ?_⟩
    · intro b b' x x' c k1 k2 k3 k4
      rw [hcidA] at k3 k4
      exact hr.dis b b' x x' c k1 k2 k3 k4
    · intro b x c k1 k2
      rw [hcidA] at k2
      rintro (k3 | k3)
      · exact hr.own b x c k1 k2 k3
      · have := cid_lt hr k1 k2; omega
    · rintro c (k | k)
      · have := hr.prs c k; omega
      · omega
  obtain ⟨w1, hw1⟩ : ∃ w1, w1 = wA.alloc (.loop rec0) := ⟨_, rfl⟩
  have hold1 : ∀ c, c < wA.heap.size → w1.heap[c]? = wA.heap[c]? := fun c hc => by rw [hw1]; exact Below.heap_alloc wA _ c hc
  have hnew1 : w1.heap[wA.heap.size]? = some (.loop rec0) := by rw [hw1]; exact World.alloc_heap_new wA _
  have hsz1 : wA.heap.size ≤ w1.heap.size := by rw [hw1]; simp
  obtain ⟨gA, hgA⟩ : ∃ gA : G, gA = { g with Pr := fun c => g.Pr c ∨ c = w.heap.size } := ⟨_, rfl⟩
  rw [← hgA] at eA hrA
  have hgN : gA.N = g.N := by rw [hgA]
  have hgm : ∀ b, gA.m b = g.m b := fun b => by rw [hgA]
  have hgcr : gA.cr = C := by rw [hgA]; exact hs.cr
  have hgS : gA.S = g.S := by rw [hgA]
  have hgP : ∀ c, gA.Pr c ↔ (g.Pr c ∨ c = w.heap.size) := fun c => by rw [hgA]
  have eB : Ext gA wA (gCells gA wA.heap.size) w1 := Ext.push hrA rfl rfl rfl (fun b hb => by simp [gCells]; omega) (fun _ _ => rfl) (fun _ _ => rfl) hold1 hsz1 (by rw [hw1]; rfl) (by rw [hw1]; rfl) (by rw [hw1]; rfl)
  have hrB : HR (gCells gA wA.heap.size) (s.h ++ [.loop 0 none ps.toList s.f (compC P shf x an).1 (compC P shf y (compC P shf x an).2).1]) w1 := by
    refine (HR.push (g' := gCells gA wA.heap.size) hrA _ rfl rfl rfl (fun b hb => by simp [gCells]; omega) (fun _ _ => rfl) (fun _ _ => rfl) hold1 hsz1 (by rw [hw1]; rfl) (by rw [hw1]; rfl) (by rw [hw1]; rfl) ?_ ?_).2
    · simp only [BR]
      have hm : (gCells gA wA.heap.size).m gA.N = wA.heap.size := by simp [gCells]
      have hcr : (gCells gA wA.heap.size).cr = Good P := by show gA.cr = _; rw [hgcr, hC]
      refine ⟨rec0, by rw [hm]; exact hnew1, ⟨by rw [hrec0]; rfl, by rw [hrec0]; rfl, by rw [hrec0], ?_, ?_, ?_⟩⟩
      · rw [hrec0]; exact VRs_mono eB hrA.spr _ _ (VRs_mono eA hr.spr _ _ hs.c.fr)
      · rw [hcr, hrec0]; exact ⟨⟨_, _, rfl⟩, hn.1⟩
      · rw [hcr, hrec0]; exact ⟨⟨_, _, rfl⟩, hn.2⟩
    · intro c hc
      simp [cid, gCells] at hc
      omega
  have hkN : s.h.length = gA.N := by rw [hgN]; exact hr.n.symm
  have hml : (gCells gA wA.heap.size).m s.h.length = w.heap.size + 1 := by rw [hkN, ← hszA]; simp [gCells]
  have hargs : VRs (gCells gA wA.heap.size) w1 (.yl s.h.length :: caps) (.func (.yield (w.heap.size + 1)) #[] #[] :: cv.toList) := by
    simp only [VRs, VR]
    refine ⟨⟨by rw [hkN]; simp [gCells], by rw [hml]⟩, VRs_mono eB hrA.spr _ _ (VRs_mono eA hr.spr _ _ hcv)⟩
  have hgr1 : GR (gCells gA wA.heap.size) w1 E.gl := GR_mono eB hrA.spr (GR_mono eA hr.spr hs.c.gr)
  have hC1 := hcall (gCells gA wA.heap.size) w1 _ (by show gA.cr = C; exact hgcr) hgr1 hrB hargs
  have harr : (Value.func (.yield (w.heap.size + 1)) #[] #[] :: cv.toList).toArray = #[.func (.yield (w.heap.size + 1)) #[] #[]] ++ cv := by apply Array.ext'; simp
  refine ⟨w.heap.size + 1, [{ target := .collected w.heap.size, args := #[] }], w1, { target := .fn (.func gf) cv, args := #[.func (.yield (w.heap.size + 1)) #[] #[]] }, w1, gf,
    #[.func (.yield (w.heap.size + 1)) #[] #[]] ++ cv, w1, ?_, ?_, fun _ _ => trivial, ?_, fun h => absurd h (by simp [FW, Fence.wide]), ?_⟩
  · rw [hw1, hwA, hrec0]; exact run_enterLoop_outer _ _ _ _ _
  · simp only [resolve, hv]
    simp [go_sem]
  · simp only [invoke, callFunc, run_program, Sem.run_bind, Result.andThen_ok, hfd, hname, Bool.false_eq_true, if_false, hbody, Sem.run_pure]
  · rw [← harr]
    refine (calls_FW hC1).mono ?_
    rintro e w' ⟨xv, g', rfl, e1, r1, _⟩
    have hbr := r1.br _ _ hk
    simp only [BR] at hbr
    obtain ⟨rec, hrec, hl⟩ := hbr
    have hm' : g'.m s.h.length = w.heap.size + 1 := by rw [e1.m _ (by rw [hkN]; simp [gCells]), hml]
    rw [hm'] at hrec
    have hnb : rec.state ≠ .busy := by
      rw [hl.st]
      match st, hst with
      | 0, _ => simp [stOf]
      | 1, h => exact absurd rfl h
      | n + 2, _ => simp [stOf]
    obtain ⟨w4, hw4⟩ : ∃ w4, w4 = w'.putObj (w.heap.size + 1) (.loop { rec with state := .exhausted }) := ⟨_, rfl⟩
    have hold4 : ∀ c, c ≠ w.heap.size + 1 → w4.heap[c]? = w'.heap[c]? := fun c hc => by rw [hw4]; exact World.putObj_heap_other hc
    have hcid : cid g' s.h.length (.loop st pend ps' f' ia' ib') = some (w.heap.size + 1) := by simp only [cid]; rw [hm']
    have e4 : Ext g' w' g' w4 :=
      ⟨fun _ h => h, fun _ h => h, fun c hc => hold4 c (fun e => r1.own _ _ _ hk hcid (e ▸ hc)), Nat.le_refl _, fun _ _ => rfl, fun _ _ => Nat.le_refl _, fun _ _ _ _ => rfl, by rw [hw4]; simp, by rw [hw4]; rfl, by rw [hw4]; rfl, by rw [hw4]; rfl, fun _ h => .inl h, rfl⟩
    have r4 : HR g' (h1.set s.h.length .dead) w4 := r1.kill hk e4 (fun c _ hc => hold4 c (fun e => hc (by rw [hcid, e])))
    have eG : Ext g w g' w4 := (eA.trans eB).trans (e1.trans e4)
    have eAl : Ext gA wA g' w4 := eB.trans (e1.trans e4)
    have hmark : MarkR en g' w4 { target := .collected w.heap.size, args := #[] } := by
      have h0 : MarkR en gA wA { target := .collected w.heap.size, args := #[] } :=
        ⟨w.heap.size, rfl, hs.sz, (hgP _).2 (.inr rfl), fun hS => by rw [hgS] at hS; have := hr.prs _ (hr.spr _ hS); omega, hnewA⟩
      exact h0.ext eAl hrA.prs
    have hSR : SR P C E.gl en ⟨s.f, h1.set s.h.length .dead⟩ g' { a with defers := [{ target := .collected w.heap.size, args := #[] }] ++ a.defers } w4 := by
      refine ⟨⟨GR_mono eG hr.spr hs.c.gr, r4, VRs_mono eG hr.spr _ _ hs.c.fr⟩, ?_, ?_, Nat.le_trans hs.sz eG.size, eG.cr.trans hs.cr⟩
      · intro d hd
        rcases List.mem_append.1 hd with hd | hd
        · rw [List.mem_singleton.1 hd]; exact hmark
        · exact (hs.d d hd).ext eG hr.prs
      · refine List.nodup_cons.2 ⟨fun hd => ?_, hs.nd⟩
        obtain ⟨D, hD, _, hp, _⟩ := hs.d _ hd
        have := hr.prs D hp
        simp only [Deferred.mk.injEq, Target.collected.injEq, and_true] at hD
        omega
    refine ⟨rec.pending, w4, by rw [hw4]; exact run_endLoop hrec hnb, ?_⟩
    rw [hl.pend]
    rcases ho with ⟨rfl, rfl⟩ | ⟨rfl, rfl⟩ | ⟨id, rfl, rfl⟩
    · exact hQ .normal _ w4 g' trivial (he.trans eG) hSR
    · exact wpIn_ret (hQ .ret _ w4 g' trivial (he.trans eG) hSR)
    · exact wpIn_exit (hQ (.exit id) _ w4 g' rfl (he.trans eG) hSR)

theorem run_sound (hE : Sound P C E) {L : IC → St → Option (Out × St)} (hL : LoopS P C E.gl L) (hC : C = Good P) {shf : Operand → Bool} : ∀ (c : Code) (an : List (List Nat)) (s : St) (o : Out) (s' : St),
    run E L (compC P shf c an).1 s = some (o, s') → CodeR P C E.gl (fun rd => noR c = true ∨ rd = none) (fun rd Q => c.wpIn (FW rd) 0 P Q) s o s'
  | .skip, an, s, o, s', h => by
    simp only [compC, run, Option.some.injEq, Prod.mk.injEq] at h
    obtain ⟨rfl, rfl⟩ := h
    intro rd en g0 g a w0 w hro hs he Q hQ
    exact wpIn_skip (hQ .normal a w g trivial he hs)
  | .region id ops draw, an, s, o, s', h => by
    simp only [compC] at h
    split at h
    · rename_i is hc
      cases draw with
      | false =>
        simp only [Bool.false_eq_true, if_false, run, Option.map_eq_some_iff, Prod.mk.injEq] at h
        obtain ⟨s1, h1, rfl, rfl⟩ := h
        intro rd en g0 g a w0 w hro hs he Q hQ
        refine wpIn_region ?_
        have := ops_sound (rd := rd) (ops := ops) hE (Q := Q) ops.toList is 0 s s1 g a w (by simp) hc h1 hs (fun a' w' g' k1 k2 => hQ .normal a' w' g' trivial (he.trans k1) k2)
        rw [List.range_eq_range']
        simpa using this
      | true =>
        simp only [if_true] at h
        split at h
        · rename_i hok
          simp only [Bool.and_eq_true] at hok
          simp only [run, Option.map_eq_some_iff, Prod.mk.injEq] at h
          obtain ⟨s1, h1, rfl, rfl⟩ := h
          intro rd en g0 g a w0 w hro hs he Q hQ
          refine wpIn_region_any hok.2 ?_
          obtain ⟨e1, r1⟩ := HR.same hs.c.hr (w' := w.drew) rfl rfl rfl rfl
          have hs' : SR P C E.gl en s g a w.drew := ⟨⟨GR_mono e1 hs.c.hr.spr hs.c.gr, r1, VRs_mono e1 hs.c.hr.spr _ _ hs.c.fr⟩, hs.d, hs.nd, hs.sz, hs.cr⟩
          have hrem : remI (Array.replicate ops.size false) ops.size = List.range ops.size := by
            unfold remI
            rw [List.filter_eq_self.2]
            intro k hk
            simp at hk
            simp [Array.getD, hk]
          have hall : (List.range ops.size).filterMap (is[·]?) = is := by
            have hl : is.length = ops.size := (compOps_get hc).1
            rw [← hl]
            have := frm is []
            rw [List.range_eq_range']
            exact this
          refine any_sound hE hc hok.1 ops.size (Array.replicate ops.size false) s g a w.drew (by simp) (by rw [hrem]; simp) ?_ (by rw [hrem, hall]; exact h1) hs' (fun a' w' g' k1 k2 => hQ .normal a' w' g' trivial ((he.trans e1).trans k1) k2)
          intro k o' hk hl
          simp [Array.getD] at hl
        · simp [run] at h
    · simp [run] at h
  | .seq x y, an, s, o, s', h => by
    simp only [compC, run] at h
    intro rd en g0 g a w0 w hro hs he Q hQ
    split at h
    · rename_i s1 h1
      refine wpIn_seq (run_sound hE hL hC x an s .norm s1 h1 rd en g0 g a w0 w (hro.imp_left fun h => by simp only [noR, Bool.and_eq_true] at h; exact h.1) hs he _ ?_)
      intro e a' w' g' k1 k2 k3
      rw [exitR_norm k1]
      exact run_sound hE hL hC y (compC P shf x an).2 s1 o s' h rd en g0 g' a' w0 w' (hro.imp_left fun h => by simp only [noR, Bool.and_eq_true] at h; exact h.2) k3 k2 Q hQ
    · rename_i hne
      have hne' : o ≠ .norm := fun e => hne s' (by rw [h, e])
      refine wpIn_seq (run_sound hE hL hC x an s o s' h rd en g0 g a w0 w (hro.imp_left fun h => by simp only [noR, Bool.and_eq_true] at h; exact h.1) hs he _ ?_)
      intro e a' w' g' k1 k2 k3
      have := hQ e a' w' g' k1 k2 k3
      cases e with
      | normal => cases o <;> first | (exact absurd rfl hne') | (exact k1.elim)
      | _ => exact this
  | .cond c x y, an, s, o, s', h => by
    simp only [compC, run] at h
    intro rd en g0 g a w0 w hro hs he Q hQ
    split at h
    · rename_i b hb
      have hv := val_of (hs.c.opd c) hb
      refine wpIn_cond hv ?_
      cases b with
      | true => simp only [if_true] at h ⊢; exact run_sound hE hL hC x an s o s' h rd en g0 g a w0 w (hro.imp_left fun h => by simp only [noR, Bool.and_eq_true] at h; exact h.1) hs he Q hQ
      | false => simp only [Bool.false_eq_true, if_false] at h ⊢; exact run_sound hE hL hC y _ s o s' h rd en g0 g a w0 w (hro.imp_left fun h => by simp only [noR, Bool.and_eq_true] at h; exact h.2) hs he Q hQ
    · cases h
  | .block id b, an, s, o, s', h => by
    simp only [compC, run] at h
    intro rd en g0 g a w0 w hro hs he Q hQ
    split at h
    · rename_i i s1 h1
      refine wpIn_block (run_sound hE hL hC b an s (.brk i) s1 h1 rd en g0 g a w0 w (hro.imp_left fun h => by simpa only [noR] using h) hs he _ ?_)
      intro e a' w' g' k1 k2 k3
      rw [exitR_brk k1]
      simp only [Exit.inBlock]
      split at h
      · rename_i hi
        simp only [Option.some.injEq, Prod.mk.injEq] at h
        obtain ⟨rfl, rfl⟩ := h
        rw [if_pos hi]
        exact hQ .normal a' w' g' trivial k2 k3
      · rename_i hi
        simp only [Option.some.injEq, Prod.mk.injEq] at h
        obtain ⟨rfl, rfl⟩ := h
        rw [if_neg hi]
        exact hQ (.exit i) a' w' g' rfl k2 k3
    · rename_i hne
      refine wpIn_block (run_sound hE hL hC b an s o s' h rd en g0 g a w0 w (hro.imp_left fun h => by simpa only [noR] using h) hs he _ ?_)
      intro e a' w' g' k1 k2 k3
      have := hQ e a' w' g' k1 k2 k3
      cases e with
      | exit i =>
        cases o with
        | brk j => exact absurd (by rw [h] : run E L (compC P shf b an).1 s = some (.brk j, s')) (hne j s')
        | norm => exact k1.elim
        | ret => exact k1.elim
      | _ => exact this
  | .loop b, an, s, o, s', h => by
    intro rd en g0 g a w0 w hro hs he Q hQ
    cases an with
    | nil => simp [compC, run] at h
    | cons live an =>
      simp only [compC, run] at h
      obtain ⟨g1, hs1, he1⟩ := trim_sound hs (Ext.refl g w) s.h.length (Nat.le_of_eq hs.c.hr.n) live
      split at h
      · rename_i s1 h1
        obtain ⟨m, hm⟩ := hL _ _ _ _ _ _ h shf b an (compC P shf b an).2 rfl
        refine wpIn_loop_rounds (m + 1) ?_
        rw [roundsIn_succ]
        refine run_sound hE hL hC b an _ .norm s1 h1 rd en g g1 a w w (hro.imp_left fun h => by simpa only [noR] using h) hs1 he1 _ ?_
        intro e a' w' g' k1 k2 k3
        rw [exitR_norm k1]
        exact hm rd en g g' a' w w' (hro.imp_left fun h => by simpa only [noR] using h) k3 k2 (Nat.le_of_eq hs.c.hr.n) Q (fun e a2 w2 g2 l1 l2 l3 => hQ e a2 w2 g2 l1 (he.trans l2) l3)
      · rename_i hne
        have hne' : o ≠ .norm := fun e => hne s' (by rw [h, e])
        refine wpIn_loop_rounds 1 ?_
        rw [roundsIn_succ]
        refine run_sound hE hL hC b an _ o s' h rd en g g1 a w w (hro.imp_left fun h => by simpa only [noR] using h) hs1 he1 _ ?_
        intro e a' w' g' k1 k2 k3
        have := hQ e a' w' g' k1 (he.trans k2) k3
        cases e with
        | normal => cases o <;> first | (exact absurd rfl hne') | (exact k1.elim)
        | _ => exact this
  | .exit id, an, s, o, s', h => by
    simp only [compC, run, Option.some.injEq, Prod.mk.injEq] at h
    obtain ⟨rfl, rfl⟩ := h
    intro rd en g0 g a w0 w hro hs he Q hQ
    exact wpIn_exit (hQ (.exit id) a w g rfl he hs)
  | .ret, an, s, o, s', h => by
    simp only [compC, run, Option.some.injEq, Prod.mk.injEq] at h
    obtain ⟨rfl, rfl⟩ := h
    intro rd en g0 g a w0 w hro hs he Q hQ
    exact wpIn_ret (hQ .ret a w g trivial he hs)
  | .rangeFunc f ps x y, an, s, o, s', h => by
    intro rd en g0 g a w0 w hro hs he Q hQ
    have hrd : rd = none := hro.resolve_left (by simp [noR])
    subst hrd
    exact range_sound hE hC x y an h hs he hQ
  | .scope b, an, s, o, s', h => by
    intro rd en g0 g a w0 w hro hs he Q hQ
    simp only [compC] at h
    refine wpIn_scope' (run_sound hE hL hC b an s o s' h rd en g0 g a w0 w (hro.imp_left fun h => by simpa only [noR] using h) hs he _ ?_)
    intro e a' w' g' k1 k2 k3
    have := hQ e a' w' g' k1 k2 k3
    cases e with
    | goto l => cases o <;> exact k1.elim
    | _ => exact this
  | .label l, an, s, o, s', h => by
    simp only [compC, run, Option.some.injEq, Prod.mk.injEq] at h
    obtain ⟨rfl, rfl⟩ := h
    intro rd en g0 g a w0 w _ hs he Q hQ
    exact wpIn_label (hQ .normal a w g trivial he hs)
  | .goto .., an, s, o, s', h => by simp [compC, run] at h
  | .refuse .., an, s, o, s', h => by simp [compC, run] at h

/-- A round's oracle out of one with less fuel. -/
theorem loopS_run (hE : Sound P C E) {L : IC → St → Option (Out × St)} (hL : LoopS P C E.gl L) (hC : C = Good P) : LoopS P C E.gl (run E L) := by
  intro n live b s o s' h shf c an an' hc
  simp only [run] at h
  have hb : b = (compC P shf c an).1 := by rw [hc]
  split at h
  · rename_i s1 h1
    obtain ⟨m, hm⟩ := hL _ _ _ _ _ _ h shf c an an' hc
    refine ⟨m + 1, fun rd en g0 g a w0 w hro hs he hn Q hQ => ?_⟩
    obtain ⟨g1, hs1, he1⟩ := trim_sound hs he n hn live
    rw [roundsIn_succ]
    rw [hb] at h1
    refine run_sound hE hL hC c an _ .norm s1 h1 rd en g0 g1 a w0 w hro hs1 he1 _ ?_
    intro e a' w' g' k1 k2 k3
    rw [exitR_norm k1]
    exact hm rd en g0 g' a' w0 w' hro k3 k2 hn Q hQ
  · rename_i hne
    have hne' : o ≠ .norm := fun e => hne s' (by rw [h, e])
    refine ⟨1, fun rd en g0 g a w0 w hro hs he hn Q hQ => ?_⟩
    obtain ⟨g1, hs1, he1⟩ := trim_sound hs he n hn live
    rw [roundsIn_succ]
    rw [hb] at h
    refine run_sound hE hL hC c an _ o s' h rd en g0 g1 a w0 w hro hs1 he1 _ ?_
    intro e a' w' g' k1 k2 k3
    have := hQ e a' w' g' k1 k2 k3
    cases e with
    | normal => cases o <;> first | (exact absurd rfl hne') | (exact k1.elim)
    | _ => exact this

end
end Go.Vs
