/- Calls, and the whole: what the abstract machine comes to, the model's machine comes to. -/
import Derived.Test.YtbichljebmhmnaaDoorV18
namespace Go.Vs
set_option linter.unusedSimpArgs false
set_option linter.unusedVariables false
open Go Go.RowKit

def mapO {α β : Type} (f : α → Option β) : List α → Option (List β)
  | [] => some []
  | x :: xs => match f x, mapO f xs with
    | some y, some ys => some (y :: ys)
    | _, _ => none

/-- A value without own blocks: what it leads to is read out. -/
def purP (h : List AB) : Nat → AV → Option PV
  | 0, _ => none
  | _ + 1, .p x => some x
  | n + 1, .sl b gen size off len => match h[b]? with
    | some (.row _ s g rows) => if g = gen ∧ s = size ∧ off + len ≤ rows.length then (mapO (mapO (purP h n)) ((rows.drop off).take len)).map (.lst size) else none
    | _ => none
  | _, _ => none

mutual
def purA (h : List AB) : AV → Option AV
  | .p x => some (.p x)
  | .ro xs => some (.ro xs)
  | .agg xs => (purAs h xs).map .agg
  | .tup xs => (purAs h xs).map .tup
  | .fn f xs => (purAs h xs).map (.fn f)
  | .ptr b off => match h[b]? with
    | some (.cells _ xs) => (mapO (purP h 50) (xs.drop off)).map .ro
    | _ => none
  | .sl b g s o l => (purP h 50 (.sl b g s o l)).map .p
  | _ => none
def purAs (h : List AB) : List AV → Option (List AV)
  | [] => some []
  | x :: xs => match purA h x, purAs h xs with
    | some y, some ys => some (y :: ys)
    | _, _ => none
end

mutual
/-- No address in it. -/
def flat : AV → Bool
  | .p (.val _) => true
  | .agg xs => flats xs
  | .tup xs => flats xs
  | .fn _ xs => flats xs
  | _ => false
def flats : List AV → Bool
  | [] => true
  | x :: xs => flat x && flats xs
end

def resOf (s : St) : List IRes → Option (List AV)
  | [] => some []
  | .tmp t :: rs => (resOf s rs).map (getT s.f t :: ·)
  | .cell t b n :: rs => match (loadA s.h n (getT s.f t)).bind (oneOr b), resOf s rs with
    | some v, some vs => some (v :: vs)
    | _, _ => none

def packR : List AV → AV
  | [v] => v
  | vs => .tup vs

structure Prg where
  fn : Nat → Option IFun
  gl : Nat → Option (List PV)
  prim : Nat → List AV → List AB → Option (AV × List AB)

def callS (p : Prg) (ev : IC → St → Option (Out × St)) (fn : Nat) (args : List AV) (h : List AB) : Option (AV × List AB) :=
  match p.fn fn with
  | none => p.prim fn args h
  | some F => match ev F.code ⟨args ++ List.replicate (F.ntmps - args.length) ud, h⟩ with
    | some (.ret, s) => (resOf s F.results).map fun vs => (packR vs, s.h)
    | some (.norm, s) => (resOf s F.results).map fun vs => (packR vs, s.h)
    | _ => none

def callP (p : Prg) (ev : IC → St → Option (Out × St)) (fn : Nat) (args : List AV) (h : List AB) : Option AV :=
  if AV.pure.pures args then
    match callS p ev fn args [] with
    | some (v, h') => purA h' v
    | none => none
  else
    match purAs h args with
    | some args' => match callS p ev fn args' [] with
      | some (v, _) => if flat v then some v else none
      | none => none
    | none => none

def setPs (f : List AV) : List Nat → List AV → List AV
  | p :: ps, x :: xs => setPs (f.set p x) ps xs
  | _, _ => f

def endY (o : Out) (b : Nat) (h : List AB) : Option (AV × List AB) :=
  match h[b]? with
  | some (.loop _ _ ps f ia ib) => match o with
    | .norm => some (vb true, h.set b (.loop 0 none ps f ia ib))
    | .ret => some (vb false, h.set b (.loop 2 (some none) ps f ia ib))
    | .brk id => some (vb false, h.set b (.loop 2 (some (some id)) ps f ia ib))
  | _ => none

/-- yield: a round of the record's body, on the memory as it is. -/
def callY (ev : IC → St → Option (Out × St)) (b : Nat) (args : List AV) (h : List AB) : Option (AV × List AB) :=
  match h[b]? with
  | some (.loop 0 none ps f ia ib) =>
    if args.length = ps.length then
      match ev ia ⟨setPs f ps args, h⟩ with
      | some (.norm, s1) => match s1.h[b]? with
        | some (.loop 0 none ps1 f1 ia1 ib1) => match ev ib ⟨s1.f, s1.h.set b (.loop 1 none ps1 f1 ia1 ib1)⟩ with
          | some r => endY r.1 b r.2.h
          | none => none
        | _ => none
      | _ => none
    else none
  | _ => none

def envOf (p : Prg) (ev : IC → St → Option (Out × St)) : Env := ⟨p.gl, callP p ev, callS p ev, callY ev⟩

def evalN (p : Prg) : Nat → IC → St → Option (Out × St)
  | 0 => fun _ _ => none
  | n + 1 => run (envOf p (evalN p n)) (evalN p n)

def compRes (P : Program) : List ResultVar → Option (List IRes)
  | [] => some []
  | .tmp t :: rs => (compRes P rs).map (.tmp t :: ·)
  | .cell a t :: rs => match aggT P t, szT P t, compRes P rs with
    | some b, some s, some l => some (.cell a b (if b then s else 1) :: l)
    | _, _, _ => none

def compFn (P : Program) (shf : Operand → Bool) (ann : List (List Nat)) (fd : Func) : Option IFun :=
  match fd.body, compRes P fd.results.toList with
  | some c, some rs => if fd.name == "runtime.NumGoroutine" then none else some ⟨fd.ntmps, rs, (compC P shf c ann).1⟩
  | _, _ => none

structure PrgOk (P : Program) (p : Prg) : Prop where
  fn : ∀ f F, p.fn f = some F → ∃ shf fd ann, P.funcs[f]? = some fd ∧ compFn P shf ann fd = some F
  prim : ∀ f args h v h', p.prim f args h = some (v, h') → CallR P (Good P) p.gl f args h v h'

section
variable {P : Program} {C : IC → Code → Prop} {gl : Nat → Option (List PV)} {en : Nat}

theorem loadA_rel' {s : St} {g : G} {a : Act} {w : World} (hs : SR P C gl en s g a w) {t n : Nat} {cs : List AV} (hx : loadA s.h n (getT s.f t) = some cs) :
    ∃ b off vs, a.tmps.getD t undef = .pointer (some ⟨b, off, none⟩) ∧ (∀ j v, vs[j]? = some v → w.cell? ⟨b, off + j, none⟩ = some v) ∧ vs.length = n ∧ VRs g w cs vs := by
  obtain ⟨b, off, vs, h1, h2, h3, h4⟩ := loadA_rel hs.c (x := .tmp t) (n := n) (cs := cs) (by simpa [opd, Opd.ev] using hx)
  exact ⟨b, off, vs, by simpa [Act.eval] using h1, h2, h3, h4⟩

/-- A result, read off the temporaries. -/
def resSem (tmps : Array Value) : ResultVar → Sem Value
  | .tmp t => pure (tmps.getD t undef)
  | .cell b t => do loadVar t (← asAddr (tmps.getD b undef))

theorem results_eq (fd : Func) (tmps : Array Value) : results fd tmps = (fd.results.mapM (resSem tmps) >>= fun vs => pure (if h : vs.size = 1 then vs[0] else .tuple vs)) := by
  unfold results
  have : (fun x : ResultVar => (match x with
    | .tmp t => pure (tmps.getD t undef)
    | .cell b t => do loadVar t (← asAddr (tmps.getD b undef)) : Sem Value)) = resSem tmps := by
    funext x
    cases x <;> rfl
  rw [← this]
  rfl

theorem res_rel {s : St} {g : G} {a : Act} {w : World} (hs : SR P C gl en s g a w) : ∀ (rvs : List ResultVar) (rs : List IRes) (vs : List AV), compRes P rvs = some rs → resOf s rs = some vs →
    ∃ us : List Value, (rvs.mapM (resSem a.tmps)).run P w = .ok us w ∧ VRs g w vs us
  | [], rs, vs, hc, hr => by
    simp only [compRes, Option.some.injEq] at hc
    subst hc
    simp only [resOf, Option.some.injEq] at hr
    subst hr
    exact ⟨[], by simp, by simp [VRs]⟩
  | .tmp t :: rvs, rs, vs, hc, hr => by
    simp only [compRes, Option.map_eq_some_iff] at hc
    obtain ⟨l, hl, rfl⟩ := hc
    simp only [resOf, Option.map_eq_some_iff] at hr
    obtain ⟨us', hu, rfl⟩ := hr
    obtain ⟨us, h1, h2⟩ := res_rel hs rvs l us' hl hu
    refine ⟨a.tmps.getD t undef :: us, ?_, ?_⟩
    · simp only [List.mapM_cons, resSem, Sem.run_bind, Sem.run_pure, Result.andThen_ok]
      rw [h1]
      rfl
    · simp only [VRs]
      exact ⟨by have := hs.c.opd (.tmp t); simpa [opd, Opd.ev, Act.eval] using this, h2⟩
  | .cell b t :: rvs, rs, vs, hc, hr => by
    simp only [compRes] at hc
    split at hc
    · rename_i ag n l hag hn hl
      simp only [Option.some.injEq] at hc
      subst hc
      simp only [resOf] at hr
      split at hr
      · rename_i v us' hv hu
        simp only [Option.some.injEq] at hr
        subst hr
        obtain ⟨us, h1, h2⟩ := res_rel hs rvs l us' hl hu
        simp only [Option.bind_eq_some_iff] at hv
        obtain ⟨cs, hcs, hone⟩ := hv
        obtain ⟨bb, off, xs, k1, k2, k3, k4⟩ := loadA_rel' hs hcs
        have hload : ∃ u, (loadVar t ⟨bb, off, none⟩).run P w = .ok u w ∧ VR g w v u := by
          rcases oneOr_rel k4 hone with ⟨rfl, hr⟩ | ⟨rfl, u, rfl, hr⟩
          · refine ⟨.agg xs.toArray, ?_, hr⟩
            have h2' := run_cells (P := P) k2
            rw [k3] at h2'
            simp only [if_true] at h2'
            simp [loadVar, run_aggT hag, run_szT hn, h2']
          · refine ⟨u, ?_, hr⟩
            have hcell : w.cell? ⟨bb, off, none⟩ = some u := k2 0 u rfl
            simp [loadVar, run_aggT hag, hcell]
        obtain ⟨u, hu1, hu2⟩ := hload
        refine ⟨u :: us, ?_, ?_⟩
        · have hA : (asAddr (a.tmps.getD b undef)).run P w = .ok ⟨bb, off, none⟩ w := by rw [k1]; rfl
          simp only [List.mapM_cons, resSem, Sem.run_bind, hA, Sem.run_pure, Result.andThen_ok, hu1]
          rw [h1]
          rfl
        · simp only [VRs]
          exact ⟨hu2, h2⟩
      · cases hr
    · cases hc

theorem results_rel {s : St} {g : G} {a : Act} {w : World} (hs : SR P C gl en s g a w) {fd : Func} {rs : List IRes} {vs : List AV} (hc : compRes P fd.results.toList = some rs) (hr : resOf s rs = some vs) :
    ∃ x, (results fd a.tmps).run P w = .ok x w ∧ VR g w (packR vs) x := by
  obtain ⟨us, h1, h2⟩ := res_rel hs fd.results.toList rs vs hc hr
  have hrun : (results fd a.tmps).run P w = .ok (if h : us.toArray.size = 1 then us.toArray[0] else .tuple us.toArray) w := by
    rw [results_eq, Array.mapM_eq_mapM_toList]
    simp only [Sem.run_bind, Sem.run_map, h1, Result.andThen_ok, Sem.run_pure]
  refine ⟨_, hrun, ?_⟩
  cases vs with
  | nil =>
    cases us with
    | nil => simp only [packR, VR]; exact ⟨#[], by simp, by simp [VRs]⟩
    | cons _ _ => simp [VRs] at h2
  | cons v vs =>
    cases us with
    | nil => simp [VRs] at h2
    | cons u us =>
      cases vs with
      | nil =>
        cases us with
        | nil => simp only [VRs] at h2; simpa [packR] using h2.1
        | cons _ _ => simp [VRs] at h2
      | cons v2 vs =>
        cases us with
        | nil => simp [VRs] at h2
        | cons u2 us => simp only [packR, VR]; exact ⟨(u :: u2 :: us).toArray, by simp, by simpa using h2⟩

mutual
theorem VR_pr {g : G} {w : World} {Q : Nat → Prop} : ∀ (x : AV) (v : Value), VR g w x v → VR { g with Pr := Q } w x v
  | .p x, v, h => by simpa only [VR] using h
  | .ro x, v, h => by simpa only [VR] using h
  | .und, v, h => by simp [VR]
  | .agg xs, v, h => by
    simp only [VR] at h ⊢
    obtain ⟨cs, rfl, h⟩ := h
    exact ⟨cs, rfl, VRs_pr xs _ h⟩
  | .tup xs, v, h => by
    simp only [VR] at h ⊢
    obtain ⟨cs, rfl, h⟩ := h
    exact ⟨cs, rfl, VRs_pr xs _ h⟩
  | .fn f xs, v, h => by
    simp only [VR] at h ⊢
    obtain ⟨cs, rfl, h⟩ := h
    exact ⟨cs, rfl, VRs_pr xs _ h⟩
  | .ptr b o, v, h => by simpa only [VR] using h
  | .rp b ge s k o, v, h => by simpa only [VR] using h
  | .sl b ge s k o, v, h => by simpa only [VR] using h
  | .mp b, v, h => by simpa only [VR] using h
  | .yl b, v, h => by simpa only [VR] using h
  | .anyp, v, h => by simpa only [VR] using h
theorem VRs_pr {g : G} {w : World} {Q : Nat → Prop} : ∀ (xs : List AV) (vs : List Value), VRs g w xs vs → VRs { g with Pr := Q } w xs vs
  | [], [], _ => by simp [VRs]
  | x :: xs, v :: vs, h => by
    simp only [VRs] at h ⊢
    exact ⟨VR_pr x v h.1, VRs_pr xs vs h.2⟩
  | [], _ :: _, h => by simp [VRs] at h
  | _ :: _, [], h => by simp [VRs] at h
end

theorem BR_pr {g : G} {w : World} {Q : Nat → Prop} {b : Nat} {x : AB} (h : BR g w b x) : BR { g with Pr := Q } w b x := by
  cases x with
  | cells t xs =>
    simp only [BR] at h ⊢
    obtain ⟨cs, fz, k1, k2, k3⟩ := h
    exact ⟨cs, fz, k1, k2, VRs_pr _ _ k3.1, k3.2⟩
  | row t size gen rows =>
    simp only [BR] at h ⊢
    refine ⟨h.1, h.2.1, ?_⟩
    have hrow := h.2.2
    show RowR _ w t size rows (g.hd b gen)
    cases hd : g.hd b gen with
    | none => rw [hd] at hrow; exact hrow
    | some p =>
      obtain ⟨c, cap⟩ := p
      rw [hd] at hrow
      simp only [RowR] at hrow ⊢
      obtain ⟨cs, fz, k1, k2, k3, k4, k5, k6⟩ := hrow
      exact ⟨cs, fz, k1, k2, k3, k4, k5, VRs_pr _ _ k6.1, k6.2⟩
  | loop st pend ps f ia ib =>
    simp only [BR] at h ⊢
    obtain ⟨rec, k1, k⟩ := h
    exact ⟨rec, k1, ⟨k.st, k.pend, k.ps, VRs_pr _ _ k.f, k.ia, k.ib⟩⟩
  | dead => simp [BR]

/-- On its way out: each mark's block is shut. -/
theorem marks_leave {fd : Func} {tmps : Array Value} {rs : List IRes} {vs : List AV} {g : G} {w : World} {en : Nat} (hen : ∀ c, g.Pr c → c < en) {s : St} (hc : compRes P fd.results.toList = some rs) (hr : resOf s rs = some vs) :
    ∀ (ds : List Deferred) (g' : G) (w' : World) (a : Act), a.tmps = tmps → Ext g w g' w' → Ctx P gl a s.f g' s.h w' → (∀ d ∈ ds, MarkR en g' w' d) → ds.Nodup →
      LeavesInM (FW none) 0 P fd tmps (fun e w' => ∃ x g', e = .returned x ∧ Ext g w g' w' ∧ HR g' s.h w' ∧ VR g' w' (packR vs) x) ds .returning w'
  | [], g', w', a, ha, he, hx, _, _ => by
    obtain ⟨x, hx1, hx2⟩ := results_rel (en := 0) (g := g') (a := { a with defers := [] }) (w := w') ⟨⟨hx.gr, hx.hr, hx.fr⟩, by simp, by simp, Nat.zero_le _, rfl⟩ hc hr
    subst ha
    exact ⟨x, hx1, x, g', rfl, he, hx.hr, hx2⟩
  | d :: ds, g', w', a, ha, he, hx, hm, hn => by
    obtain ⟨D, rfl, m1, m2, m3, m4⟩ := hm d (by simp)
    refine ⟨by simp, .inl ⟨D, w'.putObj D (.deferred none), rfl, run_takeDeferred m4, ?_⟩⟩
    have hh := hx.hr
    have hold : ∀ c, c ≠ D → (w'.putObj D (.deferred none)).heap[c]? = w'.heap[c]? := fun c hc => World.putObj_heap_other hc
    have hr1 : HR { g' with Pr := fun c => g'.Pr c ∧ c ≠ D } s.h w' :=
      ⟨hh.n, fun b x hb => BR_pr (hh.br b x hb), hh.dis, fun b x c h1 h2 h3 => hh.own b x c h1 h2 h3.1, fun c hS => ⟨hh.spr c hS, fun e => m3 (e ▸ hS)⟩, fun c h => hh.prs c h.1⟩
    have e1 : Ext { g' with Pr := fun c => g'.Pr c ∧ c ≠ D } w' { g' with Pr := fun c => g'.Pr c ∧ c ≠ D } (w'.putObj D (.deferred none)) :=
      ⟨fun _ h => h, fun _ h => h, fun c hc => hold c hc.2, Nat.le_refl _, fun _ _ => rfl, fun _ _ => Nat.le_refl _, fun _ _ _ _ => rfl, by simp, rfl, rfl, rfl, fun _ h => .inl h, rfl⟩
    have hr2 : HR { g' with Pr := fun c => g'.Pr c ∧ c ≠ D } s.h (w'.putObj D (.deferred none)) :=
      ⟨hr1.n, fun b x hb => BR_mono hr1 e1 hb rfl (fun c hc => hold c (fun e => hh.own b x c hb (by cases x <;> exact hc) (e ▸ m2))), hr1.dis, hr1.own, hr1.spr, fun c hc => by have := hr1.prs c hc; simpa using this⟩
    have hf1 : VRs { g' with Pr := fun c => g'.Pr c ∧ c ≠ D } w' s.f a.tmps.toList := VRs_pr _ _ hx.fr
    refine marks_leave hen hc hr ds { g' with Pr := fun c => g'.Pr c ∧ c ≠ D } _ a ha ?_ ⟨GR_mono e1 hr1.spr hx.gr, hr2, VRs_mono e1 hr1.spr _ _ hf1⟩ ?_ (List.nodup_cons.1 hn).2
    · exact ⟨he.S, fun c hc => ⟨he.Pr c hc, fun e => by have := hen c hc; omega⟩, fun c hc => (hold c (fun e => by have := hen c hc; omega)).trans (he.pr c hc), he.N, he.m, he.gen, he.hd, by simpa using he.size, he.os, he.tape, he.output, he.Sn, he.cr⟩
    · intro d' hd'
      obtain ⟨D', rfl, n1, n2, n3, n4⟩ := hm d' (by simp [hd'])
      have hne : D' ≠ D := fun e => by subst e; exact (List.nodup_cons.1 hn).1 hd'
      exact ⟨D', rfl, n1, ⟨n2, hne⟩, n3, (hold D' hne).trans n4⟩

theorem callS_sound {p : Prg} (hp : PrgOk P p) {ev : IC → St → Option (Out × St)}
    (hev : ∀ (shf : Operand → Bool) (c : Code) (an : List (List Nat)) (s : St) (o : Out) (s' : St), ev (compC P shf c an).1 s = some (o, s') → CodeR P (Good P) p.gl (fun rd => noR c = true ∨ rd = none) (fun rd Q => c.wpIn (FW rd) 0 P Q) s o s')
    {fn : Nat} {args : List AV} {h : List AB} {v : AV} {h' : List AB} (hc : callS p ev fn args h = some (v, h')) : CallR P (Good P) p.gl fn args h v h' := by
  unfold callS at hc
  cases hF : p.fn fn with
  | none => simp only [hF] at hc; exact hp.prim fn args h v h' hc
  | some F =>
    simp only [hF] at hc
    obtain ⟨shf, fd, ann, hfd, hcomp⟩ := hp.fn fn F hF
    unfold compFn at hcomp
    split at hcomp
    · rename_i c rs hbody hres
      split at hcomp
      · cases hcomp
      · rename_i hname
        simp only [Option.some.injEq] at hcomp
        subst hcomp
        refine ⟨⟨fd, hfd, by simp [hbody], by simpa using hname⟩, ?_⟩
        intro g w vals hcr hgr hhr hvs
        have hlen := hvs.len
        have hfr : VRs g w (args ++ List.replicate (fd.ntmps - args.length) ud) (vals.toArray ++ Array.replicate (fd.ntmps - vals.toArray.size) undef).toList := by
          simp only [Array.toList_append, Array.toList_replicate, List.size_toArray, ← hlen]
          exact hvs.append (VRs.replicate _ VR_ud)
        have hsr : SR P (Good P) p.gl w.heap.size ⟨args ++ List.replicate (fd.ntmps - args.length) ud, h⟩ g { tmps := vals.toArray ++ Array.replicate (fd.ntmps - vals.toArray.size) undef, defers := [] } w :=
          ⟨⟨hgr, hhr, hfr⟩, by simp, by simp, Nat.le_refl _, hcr⟩
        have fin : ∀ (o : Out) (s' : St), ev (compC P shf c ann).1 ⟨args ++ List.replicate (fd.ntmps - args.length) ud, h⟩ = some (o, s') → (o = .ret ∨ o = .norm) → (resOf s' rs).map (fun vs => (packR vs, s'.h)) = some (v, h') →
            Calls P fn vals.toArray w fun e w' => ∃ x g', e = .returned x ∧ Ext g w g' w' ∧ HR g' h' w' ∧ VR g' w' v x := by
          intro o s' hev' ho hr
          simp only [Option.map_eq_some_iff, Prod.mk.injEq] at hr
          obtain ⟨vs, hvs', rfl, rfl⟩ := hr
          refine (callsIn_wide (n := 0)).1 (callsIn_of_wp_marks (F := FW none) hfd hbody trivial (hev shf c ann _ o s' hev' none w.heap.size g g _ w w (.inr rfl) hsr (Ext.refl g w) _ ?_) rfl)
          intro e a' w' g' k1 k2 k3
          have := marks_leave (en := w.heap.size) hhr.prs hres hvs' a'.defers g' w' a' rfl k2 k3.c k3.d k3.nd
          rcases ho with rfl | rfl
          · rw [exitR_ret k1]; exact this
          · rw [exitR_norm k1]; exact this
        split at hc
        · rename_i s' he; exact fin _ _ he (.inl rfl) hc
        · rename_i s' he; exact fin _ _ he (.inr rfl) hc
        · cases hc
    · cases hcomp

mutual
theorem VR_pure {g g' : G} {w : World} (hS : ∀ c, g.S c → g'.S c) : ∀ (x : AV) (v : Value), x.pure = true → VR g w x v → VR g' w x v
  | .p x, v, _, h => by simp only [VR] at h ⊢; exact PR_mono hS (fun _ _ => rfl) x v h
  | .ro xs, v, _, h => by
    simp only [VR] at h ⊢
    obtain ⟨b, off, rfl, hb, hp⟩ := h
    exact ⟨b, off, rfl, hS b hb, PRs_mono hS (fun _ _ => rfl) b hb off xs hp⟩
  | .agg xs, v, hp, h => by
    simp only [VR] at h ⊢
    obtain ⟨cs, rfl, h⟩ := h
    exact ⟨cs, rfl, VRs_pure hS xs _ (by simpa only [AV.pure] using hp) h⟩
  | .tup xs, v, hp, h => by
    simp only [VR] at h ⊢
    obtain ⟨cs, rfl, h⟩ := h
    exact ⟨cs, rfl, VRs_pure hS xs _ (by simpa only [AV.pure] using hp) h⟩
  | .fn f xs, v, hp, h => by
    simp only [VR] at h ⊢
    obtain ⟨cs, rfl, h⟩ := h
    exact ⟨cs, rfl, VRs_pure hS xs _ (by simpa only [AV.pure] using hp) h⟩
  | .ptr _ _, _, hp, _ => by simp [AV.pure] at hp
  | .rp _ _ _ _ _, _, hp, _ => by simp [AV.pure] at hp
  | .sl _ _ _ _ _, _, hp, _ => by simp [AV.pure] at hp
  | .mp _, _, hp, _ => by simp [AV.pure] at hp
  | .yl _, _, hp, _ => by simp [AV.pure] at hp
  | .anyp, _, hp, _ => by simp [AV.pure] at hp
  | .und, _, hp, _ => by simp [AV.pure] at hp
theorem VRs_pure {g g' : G} {w : World} (hS : ∀ c, g.S c → g'.S c) : ∀ (xs : List AV) (vs : List Value), AV.pure.pures xs = true → VRs g w xs vs → VRs g' w xs vs
  | [], [], _, _ => by simp [VRs]
  | x :: xs, v :: vs, hp, h => by
    simp only [AV.pure.pures, Bool.and_eq_true] at hp
    simp only [VRs] at h ⊢
    exact ⟨VR_pure hS x v hp.1 h.1, VRs_pure hS xs vs hp.2 h.2⟩
  | [], _ :: _, _, h => by simp [VRs] at h
  | _ :: _, [], _, h => by simp [VRs] at h
end

mutual
theorem VR_flat {g g' : G} {w w' : World} : ∀ (x : AV) (v : Value), flat x = true → VR g w x v → VR g' w' x v
  | .p (.val u), v, _, h => by simpa only [VR, PR] using h
  | .p (.lst _ _), v, hp, h => by simp [flat] at hp
  | .agg xs, v, hp, h => by
    simp only [VR] at h ⊢
    obtain ⟨cs, rfl, h⟩ := h
    exact ⟨cs, rfl, VRs_flat xs _ (by simpa only [flat] using hp) h⟩
  | .tup xs, v, hp, h => by
    simp only [VR] at h ⊢
    obtain ⟨cs, rfl, h⟩ := h
    exact ⟨cs, rfl, VRs_flat xs _ (by simpa only [flat] using hp) h⟩
  | .fn f xs, v, hp, h => by
    simp only [VR] at h ⊢
    obtain ⟨cs, rfl, h⟩ := h
    exact ⟨cs, rfl, VRs_flat xs _ (by simpa only [flat] using hp) h⟩
  | .ro _, _, hp, _ => by simp [flat] at hp
  | .ptr _ _, _, hp, _ => by simp [flat] at hp
  | .rp _ _ _ _ _, _, hp, _ => by simp [flat] at hp
  | .sl _ _ _ _ _, _, hp, _ => by simp [flat] at hp
  | .mp _, _, hp, _ => by simp [flat] at hp
  | .yl _, _, hp, _ => by simp [flat] at hp
  | .anyp, _, hp, _ => by simp [flat] at hp
  | .und, _, hp, _ => by simp [flat] at hp
theorem VRs_flat {g g' : G} {w w' : World} : ∀ (xs : List AV) (vs : List Value), flats xs = true → VRs g w xs vs → VRs g' w' xs vs
  | [], [], _, _ => by simp [VRs]
  | x :: xs, v :: vs, hp, h => by
    simp only [flats, Bool.and_eq_true] at hp
    simp only [VRs] at h ⊢
    exact ⟨VR_flat x v hp.1 h.1, VRs_flat xs vs hp.2 h.2⟩
  | [], _ :: _, _, h => by simp [VRs] at h
  | _ :: _, [], _, h => by simp [VRs] at h
end

theorem mapO_cons {α β : Type} {f : α → Option β} {x : α} {xs : List α} {ys : List β} (h : mapO f (x :: xs) = some ys) : ∃ y ys', f x = some y ∧ mapO f xs = some ys' ∧ ys = y :: ys' := by
  simp only [mapO] at h
  split at h
  · rename_i y ys' h1 h2
    simp only [Option.some.injEq] at h
    exact ⟨y, ys', h1, h2, h.symm⟩
  · cases h

/-- Cells that are read out, in memory that will stay. -/
theorem purS {g : G} {w : World} {S : Nat → Prop} {f : AV → Option PV} (hf : ∀ x v y, f x = some y → VR g w x v → PR S w y v) {c : Nat} : ∀ (xs : List AV) (ys : List PV) (vs : List Value) (off : Nat), mapO f xs = some ys → VRc g w xs vs →
    (∀ j v, vs[j]? = some v → w.cell? ⟨c, off + j, none⟩ = some v) → PRs S w c off ys ∧ ys.length = xs.length
  | [], ys, vs, off, hm, _, _ => by simp only [mapO, Option.some.injEq] at hm; subst hm; simp [PRs]
  | x :: xs, ys, vs, off, hm, hv, hc => by
    obtain ⟨y, ys', h1, h2, rfl⟩ := mapO_cons hm
    cases vs with
    | nil => exact absurd hv.1 (by simp [VRs])
    | cons v vs =>
      obtain ⟨hv1, hv2⟩ := hv
      simp only [VRs] at hv1
      obtain ⟨k1, k2⟩ := purS hf xs ys' vs (off + 1) h2 ⟨hv1.2, fun u hu => hv2 u (by simp [hu])⟩ (fun j u hj => by
        have := hc (j + 1) u (by simpa using hj)
        rwa [show off + 1 + j = off + (j + 1) from by omega])
      simp only [PRs]
      exact ⟨⟨⟨v, hc 0 v rfl, hv2 v (by simp), hf x v y h1 hv1.1⟩, k1⟩, by simp [k2]⟩

theorem purRows {g : G} {w : World} {S : Nat → Prop} {f : AV → Option PV} (hf : ∀ x v y, f x = some y → VR g w x v → PR S w y v) {c size : Nat} : ∀ (rows : List (List AV)) (ys : List (List PV)) (vs : List Value) (off : Nat), mapO (mapO f) rows = some ys →
    (∀ r ∈ rows, r.length = size) → VRc g w rows.flatten vs → (∀ j v, vs[j]? = some v → w.cell? ⟨c, off + j, none⟩ = some v) → PRr S w c off size ys ∧ ys.length = rows.length
  | [], ys, vs, off, hm, _, _, _ => by simp only [mapO, Option.some.injEq] at hm; subst hm; simp [PRr]
  | r :: rows, ys, vs, off, hm, hr, hv, hc => by
    obtain ⟨y, ys', h1, h2, rfl⟩ := mapO_cons hm
    have hrl := hr r (by simp)
    have htk : (r :: rows).flatten.take size = r := by rw [List.flatten_cons, ← hrl, List.take_left]
    have hdr : (r :: rows).flatten.drop size = rows.flatten := by rw [List.flatten_cons, ← hrl, List.drop_left]
    have e1 : VRc g w r (vs.take size) := ⟨by have := hv.1.take size; rwa [htk] at this, fun u hu => hv.2 u (List.mem_of_mem_take hu)⟩
    have e2 : VRc g w rows.flatten (vs.drop size) := ⟨by have := hv.1.drop size; rwa [hdr] at this, fun u hu => hv.2 u (List.mem_of_mem_drop hu)⟩
    obtain ⟨k1, k2⟩ := purS hf r y (vs.take size) off h1 e1 (fun j u hj => hc j u (by
      rw [List.getElem?_take] at hj
      split at hj
      · exact hj
      · cases hj))
    obtain ⟨l1, l2⟩ := purRows hf rows ys' (vs.drop size) (off + size) h2 (fun q hq => hr q (by simp [hq])) e2 (fun j u hj => by
      rw [List.getElem?_drop] at hj
      have := hc (size + j) u hj
      rwa [show off + size + j = off + (size + j) from by omega])
    simp only [PRr]
    exact ⟨⟨by rw [k2, hrl], k1, l1⟩, by simp [l2]⟩

theorem purP_rel {g : G} {h : List AB} {w : World} (hr : HR g h w) {S : Nat → Prop} (hS : ∀ c, g.S c → S c) (hO : ∀ c, c < w.heap.size → ¬ g.Pr c → S c) : ∀ (n : Nat) (x : AV) (v : Value) (y : PV), purP h n x = some y → VR g w x v → PR S w y v
  | 0, _, _, _, h, _ => by simp [purP] at h
  | n + 1, x, v, y, hp, hv => by
    cases x with
    | p x =>
      simp only [purP, Option.some.injEq] at hp
      subst hp
      simp only [VR] at hv
      exact PR_mono hS (fun _ _ => rfl) x v hv
    | sl b gen size off len =>
      simp only [purP] at hp
      simp only [VR] at hv
      obtain ⟨_, _, hsl⟩ := hv
      split at hp
      · rename_i t s g1 rows hb
        split at hp
        · rename_i hc
          obtain ⟨rfl, rfl, hle⟩ := hc
          simp only [Option.map_eq_some_iff] at hp
          obtain ⟨ys, hm, rfl⟩ := hp
          have hbr := hr.br b _ hb
          simp only [BR] at hbr
          obtain ⟨_, hr1, hrow⟩ := hbr
          have hlen : ((rows.drop off).take len).length = len := by simp; omega
          cases hd : g.hd b g1 with
          | none =>
            rw [hd] at hsl hrow
            obtain ⟨rfl, rfl, rfl⟩ := hsl
            have : ys = [] := by
              simp only [List.take_zero, mapO, Option.some.injEq] at hm
              exact hm.symm
            subst this
            simp only [PR]
            exact ⟨none, 0, rfl, by simp, by simp, .inl rfl⟩
          | some q =>
            obtain ⟨c, cap⟩ := q
            rw [hd] at hsl hrow
            obtain ⟨k1, k2, A, rfl, hA⟩ := hsl
            simp only [RowR] at hrow
            obtain ⟨cs, fz, m1, _, m3, _, m5, m6⟩ := hrow
            have hr2 : ∀ r ∈ rows.drop off, r.length = s := fun r hr => hr1 r (List.mem_of_mem_drop hr)
            have hvc : VRc g w ((rows.drop off).take len).flatten (((cs.toList.take (rows.length * s)).drop (off * s)).take (len * s)) := by
              rw [flatten_take len hr2, flatten_drop off hr1]
              exact ⟨(m6.1.drop _).take _, fun v hv => m6.2 v (List.mem_of_mem_drop (List.mem_of_mem_take hv))⟩
            have hcell : ∀ j u, (((cs.toList.take (rows.length * s)).drop (off * s)).take (len * s))[j]? = some u → w.cell? ⟨c, off * s + j, none⟩ = some u := by
              intro j u hj
              rw [List.getElem?_take] at hj
              split at hj
              · rw [List.getElem?_drop, List.getElem?_take] at hj
                split at hj
                · simp only [World.cell?, m1]
                  simpa using hj
                · cases hj
              · cases hj
            obtain ⟨n1, n2⟩ := purRows (fun x v y => purP_rel hr hS hO n x v y) _ ys _ (off * s) hm (fun r hr => hr2 r (List.mem_of_mem_take hr)) hvc hcell
            rw [hlen] at n2
            simp only [PR]
            refine ⟨A, cap - off, by rw [n2], by omega, by omega, ?_⟩
            rcases Nat.eq_zero_or_pos len with h0 | h0
            · exact .inl (by omega)
            · right
              have hA' := hA.resolve_left (by omega)
              refine ⟨c, off * s, hA', ?_, n1⟩
              have hcid : cid g b (.row t s g1 rows) = some c := by simp [cid, hd]
              exact hO c (cid_lt hr hb hcid) (hr.own b _ c hb hcid)
        · cases hp
      · cases hp
    | _ => simp [purP] at hp

mutual
theorem purA_rel {g : G} {h : List AB} {w : World} (hr : HR g h w) {g' : G} (hS : ∀ c, g.S c → g'.S c) (hO : ∀ c, c < w.heap.size → ¬ g.Pr c → g'.S c) : ∀ (x : AV) (v : Value) (y : AV), purA h x = some y → VR g w x v → VR g' w y v
  | .p x, v, y, hp, hv => by
    simp only [purA, Option.some.injEq] at hp; subst hp
    exact VR_pure hS _ v rfl hv
  | .ro xs, v, y, hp, hv => by
    simp only [purA, Option.some.injEq] at hp; subst hp
    exact VR_pure hS _ v rfl hv
  | .agg xs, v, y, hp, hv => by
    simp only [purA, Option.map_eq_some_iff] at hp
    obtain ⟨ys, hm, rfl⟩ := hp
    simp only [VR] at hv ⊢
    obtain ⟨cs, rfl, hv⟩ := hv
    exact ⟨cs, rfl, purAs_rel hr hS hO xs _ ys hm hv⟩
  | .tup xs, v, y, hp, hv => by
    simp only [purA, Option.map_eq_some_iff] at hp
    obtain ⟨ys, hm, rfl⟩ := hp
    simp only [VR] at hv ⊢
    obtain ⟨cs, rfl, hv⟩ := hv
    exact ⟨cs, rfl, purAs_rel hr hS hO xs _ ys hm hv⟩
  | .fn f xs, v, y, hp, hv => by
    simp only [purA, Option.map_eq_some_iff] at hp
    obtain ⟨ys, hm, rfl⟩ := hp
    simp only [VR] at hv ⊢
    obtain ⟨cs, rfl, hv⟩ := hv
    exact ⟨cs, rfl, purAs_rel hr hS hO xs _ ys hm hv⟩
  | .ptr b off, v, y, hp, hv => by
    simp only [purA] at hp
    split at hp
    · rename_i xs hb
      simp only [Option.map_eq_some_iff] at hp
      obtain ⟨ys, hm, rfl⟩ := hp
      simp only [VR] at hv ⊢
      obtain ⟨_, rfl⟩ := hv
      have hbr := hr.br b _ hb
      simp only [BR] at hbr
      obtain ⟨cs, fz, k1, _, k3⟩ := hbr
      have hvc : VRc g w (xs.drop off) (cs.toList.drop off) := ⟨k3.1.drop off, fun u hu => k3.2 u (List.mem_of_mem_drop hu)⟩
      obtain ⟨n1, _⟩ := purS (fun x v y => purP_rel hr hS hO 50 x v y) (c := g.m b) _ ys _ off hm hvc (fun j u hj => by
        rw [List.getElem?_drop] at hj
        simp only [World.cell?, k1]
        simpa using hj)
      exact ⟨g.m b, off, rfl, hO _ (cid_lt hr hb rfl) (hr.own b _ _ hb rfl), n1⟩
    · cases hp
  | .sl b ge s o l, v, y, hp, hv => by
    simp only [purA, Option.map_eq_some_iff] at hp
    obtain ⟨z, hm, rfl⟩ := hp
    have := purP_rel hr hS hO 50 _ v z hm hv
    simpa only [VR] using this
  | .rp _ _ _ _ _, _, _, hp, _ => by simp [purA] at hp
  | .mp _, _, _, hp, _ => by simp [purA] at hp
  | .yl _, _, _, hp, _ => by simp [purA] at hp
  | .anyp, _, _, hp, _ => by simp [purA] at hp
  | .und, _, _, hp, _ => by simp [purA] at hp
theorem purAs_rel {g : G} {h : List AB} {w : World} (hr : HR g h w) {g' : G} (hS : ∀ c, g.S c → g'.S c) (hO : ∀ c, c < w.heap.size → ¬ g.Pr c → g'.S c) : ∀ (xs : List AV) (vs : List Value) (ys : List AV), purAs h xs = some ys → VRs g w xs vs → VRs g' w ys vs
  | [], vs, ys, hp, hv => by
    simp only [purAs, Option.some.injEq] at hp; subst hp
    cases vs with
    | nil => simp [VRs]
    | cons _ _ => simp [VRs] at hv
  | x :: xs, vs, ys, hp, hv => by
    simp only [purAs] at hp
    split at hp
    · rename_i y ys' h1 h2
      simp only [Option.some.injEq] at hp; subst hp
      cases vs with
      | nil => simp [VRs] at hv
      | cons v vs =>
        simp only [VRs] at hv ⊢
        exact ⟨purA_rel hr hS hO x v y h1 hv.1, purAs_rel hr hS hO xs vs ys' h2 hv.2⟩
    · cases hp
end

/-- A caller's state behind a call that has only made blocks. -/
theorem HR.after {g g1 : G} {h : List AB} {w w1 : World} (hr : HR g h w) {S0 : Nat → Prop} (h1 : Ext { g with S := S0, Pr := fun c => c < w.heap.size, N := 0 } w g1 w1) (Sx : Nat → Prop) (hSx : ∀ c, Sx c → w.heap.size ≤ c ∧ c < w1.heap.size) :
    Ext g w { g with S := fun c => g.S c ∨ Sx c, Pr := fun c => g.Pr c ∨ Sx c } w1 ∧ HR { g with S := fun c => g.S c ∨ Sx c, Pr := fun c => g.Pr c ∨ Sx c } h w1 := by
  have hold : ∀ c, c < w.heap.size → w1.heap[c]? = w.heap[c]? := fun c hc => h1.pr c hc
  have he : Ext g w { g with S := fun c => g.S c ∨ Sx c, Pr := fun c => g.Pr c ∨ Sx c } w1 :=
    ⟨fun c hc => .inl hc, fun c hc => .inl hc, fun c hc => hold c (hr.prs c hc), Nat.le_refl _, fun _ _ => rfl, fun _ _ => Nat.le_refl _, fun _ _ _ _ => rfl, h1.size, h1.os, h1.tape, h1.output,
     fun c hc => hc.elim .inl (fun h => .inr (hSx c h).1), rfl⟩
  have hcid : ∀ b x, cid { g with S := fun c => g.S c ∨ Sx c, Pr := fun c => g.Pr c ∨ Sx c } b x = cid g b x := fun b x => by cases x <;> rfl
  refine ⟨he, ⟨hr.n, fun b x hb => BR_mono hr he hb rfl (fun c hc => hold c (cid_lt hr hb hc)), ?_, ?_, ?_, ?_⟩⟩
  · intro b b' x x' c k1 k2 k3 k4
    rw [hcid] at k3 k4
    exact hr.dis b b' x x' c k1 k2 k3 k4
  · intro b x c k1 k2
    rw [hcid] at k2
    rintro (k3 | k3)
    · exact hr.own b x c k1 k2 k3
    · have := cid_lt hr k1 k2
      have := (hSx c k3).1
      omega
  · rintro c (k | k)
    · exact .inl (hr.spr c k)
    · exact .inr k
  · rintro c (k | k)
    · exact Nat.lt_of_lt_of_le (hr.prs c k) h1.size
    · exact (hSx c k).2

theorem callP_sound {p : Prg} (hp : PrgOk P p) {ev : IC → St → Option (Out × St)}
    (hev : ∀ (shf : Operand → Bool) (c : Code) (an : List (List Nat)) (s : St) (o : Out) (s' : St), ev (compC P shf c an).1 s = some (o, s') → CodeR P (Good P) p.gl (fun rd => noR c = true ∨ rd = none) (fun rd Q => c.wpIn (FW rd) 0 P Q) s o s')
    {fn : Nat} {args : List AV} {h : List AB} {v : AV} (hc : callP p ev fn args h = some v) : CallR P (Good P) p.gl fn args h v h := by
  unfold callP at hc
  split at hc
  · rename_i hpure
    split at hc
    · rename_i v0 h0 hcs
      obtain ⟨hfd, hcall⟩ := callS_sound hp hev hcs
      refine ⟨hfd, ?_⟩
      intro g w vals hcr hgr hhr hvs
      have hr0 : HR { g with Pr := fun c => c < w.heap.size, N := 0 } [] w := ⟨rfl, by simp, by simp, by simp, fun c hc => hhr.prs c (hhr.spr c hc), fun c hc => hc⟩
      have hv0 := VRs_pure (g := g) (g' := { g with Pr := fun c => c < w.heap.size, N := 0 }) (fun c hc => hc) args vals hpure hvs
      refine (hcall { g with Pr := fun c => c < w.heap.size, N := 0 } w vals hcr hgr hr0 hv0).mono ?_
      rintro e w1 ⟨x, g1, rfl, e1, r1, v1⟩
      obtain ⟨e2, r2⟩ := HR.after hhr e1 (fun c => w.heap.size ≤ c ∧ c < w1.heap.size) (fun c hc => hc)
      refine ⟨x, _, rfl, e2, r2, ?_⟩
      refine purA_rel r1 ?_ ?_ v0 x v hc v1
      · intro c hc1
        rcases e1.Sn c hc1 with h | h
        · exact .inl h
        · exact .inr ⟨h, r1.prs c (r1.spr c hc1)⟩
      · intro c hlt hnp
        rcases Nat.lt_or_ge c w.heap.size with h | h
        · exact absurd (e1.Pr c h) hnp
        · exact .inr ⟨h, hlt⟩
    · cases hc
  · split at hc
    · rename_i args' hpa
      split at hc
      · rename_i v0 h0 hcs
        split at hc
        · rename_i hflat
          simp only [Option.some.injEq] at hc
          subst hc
          obtain ⟨hfd, hcall⟩ := callS_sound hp hev hcs
          refine ⟨hfd, ?_⟩
          intro g w vals hcr hgr hhr hvs
          have hr0 : HR { g with S := fun c => c < w.heap.size, Pr := fun c => c < w.heap.size, N := 0 } [] w := ⟨rfl, by simp, by simp, by simp, fun c hc => hc, fun c hc => hc⟩
          have hS : ∀ c, g.S c → c < w.heap.size := fun c hc => hhr.prs c (hhr.spr c hc)
          have hv0 := purAs_rel hhr (g' := { g with S := fun c => c < w.heap.size, Pr := fun c => c < w.heap.size, N := 0 }) hS (fun c hc _ => hc) args vals args' hpa hvs
          have hgr0 : GR { g with S := fun c => c < w.heap.size, Pr := fun c => c < w.heap.size, N := 0 } w p.gl := fun n xs hx => ⟨hS n (hgr n xs hx).1, PRs_mono hS (fun _ _ => rfl) n (hgr n xs hx).1 0 xs (hgr n xs hx).2⟩
          refine (hcall { g with S := fun c => c < w.heap.size, Pr := fun c => c < w.heap.size, N := 0 } w vals hcr hgr0 hr0 hv0).mono ?_
          rintro e w1 ⟨x, g1, rfl, e1, r1, v1⟩
          obtain ⟨e2, r2⟩ := HR.after hhr e1 (fun _ => False) (fun c hc => hc.elim)
          exact ⟨x, _, rfl, e2, r2, VR_flat _ x hflat v1⟩
        · cases hc
      · cases hc
    · cases hc

theorem setPs_rel {g : G} {w : World} : ∀ (ps : List Nat) (f args : List AV) (tmps vals : List Value), VRs g w f tmps → VRs g w args vals → args.length = ps.length →
    VRs g w (setPs f ps args) ((ps.zip vals).foldl (fun tmps (t, a) => tmps.set t a) tmps)
  | [], f, args, tmps, vals, h1, _, _ => by cases args <;> simpa [setPs] using h1
  | p :: ps, f, [], tmps, vals, _, _, hl => by simp at hl
  | p :: ps, f, x :: xs, tmps, [], _, h2, _ => by simp [VRs] at h2
  | p :: ps, f, x :: xs, tmps, v :: vs, h1, h2, hl => by
    simp only [VRs] at h2
    simp only [setPs, List.zip_cons_cons, List.foldl_cons]
    exact setPs_rel ps _ xs _ vs (h1.set h2.1) h2.2 (by simpa using hl)

theorem foldl_setIf : ∀ (l : List (Nat × Value)) (t : Array Value), (l.foldl (fun tmps (t, a) => tmps.setIfInBounds t a) t).toList = l.foldl (fun tmps (t, a) => tmps.set t a) t.toList
  | [], _ => rfl
  | (i, x) :: l, t => by simp only [List.foldl_cons]; rw [foldl_setIf l]; simp [Array.toList_setIfInBounds]

/-- The record's state turns. -/
theorem HR.reloop {g : G} {h : List AB} {w : World} (hr : HR g h w) {b st : Nat} {pend : Option (Option Nat)} {ps : List Nat} {f : List AV} {ia ib : IC} (hb : h[b]? = some (.loop st pend ps f ia ib)) {rec : Loop} (hrec : w.heap[g.m b]? = some (.loop rec))
    (st' : Nat) (pend' : Option (Option Nat)) :
    Ext g w g (w.putObj (g.m b) (.loop { rec with state := stOf st', pending := pendOf pend' })) ∧ HR g (h.set b (.loop st' pend' ps f ia ib)) (w.putObj (g.m b) (.loop { rec with state := stOf st', pending := pendOf pend' })) := by
  have hcid : cid g b (.loop st pend ps f ia ib) = some (g.m b) := rfl
  have hold : ∀ c, c ≠ g.m b → (w.putObj (g.m b) (.loop { rec with state := stOf st', pending := pendOf pend' })).heap[c]? = w.heap[c]? := fun c hc => World.putObj_heap_other hc
  have e : Ext g w g (w.putObj (g.m b) (.loop { rec with state := stOf st', pending := pendOf pend' })) :=
    ⟨fun _ h => h, fun _ h => h, fun c hc => hold c (fun e => hr.own _ _ _ hb hcid (e ▸ hc)), Nat.le_refl _, fun _ _ => rfl, fun _ _ => Nat.le_refl _, fun _ _ _ _ => rfl, by simp, rfl, rfl, rfl, fun _ h => .inl h, rfl⟩
  have hl : LoopR g w st pend ps f ia ib rec := by
    have := hr.br b _ hb
    simp only [BR] at this
    obtain ⟨rec', h1, h2⟩ := this
    rw [hrec] at h1
    simp only [Option.some.injEq, Obj.loop.injEq] at h1
    rw [h1]; exact h2
  refine ⟨e, HR.upd hr hb e rfl rfl rfl (fun _ _ => rfl) (fun c _ hc => hold c (fun e => hc (by rw [hcid, e]))) ?_ (fun c hc => .inl hc)⟩
  simp only [BR]
  exact ⟨_, World.putObj_heap_same (heap_lt hrec), ⟨rfl, rfl, hl.ps, VRs_mono e hr.spr _ _ hl.f, hl.ia, hl.ib⟩⟩

theorem loopR_of {g : G} {h : List AB} {w : World} (hr : HR g h w) {b st : Nat} {pend : Option (Option Nat)} {ps : List Nat} {f : List AV} {ia ib : IC} (hb : h[b]? = some (.loop st pend ps f ia ib)) : ∃ rec, w.heap[g.m b]? = some (.loop rec) ∧ LoopR g w st pend ps f ia ib rec := by
  have := hr.br b _ hb
  simpa only [BR] using this

theorem endY_spec {o : Out} {b : Nat} {h h' : List AB} {v : AV} (he : endY o b h = some (v, h')) :
    ∃ st pend ps f ia ib st' pend', h[b]? = some (.loop st pend ps f ia ib) ∧ h' = h.set b (.loop st' pend' ps f ia ib) ∧ v = vb pend'.isNone ∧ st' = (if pend'.isNone then 0 else 2) ∧
      ((o = .norm ∧ pend' = none) ∨ (o = .ret ∧ pend' = some none) ∨ (∃ id, o = .brk id ∧ pend' = some (some id))) := by
  unfold endY at he
  split at he
  · rename_i e
    split at he
    all_goals
      simp only [Option.some.injEq, Prod.mk.injEq] at he
      obtain ⟨rfl, rfl⟩ := he
      refine ⟨_, _, _, _, _, _, _, _, e, rfl, rfl, rfl, ?_⟩
      simp
  · cases he

theorem callY_sound {gl : Nat → Option (List PV)} {ev : IC → St → Option (Out × St)}
    (hev : ∀ (shf : Operand → Bool) (c : Code) (an : List (List Nat)) (s : St) (o : Out) (s' : St), ev (compC P shf c an).1 s = some (o, s') → CodeR P (Good P) gl (fun rd => noR c = true ∨ rd = none) (fun rd Q => c.wpIn (FW rd) 0 P Q) s o s')
    {b : Nat} {args : List AV} {h : List AB} {v : AV} {h' : List AB} (hc : callY ev b args h = some (v, h')) : YieldR P (Good P) gl b args h v h' := by
  unfold callY at hc
  split at hc
  rotate_left
  · cases hc
  rename_i ps f ia ib hb
  split at hc
  rotate_left
  · cases hc
  rename_i hlen
  split at hc
  rotate_left
  · cases hc
  rename_i s1 hev1
  split at hc
  rotate_left
  · cases hc
  rename_i ps1 f1 ia1 ib1 hb1
  split at hc
  rotate_left
  · cases hc
  rename_i r hev2
  obtain ⟨o, s2⟩ := r
  obtain ⟨st3, pend3, ps3, f3, ia3, ib3, st', pend', hb3, rfl, rfl, hst', ho⟩ := endY_spec hc
  refine ⟨0, none, ps, f, ia, ib, hb, hlen, ?_⟩
  intro rd g w vals rec hcr hgr hr hvs hrec
  obtain ⟨rec', hrec', hl⟩ := loopR_of hr hb
  rw [hrec] at hrec'
  simp only [Option.some.injEq, Obj.loop.injEq] at hrec'
  subst hrec'
  have hia := hl.ia
  have hib := hl.ib
  rw [hcr] at hia hib
  obtain ⟨⟨sh1, an1, c1⟩, n1⟩ := hia
  obtain ⟨⟨sh2, an2, c2⟩, n2⟩ := hib
  have hbN : b < g.N := hr.lt hb
  refine roundIn_of_wpIn trivial ?_
  have hsr : SR P (Good P) gl 0 ⟨setPs f ps args, h⟩ g { tmps := (rec.params.zip vals.toArray).foldl (fun tmps (t, a) => tmps.setIfInBounds t a) rec.tmps, defers := [] } w := by
    refine ⟨⟨hgr, hr, ?_⟩, by simp, by simp, Nat.zero_le _, hcr⟩
    have h1 := setPs_rel ps f args rec.tmps.toList vals hl.f hvs hlen
    have h2 : ((rec.params.zip vals.toArray).foldl (fun tmps (t, a) => tmps.setIfInBounds t a) rec.tmps).toList = (ps.zip vals).foldl (fun tmps (t, a) => tmps.set t a) rec.tmps.toList := by
      rw [← Array.foldl_toList, foldl_setIf]
      congr 1
      rw [Array.toList_zip, hl.ps]
    show VRs g w _ _
    rw [h2]
    exact h1
  rw [← c1] at hev1
  refine hev sh1 rec.assign an1 _ .norm s1 hev1 (some (g.m b)) 0 g g _ w w (.inl n1) hsr (Ext.refl g w) _ ?_
  intro e a1 w1 g1 k1 k2 k3
  rw [exitR_norm k1]
  obtain ⟨rec1, hrec1, hl1⟩ := loopR_of k3.c.hr hb1
  have hm1 : g1.m b = g.m b := k2.m b hbN
  obtain ⟨e2, r2⟩ := k3.c.hr.reloop hb1 hrec1 1 none
  have hbusy : ({ rec1 with state := stOf 1, pending := pendOf none } : Loop) = { rec1 with state := .busy } := by
    have hp := hl1.pend
    cases rec1
    simp only [pendOf] at hp
    simp [stOf, pendOf, hp]
  have hsr2 : SR P (Good P) gl 0 ⟨s1.f, s1.h.set b (.loop 1 none ps1 f1 ia1 ib1)⟩ g1 a1 (w1.putObj (g1.m b) (.loop { rec1 with state := stOf 1, pending := pendOf none })) :=
    ⟨⟨GR_mono e2 k3.c.hr.spr k3.c.gr, r2, VRs_mono e2 k3.c.hr.spr _ _ k3.c.fr⟩, fun d hd => (k3.d d hd).ext e2 k3.c.hr.prs, k3.nd, Nat.zero_le _, k3.cr⟩
  have hrec1' : w1.heap[g.m b]? = some (.loop rec1) := by rw [← hm1]; exact hrec1
  refine ⟨_, run_beginRound hrec1' hl1.st, ?_⟩
  rw [← c2] at hev2
  rw [hbusy, hm1] at hsr2
  rw [hbusy, hm1] at e2
  refine hev sh2 rec.body an2 _ o s2 hev2 (some (g.m b)) 0 g g1 a1 w _ (.inl n2) hsr2 (k2.trans e2) _ ?_
  intro e a2 w2 g2 m1 m2 m3
  obtain ⟨rec2, hrec2, hl2⟩ := loopR_of m3.c.hr hb3
  have hm2 : g2.m b = g.m b := m2.m b hbN
  obtain ⟨e4, r4⟩ := m3.c.hr.reloop hb3 hrec2 st' pend'
  have hend : (Instr.endRound (g.m b) (pendOf pend')).run P w2 = .ok (.bool pend'.isNone) (w2.putObj (g2.m b) (.loop { rec2 with state := stOf st', pending := pendOf pend' })) := by
    rw [← hm2, run_endRound _ hrec2]
    have h1 : (pendOf pend').isNone = pend'.isNone := by rcases pend' with _ | _ | _ <;> rfl
    have h2 : stOf st' = if (pendOf pend').isNone then .ready else .done := by rw [hst', h1]; rcases pend' with _ | _ | _ <;> rfl
    rw [h1, h2, h1]
  have hfin : ∃ x g', Ending.returned (Value.bool pend'.isNone) = .returned x ∧ Ext g w g' (w2.putObj (g2.m b) (.loop { rec2 with state := stOf st', pending := pendOf pend' })) ∧
      HR g' (s2.h.set b (.loop st' pend' ps3 f3 ia3 ib3)) (w2.putObj (g2.m b) (.loop { rec2 with state := stOf st', pending := pendOf pend' })) ∧
      VR g' (w2.putObj (g2.m b) (.loop { rec2 with state := stOf st', pending := pendOf pend' })) (vb pend'.isNone) x := ⟨_, g2, rfl, m2.trans e4, r4, by simp [VR, PR]⟩
  rcases ho with ⟨rfl, rfl⟩ | ⟨rfl, rfl⟩ | ⟨id, rfl, rfl⟩
  · rw [exitR_norm m1]; exact ⟨_, _, hend, hfin⟩
  · rw [exitR_ret m1]; exact ⟨_, _, hend, hfin⟩
  · rw [exitR_brk m1]; exact ⟨_, _, hend, hfin⟩

/-- The whole: at whatever fuel. -/
theorem eval_sound {p : Prg} (hp : PrgOk P p) : ∀ (n : Nat),
    (∀ (shf : Operand → Bool) (c : Code) (an : List (List Nat)) (s : St) (o : Out) (s' : St), evalN p n (compC P shf c an).1 s = some (o, s') → CodeR P (Good P) p.gl (fun rd => noR c = true ∨ rd = none) (fun rd Q => c.wpIn (FW rd) 0 P Q) s o s') ∧ LoopS P (Good P) p.gl (evalN p n)
  | 0 => ⟨by intro shf c an s o s' h; simp [evalN] at h, by intro n live b s o s' h; simp [evalN] at h⟩
  | n + 1 => by
    obtain ⟨h1, h2⟩ := eval_sound hp n
    have hE : Sound P (Good P) (envOf p (evalN p n)) := ⟨fun fn args h v hc => callP_sound hp h1 hc, fun fn args h v h' hc => callS_sound hp h1 hc, fun b args h v h' hc => callY_sound h1 hc⟩
    exact ⟨fun shf c an s o s' h => run_sound hE h2 rfl c an s o s' h, loopS_run hE h2 rfl⟩

theorem call_sound_all {p : Prg} (hp : PrgOk P p) {n fn : Nat} {args : List AV} {h h' : List AB} {v : AV} (hc : callS p (evalN p n) fn args h = some (v, h')) : CallR P (Good P) p.gl fn args h v h' :=
  callS_sound hp (eval_sound hp n).1 hc

theorem callP_sound_all {p : Prg} (hp : PrgOk P p) {n fn : Nat} {args : List AV} {h : List AB} {v : AV} (hc : callP p (evalN p n) fn args h = some v) : CallR P (Good P) p.gl fn args h v h :=
  callP_sound hp (eval_sound hp n).1 hc

end
end Go.Vs
