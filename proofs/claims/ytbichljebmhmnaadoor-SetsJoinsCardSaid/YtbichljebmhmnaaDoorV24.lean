/- The abstract machine with hints: at some operations and loops the outcome is told, and what is to be shown of it is noted. For closed checks by the kernel, over values that are not known. -/
import Derived.Test.YtbichljebmhmnaaDoorV21
namespace Go.Vs
set_option linter.unusedSimpArgs false
set_option linter.unusedVariables false
open Go Go.RowKit

/-- d: a truth value that is told; v: a value that is told, the blocks as they were; r: a value and the blocks; l: how a block of code ends. -/
inductive Hint where
  | d (b : Bool)
  | v (x : AV)
  | r (x : AV) (h : List AB)
  | l (o : Out) (s : St)

def look : Nat → List (Nat × Hint) → Option Hint
  | _, [] => none
  | n, (k, x) :: r => if n.beq k = true then some x else look n r

def keyOf (o : IOp) : Nat :=
  match o.dst with
  | some d => d
  | none => match o.ins with
    | .store _ (.t a) _ => 1000 + a
    | .call _ _ _ => 4000
    | _ => 5000

/-- A loop from its head on, where what is not live is let go already. -/
noncomputable def evH (p : Prg) (m : Nat) (live : List Nat) (b : IC) (s : St) : Option (Out × St) := loopK (ev p) m live b (run (envOf p (ev p)) (ev p) b s)
theorem evH_loop (p : Prg) (live : List Nat) (b : IC) (s : St) : ev p (.loop live b) s = evH p s.h.length live b (trim s.h.length live s) := by
  rw [ev_eq, show s = ⟨s.f, s.h⟩ from rfl, run_loop]
  rfl
theorem evH_at (p : Prg) (m : Nat) (live : List Nat) (b : IC) (s : St) : ev p (.loopAt m live b) s = evH p m live b (trim m live s) := by
  rw [ev_loopAt]
  rfl

/-- Whether the blocks made since a loop began may go: what the elder ones hold names none of them. -/
def okT (m : Nat) (h : List AB) : Bool := m ≤ h.length && (h.take m).all (AB.blw m)
theorem trim_ok {m : Nat} {live : List Nat} {s : St} (h : okT m s.h = true) : trim m live s = ⟨keepL m live 0 s.f, s.h.take m⟩ := by
  unfold trim
  unfold okT at h
  rw [if_pos h]

/-- What is to be shown where a block's outcome is told. -/
def blockP (p : Prg) (t : Bool) (b : IC) (s : St) (o : Out) (s1 : St) : List Prop :=
  match b with
  | .loop live b' => match t with
    | true => [okT s.h.length s.h = true, evH p s.h.length live b' ⟨keepL s.h.length live 0 s.f, s.h.take s.h.length⟩ = some (o, s1)]
    | false => [evH p s.h.length live b' (trim s.h.length live s) = some (o, s1)]
  | b => [ev p b s = some (o, s1)]

def binA (op : BinOp) : AV → AV → Option AV
  | .p (.val a), .p (.val b) => (binV op a b).map fun v => .p (.val v)
  | _, _ => none
def convA (k : IntKind) (x : AV) : Option AV := (idx x).map fun n => vi k (k.wrap n)
/-- A row of a slice. -/
def idxA (size : Nat) : AV → AV → Option AV
  | .p (.lst s rows), i => (idx i).bind fun k => if s = size ∧ 0 ≤ k then (rows[k.toNat]?).map .ro else none
  | .sl b gen s off len, i => (idx i).bind fun k => if s = size ∧ 0 ≤ k ∧ k < len then some (.rp b gen s (off + k.toNat) 0) else none
  | _, _ => none
def ldA (h : List AB) (agg : Bool) (size : Nat) (x : AV) : Option AV := (loadA h size x).bind (oneOr agg)
def stA (h : List AB) (size : Nat) (a v : AV) : Option (List AB) := (cellsOf v).bind fun cs => if cs.length = size then storeA h cs a else none
def appA (h : List AB) (t : TypeId) (size bytes : Nat) (x y : AV) : Option (AV × List AB) := (rowsOf h size y).bind fun news => appendA h t size bytes x news
def cvB (h : List AB) : AV → Option AV
  | .p (.val (.string _)) => none
  | v => (rowsOf h 1 v).bind fun rows => (bytesOf rows).map fun l => vs ⟨l.toArray⟩
/-- A part of an own slice. -/
def slA (h : List AB) (sz : Nat) (x : AV) (lo hi : Option Int) : Option AV :=
  match x with
  | .sl b gen size off len => if size = sz then lo.bind fun l => hi.bind fun r =>
      match h[b]? with
      | some (.row _ _ g rows) =>
        if g = gen ∧ 0 ≤ l ∧ l ≤ r ∧ off + r.toNat ≤ rows.length ∧ off + len ≤ rows.length then some (.sl b gen size (off + l.toNat) (r.toNat - l.toNat)) else none
      | _ => none
      else none
  | _ => none

/-- What is to be shown where an operation's outcome is told. -/
def stepP (p : Prg) (i : Ins) (s : St) (v : AV) (h : List AB) : Prop :=
  match i with
  | .call false fo args => match fo.ev s.f p.gl with
    | .fn g caps => CP p g (args.map (·.ev s.f p.gl) ++ caps) s.h = some v ∧ h = s.h
    | _ => False
  | .call true fo args => match fo.ev s.f p.gl with
    | .fn g caps => CS p g (args.map (·.ev s.f p.gl) ++ caps) s.h = some (v, h)
    | .yl b => callY (ev p) b (args.map (·.ev s.f p.gl)) s.h = some (v, h)
    | _ => False
  | .append t size bytes _ x y => appA s.h t size bytes (x.ev s.f p.gl) (y.ev s.f p.gl) = some (v, h)
  | .store size a x => stA s.h size (a.ev s.f p.gl) (x.ev s.f p.gl) = some h ∧ v = ud
  | i => evI p.gl s.f s.h i = some (v, h)

/-- The same for an operation that leaves the blocks as they are. -/
def stepV (p : Prg) (i : Ins) (s : St) (v : AV) : Prop :=
  match i with
  | .call false fo args => match fo.ev s.f p.gl with
    | .fn g caps => CP p g (args.map (·.ev s.f p.gl) ++ caps) s.h = some v
    | _ => False
  | .bin op x y => binA op (x.ev s.f p.gl) (y.ev s.f p.gl) = some v
  | .convI k x => convA k (x.ev s.f p.gl) = some v
  | .indexA none size x i => idxA size (x.ev s.f p.gl) (i.ev s.f p.gl) = some v
  | .load agg size x => ldA s.h agg size (x.ev s.f p.gl) = some v
  | .convB x => cvB s.h (x.ev s.f p.gl) = some v
  | .slice sz x lo hi => match x.ev s.f p.gl with
    | .sl b gen size off len => slA s.h sz (.sl b gen size off len) (idxO s.f p.gl 0 lo) (idxO s.f p.gl len hi) = some v
    | _ => stepP p (.slice sz x lo hi) s v s.h
  | i => stepP p i s v s.h

def AllP : List Prop → Prop
  | [] => True
  | [q] => q
  | q :: qs => q ∧ AllP qs

def tOf : Option Hint → Bool
  | some (.d b) => b
  | _ => false

theorem AllP_cons {q : Prop} {qs : List Prop} : AllP (q :: qs) ↔ q ∧ AllP qs := by
  cases qs <;> simp [AllP]
theorem AllP_append {qs rs : List Prop} : AllP (qs ++ rs) ↔ AllP qs ∧ AllP rs := by
  induction qs with
  | nil => simp [AllP]
  | cons q qs ih => simp only [List.cons_append, AllP_cons, ih, and_assoc]

def opD (p : Prg) (n : Nat) (H : List (Nat × Hint)) (o : IOp) (s : St) : Option (List Prop × St) :=
  match wantedA s.f o.guard with
  | none => none
  | some false => some ([], ⟨putA s.f o.dst ud, s.h⟩)
  | some true => match look (keyOf o) H with
    | none => (stepI (envOf p (evalN p n)) o.ins s).map fun r => ([], ⟨putA s.f o.dst r.1, r.2⟩)
    | some (.d b) => (stepI (envOf p (evalN p n)) o.ins s).map fun r => ([r.1 = vb b], ⟨putA s.f o.dst (vb b), r.2⟩)
    | some (.v x) => some ([stepV p o.ins s x], ⟨putA s.f o.dst x, s.h⟩)
    | some (.r x h) => some ([stepP p o.ins s x h], ⟨putA s.f o.dst x, h⟩)
    | some (.l _ _) => none

def opsD (p : Prg) (n : Nat) (H : List (Nat × Hint)) : List IOp → St → Option (List Prop × St)
  | [], s => some ([], s)
  | o :: os, s => match opD p n H o s with
    | some (ps, s1) => match opsD p n H os s1 with
      | some (qs, s2) => some (ps ++ qs, s2)
      | none => none
    | none => none

def blockO (id : Nat) : Out → Out
  | .brk i => if i.beq id = true then .norm else .brk i
  | o => o

def runD (p : Prg) (n : Nat) (H : List (Nat × Hint)) : IC → St → Option (List Prop × Out × St)
  | .skip, s => some ([], .norm, s)
  | .ops l, s => match opsD p n H l s with
    | some (ps, s1) => some (ps, .norm, s1)
    | none => none
  | .seq a b, s => match runD p n H a s with
    | some (ps, .norm, s1) => match runD p n H b s1 with
      | some (qs, o, s2) => some (ps ++ qs, o, s2)
      | none => none
    | r => r
  | .cond c x y, s => match c.ev s.f p.gl with
    | .p (.val (.bool b)) => if b then runD p n H x s else runD p n H y s
    | _ => none
  | .block id b, s => match look (2000 + id) H with
    | some (.l o s1) => some (blockP p (tOf (look 6000 H)) b s o s1, blockO id o, s1)
    | _ => match runD p n H b s with
      | some (ps, o, s1) => some (ps, blockO id o, s1)
      | none => none
  | .exit id, s => some ([], .brk id, s)
  | .ret, s => some ([], .ret, s)
  | c, s => match evalN p n c s with
    | some (o, s1) => some ([], o, s1)
    | none => none

section
variable {p : Prg} {n : Nat} {H : List (Nat × Hint)}

theorem stepP_ok {i : Ins} {s : St} {v : AV} {h : List AB} (hp : stepP p i s v h) : stepI (envOf p (ev p)) i s = some (v, h) := by
  cases i
  case call sh fo args =>
    cases sh with
    | false =>
      simp only [stepP] at hp
      simp only [stepI, envOf_gl]
      split at hp
      · rename_i g caps e
        rw [e]
        simp only [envOf_callP, hp.1, Option.map_some, hp.2]
      · exact hp.elim
    | true =>
      simp only [stepP] at hp
      simp only [stepI, envOf_gl]
      split at hp
      · rename_i g caps e
        rw [e]
        simp only [envOf_callS, hp]
      · rename_i b e
        rw [e]
        exact hp
      · exact hp.elim
  case store size a x =>
    obtain ⟨hp, rfl⟩ := hp
    simp only [stepI, envOf_gl, evI]
    unfold stA at hp
    obtain ⟨cs, hcs, hp⟩ := Option.bind_eq_some_iff.1 hp
    rw [hcs]
    simp only [Option.bind_some]
    split at hp
    · rename_i hl
      rw [if_pos hl, hp]
      rfl
    · cases hp
  all_goals exact hp

theorem stepV_ok {i : Ins} {s : St} {v : AV} (hp : stepV p i s v) : stepI (envOf p (ev p)) i s = some (v, s.h) := by
  cases i
  case call sh fo args =>
    cases sh with
    | false =>
      simp only [stepV] at hp
      simp only [stepI, envOf_gl]
      split at hp
      · rename_i g caps e
        rw [e]
        simp only [envOf_callP, hp, Option.map_some]
      · exact hp.elim
    | true => exact stepP_ok hp
  case bin op x y =>
    simp only [stepV] at hp
    simp only [stepI, envOf_gl, evI]
    unfold binA at hp
    split at hp
    · rename_i a b e1 e2
      rw [e1, e2]
      obtain ⟨r, hr, rfl⟩ := Option.map_eq_some_iff.1 hp
      simp only [hr, Option.map_some]
    · cases hp
  case convI k x =>
    simp only [stepV, convA] at hp
    simp only [stepI, envOf_gl, evI]
    obtain ⟨n, hn, rfl⟩ := Option.map_eq_some_iff.1 hp
    simp only [hn, Option.map_some]
  case load agg size x =>
    simp only [stepV, ldA] at hp
    simp only [stepI, envOf_gl, evI]
    obtain ⟨cs, hcs, hp⟩ := Option.bind_eq_some_iff.1 hp
    simp only [hcs, Option.bind_some, hp, Option.map_some]
  case convB x =>
    simp only [stepV] at hp
    simp only [stepI, envOf_gl, evI]
    unfold cvB at hp
    split at hp
    · cases hp
    · rename_i hno
      obtain ⟨rows, hr, hp⟩ := Option.bind_eq_some_iff.1 hp
      obtain ⟨l, hl, rfl⟩ := Option.map_eq_some_iff.1 hp
      split
      · rename_i q e
        exact absurd e (hno q)
      · simp only [hr, Option.bind_some, hl, Option.map_some]
  case slice sz x lo hi =>
    simp only [stepV] at hp
    split at hp
    · rename_i b gen size off len e
      simp only [stepI, envOf_gl, evI, e]
      unfold slA at hp
      simp only at hp
      split at hp
      · rename_i hs
        rw [if_pos hs]
        obtain ⟨l, hl, hp⟩ := Option.bind_eq_some_iff.1 hp
        obtain ⟨r, hr, hp⟩ := Option.bind_eq_some_iff.1 hp
        simp only [hl, hr, Option.bind_some]
        split at hp
        · rename_i hb
          simp only [hb]
          split at hp
          · rename_i hc
            rw [if_pos hc]
            simp only [Option.some.injEq] at hp
            rw [hp]
          · cases hp
        · cases hp
      · cases hp
    · exact stepP_ok (p := p) hp
  case indexA arr size x i =>
    cases arr with
    | some n => exact stepP_ok (p := p) hp
    | none =>
      simp only [stepV] at hp
      simp only [stepI, envOf_gl, evI]
      unfold idxA at hp
      split at hp
      · rename_i s' rows i' e
        obtain ⟨k, hk, hp⟩ := Option.bind_eq_some_iff.1 hp
        simp only [hk, Option.bind_some, e]
        split at hp
        · rename_i hc
          obtain ⟨r, hr, rfl⟩ := Option.map_eq_some_iff.1 hp
          rw [if_pos hc, hr]
          rfl
        · cases hp
      · rename_i b gen s' off len i' e
        obtain ⟨k, hk, hp⟩ := Option.bind_eq_some_iff.1 hp
        simp only [hk, Option.bind_some, e]
        split at hp
        · rename_i hc
          rw [if_pos hc]
          simp only [Option.some.injEq] at hp
          rw [hp]
        · cases hp
      · cases hp
  all_goals exact stepP_ok (p := p) hp

theorem opD_ok {o : IOp} {s s1 : St} {ps : List Prop} (h : opD p n H o s = some (ps, s1)) (hp : AllP ps) : stepO (envOf p (ev p)) o s = some s1 := by
  unfold opD at h
  unfold stepO
  split at h
  · cases h
  · rename_i e
    simp only [Option.some.injEq, Prod.mk.injEq] at h
    rw [e]
    exact congrArg some h.2
  · rename_i e
    rw [e]
    simp only
    split at h
    · obtain ⟨r, hr, h⟩ := Option.map_eq_some_iff.1 h
      simp only [Prod.mk.injEq] at h
      rw [stepI_mono (evalN_ev p n) hr]
      exact congrArg some h.2
    · rename_i b _
      obtain ⟨r, hr, h⟩ := Option.map_eq_some_iff.1 h
      simp only [Prod.mk.injEq] at h
      rw [stepI_mono (evalN_ev p n) hr]
      rw [← h.1] at hp
      simp only [AllP] at hp
      rw [← h.2, ← hp]
      rfl
    · rename_i x _
      simp only [Option.some.injEq, Prod.mk.injEq] at h
      rw [← h.1] at hp
      rw [stepV_ok hp, ← h.2]
      rfl
    · rename_i x h' _
      simp only [Option.some.injEq, Prod.mk.injEq] at h
      rw [← h.1] at hp
      rw [stepP_ok hp, ← h.2]
      rfl
    · cases h

theorem opsD_ok : ∀ {l : List IOp} {s s1 : St} {ps : List Prop}, opsD p n H l s = some (ps, s1) → AllP ps → runOps (envOf p (ev p)) l s = some s1
  | [], s, s1, ps, h, _ => by
    simp only [opsD, Option.some.injEq, Prod.mk.injEq] at h
    simp only [runOps, h.2]
  | o :: os, s, s1, ps, h, hp => by
    simp only [opsD] at h
    split at h
    · rename_i ps1 s2 h1
      split at h
      · rename_i qs s3 h2
        simp only [Option.some.injEq, Prod.mk.injEq] at h
        obtain ⟨rfl, rfl⟩ := h
        have hp' := AllP_append.1 hp
        simp only [runOps, opD_ok h1 hp'.1, Option.bind_some]
        exact opsD_ok h2 hp'.2
      · cases h
    · cases h

theorem block_ok {id : Nat} {o : Out} {s : St} {r : Option (Out × St)} (h : r = some (o, s)) : blockK id r = some (blockO id o, s) := by
  subst h
  cases o with
  | norm => rfl
  | ret => rfl
  | brk i =>
    simp only [blockK, blockO]
    by_cases e : i = id
    · subst e; simp
    · have : Nat.beq i id = false := by
        cases hb : Nat.beq i id with
        | false => rfl
        | true => exact absurd (Nat.eq_of_beq_eq_true hb) e
      rw [if_neg e, this]
      rfl

theorem blockP_ok {t : Bool} {b : IC} {s : St} {o : Out} {s1 : St} (h : AllP (blockP p t b s o s1)) : ev p b s = some (o, s1) := by
  cases b
  case loop live b =>
    rw [evH_loop]
    cases t with
    | true =>
      simp only [blockP, AllP] at h
      rw [trim_ok h.1]
      exact h.2
    | false => exact h
  all_goals exact h

theorem runD_ok : ∀ {c : IC} {s : St} {ps : List Prop} {o : Out} {s1 : St}, runD p n H c s = some (ps, o, s1) → AllP ps → run (envOf p (ev p)) (ev p) c s = some (o, s1)
  | .skip, s, ps, o, s1, h, _ => by simp only [runD, Option.some.injEq, Prod.mk.injEq] at h; simp only [run, h]
  | .ops l, s, ps, o, s1, h, hp => by
    simp only [runD] at h
    split at h
    · rename_i ps1 s2 h1
      simp only [Option.some.injEq, Prod.mk.injEq] at h
      obtain ⟨rfl, rfl, rfl⟩ := h
      simp only [run, opsD_ok h1 hp, Option.map_some]
    · cases h
  | .seq a b, s, ps, o, s1, h, hp => by
    simp only [runD] at h
    rw [run_seq]
    split at h
    · rename_i ps1 s2 h1
      split at h
      · rename_i qs o2 s3 h2
        simp only [Option.some.injEq, Prod.mk.injEq] at h
        obtain ⟨rfl, rfl, rfl⟩ := h
        have hp' := AllP_append.1 hp
        rw [runD_ok h1 hp'.1, seqK_norm]
        exact runD_ok h2 hp'.2
      · cases h
    · rename_i hno
      rw [runD_ok h hp]
      cases o with
      | norm => exact absurd h (hno _ _)
      | ret => rfl
      | brk i => rfl
  | .cond c x y, s, ps, o, s1, h, hp => by
    simp only [runD] at h
    rw [show s = ⟨s.f, s.h⟩ from rfl, run_cond]
    simp only [envOf_gl]
    split at h
    · rename_i b e
      rw [e]
      cases b with
      | true => exact runD_ok (by simpa using h) hp
      | false => exact runD_ok (by simpa using h) hp
    · cases h
  | .block id b, s, ps, o, s1, h, hp => by
    simp only [runD] at h
    rw [run_block]
    split at h
    · simp only [Option.some.injEq, Prod.mk.injEq] at h
      obtain ⟨rfl, rfl, rfl⟩ := h
      rw [← ev_eq]
      exact block_ok (blockP_ok hp)
    · split at h
      · rename_i ps1 o1 s2 h1
        simp only [Option.some.injEq, Prod.mk.injEq] at h
        obtain ⟨rfl, rfl, rfl⟩ := h
        exact block_ok (runD_ok h1 hp)
      · cases h
  | .exit id, s, ps, o, s1, h, _ => by simp only [runD, Option.some.injEq, Prod.mk.injEq] at h; simp only [run, h]
  | .ret, s, ps, o, s1, h, _ => by simp only [runD, Option.some.injEq, Prod.mk.injEq] at h; simp only [run, h]
  | .loop live b, s, ps, o, s1, h, _ => by
    simp only [runD] at h
    split at h
    · rename_i o2 s2 h1
      simp only [Option.some.injEq, Prod.mk.injEq] at h
      rw [← ev_eq, ← h.2.1, ← h.2.2]
      exact evalN_ev p n _ _ _ h1
    · cases h
  | .loopAt m live b, s, ps, o, s1, h, _ => by
    simp only [runD] at h
    split at h
    · rename_i o2 s2 h1
      simp only [Option.some.injEq, Prod.mk.injEq] at h
      rw [← ev_eq, ← h.2.1, ← h.2.2]
      exact evalN_ev p n _ _ _ h1
    · cases h
  | .rangeF fo fs ia ib, s, ps, o, s1, h, _ => by
    simp only [runD] at h
    split at h
    · rename_i o2 s2 h1
      simp only [Option.some.injEq, Prod.mk.injEq] at h
      rw [← ev_eq, ← h.2.1, ← h.2.2]
      exact evalN_ev p n _ _ _ h1
    · cases h
  | .bad, s, ps, o, s1, h, _ => by
    simp only [runD] at h
    split at h
    · rename_i o2 s2 h1
      simp only [Option.some.injEq, Prod.mk.injEq] at h
      rw [← ev_eq, ← h.2.1, ← h.2.2]
      exact evalN_ev p n _ _ _ h1
    · cases h
end

/-- A function with hints, on its own blocks. -/
def callD (p : Prg) (n : Nat) (H : List (Nat × Hint)) (fn : Nat) (args : List AV) : Option (List Prop × AV) :=
  match p.fn fn with
  | none => none
  | some F => match runD p n H F.code ⟨args ++ List.replicate (F.ntmps - args.length) ud, []⟩ with
    | some (_, .brk _, _) => none
    | some (ps, _, s) => match resOf s F.results with
      | some vs => match look 3000 H with
        | some (.v x) => some (ps ++ [purA s.h (packR vs) = some x], x)
        | _ => match purA s.h (packR vs) with
          | some x => some (ps, x)
          | none => none
      | none => none
    | none => none

def callDS (p : Prg) (n : Nat) (H : List (Nat × Hint)) (fn : Nat) (args : List AV) (h : List AB) : Option (List Prop × AV × List AB) :=
  match p.fn fn with
  | none => none
  | some F => match runD p n H F.code ⟨args ++ List.replicate (F.ntmps - args.length) ud, h⟩ with
    | some (_, .brk _, _) => none
    | some (ps, _, s) => match resOf s F.results with
      | some vs => some (ps, packR vs, s.h)
      | none => none
    | none => none

theorem CP_D {p : Prg} {n : Nat} {H : List (Nat × Hint)} {fn : Nat} {args : List AV} {v : AV} {ps : List Prop} (hd : callD p n H fn args = some (ps, v)) (hps : AllP ps) (hp : AV.pure.pures args = true) (h : List AB) : CP p fn args h = some v := by
  unfold callD at hd
  split at hd
  · cases hd
  · rename_i F hF
    rw [CP_in _ _ hp, CS_in hF]
    split at hd
    · cases hd
    · rename_i qs o s hno hr
      split at hd
      · rename_i vs hvs
        have key : AllP qs → purA s.h (packR vs) = some v → ((after F.results (run (envOf p (ev p)) (ev p) F.code ⟨args ++ List.replicate (F.ntmps - args.length) ud, []⟩)).bind fun r => purA r.2 r.1) = some v := by
          intro hq hv
          rw [runD_ok hr hq]
          cases o with
          | brk i => exact (hno _ rfl).elim
          | norm => rw [after_norm, hvs]; exact hv
          | ret => rw [after_ret, hvs]; exact hv
        split at hd
        · simp only [Option.some.injEq, Prod.mk.injEq] at hd
          obtain ⟨rfl, rfl⟩ := hd
          have := AllP_append.1 hps
          exact key this.1 this.2
        · split at hd
          · rename_i x hx
            simp only [Option.some.injEq, Prod.mk.injEq] at hd
            obtain ⟨rfl, rfl⟩ := hd
            exact key hps hx
          · cases hd
      · cases hd
    · cases hd

theorem CS_D {p : Prg} {n : Nat} {H : List (Nat × Hint)} {fn : Nat} {args : List AV} {v : AV} {ps : List Prop} {h h' : List AB} (hd : callDS p n H fn args h = some (ps, v, h')) (hps : AllP ps) : CS p fn args h = some (v, h') := by
  unfold callDS at hd
  split at hd
  · cases hd
  · rename_i F hF
    rw [CS_in hF]
    split at hd
    · cases hd
    · rename_i qs o s hno hr
      split at hd
      · rename_i vs hvs
        simp only [Option.some.injEq, Prod.mk.injEq] at hd
        obtain ⟨rfl, rfl, rfl⟩ := hd
        rw [runD_ok hr hps]
        cases o with
        | brk i => exact (hno _ rfl).elim
        | norm => rw [after_norm, hvs]; rfl
        | ret => rw [after_ret, hvs]; rfl
      · cases hd
    · cases hd

/-- A round with hints. -/
def roundD (p : Prg) (n : Nat) (H : List (Nat × Hint)) (m : Nat) (live : List Nat) (b : IC) (s : St) : Option (List Prop × Out × St) :=
  match runD p n H b s with
  | some (ps, .norm, s1) => match tOf (look 6000 H) with
    | true => some (ps ++ [okT m s1.h = true], .norm, ⟨keepL m live 0 s1.f, s1.h.take m⟩)
    | false => some (ps, .norm, trim m live s1)
  | r => r

theorem round_norm {p : Prg} {n : Nat} {H : List (Nat × Hint)} {m : Nat} {live : List Nat} {b : IC} {s s2 : St} {ps : List Prop} (h : roundD p n H m live b s = some (ps, .norm, s2)) (hp : AllP ps) : evH p m live b s = evH p m live b s2 := by
  unfold roundD at h
  split at h
  · rename_i qs s1 hr
    split at h
    · simp only [Option.some.injEq, Prod.mk.injEq, true_and] at h
      obtain ⟨rfl, rfl⟩ := h
      have hp' := AllP_append.1 hp
      conv => lhs; unfold evH
      rw [runD_ok hr hp'.1, loopK_norm, evH_at, trim_ok hp'.2]
    · simp only [Option.some.injEq, Prod.mk.injEq, true_and] at h
      obtain ⟨rfl, rfl⟩ := h
      conv => lhs; unfold evH
      rw [runD_ok hr hp, loopK_norm, evH_at]
  · rename_i hno
    exact absurd h (hno _ _)
theorem round_brk {p : Prg} {n : Nat} {H : List (Nat × Hint)} {m id : Nat} {live : List Nat} {b : IC} {s s2 : St} {ps : List Prop} (h : roundD p n H m live b s = some (ps, .brk id, s2)) (hp : AllP ps) : evH p m live b s = some (.brk id, s2) := by
  unfold roundD at h
  split at h
  · rename_i qs s1 hr
    split at h <;> simp at h
  · unfold evH
    rw [runD_ok h hp]
    rfl
theorem round_ret {p : Prg} {n : Nat} {H : List (Nat × Hint)} {m : Nat} {live : List Nat} {b : IC} {s s2 : St} {ps : List Prop} (h : roundD p n H m live b s = some (ps, .ret, s2)) (hp : AllP ps) : evH p m live b s = some (.ret, s2) := by
  unfold roundD at h
  split at h
  · rename_i qs s1 hr
    split at h <;> simp at h
  · unfold evH
    rw [runD_ok h hp]
    rfl

/-- A call with own blocks among its arguments. -/
theorem CP_own {p : Prg} {fn : Nat} {args args' : List AV} {h h' : List AB} {v : AV} (hp : AV.pure.pures args = false) (ha : purAs h args = some args') (hc : CS p fn args' [] = some (v, h')) (hf : flat v = true) : CP p fn args h = some v := by
  unfold CP callP
  unfold CS at hc
  rw [hp]
  simp only [Bool.false_eq_true, if_false, ha, hc, hf, if_true]
theorem CP_pure {p : Prg} {fn : Nat} {args : List AV} {h' : List AB} {v x : AV} (hp : AV.pure.pures args = true) (hc : CS p fn args [] = some (v, h')) (hx : purA h' v = some x) (h : List AB) : CP p fn args h = some x := by
  rw [CP_in _ _ hp, hc]
  exact hx

end Go.Vs
