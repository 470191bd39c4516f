/- From what a row tells of the arguments to abstract values: for types of bools, integers, strings, and of arrays, structs and slices of these. No program is named here. -/
import Derived.Test.YtcdebkkjbminoaaDoorVD
import Derived.ChangeStays
import Derived.ReadAgain
import Derived.Deep.DeepHandedRow
import Derived.OpenShut
import Derived.Lib.LaidTab
open Option renaming some.injEq → oiq, map_eq_some_iff → mei, map_some → msm, bind_some → bsm, bind_eq_some_iff → bei
open Prod renaming mk.injEq → piq
open Bool renaming and_eq_true → aet
open List renaming getElem?_eq_getElem → geg
namespace Go.Vs
set_option linter.unusedSimpArgs false
set_option linter.unusedVariables false
open Go Go.RowKit
inductive Sh where
 | int (k : IntKind)
 | bool
 | str
 | sl (size : Nat) (cs : List Sh)
mutual
def Fit : Sh → PV → Prop
 | .int k, x => ∃ n, x = .val (.int k n) ∧ k.min ≤ n ∧ n ≤ k.max
 | .bool, x => ∃ b, x = .val (.bool b)
 | .str, x => ∃ s, x = .val (.string s) ∧ s.size ≤ maxLen
 | .sl size cs, x => ∃ rows, x = .lst size rows ∧ rows.length ≤ maxLen ∧ ∀ r ∈ rows, FitL cs r
def FitL : List Sh → List PV → Prop
 | [], [] => True
 | k :: ks, x :: xs => Fit k x ∧ FitL ks xs
 | _, _ => False
end
def PVs (S : Nat → Prop) (w : World) : List PV → List Value → Prop
 | [], [] => True
 | x :: xs, v :: vs => (v.oneCell' = true ∧ PR S w x v) ∧ PVs S w xs vs
 | _, _ => False
theorem FitL.append : ∀ {ks ls : List Sh} {xs ys : List PV}, FitL ks xs → FitL ls ys → FitL (ks ++ ls) (xs ++ ys)
 | [], _, [], _, _, h => h
 | _ :: _, _, _ :: _, _, h, k => by simp only [FitL, List.cons_append] at h ⊢; exact ⟨h.1, FitL.append h.2 k⟩
 | [], _, _ :: _, _, h, _ => by simp [FitL] at h
 | _ :: _, _, [], _, h, _ => by simp [FitL] at h
theorem FitL.len : ∀ {ks : List Sh} {xs : List PV}, FitL ks xs → xs.length = ks.length
 | [], [], _ => rfl
 | _ :: _, _ :: _, h => by simp only [FitL] at h; simp [FitL.len h.2]
 | [], _ :: _, h => by simp [FitL] at h
 | _ :: _, [], h => by simp [FitL] at h
section
variable {S : Nat → Prop} {w : World}
theorem PVs.append : ∀ {xs ys : List PV} {vs us : List Value}, PVs S w xs vs → PVs S w ys us → PVs S w (xs ++ ys) (vs ++ us)
 | [], _, [], _, _, h => h
 | _ :: _, _, _ :: _, _, h, k => by simp only [PVs, List.cons_append] at h ⊢; exact ⟨h.1, PVs.append h.2 k⟩
 | [], _, _ :: _, _, h, _ => by simp [PVs] at h
 | _ :: _, _, [], _, h, _ => by simp [PVs] at h
theorem PVs.len : ∀ {xs : List PV} {vs : List Value}, PVs S w xs vs → xs.length = vs.length
 | [], [], _ => rfl
 | _ :: _, _ :: _, h => by simp only [PVs] at h; simp [PVs.len h.2]
 | [], _ :: _, h => by simp [PVs] at h
 | _ :: _, [], h => by simp [PVs] at h
theorem PVs.vrs {g : G} (hg : g.S = S) : ∀ {xs : List PV} {vs : List Value}, PVs S w xs vs → VRs g w (xs.map .p) vs
 | [], [], _ => by simp [VRs]
 | _ :: _, _ :: _, h => by simp only [PVs, List.map_cons, VRs, VR] at h ⊢; rw [hg]; exact ⟨h.1.2, PVs.vrs hg h.2⟩
 | [], _ :: _, h => by simp [PVs] at h
 | _ :: _, [], h => by simp [PVs] at h
theorem PVs.prs {b : Nat} : ∀ {off : Nat} {xs : List PV} {vs : List Value}, PVs S w xs vs → (∀ j v, vs[j]? = some v → w.cell? ⟨b, off + j, none⟩ = some v) → PRs S w b off xs
 | _, [], [], _, _ => by simp [PRs]
 | off, x :: xs, v :: vs, h, hc => by
  simp only [PVs, PRs] at h ⊢
  refine ⟨⟨v, by simpa using hc 0 v rfl, h.1.1, h.1.2⟩, PVs.prs h.2 (fun j u hj => ?_)⟩
  have := hc (j + 1) u (by simpa using hj)
  rwa [show off + (j + 1) = off + 1 + j from by omega] at this
 | _, [], _ :: _, h, _ => by simp [PVs] at h
 | _, _ :: _, [], h, _ => by simp [PVs] at h
end
theorem cells?_get {w : World} {base n : Nat} {a : Addr} {cs : List Value} (h : w.cells? base a n = some cs) : cs.length = n ∧ ∀ j v, cs[j]? = some v → w.cell? (a.add j) = some v := by
 unfold World.cells? at h
 split at h
 ·have hl : cs.length = n := by have := mapM_some_length h; simpa using this
  refine ⟨hl, fun j v hj => ?_⟩
  have hjn : j < n := by rw [← hl]; exact (List.getElem?_eq_some_iff.1 hj).1
  obtain ⟨b, hb, hf⟩ := Lib.mapM_at h j j (by simp [hjn])
  rw [hj] at hb
  cases hb
  exact hf
 ·cases h
theorem list_of {α : Type} (p : Nat → α → Prop) : ∀ n, (∀ i, i < n → ∃ x, p i x) → ∃ l : List α, l.length = n ∧ ∀ i x, l[i]? = some x → p i x
 | 0, _ => ⟨[], rfl, by simp⟩
 | n + 1, h => by
  obtain ⟨l, h1, h2⟩ := list_of p n (fun i hi => h i (by omega))
  obtain ⟨x, hx⟩ := h n (by omega)
  refine ⟨l ++ [x], by simp [h1], fun i y hy => ?_⟩
  rw [List.getElem?_append] at hy
  split at hy
  ·exact h2 i y hy
  ·rename_i hi
   have : i = n := by
    rcases Nat.lt_or_ge n i with h' | h'
    ·rw [List.getElem?_eq_none (by simp; omega)] at hy; cases hy
    ·omega
   subst this
   simp [h1] at hy
   subst hy
   exact hx
section
variable {H : Type} {enc : TypeId × Value → H} {P : Program} {w : World}
end
open Go Go.RowKit Go.ChangeShapes Go.ChangeAt
def argA (P : Program) (t : TypeId) (xs : List PV) : AV :=
 match aggT P t with
 | some true => .agg (xs.map .p)
 | _ => match xs with
  | [x] => .p x
  | _ => .und
section
variable {H : Type} {enc : TypeId × Value → H} {P : Program} {w : World} {g : G}
theorem kept_of {w w' : World} (h1 : w'.os = w.os) (h2 : w'.output = w.output) (h3 : ∀ c, c < w.heap.size → w'.heap[c]? = w.heap[c]?) (may : MemPlace → Prop) : w.keptBut w' may := by
 refine ⟨h1, h2, fun i hi => ?_⟩
 rw [h3 i hi]
 split
 ·rename_i h4 h5
  rw [h4] at h5
  simp only [oiq, Obj.cells.injEq] at h5
  obtain ⟨rfl, rfl, rfl⟩ := h5
  exact ⟨rfl, rfl, rfl, fun _ _ => rfl⟩
 ·rename_i h4 h5
  rw [h4] at h5
  simp only [oiq, Obj.map.injEq] at h5
  obtain ⟨rfl, rfl⟩ := h5
  exact .inr ⟨rfl, rfl⟩
 ·rfl
theorem same_of {w w' : World} (h3 : ∀ c, c < w.heap.size → w'.heap[c]? = w.heap[c]?) {p : MemPlace} (hp : p.block < w.heap.size) : w.sameAt w' p := by
 cases p with
 | cell b o => simp only [World.sameAt]; exact cell_same (h3 b hp)
 | map b => simp only [World.sameAt]; exact h3 b hp
theorem trodAll_stays {w w' : World} {T : TypeId → Prop} (K : Kids P T) (hsz : ∀ t e, T t → P.underlying t = some (.slice e) → 0 < P.cellsOf e) (h3 : ∀ c, c < w.heap.size → w'.heap[c]? = w.heap[c]?) :
  ∀ {ts : List TypeId} {vs : List Value} {ds : List (DataW H)} {ps : List MemPlace}, (∀ t ∈ ts, T t) → DataW.TrodAll enc P w 0 (fun _ => true) true ts vs ds ps → DataW.TrodAll enc P w' 0 (fun b => decide (b < w.heap.size)) true ts vs ds ps
 | [], [], [], _, _, h => h
 | t :: ts, v :: vs, d :: ds, _, hT, ⟨p, q, h1, h2, e⟩ => by
  have hlt : ∀ x ∈ p, x.block < w.heap.size := fun x hx => DataW.TrodAll.lt (show DataW.TrodAll enc P w 0 (fun _ => true) true (t :: ts) (v :: vs) (d :: ds) _ from ⟨p, q, h1, h2, rfl⟩) x (List.mem_append_left _ hx)
  refine ⟨p, q, ?_, trodAll_stays K hsz h3 (fun u hu => hT u (List.mem_cons_of_mem _ hu)) h2, e⟩
  obtain ⟨n, hn⟩ := h1
  exact ⟨n, DataW.trod_stays K (fun ht hu => hsz _ _ ht hu) (fun h => by cases h) (hT t (List.mem_cons_self ..)) hn (fun x hx => same_of h3 (hlt x hx)) (fun x hx => by simpa using hlt x hx)⟩
 | [], [], _ :: _, _, _, h => by simp [DataW.TrodAll] at h
 | [], _ :: _, _, _, _, h => by simp [DataW.TrodAll] at h
 | _ :: _, [], _, _, _, h => by simp [DataW.TrodAll] at h
 | _ :: _, _ :: _, [], _, _, h => by simp [DataW.TrodAll] at h
def G0 (P : Program) (w : World) : G := { S := fun c => c < w.heap.size, Pr := fun c => c < w.heap.size, N := 0, Ho := fun _ => False, m := fun _ => 0, gen := fun _ => 0, hd := fun _ _ => none, cr := Good P }
theorem HR0 (P : Program) (w : World) : HR (G0 P w) [] w :=
 ⟨rfl, fun b x h => by simp at h, fun b b' x x' c h => by simp at h, fun b x c h => by simp at h, fun _ h => h, fun _ h => h, by simp [G0]⟩
end
inductive Hint where
 | d (b : Bool)
 | v (x : AV)
 | r (x : AV) (h : List AB)
 | l (o : Out) (s : St)
def look : Nat → List (Nat × Hint) → Option Hint
 | _, [] => none
 | n, (k, x) :: r => if n.beq k = true then some x else look n r
def keyOf (o : IOp) : Nat :=
 match o.dst with
 | some d => d
 | none => match o.ins with
  | .store _ (.t a) _ => 1000 + a
  | .mapUp _ _ _ _ (.t a) => 7000 + a
  | .entSt _ _ (.t a) => 8000 + a
  | .call _ _ _ => 4000
  | _ => 5000
noncomputable def evH (p : Prg) (m : Nat) (live : List Nat) (b : IC) (s : St) : Option (Out × St) := loopK (ev p) m live b (run (envOf p (ev p)) (ev p) b s)
theorem evH_loop (p : Prg) (live : List Nat) (b : IC) (s : St) : ev p (.loop live b) s = evH p s.h.length live b (trim s.h.length live s) := by
 rw [ev_eq, show s = ⟨s.f, s.h⟩ from rfl, run_loop]
 rfl
theorem evH_at (p : Prg) (m : Nat) (live : List Nat) (b : IC) (s : St) : ev p (.loopAt m live b) s = evH p m live b (trim m live s) := by
 rw [ev_loopAt]
 rfl
def okT (m : Nat) (h : List AB) : Bool := m ≤ h.length && (h.take m).all (AB.blw m)
theorem okT_frz {m : Nat} {h : List AB} (hk : okT m h = true) : frzT m h = some (h.take m) := by
 unfold okT at hk
 simp only [aet, decide_eq_true_eq] at hk
 exact frzT_blw hk.1 hk.2
theorem trim_ok {m : Nat} {live : List Nat} {s : St} (hn : noT live = false) (h : okT m s.h = true) : trim m live s = ⟨keepL (mask m s.h) m live 0 s.f, s.h.take m⟩ := by
 unfold trim
 rw [okT_frz h, hn]
 rfl
theorem trim_frz {m : Nat} {live : List Nat} {s : St} {h' : List AB} (hn : noT live = false) (h : frzT m s.h = some h') : trim m live s = ⟨keepL (mask m s.h) m live 0 s.f, h'⟩ := by
 unfold trim
 rw [h, hn]
 rfl
theorem trim_noT {m : Nat} {live : List Nat} {s : St} (hn : noT live = true) : trim m live s = ⟨keepA live 0 s.f, s.h⟩ := by
 unfold trim
 split
 ·rw [if_pos hn]
 ·rfl
def blockP (p : Prg) (t : Bool) (b : IC) (s : St) (o : Out) (s1 : St) : List Prop :=
 match b with
 | .loop live b' => match t && !noT live with
  | true => [okT s.h.length s.h = true, evH p s.h.length live b' ⟨keepL (mask s.h.length s.h) s.h.length live 0 s.f, s.h.take s.h.length⟩ = some (o, s1)]
  | false => [evH p s.h.length live b' (trim s.h.length live s) = some (o, s1)]
 | b => [ev p b s = some (o, s1)]
def binA (op : BinOp) : AV → AV → Option AV
 | .p (.val a), .p (.val b) => (binV op a b).map fun v => .p (.val v)
 | _, _ => none
def convA (k : IntKind) (x : AV) : Option AV := (idx x).map fun n => vi k (k.wrap n)
def idxA (size : Nat) : AV → AV → Option AV
 | .p (.lst s rows), i => (idx i).bind fun k => if s = size ∧ 0 ≤ k then (rows[k.toNat]?).map .ro else none
 | .sl b gen s off len, i => (idx i).bind fun k => if s = size ∧ 0 ≤ k ∧ k < len then some (.rp b gen s (off + k.toNat) 0) else none
 | _, _ => none
def ldA (h : List AB) (agg : Bool) (size : Nat) (x : AV) : Option AV := (loadA h size x).bind (oneOr agg)
def stA (h : List AB) (size : Nat) (a v : AV) : Option (List AB) := (cellsOf v).bind fun cs => if cs.length = size then storeA h cs a else none
def appA (h : List AB) (t : TypeId) (size bytes : Nat) (x y : AV) : Option (AV × List AB) := (rowsOf h size y).bind fun news => appendA h t size bytes x news
def ldF (h : List AB) (deep agg : Bool) (size : Nat) (x : AV) : Option AV := (loadA h size x).bind fun cs => oneOr agg (cs.map (fgA deep))
def apF (h : List AB) (t : TypeId) (size bytes : Nat) (x y : AV) : Option (AV × List AB) := (appA h t size bytes x y).bind frzRes
def cvB (h : List AB) : AV → Option AV
 | .p (.val (.string _)) => none
 | v => (rowsOf h 1 v).bind fun rows => (bytesOf rows).map fun l => vs ⟨l.toArray⟩
def slA (h : List AB) (sz : Nat) (x : AV) (lo hi : Option Int) : Option AV :=
 match x with
 | .sl b gen size off len => if size = sz then lo.bind fun l => hi.bind fun r =>
   match h[b]? with
   | some (.row _ _ g rows) =>
    if g = gen ∧ 0 ≤ l ∧ l ≤ r ∧ (r = 0 ∨ off + r.toNat ≤ rows.length ∧ off + len ≤ rows.length) then some (.sl b gen size (off + l.toNat) (r.toNat - l.toNat)) else none
   | _ => none
   else none
 | _ => none
def mkA (t : TypeId) (size bytes : Nat) (zero : List PV) (l c : AV) (r : Nat) : Option (AV × AB) :=
 (idx l).bind fun l => (idx c).bind fun c => if 0 ≤ l ∧ l = c ∧ c * bytes ≤ limit47 ∧ c ≤ limit47 then
  some (.sl r 0 size 0 l.toNat, .row t size 0 (List.replicate l.toNat (zero.map .p))) else none
def lkA (h : List AB) (ks : List Nat) (agg vagg : Bool) (zero : List PV) (ok : Bool) (m k : AV) : Option AV :=
 match m with
 | .p (.val (.map none)) => if keyOk agg ks k = true then (oneOr vagg (zero.map .p)).map fun v => lkRes ok v false else none
 | x => (mapAt h x).bind fun r => lookM agg ks (oneOr vagg (zero.map .p)) ok k r.2.2
def enA (h : List AB) (ks : List Nat) (agg vagg : Bool) (zero : List PV) (m k : AV) : Option (AV × List AB) :=
 (mapAt h m).bind fun r => (enterM agg ks (oneOr vagg (zero.map .p)) k r.2.1 r.2.2).map fun x => (x.1, h.set r.1 (.map r.2.1 x.2))
def upA (h : List AB) (ks : List Nat) (agg : Bool) (m k v : AV) : Option (List AB) :=
 (mapAt h m).bind fun r => (updM agg ks k v r.2.2).map fun x => h.set r.1 (.map r.2.1 x)
def esA (h : List AB) (m s v : AV) : Option (List AB) :=
 (mapAt h m).bind fun r => match s with
  | .p (.val (.int .i64 n)) => if (r.2.1 : Int) ≤ n then (putM r.2.2 (n.toNat - r.2.1) v).map fun x => h.set r.1 (.map r.2.1 x) else none
  | _ => none
def lnA : AV → Option AV := fun x => (lenA x).map fun n => vi .i64 n
def ixS : AV → AV → Option AV
 | .p (.val (.string s)), i => (idx i).bind fun k => if 0 ≤ k then (s.data.toList[k.toNat]?).map fun b => vi .u8 b.toNat else none
 | _, _ => none
def ixG (agg : Bool) (n size : Nat) : AV → AV → Option AV
 | .agg xs, i => (idx i).bind fun k => if 0 ≤ k ∧ k < n then (sub xs (k.toNat * size) size).bind fun cs => oneOr agg cs else none
 | _, _ => none
def ixP (n size : Nat) (x i : AV) : Option AV := (idx i).bind fun k => if 0 ≤ k ∧ k < n then ptrAdd (k.toNat * size) x else none
def slS (x : AV) (lo hi : Option Int) : Option AV :=
 match x with
 | .p (.val (.string s)) => lo.bind fun l => hi.bind fun r => if 0 ≤ l ∧ l ≤ r ∧ r ≤ s.size then some (vs (s.extract l.toNat r.toNat)) else none
 | _ => none
def slL (sz : Nat) (x : AV) (lo hi : Option Int) : Option AV :=
 match x with
 | .p (.lst size rows) => if size = sz then lo.bind fun l => hi.bind fun r =>
   if 0 ≤ l ∧ l ≤ r ∧ r ≤ rows.length then some (.p (.lst size ((rows.take r.toNat).drop l.toNat))) else none
   else none
 | _ => none
def sdA (h : List AB) : AV → Option AV
 | .sl b gen size off len => match h[b]? with
  | some (.row _ s g _) => if g = gen ∧ s = size ∧ size = 1 ∧ off = 0 then some (if 0 < len then .rp b gen 1 0 0 else .anyp) else none
  | _ => none
 | _ => none
theorem evI_sd {gl : Nat → Option (List PV)} {f : List AV} {h : List AB} {x : Opd} : evI gl f h (.slData x) = (sdA h (x.ev f gl)).map (·, h) := by
 simp only [evI]
 unfold sdA
 cases x.ev f gl <;> try rfl
 rename_i b gen size off len
 simp only
 cases h[b]? with
 | none => rfl
 | some y =>
  cases y <;> try rfl
  simp only
  split <;> rfl
def uSA (h : List AB) (e : TypeId) : AV → AV → Option (AV × List AB)
 | .rp b gen s k o, .p (.val (.int .i64 n)) => match h[b]? with
   | some (.row t s' g rows) =>
    if g = gen ∧ s = 1 ∧ s' = 1 ∧ t = e ∧ k = 0 ∧ o = 0 ∧ 0 < n ∧ n.toNat ≤ rows.length ∧ n ≤ 9223372036854775807 then
     (bytesOf (rows.take n.toNat)).map fun l => (vs ⟨l.toArray⟩, h.set b .dead)
    else none
   | _ => none
 | .anyp, .p (.val (.int .i64 n)) => if n = 0 then some (vs .empty, h) else none
 | _, _ => none
theorem evI_us {gl : Nat → Option (List PV)} {f : List AV} {h : List AB} {e : TypeId} {x n : Opd} : evI gl f h (.uStr e x n) = uSA h e (x.ev f gl) (n.ev f gl) := by
 simp only [evI]
 rfl
def nzA (h : List AB) (t : TypeId) : AV → Option (AV × List AB)
 | .p (.val (.int .i64 n)) => if 0 ≤ n ∧ n ≤ limit47 then some (.sl h.length 0 1 0 n.toNat, h ++ [.row t 1 0 []]) else none
 | _ => none
theorem evI_nz {gl : Nat → Option (List PV)} {f : List AV} {h : List AB} {t : TypeId} {x : Opd} : evI gl f h (.mkNZ t x) = nzA h t (x.ev f gl) := by
 simp only [evI]
 rfl
noncomputable def xA (p : Prg) (g : Nat) (args : List AV) (k r : Nat) : Option (AV × List AB) := (xRes (envOf p (ev p)) g args k).map fun q => (q.1.ren (· + r), q.2.map (AB.ren (· + r)))
def newP (p : Prg) (i : Ins) (f : List AV) (r : Nat) (x : AV) (nb : List AB) : Prop :=
 match i with
 | .makeS t size bytes zero l c => match nb with
  | [b] => mkA t size bytes zero (l.ev f p.gl) (c.ev f p.gl) r = some (x, b)
  | _ => False
 | .callX k fo args => match fo.ev f p.gl with
  | .fn g caps => xA p g (args.map (·.ev f p.gl) ++ caps) k r = some (x, nb)
  | _ => False
 | .append t size bytes _ _ y => apN t size bytes (y.ev f p.gl) r = some (x, nb)
 | i => evA p.gl f r i = some (x, nb)
def stepP (p : Prg) (i : Ins) (s : St) (v : AV) (h : List AB) : Prop :=
 match i with
 | .call false fo args => match fo.ev s.f p.gl with
  | .fn g caps => CP p g (args.map (·.ev s.f p.gl) ++ caps) s.h = some v ∧ h = s.h
  | _ => False
 | .call true fo args => match fo.ev s.f p.gl with
  | .fn g caps => CS p g (args.map (·.ev s.f p.gl) ++ caps) s.h = some (v, h)
  | .yl b => callY (ev p) b (args.map (·.ev s.f p.gl)) s.h = some (v, h)
  | _ => False
 | .callX k fo args => stepI (envOf p (ev p)) (.callX k fo args) s = some (v, h)
 | .append t size bytes _ x y => appA s.h t size bytes (x.ev s.f p.gl) (y.ev s.f p.gl) = some (v, h)
 | .appF t size bytes x y => apF s.h t size bytes (x.ev s.f p.gl) (y.ev s.f p.gl) = some (v, h)
 | .store size a x => stA s.h size (a.ev s.f p.gl) (x.ev s.f p.gl) = some h ∧ v = ud
 | .makeS t size bytes zero l c => (mkA t size bytes zero (l.ev s.f p.gl) (c.ev s.f p.gl) s.h.length).map (fun x => (x.1, s.h ++ [x.2])) = some (v, h)
 | .mapEn ks agg vagg zero m k => enA s.h ks agg vagg zero (m.ev s.f p.gl) (k.ev s.f p.gl) = some (v, h)
 | .mapUp ks agg m k x => upA s.h ks agg (m.ev s.f p.gl) (k.ev s.f p.gl) (x.ev s.f p.gl) = some h ∧ v = ud
 | .entSt m k x => esA s.h (m.ev s.f p.gl) (k.ev s.f p.gl) (x.ev s.f p.gl) = some h ∧ v = ud
 | .uStr e x n => uSA s.h e (x.ev s.f p.gl) (n.ev s.f p.gl) = some (v, h)
 | .mkNZ t x => nzA s.h t (x.ev s.f p.gl) = some (v, h)
 | i => evI p.gl s.f s.h i = some (v, h)
def stepV (p : Prg) (i : Ins) (s : St) (v : AV) : Prop :=
 match i with
 | .call false fo args => match fo.ev s.f p.gl with
  | .fn g caps => CP p g (args.map (·.ev s.f p.gl) ++ caps) s.h = some v
  | _ => False
 | .bin op x y => binA op (x.ev s.f p.gl) (y.ev s.f p.gl) = some v
 | .convI k x => convA k (x.ev s.f p.gl) = some v
 | .indexA none size x i => idxA size (x.ev s.f p.gl) (i.ev s.f p.gl) = some v
 | .indexA (some n) size x i => ixP n size (x.ev s.f p.gl) (i.ev s.f p.gl) = some v
 | .index agg n size x i => ixG agg n size (x.ev s.f p.gl) (i.ev s.f p.gl) = some v
 | .load agg size x => ldA s.h agg size (x.ev s.f p.gl) = some v
 | .loadF deep agg size x => ldF s.h deep agg size (x.ev s.f p.gl) = some v
 | .sliceX sz x lo hi => slXA sz (x.ev s.f p.gl) (idxO s.f p.gl 0 lo) (idxO s.f p.gl (lenX (x.ev s.f p.gl)) hi) = some v
 | .convB x => cvB s.h (x.ev s.f p.gl) = some v
 | .slice sz x lo hi => match x.ev s.f p.gl with
  | .sl b gen size off len => slA s.h sz (.sl b gen size off len) (idxO s.f p.gl 0 lo) (idxO s.f p.gl len hi) = some v
  | .p (.lst size rows) => slL sz (.p (.lst size rows)) (idxO s.f p.gl 0 lo) (idxO s.f p.gl rows.length hi) = some v
  | _ => stepP p (.slice sz x lo hi) s v s.h
 | .len x => lnA (x.ev s.f p.gl) = some v
 | .slData x => sdA s.h (x.ev s.f p.gl) = some v
 | .indexS x i => ixS (x.ev s.f p.gl) (i.ev s.f p.gl) = some v
 | .sliceS x lo hi => match x.ev s.f p.gl with
  | .p (.val (.string u)) => slS (vs u) (idxO s.f p.gl 0 lo) (idxO s.f p.gl u.size hi) = some v
  | _ => stepP p (.sliceS x lo hi) s v s.h
 | .lkUp ks agg vagg zero ok m k => lkA s.h ks agg vagg zero ok (m.ev s.f p.gl) (k.ev s.f p.gl) = some v
 | i => stepP p i s v s.h
def AllP : List Prop → Prop
 | [] => True
 | [q] => q
 | q :: qs => q ∧ AllP qs
def tOf : Option Hint → Bool
 | some (.d b) => b
 | _ => false
theorem AllP_cons {q : Prop} {qs : List Prop} : AllP (q :: qs) ↔ q ∧ AllP qs := by
 cases qs <;> simp [AllP]
theorem AllP_append {qs rs : List Prop} : AllP (qs ++ rs) ↔ AllP qs ∧ AllP rs := by
 induction qs with
 | nil => simp [AllP]
 | cons q qs ih => simp only [List.cons_append, AllP_cons, ih, and_assoc]
def opD (p : Prg) (n : Nat) (H : List (Nat × Hint)) (o : IOp) (s : St) : Option (List Prop × St) :=
 match wantedA s.f o.guard with
 | none => none
 | some false => some ([], ⟨putA s.f o.dst ud, s.h⟩)
 | some true => match look (keyOf o) H with
  | none => (stepI (envOf p (evalN p n)) o.ins s).map fun r => ([], ⟨putA s.f o.dst r.1, r.2⟩)
  | some (.d b) => (stepI (envOf p (evalN p n)) o.ins s).map fun r => ([r.1 = vb b], ⟨putA s.f o.dst (vb b), r.2⟩)
  | some (.v x) => some ([stepV p o.ins s x], ⟨putA s.f o.dst x, s.h⟩)
  | some (.r x h) => some ([stepP p o.ins s x h], ⟨putA s.f o.dst x, h⟩)
  | some (.l _ _) => none
def opsD (p : Prg) (n : Nat) (H : List (Nat × Hint)) : List IOp → St → Option (List Prop × St)
 | [], s => some ([], s)
 | o :: os, s => match opD p n H o s with
  | some (ps, s1) => match opsD p n H os s1 with
   | some (qs, s2) => some (ps ++ qs, s2)
   | none => none
  | none => none
def zH (z r : Nat) (h nb : List AB) : List AB := match z with
 | 1 => h
 | 2 => putAt h r nb
 | 4 => h ++ nb
 | _ + 5 => h ++ nb
 | _ => putAt h 0 nb
def zP (p : Prg) (z r k g : Nat) (as : List AV) (h : List AB) (x : AV) (h2 : List AB) : Prop := ∃ q, CS p g as (h.take (topB as)) = some q ∧ frA z r k (topB as) as h q = some (x, h2)
def zQ (p : Prg) (base : Nat) (o : ROp) (f : List AV) (h : List AB) (x : AV) (nb : List AB) : Prop := match o.op.ins with
 | .call true fo args => match fo.ev f p.gl with
  | .fn g caps => zP p o.z (base + o.off) o.k g (args.map (·.ev f p.gl) ++ caps) h x (zH o.z (base + o.off) h nb)
  | _ => False
 | _ => False
theorem zQ_act {p : Prg} {base : Nat} {o : ROp} {f : List AV} {h : List AB} {x : AV} {nb : List AB} (hq : zQ p base o f h x nb) : actF (envOf p (ev p)) base o f h = some (x, zH o.z (base + o.off) h nb) := by
 unfold zQ at hq
 unfold actF
 split at hq
 ·rename_i fo args hi
  split at hq
  ·rename_i g caps e
   obtain ⟨q, h1, h2⟩ := hq
   have h1 : (envOf p (ev p)).callS g (args.map (·.ev f p.gl) ++ caps) (h.take (topB (args.map (·.ev f p.gl) ++ caps))) = some q := h1
   simp only [hi, show (envOf p (ev p)).gl = p.gl from rfl, e, h1, bsm]
   exact h2
  ·exact hq.elim
 ·exact hq.elim
def opRD (p : Prg) (n : Nat) (H : List (Nat × Hint)) (base : Nat) (o : ROp) (s : St) : Option (List Prop × St) :=
 match wantedA s.f o.op.guard with
 | none => none
 | some false => some ([], ⟨putA s.f o.op.dst ud, s.h⟩)
 | some true => if o.fz = true then
   match look (keyOf o.op) H with
   | some (.r x nb) => some ([zQ p base o s.f s.h x nb], ⟨putA s.f o.op.dst x, zH o.z (base + o.off) s.h nb⟩)
   | _ => (actF (envOf p (evalN p n)) base o s.f s.h).map fun r => ([], ⟨putA s.f o.op.dst r.1, r.2⟩)
  else if o.op.ins.mks then
   match look (keyOf o.op) H with
   | some (.r x nb) => if nb.length.beq o.k && holesAt s.h (base + o.off) o.k then some ([newP p o.op.ins s.f (base + o.off) x nb], ⟨putA s.f o.op.dst x, putAt s.h (base + o.off) nb⟩) else none
   | _ => (actR (envOf p (evalN p n)) base o s.f s.h).map fun r => ([], ⟨putA s.f o.op.dst r.1, r.2⟩)
  else opD p n H o.op s
def opsRD (p : Prg) (n : Nat) (H : List (Nat × Hint)) (base : Nat) : List ROp → List TR → St → Option (List Prop × St)
 | [], _, s => some ([], s)
 | o :: os, acc, s => if okNd acc o.nd (trOf p.gl base o s.f) then
   match opRD p n H base o s with
   | some (ps, s1) => match opsRD p n H base os (acc ++ [trOf p.gl base o s.f]) s1 with
    | some (qs, s2) => some (ps ++ qs, s2)
    | none => none
   | none => none
  else none
def blockO (id : Nat) : Out → Out
 | .brk i => if i.beq id = true then .norm else .brk i
 | o => o
def runD (p : Prg) (n : Nat) (H : List (Nat × Hint)) : IC → St → Option (List Prop × Out × St)
 | .skip, s => some ([], .norm, s)
 | .ops l, s => match opsD p n H l s with
  | some (ps, s1) => some (ps, .norm, s1)
  | none => none
 | .opsR K l, s => match opsRD p n H s.h.length l [] ⟨s.f, s.h ++ List.replicate K .hole⟩ with
  | some (ps, s1) => some (ps, .norm, s1)
  | none => none
 | .seq a b, s => match runD p n H a s with
  | some (ps, .norm, s1) => match runD p n H b s1 with
   | some (qs, o, s2) => some (ps ++ qs, o, s2)
   | none => none
  | r => r
 | .cond c x y, s => match c.ev s.f p.gl with
  | .p (.val (.bool b)) => if b then runD p n H x s else runD p n H y s
  | _ => none
 | .block id b, s => match look (2000 + id) H with
  | some (.l o s1) => some (blockP p (tOf (look 6000 H)) b s o s1, blockO id o, s1)
  | _ => match runD p n H b s with
   | some (ps, o, s1) => some (ps, blockO id o, s1)
   | none => none
 | .noGo b, s => match runD p n H b s with
  | some (ps, .brk i, s1) => if i < 1000000 then some (ps, .brk i, s1) else none
  | r => r
 | .exit id, s => some ([], .brk id, s)
 | .frzS sl cs gs, s => match look (9000 + sl.headD 0) H with
  | some (.l _ s1) => some ([frzS sl cs gs s = s1], .norm, s1)
  | _ => some ([], .norm, frzS sl cs gs s)
 | .ret, s => some ([], .ret, s)
 | c, s => match evalN p n c s with
  | some (o, s1) => some ([], o, s1)
  | none => none
section
variable {p : Prg} {n : Nat} {H : List (Nat × Hint)}
theorem stepP_ok {i : Ins} {s : St} {v : AV} {h : List AB} (hp : stepP p i s v h) : stepI (envOf p (ev p)) i s = some (v, h) := by
 cases i
 case call sh fo args =>
  cases sh with
  | false =>
   simp only [stepP] at hp
   simp only [stepI, envOf_gl]
   split at hp
   ·rename_i g caps e
    rw [e]
    simp only [envOf_callP, hp.1, msm, hp.2]
   ·exact hp.elim
  | true =>
   simp only [stepP] at hp
   simp only [stepI, envOf_gl]
   split at hp
   ·rename_i g caps e
    rw [e]
    simp only [envOf_callS, hp]
   ·rename_i b e
    rw [e]
    exact hp
   ·exact hp.elim
 case store size a x =>
  obtain ⟨hp, rfl⟩ := hp
  simp only [stepI, envOf_gl, evI]
  unfold stA at hp
  obtain ⟨cs, hcs, hp⟩ := bei.1 hp
  rw [hcs]
  simp only [bsm]
  split at hp
  ·rename_i hl
   rw [if_pos hl, hp]
   rfl
  ·cases hp
 case mkNZ t x =>
  simp only [stepP] at hp
  simp only [stepI, envOf_gl]
  rw [evI_nz]
  exact hp
 case uStr e x n =>
  simp only [stepP] at hp
  simp only [stepI, envOf_gl]
  rw [evI_us]
  exact hp
 case makeS t size bytes zero l c =>
  simp only [stepP, mei, piq] at hp
  simp only [stepI, envOf_gl, evI]
  obtain ⟨⟨x, b⟩, hp, rfl, rfl⟩ := hp
  unfold mkA at hp
  simp only [bei] at hp ⊢
  obtain ⟨l', h3, c', h4, hp⟩ := hp
  refine ⟨l', h3, c', h4, ?_⟩
  split at hp
  ·rename_i hc
   rw [if_pos hc]
   simp only [oiq, piq] at hp
   rw [hp.1, hp.2]
  ·cases hp
 case mapUp ks agg m k x =>
  obtain ⟨hp, rfl⟩ := hp
  simp only [stepI, envOf_gl, evI]
  unfold upA at hp
  obtain ⟨r, hr, hp⟩ := bei.1 hp
  rw [hr, bsm]
  obtain ⟨y, hy, rfl⟩ := mei.1 hp
  rw [hy]
  rfl
 case entSt m k x =>
  obtain ⟨hp, rfl⟩ := hp
  simp only [stepI, envOf_gl, evI]
  unfold esA at hp
  obtain ⟨r, hr, hp⟩ := bei.1 hp
  rw [hr, bsm]
  split at hp
  ·rename_i n e
   simp only [e]
   split at hp
   ·rename_i hc
    rw [if_pos hc]
    obtain ⟨y, hy, rfl⟩ := mei.1 hp
    rw [hy]
    rfl
   ·cases hp
  ·cases hp
 all_goals exact hp
theorem stepV_ok {i : Ins} {s : St} {v : AV} (hp : stepV p i s v) : stepI (envOf p (ev p)) i s = some (v, s.h) := by
 cases i
 case call sh fo args =>
  cases sh with
  | false =>
   simp only [stepV] at hp
   simp only [stepI, envOf_gl]
   split at hp
   ·rename_i g caps e
    rw [e]
    simp only [envOf_callP, hp, msm]
   ·exact hp.elim
  | true => exact stepP_ok hp
 case bin op x y =>
  simp only [stepV] at hp
  simp only [stepI, envOf_gl, evI]
  unfold binA at hp
  split at hp
  ·rename_i a b e1 e2
   rw [e1, e2]
   obtain ⟨r, hr, rfl⟩ := mei.1 hp
   simp only [hr, msm]
  ·cases hp
 case convI k x =>
  simp only [stepV, convA] at hp
  simp only [stepI, envOf_gl, evI]
  obtain ⟨n, hn, rfl⟩ := mei.1 hp
  simp only [hn, msm]
 case slData x =>
  simp only [stepV] at hp
  simp only [stepI, envOf_gl]
  rw [evI_sd, hp]
  rfl
 case load agg size x =>
  simp only [stepV, ldA] at hp
  simp only [stepI, envOf_gl, evI]
  obtain ⟨cs, hcs, hp⟩ := bei.1 hp
  simp only [hcs, bsm, hp, msm]
 case loadF deep agg size x =>
  simp only [stepV, ldF] at hp
  simp only [stepI, envOf_gl, evI]
  obtain ⟨cs, hcs, hp⟩ := bei.1 hp
  simp only [hcs, bsm, hp, msm]
 case sliceX sz x lo hi =>
  simp only [stepV] at hp
  simp only [stepI, envOf_gl, evI, hp, msm]
 case convB x =>
  simp only [stepV] at hp
  simp only [stepI, envOf_gl, evI]
  unfold cvB at hp
  split at hp
  ·cases hp
  ·rename_i hno
   obtain ⟨rows, hr, hp⟩ := bei.1 hp
   obtain ⟨l, hl, rfl⟩ := mei.1 hp
   split
   ·rename_i q e
    exact absurd e (hno q)
   ·simp only [hr, bsm, hl, msm]
 case slice sz x lo hi =>
  simp only [stepV] at hp
  split at hp
  ·rename_i b gen size off len e
   simp only [stepI, envOf_gl, evI, e]
   unfold slA at hp
   simp only at hp
   split at hp
   ·rename_i hs
    rw [if_pos hs]
    obtain ⟨l, hl, hp⟩ := bei.1 hp
    obtain ⟨r, hr, hp⟩ := bei.1 hp
    simp only [hl, hr, bsm]
    split at hp
    ·rename_i hb
     simp only [hb]
     split at hp
     ·rename_i hc
      rw [if_pos hc]
      simp only [oiq] at hp
      rw [hp]
     ·cases hp
    ·cases hp
   ·cases hp
  ·rename_i size rows e
   simp only [stepI, envOf_gl, evI, e]
   unfold slL at hp
   simp only at hp
   split at hp
   ·rename_i hs
    rw [if_pos hs]
    obtain ⟨l, hl, hp⟩ := bei.1 hp
    obtain ⟨r, hr, hp⟩ := bei.1 hp
    simp only [hl, hr, bsm]
    split at hp
    ·rename_i hc
     rw [if_pos hc]
     simp only [oiq] at hp
     rw [hp]
    ·cases hp
   ·cases hp
  ·exact stepP_ok (p := p) hp
 case index agg n size x i =>
  simp only [stepV] at hp
  simp only [stepI, envOf_gl, evI]
  unfold ixG at hp
  split at hp
  ·rename_i xs i' e
   obtain ⟨k, hk, hp⟩ := bei.1 hp
   simp only [hk, bsm, e]
   split at hp
   ·rename_i hc
    rw [if_pos hc]
    obtain ⟨cs, h1, h2⟩ := bei.1 hp
    rw [h1, bsm, h2]
    rfl
   ·cases hp
  ·cases hp
 case sliceS x lo hi =>
  simp only [stepV] at hp
  split at hp
  ·rename_i u e
   simp only [stepI, envOf_gl, evI, e]
   unfold slS at hp
   simp only at hp
   obtain ⟨l, hl, hp⟩ := bei.1 hp
   obtain ⟨r, hr, hp⟩ := bei.1 hp
   simp only [hl, hr, bsm]
   split at hp
   ·rename_i hc
    rw [if_pos hc]
    simp only [oiq] at hp
    rw [hp]
   ·cases hp
  ·exact stepP_ok (p := p) hp
 case len x =>
  simp only [stepV] at hp
  simp only [stepI, envOf_gl, evI]
  unfold lnA at hp
  obtain ⟨n, hn, rfl⟩ := mei.1 hp
  rw [hn]
  rfl
 case indexS x i =>
  simp only [stepV] at hp
  simp only [stepI, envOf_gl, evI]
  unfold ixS at hp
  split at hp
  ·rename_i u i' e
   obtain ⟨k, hk, hp⟩ := bei.1 hp
   simp only [hk, bsm, e]
   split at hp
   ·rename_i hc
    rw [if_pos hc]
    obtain ⟨r, hr, rfl⟩ := mei.1 hp
    rw [hr]
    rfl
   ·cases hp
  ·cases hp
 case indexA arr size x i =>
  cases arr with
  | some n =>
   simp only [stepV] at hp
   simp only [stepI, envOf_gl, evI]
   unfold ixP at hp
   obtain ⟨k, hk, hp⟩ := bei.1 hp
   rw [hk, bsm]
   split at hp
   ·rename_i hc
    rw [if_pos hc, hp]
    rfl
   ·cases hp
  | none =>
   simp only [stepV] at hp
   simp only [stepI, envOf_gl, evI]
   unfold idxA at hp
   split at hp
   ·rename_i s' rows i' e
    obtain ⟨k, hk, hp⟩ := bei.1 hp
    simp only [hk, bsm, e]
    split at hp
    ·rename_i hc
     obtain ⟨r, hr, rfl⟩ := mei.1 hp
     rw [if_pos hc, hr]
     rfl
    ·cases hp
   ·rename_i b gen s' off len i' e
    obtain ⟨k, hk, hp⟩ := bei.1 hp
    simp only [hk, bsm, e]
    split at hp
    ·rename_i hc
     rw [if_pos hc]
     simp only [oiq] at hp
     rw [hp]
    ·cases hp
   ·cases hp
 case lkUp ks agg vagg zero ok m k =>
  simp only [stepV] at hp
  simp only [stepI, envOf_gl, evI]
  unfold lkA at hp
  generalize m.ev s.f p.gl = u at hp ⊢
  split at hp
  ·split at hp
   ·rename_i hc
    obtain ⟨y, hy, rfl⟩ := mei.1 hp
    exact (if_pos hc).trans (by rw [hy]; rfl)
   ·cases hp
  ·rename_i hne
   split
   ·exact absurd rfl hne
   ·obtain ⟨r, hr, hp⟩ := bei.1 hp
    rw [hr, bsm, hp]
    rfl
 all_goals exact stepP_ok (p := p) hp
theorem opD_ok {o : IOp} {s s1 : St} {ps : List Prop} (h : opD p n H o s = some (ps, s1)) (hp : AllP ps) : stepO (envOf p (ev p)) o s = some s1 := by
 unfold opD at h
 unfold stepO
 split at h
 ·cases h
 ·rename_i e
  simp only [oiq, piq] at h
  rw [e]
  exact congrArg some h.2
 ·rename_i e
  rw [e]
  simp only
  split at h
  ·obtain ⟨r, hr, h⟩ := mei.1 h
   simp only [piq] at h
   rw [stepI_mono (evalN_ev p n) hr]
   exact congrArg some h.2
  ·rename_i b _
   obtain ⟨r, hr, h⟩ := mei.1 h
   simp only [piq] at h
   rw [stepI_mono (evalN_ev p n) hr]
   rw [← h.1] at hp
   simp only [AllP] at hp
   rw [← h.2, ← hp]
   rfl
  ·rename_i x _
   simp only [oiq, piq] at h
   rw [← h.1] at hp
   rw [stepV_ok hp, ← h.2]
   rfl
  ·rename_i x h' _
   simp only [oiq, piq] at h
   rw [← h.1] at hp
   rw [stepP_ok hp, ← h.2]
   rfl
  ·cases h
theorem opsD_ok : ∀ {l : List IOp} {s s1 : St} {ps : List Prop}, opsD p n H l s = some (ps, s1) → AllP ps → runOps (envOf p (ev p)) l s = some s1
 | [], s, s1, ps, h, _ => by
  simp only [opsD, oiq, piq] at h
  simp only [runOps, h.2]
 | o :: os, s, s1, ps, h, hp => by
  simp only [opsD] at h
  split at h
  ·rename_i ps1 s2 h1
   split at h
   ·rename_i qs s3 h2
    simp only [oiq, piq] at h
    obtain ⟨rfl, rfl⟩ := h
    have hp' := AllP_append.1 hp
    simp only [runOps, opD_ok h1 hp'.1, bsm]
    exact opsD_ok h2 hp'.2
   ·cases h
  ·cases h
theorem opRD_ok {base : Nat} {o : ROp} {s s1 : St} {ps : List Prop} (h : opRD p n H base o s = some (ps, s1)) (hp : AllP ps) : stepR (envOf p (ev p)) base o s = some s1 := by
 unfold opRD at h
 split at h
 ·cases h
 ·rename_i e
  simp only [oiq, piq] at h
  unfold stepR actR
  rw [e]
  exact congrArg some h.2
 ·rename_i e
  split at h
  ·rename_i hz
   unfold stepR actR
   rw [e]
   simp only
   rw [if_pos hz]
   split at h
   ·simp only [oiq, piq] at h
    obtain ⟨rfl, rfl⟩ := h
    simp only [AllP] at hp
    rw [zQ_act hp]
    rfl
   ·obtain ⟨r, hr, h⟩ := mei.1 h
    simp only [piq] at h
    rw [actF_mono (evalN_ev p n) hr, ← h.2]
    rfl
  rename_i hz
  split at h
  ·rename_i h2
   split at h
   ·rename_i x nb hl
    split at h
    ·rename_i hh
     simp only [oiq, piq] at h
     obtain ⟨rfl, rfl⟩ := h
     simp only [AllP] at hp
     have hev : evM (envOf p (ev p)) s.f (base + o.off) o.op.ins = some (x, nb) := by
      unfold newP at hp
      split at hp
      ·rename_i t size bytes zero l c hi
       split at hp
       ·rename_i b
        rw [hi]
        show evA p.gl s.f (base + o.off) (.makeS t size bytes zero l c) = _
        simp only [evA]
        unfold mkA at hp
        simp only [bei] at hp ⊢
        obtain ⟨l', h3, c', h4, hp⟩ := hp
        refine ⟨l', h3, c', h4, ?_⟩
        split at hp
        ·rename_i hc
         rw [if_pos hc]
         simp only [oiq, piq] at hp
         rw [hp.1, hp.2]
        ·cases hp
       ·exact hp.elim
      ·rename_i k fo args hi
       rw [hi]
       show evX (envOf p (ev p)) s.f (base + o.off) (.callX k fo args) = _
       simp only [evX]
       split at hp
       ·rename_i e
        simp only [show (envOf p (ev p)).gl = p.gl from rfl, e]
        exact hp
       ·exact hp.elim
      ·rename_i t size bytes z x0 y hi
       rw [hi] at h2 ⊢
       simp only [Ins.mks] at h2
       simp only [evM, h2, if_true]
       exact hp
      ·rename_i hx hx2
       have hne : ¬ (o.op.ins.cls == 5) = true := by
        intro h5
        cases hi : o.op.ins <;> rw [hi] at h5 <;> first | exact hx _ _ _ hi | (rename_i sh _ _; cases sh <;> simp [Ins.cls] at h5; done) | (simp [Ins.cls] at h5; done)
       have he : evM (envOf p (ev p)) s.f (base + o.off) o.op.ins = evA p.gl s.f (base + o.off) o.op.ins := by
        unfold evM
        split
        ·rename_i hi; exact absurd hi (hx2 _ _ _ _ _ _)
        ·rw [if_neg hne]; rfl
       rw [he]
       exact hp
     unfold stepR actR
     rw [e]
     simp only
     rw [if_neg hz, if_pos h2]
     rw [hev, bsm]
     simp only
     rw [if_pos hh]
     rfl
    ·cases h
   ·obtain ⟨r, hr, h⟩ := mei.1 h
    simp only [piq] at h
    have := stepR_mono (evalN_ev p n) (base := base) (o := o) (s := s) (r := ⟨putA s.f o.op.dst r.1, r.2⟩) (by unfold stepR; rw [hr]; rfl)
    rw [this, ← h.2]
  ·rename_i h2
   have := opD_ok h hp
   rw [← this]
   unfold stepR actR stepO
   rw [e]
   simp only
   rw [if_neg hz, if_neg h2]
theorem opsRD_ok {base : Nat} : ∀ {l : List ROp} {acc : List TR} {s s1 : St} {ps : List Prop}, opsRD p n H base l acc s = some (ps, s1) → AllP ps → runR (envOf p (ev p)) base l acc s = some s1
 | [], acc, s, s1, ps, h, _ => by
  simp only [opsRD, oiq, piq] at h
  simp only [runR, h.2]
 | o :: os, acc, s, s1, ps, h, hp => by
  simp only [opsRD] at h
  split at h
  ·rename_i hok
   split at h
   ·rename_i ps1 s2 h1
    split at h
    ·rename_i qs s3 h2
     simp only [oiq, piq] at h
     obtain ⟨rfl, rfl⟩ := h
     have hp' := AllP_append.1 hp
     simp only [runR]
     rw [if_pos (by exact hok), opRD_ok h1 hp'.1, bsm]
     exact opsRD_ok h2 hp'.2
    ·cases h
   ·cases h
  ·cases h
theorem block_ok {id : Nat} {o : Out} {s : St} {r : Option (Out × St)} (h : r = some (o, s)) : blockK id r = some (blockO id o, s) := by
 subst h
 cases o with
 | norm => rfl
 | ret => rfl
 | brk i =>
  simp only [blockK, blockO]
  by_cases e : i = id
  ·subst e; simp
  ·have : Nat.beq i id = false := by
    cases hb : Nat.beq i id with
    | false => rfl
    | true => exact absurd (Nat.eq_of_beq_eq_true hb) e
   rw [if_neg e, this]
   rfl
theorem blockP_ok {t : Bool} {b : IC} {s : St} {o : Out} {s1 : St} (h : AllP (blockP p t b s o s1)) : ev p b s = some (o, s1) := by
 cases b
 case loop live b =>
  rw [evH_loop]
  simp only [blockP] at h
  split at h
  ·rename_i ht
   simp only [aet, Bool.not_eq_true'] at ht
   simp only [AllP] at h
   rw [trim_ok ht.2 h.1]
   exact h.2
  ·exact h
 all_goals exact h
theorem runD_ok : ∀ {c : IC} {s : St} {ps : List Prop} {o : Out} {s1 : St}, runD p n H c s = some (ps, o, s1) → AllP ps → run (envOf p (ev p)) (ev p) c s = some (o, s1)
 | .skip, s, ps, o, s1, h, _ => by simp only [runD, oiq, piq] at h; simp only [run, h]
 | .ops l, s, ps, o, s1, h, hp => by
  simp only [runD] at h
  split at h
  ·rename_i ps1 s2 h1
   simp only [oiq, piq] at h
   obtain ⟨rfl, rfl, rfl⟩ := h
   simp only [run, opsD_ok h1 hp, msm]
  ·cases h
 | .opsR K l, s, ps, o, s1, h, hp => by
  simp only [runD] at h
  split at h
  ·rename_i ps1 s2 h1
   simp only [oiq, piq] at h
   obtain ⟨rfl, rfl, rfl⟩ := h
   simp only [run, opsRD_ok h1 hp, msm]
  ·cases h
 | .seq a b, s, ps, o, s1, h, hp => by
  simp only [runD] at h
  rw [run_seq]
  split at h
  ·rename_i ps1 s2 h1
   split at h
   ·rename_i qs o2 s3 h2
    simp only [oiq, piq] at h
    obtain ⟨rfl, rfl, rfl⟩ := h
    have hp' := AllP_append.1 hp
    rw [runD_ok h1 hp'.1, seqK_norm]
    exact runD_ok h2 hp'.2
   ·cases h
  ·rename_i hno
   rw [runD_ok h hp]
   cases o with
   | norm => exact absurd h (hno _ _)
   | ret => rfl
   | brk i => rfl
 | .cond c x y, s, ps, o, s1, h, hp => by
  simp only [runD] at h
  rw [show s = ⟨s.f, s.h⟩ from rfl, run_cond]
  simp only [envOf_gl]
  split at h
  ·rename_i b e
   rw [e]
   cases b with
   | true => exact runD_ok (by simpa using h) hp
   | false => exact runD_ok (by simpa using h) hp
  ·cases h
 | .block id b, s, ps, o, s1, h, hp => by
  simp only [runD] at h
  rw [run_block]
  split at h
  ·simp only [oiq, piq] at h
   obtain ⟨rfl, rfl, rfl⟩ := h
   rw [← ev_eq]
   exact block_ok (blockP_ok hp)
  ·split at h
   ·rename_i ps1 o1 s2 h1
    simp only [oiq, piq] at h
    obtain ⟨rfl, rfl, rfl⟩ := h
    exact block_ok (runD_ok h1 hp)
   ·cases h
 | .noGo b, s, ps, o, s1, h, hp => by
  simp only [runD] at h
  simp only [run]
  split at h
  ·rename_i ps1 i s2 h1
   split at h
   ·rename_i hi
    simp only [oiq, piq] at h
    obtain ⟨rfl, rfl, rfl⟩ := h
    rw [runD_ok h1 hp]
    simp only [if_pos hi]
   ·cases h
  ·rename_i hne
   rw [runD_ok h hp]
   cases o with
   | norm => rfl
   | brk i => exact (hne ps i s1 h).elim
   | ret => rfl
 | .frzS sl cs gs, s, ps, o, s1, h, hp => by
  simp only [runD] at h
  split at h <;> (simp only [oiq, piq] at h; obtain ⟨rfl, rfl, rfl⟩ := h)
  ·simp only [AllP] at hp
   simp only [run, hp]
  ·rfl
 | .exit id, s, ps, o, s1, h, _ => by simp only [runD, oiq, piq] at h; simp only [run, h]
 | .ret, s, ps, o, s1, h, _ => by simp only [runD, oiq, piq] at h; simp only [run, h]
 | .loop live b, s, ps, o, s1, h, _ => by
  simp only [runD] at h
  split at h
  ·rename_i o2 s2 h1
   simp only [oiq, piq] at h
   rw [← ev_eq, ← h.2.1, ← h.2.2]
   exact evalN_ev p n _ _ _ h1
  ·cases h
 | .loopAt m live b, s, ps, o, s1, h, _ => by
  simp only [runD] at h
  split at h
  ·rename_i o2 s2 h1
   simp only [oiq, piq] at h
   rw [← ev_eq, ← h.2.1, ← h.2.2]
   exact evalN_ev p n _ _ _ h1
  ·cases h
 | .rangeF fo fs ia ib, s, ps, o, s1, h, _ => by
  simp only [runD] at h
  split at h
  ·rename_i o2 s2 h1
   simp only [oiq, piq] at h
   rw [← ev_eq, ← h.2.1, ← h.2.2]
   exact evalN_ev p n _ _ _ h1
  ·cases h
 | .bad, s, ps, o, s1, h, _ => by
  simp only [runD] at h
  split at h
  ·rename_i o2 s2 h1
   simp only [oiq, piq] at h
   rw [← ev_eq, ← h.2.1, ← h.2.2]
   exact evalN_ev p n _ _ _ h1
  ·cases h
end
def callBD (p : Prg) (n : Nat) (H : List (Nat × Hint)) (F : IFun) (args : List AV) (h : List AB) : Option (List Prop × AV × List AB) :=
 match runD p n H F.code ⟨args ++ List.replicate (F.ntmps - args.length) ud, h⟩ with
 | some (_, .brk _, _) => none
 | some (ps, _, s) => match resOf s F.results with
  | some vs => some (ps, packR vs, s.h)
  | none => none
 | none => none
def callDS (p : Prg) (n : Nat) (H : List (Nat × Hint)) (fn : Nat) (args : List AV) (h : List AB) : Option (List Prop × AV × List AB) :=
 match p.fn fn, p.fr fn with
 | some F, false => callBD p n H F args h
 | _, _ => none
def callFS (p : Prg) (n : Nat) (H : List (Nat × Hint)) (fn m : Nat) (args : List AV) (h : List AB) : Option (List Prop × AV × List AB) :=
 match p.fn fn, p.fr fn with
 | some F, true => match (topB args).beq m && h.length.beq m with
  | true => callBD p n H F args h
  | false => none
 | _, _ => none
theorem CB_D {p : Prg} {n : Nat} {H : List (Nat × Hint)} {F : IFun} {args : List AV} {v : AV} {ps : List Prop} {h h' : List AB} (hd : callBD p n H F args h = some (ps, v, h')) (hps : AllP ps) : CB p F args h = some (v, h') := by
 unfold callBD at hd
 rw [CB_in]
 split at hd
 ·cases hd
 ·rename_i qs o s hno hr
  split at hd
  ·rename_i vs hvs
   simp only [oiq, piq] at hd
   obtain ⟨rfl, rfl, rfl⟩ := hd
   rw [runD_ok hr hps]
   cases o with
   | brk i => exact (hno _ rfl).elim
   | norm => rw [after_norm, hvs]; rfl
   | ret => rw [after_ret, hvs]; rfl
  ·cases hd
 ·cases hd
theorem CS_D {p : Prg} {n : Nat} {H : List (Nat × Hint)} {fn : Nat} {args : List AV} {v : AV} {ps : List Prop} {h h' : List AB} (hd : callDS p n H fn args h = some (ps, v, h')) (hps : AllP ps) : CS p fn args h = some (v, h') := by
 unfold callDS at hd
 split at hd
 ·rename_i F hF hm
  rw [CS_in hF hm]
  exact CB_D hd hps
 ·cases hd
theorem take_app {α : Type} {l r : List α} {m : Nat} (h : l.length = m) : (l ++ r).take m = l ∧ (l ++ r).drop m = r := by
 subst h
 simp
theorem CS_F {p : Prg} {n m : Nat} {H : List (Nat × Hint)} {fn : Nat} {args : List AV} {v : AV} {ps : List Prop} {h h' : List AB} (hd : callFS p n H fn m args h = some (ps, v, h')) (hps : AllP ps)
  (hk : (belows m args && (h.all (AB.blw m) && (v.blw m && (m.ble h'.length && (h'.take m).all (AB.blw m))))) = true) (hx : List AB) : CS p fn args (h ++ hx) = some (v, h'.take m ++ hx) := by
 unfold callFS at hd
 split at hd
 ·rename_i F hF hm
  split at hd
  ·rename_i e
   simp only [aet] at e hk
   have ht := Nat.eq_of_beq_eq_true e.1
   have hl := Nat.eq_of_beq_eq_true e.2
   obtain ⟨q1, q2⟩ := take_app (r := hx) hl
   have := CS_fr hF hm ht (args := args) (h := h ++ hx) (by rw [q1]; exact CB_D hd hps) (by
    unfold okF
    rw [q1]
    simp only [aet]
    refine ⟨Nat.ble_eq_true_of_le (by simp; omega), hk.1, hk.2.1, hk.2.2.1, hk.2.2.2.1, hk.2.2.2.2⟩)
   rw [q2] at this
   exact this
  ·cases hd
 ·cases hd
def roundD (p : Prg) (n : Nat) (H : List (Nat × Hint)) (m : Nat) (live : List Nat) (b : IC) (s : St) : Option (List Prop × Out × St) :=
 match runD p n H b s with
 | some (ps, .norm, s1) => match noT live with
   | true => some (ps, .norm, trim m live s1)
   | false => match look 6001 H with
  | some (.r _ h') => some (ps ++ [frzT m s1.h = some h'], .norm, ⟨keepL (mask m s1.h) m live 0 s1.f, h'⟩)
  | _ => match tOf (look 6000 H) with
   | true => some (ps ++ [okT m s1.h = true], .norm, ⟨keepL (mask m s1.h) m live 0 s1.f, s1.h.take m⟩)
   | false => some (ps, .norm, trim m live s1)
 | r => r
theorem round_norm {p : Prg} {n : Nat} {H : List (Nat × Hint)} {m : Nat} {live : List Nat} {b : IC} {s s2 : St} {ps : List Prop} (h : roundD p n H m live b s = some (ps, .norm, s2)) (hp : AllP ps) : evH p m live b s = evH p m live b s2 := by
 unfold roundD at h
 split at h
 ·rename_i qs s1 hr
  split at h
  ·simp only [oiq, piq, true_and] at h
   obtain ⟨rfl, rfl⟩ := h
   conv => lhs; unfold evH
   rw [runD_ok hr hp, loopK_norm, evH_at]
  rename_i hnt
  split at h
  ·simp only [oiq, piq, true_and] at h
   obtain ⟨rfl, rfl⟩ := h
   have hp' := AllP_append.1 hp
   conv => lhs; unfold evH
   rw [runD_ok hr hp'.1, loopK_norm, evH_at, trim_frz hnt hp'.2]
  ·split at h
   ·simp only [oiq, piq, true_and] at h
    obtain ⟨rfl, rfl⟩ := h
    have hp' := AllP_append.1 hp
    conv => lhs; unfold evH
    rw [runD_ok hr hp'.1, loopK_norm, evH_at, trim_ok hnt hp'.2]
   ·simp only [oiq, piq, true_and] at h
    obtain ⟨rfl, rfl⟩ := h
    conv => lhs; unfold evH
    rw [runD_ok hr hp, loopK_norm, evH_at]
 ·rename_i hno
  exact absurd h (hno _ _)
theorem round_brk {p : Prg} {n : Nat} {H : List (Nat × Hint)} {m id : Nat} {live : List Nat} {b : IC} {s s2 : St} {ps : List Prop} (h : roundD p n H m live b s = some (ps, .brk id, s2)) (hp : AllP ps) : evH p m live b s = some (.brk id, s2) := by
 unfold roundD at h
 split at h
 ·rename_i qs s1 hr
  (repeat' split at h) <;> simp at h
 ·unfold evH
  rw [runD_ok h hp]
  rfl
theorem round_ret {p : Prg} {n : Nat} {H : List (Nat × Hint)} {m : Nat} {live : List Nat} {b : IC} {s s2 : St} {ps : List Prop} (h : roundD p n H m live b s = some (ps, .ret, s2)) (hp : AllP ps) : evH p m live b s = some (.ret, s2) := by
 unfold roundD at h
 split at h
 ·rename_i qs s1 hr
  (repeat' split at h) <;> simp at h
 ·unfold evH
  rw [runD_ok h hp]
  rfl
theorem CP_own {p : Prg} {fn : Nat} {args args' : List AV} {h h' : List AB} {v : AV} (hp : AV.pure.pures args = false) (ha : purAs h args = some args') (hc : CS p fn args' [] = some (v, h')) (hf : flat v = true) : CP p fn args h = some v := by
 unfold CP callP
 unfold CS at hc
 rw [hp]
 simp only [Bool.false_eq_true, if_false, ha, hc, hf, if_true]
theorem CP_pure {p : Prg} {fn : Nat} {args : List AV} {h' : List AB} {v x : AV} (hp : AV.pure.pures args = true) (hc : CS p fn args [] = some (v, h')) (hx : purA h' v = some x) (h : List AB) : CP p fn args h = some x := by
 rw [CP_in _ _ hp, hc]
 exact hx
def W (g : Nat → AV) : Nat → Nat → List AV
 | _, 0 => []
 | k, n + 1 => g k :: W g (k + 1) n
def ovr (g : Nat → AV) : List (Nat × AV) → Nat → AV
 | [], k => g k
 | x :: r, k => match x.1.beq k with
  | true => x.2
  | false => ovr g r k
def fr (n : Nat) (g : Nat → AV) (l : List (Nat × AV)) : List AV := W (ovr g l) 0 n
def ug : Nat → AV := fun _ => .und
theorem W_eq : ∀ (f : List AV) (g : Nat → AV) (k : Nat), (∀ i, i < f.length → f[i]? = some (g (k + i))) → f = W g k f.length
 | [], g, k, _ => rfl
 | x :: f, g, k, h => by
  have h0 := h 0 (by simp)
  simp at h0
  simp only [List.length_cons, W]
  rw [h0]
  congr 1
  exact W_eq f g (k + 1) (fun i hi => by have := h (i + 1) (by simp; omega); simp at this; rw [this]; congr 2; omega)
theorem ovr_eq {f : List AV} : ∀ (l : List (Nat × AV)), (∀ x ∈ l, getT f x.1 = x.2) → ∀ k, ovr (getT f) l k = getT f k
 | [], _, k => rfl
 | x :: l, h, k => by
  simp only [ovr]
  split
  ·rename_i e
   have := Nat.eq_of_beq_eq_true e
   rw [← this]
   exact (h x (by simp)).symm
  ·exact ovr_eq l (fun y hy => h y (by simp [hy])) k
theorem fr_eq {f : List AV} {n : Nat} {l : List (Nat × AV)} (hn : f.length = n) (h : ∀ x ∈ l, getT f x.1 = x.2) : f = fr n (getT f) l := by
 subst hn
 refine W_eq f _ 0 (fun i hi => ?_)
 rw [Nat.zero_add, ovr_eq l h]
 simp [getT, geg hi]
theorem apn : AllP [] := trivial
theorem apc {q : Prop} {qs : List Prop} (h : q) (hs : AllP qs) : AllP (q :: qs) := AllP_cons.2 ⟨h, hs⟩
def exitL (L : List (Nat × AV)) : Option (List Prop × Out × St) → Option (List Prop × Out × List (Nat × AV) × Nat × List AB)
 | some (ps, o, s) => some (ps, o, L.map (fun x => (x.1, getT s.f x.1)), s.f.length, s.h)
 | none => none
def exitV (L : List (Nat × AV)) : Option (List Prop × Out × St) → Option (List Prop × Out × List (Nat × AV) × Nat)
 | some (ps, o, s) => some (ps, o, L.map (fun x => (x.1, getT s.f x.1)), s.f.length)
 | none => none
theorem exitL_of {L : List (Nat × AV)} {r : Option (List Prop × Out × St)} {ps : List Prop} {o : Out} {n : Nat} {h : List AB} (e : exitL L r = some (ps, o, L, n, h)) : ∃ g, r = some (ps, o, ⟨fr n g L, h⟩) := by
 unfold exitL at e
 split at e
 ·rename_i ps' o' s
  simp only [oiq, piq] at e
  obtain ⟨rfl, rfl, hL, rfl, rfl⟩ := e
  refine ⟨getT s.f, ?_⟩
  congr 2
  obtain ⟨f, h⟩ := s
  congr 2
  refine fr_eq rfl (fun x hx => ?_)
  rw [← hL] at hx
  simp only [List.mem_map] at hx
  obtain ⟨y, _, rfl⟩ := hx
  rfl
 ·cases e
section
variable {p : Prg} {n m id : Nat} {live : List Nat} {b : IC} {s s2 : St} {ps : List Prop} {N : Nat} {h : List AB} {L : List (Nat × AV)}
theorem rnd (H : List (Nat × Hint)) (hp : AllP ps) (e : roundD p 30 H m live b s = some (ps, .norm, s2)) : evH p m live b s = evH p m live b s2 := round_norm e hp
theorem xbrk (H : List (Nat × Hint)) (hp : AllP ps) (e : exitL L (roundD p 30 H m live b s) = some (ps, .brk id, L, N, h)) : ∃ g, evH p m live b s = some (.brk id, ⟨fr N g L, h⟩) := by
 obtain ⟨g, hg⟩ := exitL_of e
 exact ⟨g, round_brk hg hp⟩
theorem xret (H : List (Nat × Hint)) (hp : AllP ps) (e : exitL L (roundD p 30 H m live b s) = some (ps, .ret, L, N, h)) : ∃ g, evH p m live b s = some (.ret, ⟨fr N g L, h⟩) := by
 obtain ⟨g, hg⟩ := exitL_of e
 exact ⟨g, round_ret hg hp⟩
theorem xretY (H : List (Nat × Hint)) (hp : AllP ps) (e : exitV L (roundD p 30 H m live b s) = some (ps, .ret, L, N)) : ∃ g y, evH p m live b s = some (.ret, ⟨fr N g L, y⟩) := by
 cases hr : roundD p 30 H m live b s with
 | none => rw [hr] at e; cases e
 | some r =>
  obtain ⟨q, o, s1⟩ := r
  rw [hr] at e
  simp only [exitV, oiq, piq] at e
  obtain ⟨g, hg⟩ := exitL_of (L := L) (r := roundD p 30 H m live b s) (ps := ps) (o := .ret) (n := N) (h := s1.h) (by rw [hr]; simp only [exitL, e])
  exact ⟨g, _, round_ret hg hp⟩
theorem fcs {fn : Nat} {args : List AV} {h0 : List AB} {v : AV} (H : List (Nat × Hint)) (hp : AllP ps) (e : callDS p 30 H fn args h0 = some (ps, v, h)) : CS p fn args h0 = some (v, h) := CS_D e hp
end
inductive Iter {S E : Type} (step : S → Option (E ⊕ S)) : S → E → Prop where
 | done {s : S} {e : E} (h : step s = some (.inl e)) : Iter step s e
 | next {s s' : S} {e : E} (h : step s = some (.inr s')) (r : Iter step s' e) : Iter step s e
theorem Iter.det {S E : Type} {step : S → Option (E ⊕ S)} {s : S} {e e' : E} (h : Iter step s e) (h' : Iter step s e') : e = e' := by
 induction h with
 | done h1 =>
  cases h' with
  | done h2 => rw [h1] at h2; cases h2; rfl
  | next h2 _ => rw [h1] at h2; cases h2
 | next h1 _ ih =>
  cases h' with
  | done h2 => rw [h1] at h2; cases h2
  | next h2 r2 => rw [h1] at h2; cases h2; exact ih r2
open Classical in
noncomputable def runL {S E : Type} (step : S → Option (E ⊕ S)) (s : S) : Option E := if h : ∃ e, Iter step s e then some h.choose else none
theorem runL_iff {S E : Type} {step : S → Option (E ⊕ S)} {s : S} {e : E} : runL step s = some e ↔ Iter step s e := by
 unfold runL
 constructor
 ·intro h
  split at h
  ·rename_i hx
   cases h
   exact hx.choose_spec
  ·cases h
 ·intro h
  have hx : ∃ e, Iter step s e := ⟨e, h⟩
  rw [dif_pos hx]
  congr 1
  exact hx.choose_spec.det h
theorem runL_done {S E : Type} {step : S → Option (E ⊕ S)} {s : S} {e : E} (h : step s = some (.inl e)) : runL step s = some e := runL_iff.2 (.done h)
theorem runL_next {S E : Type} {step : S → Option (E ⊕ S)} {s s' : S} (h : step s = some (.inr s')) : runL step s = runL step s' := by
 cases hr : runL step s' with
 | some e => exact runL_iff.2 (.next h (runL_iff.1 hr))
 | none =>
  cases hs : runL step s with
  | none => rfl
  | some e =>
   exfalso
   have := runL_iff.1 hs
   cases this with
   | done h2 => rw [h] at h2; cases h2
   | next h2 r2 =>
    rw [h] at h2; cases h2
    rw [runL_iff.2 r2] at hr
    cases hr
theorem loop_sound {S E : Type} {step : S → Option (E ⊕ S)} {α : S → Option (Out × St)} {X : E → Option (Out × St) → Prop}
  (h1 : ∀ s e, step s = some (.inl e) → X e (α s)) (h2 : ∀ s s', step s = some (.inr s') → α s = α s') {s : S} {e : E} (h : runL step s = some e) : X e (α s) := by
 have := runL_iff.1 h
 clear h
 induction this with
 | done h => exact h1 _ _ h
 | next h _ ih => rw [h2 _ _ h]; exact ih
def OkR {S E : Type} (X : E → Prop) (Y : S → Prop) : E ⊕ S → Prop
 | .inl e => X e
 | .inr s => Y s
theorem loop_sound' {S E : Type} {step : S → Option (E ⊕ S)} {α : S → Option (Out × St)} {X : E → Option (Out × St) → Prop}
  (h1 : ∀ s r, step s = some r → OkR (fun e => X e (α s)) (fun s' => α s = α s') r) {s : S} {e : E} (h : runL step s = some e) : X e (α s) :=
 loop_sound (α := α) (X := X) (fun s e h => h1 s _ h) (fun s s' h => h1 s _ h) h
theorem bif_elim {α : Type} {c : Bool} {a b : Option α} {r : α} {Q : Prop} (h : (bif c then a else b) = some r) (h1 : c = true → a = some r → Q) (h2 : c = false → b = some r → Q) : Q := by
 cases c with
 | true => exact h1 rfl h
 | false => exact h2 rfl h
theorem bind_elim {α β : Type} {o : Option α} {f : α → Option β} {r : β} {Q : Prop} (h : o.bind f = some r) (h1 : ∀ v, o = some v → f v = some r → Q) : Q := by
 cases o with
 | none => cases h
 | some v => exact h1 v rfl h
theorem bi {α : Type} {c : Bool} {a b : Option α} {r : α} {Q : Prop} (h : (bif c then a else b) = some r) (h1 : c = true → a = some r → Q) (h2 : c = false → b = some r → Q) : Q := bif_elim h h1 h2
theorem bn {α β : Type} {o : Option α} {f : α → Option β} {r : β} {Q : Prop} (h : o.bind f = some r) (h1 : ∀ v, o = some v → f v = some r → Q) : Q := bind_elim h h1
theorem sj {α : Type} {a b : α} (h : some a = some b) : a = b := Option.some.inj h
def getI {α : Type} (l : List α) (i : Int) : Option α := if 0 ≤ i then l[i.toNat]? else none
def ixN (len : Nat) (i : Int) : Option Nat := if 0 ≤ i ∧ i < len then some i.toNat else none
def ra {α : Type} (e : α → List PV) (xs : List α) : List (List AV) := xs.map fun v => (e v).map .p
theorem idx_get {α : Type} {xs : List α} {e : α → List PV} {i : Int} {v : α} {sz : Nat} {k : IntKind} (h : getI xs i = some v) : idxA sz (.p (.lst sz (xs.map e))) (vi k i) = some (.ro (e v)) := by
 unfold getI at h
 split at h
 ·rename_i h0
  simp only [idxA, idx, bsm]
  rw [if_pos ⟨trivial, h0⟩, List.getElem?_map, h]
  rfl
 ·cases h
theorem idx_sl {b g s len kk : Nat} {i : Int} {k : IntKind} (h : ixN len i = some kk) : idxA s (.sl b g s 0 len) (vi k i) = some (.rp b g s kk 0) := by
 unfold ixN at h
 split at h
 ·rename_i h0
  simp only [oiq] at h
  simp only [idxA, idx, bsm]
  rw [if_pos ⟨trivial, h0⟩, h, Nat.zero_add]
 ·cases h
theorem ld_row {h : List AB} {b t sz gen k off n : Nat} {α : Type} {e : α → List PV} {xs : List α} {v : α} {agg : Bool} {V : AV} (hb : h[b]? = some (.row t sz gen (ra e xs))) (hx : xs[k]? = some v)
  (hs : (sub ((e v).map .p) off n).bind (oneOr agg) = some V) : ldA h agg n (.rp b gen sz k off) = some V := by
 simp only [ldA, loadA, hb]
 rw [if_pos ⟨trivial, trivial⟩]
 simp only [ra, List.getElem?_map, hx, msm, bsm]
 exact hs
theorem ln_get {α : Type} {xs : List α} {e : α → List PV} {sz : Nat} : lnA (.p (.lst sz (xs.map e))) = some (vi .i64 (xs.length : Int)) := by
 simp [lnA, lenA]
theorem ix_str {s : ByteArray} {i : Int} {b : UInt8} {k : IntKind} (h : getI s.data.toList i = some b) : ixS (vs s) (vi k i) = some (vi .u8 (b.toNat : Int)) := by
 unfold getI at h
 split at h
 ·rename_i h0
  simp only [ixS, idx, bsm]
  rw [if_pos h0, h]
  rfl
 ·cases h
def sl_ok (l r : Int) (n : Nat) : Bool := decide (0 ≤ l ∧ l ≤ r ∧ r ≤ n)
theorem sl_str {s : ByteArray} {l r : Int} (h : sl_ok l r s.size = true) : slS (vs s) (some l) (some r) = some (vs (s.extract l.toNat r.toNat)) := by
 simp only [slS, bsm]
 rw [if_pos (of_decide_eq_true h)]
theorem sl_lst {α : Type} {xs : List α} {e : α → List PV} {sz : Nat} {l r : Int} (h : sl_ok l r xs.length = true) : slL sz (.p (.lst sz (xs.map e))) (some l) (some r) = some (.p (.lst sz (((xs.take r.toNat).drop l.toNat).map e))) := by
 simp only [slL, if_true, bsm]
 rw [if_pos (by have := of_decide_eq_true h; simpa using this)]
 simp
theorem st_add {x y : ByteArray} (h : decide (x.size + y.size ≤ 9223372036854775807) = true) : binA .add (vs x) (vs y) = some (vs (x ++ y)) := by
 simp only [binA, binV, strOp]
 rw [if_pos (of_decide_eq_true h)]
 rfl
theorem sh_shl {k k' : IntKind} {a b : Int} (h : ¬ b < 0) : binA .shl (vi k a) (vi k' b) = some (vi k (IntKind.wrap k (a * 2 ^ (min (Int.toNat b) (IntKind.bits k))))) := by
 simp only [binA, binV, shiftOp]
 rw [if_neg h]
 rfl
theorem sh_shr {k k' : IntKind} {a b : Int} (h : ¬ b < 0) : binA .shr (vi k a) (vi k' b) = some (vi k (Int.fdiv a (2 ^ (min (Int.toNat b) (IntKind.bits k))))) := by
 simp only [binA, binV, shiftOp]
 rw [if_neg h]
 rfl
def ap (xs : List PV) (ys : List AV) : List AV := xs.map .p ++ ys
def apOk (len k n bytes : Nat) : Bool := decide (len ≤ n ∧ (len + k) * bytes ≤ limit47 ∧ len + k ≤ limit47)
theorem rows_x {h : List AB} {b : Nat} {t : TypeId} {s n : Nat} {α : Type} {e : α → List PV} {xs : List α} (hb : h[b]? = some (.row t s 0 (ra e xs))) (hn : xs.length = n := by rfl) : rowsOf h s (.sl b 0 s 0 n) = some (ra e xs) := by
 simp only [rowsOf, hb]
 subst hn
 rw [if_pos trivial, if_pos ⟨trivial, trivial, by simp [ra]⟩]
 have : (ra e xs).length = xs.length := by simp [ra]
 rw [List.drop_zero, ← this, List.take_length]
theorem ap_in {h : List AB} {b t s g len k bytes : Nat} {α : Type} {e : α → List PV} {xs news : List α} {y : AV} (hb : h[b]? = some (.row t s g (ra e xs))) (hy : rowsOf h s y = some (ra e news)) (hk : news.length = k) (ho : apOk len k xs.length bytes = true) (hi : decide (len + k ≤ xs.length) = true) :
  appA h t s bytes (.sl b g s 0 len) y = some (.sl b g s 0 (len + k), h.set b (.row t s g (ra e (splice xs len news)))) := by
 have ho := of_decide_eq_true ho
 have hi := of_decide_eq_true hi
 subst hk
 simp only [appA, hy, bsm, appendA, hb]
 rw [if_pos ⟨trivial, trivial⟩, if_pos ⟨trivial, trivial, trivial, by simpa [ra] using ho.1, by simpa [ra] using ho.2.1, by simpa [ra] using ho.2.2⟩, if_pos (by simpa [ra] using hi)]
 simp only [ra, List.length_map]
 congr 4
 simp [splice, List.map_take, List.map_drop]
theorem ap_out {h : List AB} {b t s g len k bytes : Nat} {α : Type} {e : α → List PV} {xs news : List α} {y : AV} (hb : h[b]? = some (.row t s g (ra e xs))) (hy : rowsOf h s y = some (ra e news)) (hk : news.length = k) (ho : apOk len k xs.length bytes = true) (hi : decide (len + k ≤ xs.length) = false) :
  appA h t s bytes (.sl b g s 0 len) y = some (.sl b (g + 1) s 0 (len + k), h.set b (.row t s (g + 1) (ra e (xs.take len ++ news)))) := by
 have ho := of_decide_eq_true ho
 have hi := of_decide_eq_false hi
 subst hk
 simp only [appA, hy, bsm, appendA, hb]
 rw [if_pos ⟨trivial, trivial⟩, if_pos ⟨trivial, trivial, trivial, by simpa [ra] using ho.1, by simpa [ra] using ho.2.1, by simpa [ra] using ho.2.2⟩, if_neg (by simpa [ra] using hi)]
 simp only [ra, List.length_map]
 congr 4
 simp [List.map_take]
def bstr (xs : List Int) : ByteArray := ⟨(xs.map fun n => UInt8.ofNat n.toNat).toArray⟩
theorem cv {b c : Bool} (h : b = c) : vb b = vb c := congrArg vb h
theorem ig {α : Type} {xs : List α} (e : α → List PV) {i : Int} {v : α} (sz : Nat) (k : IntKind) (h : getI xs i = some v) : idxA sz (.p (.lst sz (xs.map e))) (vi k i) = some (.ro (e v)) := idx_get h
theorem lg {α : Type} (xs : List α) (e : α → List PV) (sz : Nat) : lnA (.p (.lst sz (xs.map e))) = some (vi .i64 (xs.length : Int)) := ln_get
theorem mapO_p {h : List AB} {n : Nat} : ∀ (xs : List PV), mapO (purP h (n + 1)) (xs.map .p) = some xs
 | [] => rfl
 | x :: xs => by simp only [List.map_cons, mapO, mapO_p xs, purP]
theorem mapO_ra {h : List AB} {n : Nat} {α : Type} {e : α → List PV} : ∀ (xs : List α), mapO (mapO (purP h (n + 1))) (ra e xs) = some (xs.map e)
 | [] => rfl
 | x :: xs => by
  have := mapO_ra (h := h) (n := n) (e := e) xs
  simp only [ra] at this
  simp only [ra, List.map_cons, mapO, mapO_p, this]
theorem purP_sl {h : List AB} {n b t g s len : Nat} {α : Type} {e : α → List PV} {xs : List α} (hb : h[b]? = some (.row t s g (ra e xs))) (hl : decide (len ≤ xs.length) = true) :
  purP h (n + 2) (.sl b g s 0 len) = some (.lst s ((xs.take len).map e)) := by
 have hl := of_decide_eq_true hl
 simp only [purP, hb]
 rw [if_pos ⟨trivial, trivial, by simpa [ra] using hl⟩]
 have : ((ra e xs).drop 0).take len = ra e (xs.take len) := by simp [ra, List.map_take]
 rw [this, mapO_ra]
 rfl
theorem purA_sl {h : List AB} {b t g s len : Nat} {α : Type} {e : α → List PV} {xs : List α} (hb : h[b]? = some (.row t s g (ra e xs))) (hl : decide (len ≤ xs.length) = true) :
  purA h (.sl b g s 0 len) = some (.p (.lst s ((xs.take len).map e))) := by
 simp only [purA, purP_sl hb hl, msm]
theorem purA_agg {h : List AB} {xs ys : List AV} (e : purAs h xs = some ys) : purA h (.agg xs) = some (.agg ys) := by simp only [purA, e, msm]
theorem purAs_nil {h : List AB} : purAs h [] = some [] := rfl
theorem purAs_cons {h : List AB} {x y : AV} {xs ys : List AV} (e : purA h x = some y) (es : purAs h xs = some ys) : purAs h (x :: xs) = some (y :: ys) := by simp only [purAs, e, es]
mutual
theorem purA_flat {h : List AB} : ∀ (v x : AV), purA h v = some x → flat x = true → flat v = true ∧ v = x
 | .p y, x, e, hf => by simp only [purA, oiq] at e; subst e; exact ⟨hf, rfl⟩
 | .ro xs, x, e, hf => by simp only [purA, oiq] at e; subst e; simp [flat] at hf
 | .agg xs, x, e, hf => by
  simp only [purA, mei] at e
  obtain ⟨ys, e, rfl⟩ := e
  simp only [flat] at hf ⊢
  obtain ⟨k1, k2⟩ := purAs_flat xs ys e hf
  exact ⟨k1, by rw [k2]⟩
 | .tup xs, x, e, hf => by
  simp only [purA, mei] at e
  obtain ⟨ys, e, rfl⟩ := e
  simp only [flat] at hf ⊢
  obtain ⟨k1, k2⟩ := purAs_flat xs ys e hf
  exact ⟨k1, by rw [k2]⟩
 | .fn f xs, x, e, hf => by
  simp only [purA, mei] at e
  obtain ⟨ys, e, rfl⟩ := e
  simp only [flat] at hf ⊢
  obtain ⟨k1, k2⟩ := purAs_flat xs ys e hf
  exact ⟨k1, by rw [k2]⟩
 | .ptr b o, x, e, hf => by
  simp only [purA] at e
  split at e
  ·simp only [mei] at e
   obtain ⟨ys, _, rfl⟩ := e
   simp [flat] at hf
  ·cases e
 | .sl b g s o l, x, e, hf => by
  simp only [purA, mei] at e
  obtain ⟨y, e, rfl⟩ := e
  simp only [purP] at e
  split at e
  ·split at e
   ·simp only [mei] at e
    obtain ⟨z, _, rfl⟩ := e
    simp [flat] at hf
   ·cases e
  ·split at e
   ·simp only [oiq] at e
    subst e
    simp [flat] at hf
   ·cases e
  ·cases e
 | .rp .., x, e, _ => by simp [purA] at e
 | .mp _, x, e, _ => by simp [purA] at e
 | .yl _, x, e, _ => by simp [purA] at e
 | .anyp, x, e, _ => by simp [purA] at e
 | .anye, x, e, hf => by simp only [purA, oiq] at e; subst e; simp [flat] at hf
 | .und, x, e, _ => by simp [purA] at e
theorem purAs_flat {h : List AB} : ∀ (vs xs : List AV), purAs h vs = some xs → flats xs = true → flats vs = true ∧ vs = xs
 | [], xs, e, hf => by simp only [purAs, oiq] at e; subst e; exact ⟨rfl, rfl⟩
 | v :: vs, xs, e, hf => by
  simp only [purAs] at e
  split at e
  ·rename_i y ys h1 h2
   simp only [oiq] at e
   subst e
   simp only [flats, aet] at hf ⊢
   obtain ⟨a1, a2⟩ := purA_flat v y h1 hf.1
   obtain ⟨b1, b2⟩ := purAs_flat vs ys h2 hf.2
   exact ⟨⟨a1, b1⟩, by rw [a2, b2]⟩
  ·cases e
end
def PR1 (p : Prg) (fn : Nat) (args : List AV) (x : AV) : Prop := ∃ v h', CS p fn args [] = some (v, h') ∧ purA h' v = some x
theorem PR1.cp {p : Prg} {fn : Nat} {args : List AV} {x : AV} (h : PR1 p fn args x) (hp : AV.pure.pures args = true) (h0 : List AB) : CP p fn args h0 = some x := by
 obtain ⟨v, h', h1, h2⟩ := h
 exact CP_pure hp h1 h2 h0
theorem PR1.own {p : Prg} {fn : Nat} {args args' : List AV} {x : AV} {h0 : List AB} (h : PR1 p fn args' x) (hp : AV.pure.pures args = false) (ha : purAs h0 args = some args') (hf : flat x = true) : CP p fn args h0 = some x := by
 obtain ⟨v, h', h1, h2⟩ := h
 obtain ⟨f1, rfl⟩ := purA_flat v x h2 hf
 exact CP_own hp ha h1 f1
theorem PR1.of {p : Prg} {n : Nat} {H : List (Nat × Hint)} {fn : Nat} {args : List AV} {v x : AV} {ps : List Prop} {h' : List AB} (hd : callDS p n H fn args [] = some (ps, v, h')) (hps : AllP ps) (hx : purA h' v = some x) : PR1 p fn args x :=
 ⟨v, h', CS_D hd hps, hx⟩
mutual
theorem purA_pure {h : List AB} : ∀ (v : AV), v.pure = true → purA h v = some v
 | .p _, _ => rfl
 | .ro _, _ => rfl
 | .agg xs, e => by simp only [AV.pure] at e; simp only [purA, purAs_pure xs e, msm]
 | .tup xs, e => by simp only [AV.pure] at e; simp only [purA, purAs_pure xs e, msm]
 | .fn f xs, e => by simp only [AV.pure] at e; simp only [purA, purAs_pure xs e, msm]
 | .ptr _ _, e => by simp [AV.pure] at e
 | .sl .., e => by simp [AV.pure] at e
 | .rp .., e => by simp [AV.pure] at e
 | .mp _, e => by simp [AV.pure] at e
 | .yl _, e => by simp [AV.pure] at e
 | .anyp, e => by simp [AV.pure] at e
 | .anye, e => by simp [AV.pure] at e
 | .und, e => by simp [AV.pure] at e
theorem purAs_pure {h : List AB} : ∀ (xs : List AV), AV.pure.pures xs = true → purAs h xs = some xs
 | [], _ => rfl
 | x :: xs, e => by
  simp only [AV.pure.pures, aet] at e
  simp only [purAs, purA_pure x e.1, purAs_pure xs e.2]
end
theorem fpr {p : Prg} {fn : Nat} {args : List AV} {v : AV} {ps : List Prop} (H : List (Nat × Hint)) (hp : AllP ps) (hv : v.pure = true) (e : (callDS p 30 H fn args []).map (fun r => (r.1, r.2.1)) = some (ps, v)) : PR1 p fn args v := by
 obtain ⟨r, h1, h2⟩ := mei.1 e
 obtain ⟨q, v', h'⟩ := r
 simp only [piq] at h2
 obtain ⟨rfl, rfl⟩ := h2
 exact PR1.of h1 hp (purA_pure _ hv)
theorem blw_ra {n : Nat} {α : Type} {e : α → List PV} : ∀ (xs : List α), (ra e xs).all (belows n) = true
 | [] => rfl
 | x :: xs => by
  have := blw_ra (n := n) (e := e) xs
  simp only [ra] at this
  simp only [ra, List.map_cons, List.all_cons, belows_p, this, Bool.and_self]
theorem okT_of {m : Nat} {h : List AB} (h1 : m.ble h.length = true) (h2 : (h.take m).all (AB.blw m) = true) : okT m h = true := by
 unfold okT
 rw [h2, Bool.and_true]
 exact decide_eq_true (Nat.le_of_ble_eq_true h1)
theorem abl_cons {m : Nat} {x : AB} {xs : List AB} (h : x.blw m = true) (hs : xs.all (AB.blw m) = true) : (x :: xs).all (AB.blw m) = true := by
 simp only [List.all_cons, h, hs, Bool.and_self]
theorem abl_row {m t s g : Nat} {α : Type} {e : α → List PV} {xs : List α} : (AB.row t s g (ra e xs)).blw m = true := blw_ra xs
section
variable {K V : Type} [DecidableEq K] {ke : K → AV} {ve : V → AV} {agg : Bool} {ks : List Nat}
end
section
variable {K V : Type} [DecidableEq K] {ke : K → AV} {ve : V → AV} {agg : Bool} {ks : List Nat}
end
theorem w_id {x : Int} (h : -9223372036854775808 ≤ x ∧ x ≤ 9223372036854775807) : IntKind.wrap .i64 x = x := IntWalk.i64_in _ (by omega)
theorem w_S {i : Nat} (h : i < 4611686018427387904) : IntKind.wrap .i64 ((i : Int) + 1) = ((i + 1 : Nat) : Int) := by
 rw [w_id (by omega)]; omega
theorem getI_nat {α : Type} (l : List α) (i : Nat) : getI l (i : Int) = l[i]? := by simp [getI]
theorem ixN_nat (n i : Nat) : ixN n (i : Int) = if i < n then some i else none := by
 unfold ixN
 by_cases h : i < n
 ·rw [if_pos ⟨by omega, by omega⟩, if_pos h]; simp
 ·rw [if_neg (by omega), if_neg h]
theorem loop_foldl {α A E S : Type} {step : S → Option (E ⊕ S)} {l : List α} (emb : Nat → A → S) (f : A → α → A) (fin : A → E) (Inv : A → Prop)
  (h : ∀ (i : Nat) (x : α) (a : A), l[i]? = some x → Inv a → step (emb i a) = some (.inr (emb (i + 1) (f a x))) ∧ Inv (f a x)) (hend : ∀ a, Inv a → step (emb l.length a) = some (.inl (fin a))) :
  ∀ (k i : Nat) (a : A), i + k = l.length → Inv a → runL step (emb i a) = some (fin ((l.drop i).foldl f a))
 | 0, i, a, hi, ha => by
  obtain rfl : i = l.length := by omega
  rw [List.drop_length]
  exact runL_done (hend a ha)
 | k + 1, i, a, hi, ha => by
  have hx : l[i]? = some l[i] := geg (by omega)
  have hd : l.drop i = l[i] :: l.drop (i + 1) := (List.drop_eq_getElem_cons (by omega))
  obtain ⟨h1, h2⟩ := h i _ a hx ha
  rw [runL_next h1, hd, List.foldl_cons]
  exact loop_foldl emb f fin Inv h hend k (i + 1) _ (by omega) h2
def leB (a b : List Bool) : Prop := a.length = b.length ∧ ∀ i : Nat, a[i]? = some true → b[i]? = some true
theorem leB.refl (a : List Bool) : leB a a := ⟨rfl, fun _ h => h⟩
theorem leB.trans {a b c : List Bool} (h : leB a b) (k : leB b c) : leB a c := ⟨h.1.trans k.1, fun i hi => k.2 i (h.2 i hi)⟩
section
variable {K V : Type} [DecidableEq K]
end
theorem bytes_list {a b : ByteArray} : (a.toList == b.toList) = decide (a = b) := by
 by_cases h : a = b
 ·subst h; simp
 ·rw [decide_eq_false h]
  cases hb : (a.toList == b.toList) with
  | false => rfl
  | true => exact absurd (bytes_beq (by rw [beq_toListBytes]; exact hb)) h
def clE (t : TypeId) (s : Nat) (h : List AB) : AV × List AB := (.sl (h ++ [AB.row t s 0 []]).length 0 s 0 0, (h ++ [.row t s 0 []]) ++ [.row t s 0 []])
def clR (t : TypeId) (s : Nat) (r : List PV) (rs : List (List PV)) (h : List AB) : AV × List AB := (.sl (h ++ [AB.row t s 0 []]).length 1 s 0 (0 + (r :: rs).length), (h ++ [.row t s 0 []]) ++ [.row t s 1 (((r :: rs).map (·.map .p)))])
def cloneA (t : TypeId) (s bytes : Nat) (args : List AV) (h : List AB) : Option (AV × List AB) :=
 match args with
 | [.p (.val (.slice none 0 0))] => some (clE t s h)
 | [.p (.lst s' rows)] => match rows with
  | [] => if s' = s then some (clE t s h) else none
  | r :: rs => if s' = s ∧ (0 + (r :: rs).length) * bytes ≤ limit47 ∧ 0 + (r :: rs).length ≤ limit47 then some (clR t s r rs h) else none
 | _ => none
theorem clone_sound {P : Program} {p : Prg} (hp : PrgOk P p) {fn : Nat} {t : TypeId} {s bytes : Nat}
  (h1 : ∀ h c, CS p fn [.p (.val (.slice none 0 c))] h = some (clE t s h))
  (h2 : ∀ h a c, CS p fn [.p (.val (.slice (some a) 0 c))] h = some (clE t s h))
  (h3 : ∀ h r rs, (0 + (r :: rs).length) * bytes ≤ limit47 → 0 + (r :: rs).length ≤ limit47 → CS p fn [.p (.lst s (r :: rs))] h = some (clR t s r rs h))
  {args : List AV} {h : List AB} {v : AV} {h' : List AB} (hc : cloneA t s bytes args h = some (v, h')) : CallR P (Good P) p.gl fn args h v h' := by
 unfold cloneA at hc
 split at hc
 ·have e := (h1 h 0).trans hc
  exact CS_sound hp e
 ·rename_i s' rows
  split at hc
  ·split at hc
   ·rename_i hs
    subst hs
    have e1 : ∀ c, CS p fn [.p (.val (.slice none 0 c))] h = some (v, h') := fun c => (h1 h c).trans hc
    have e2 : ∀ a c, CS p fn [.p (.val (.slice (some a) 0 c))] h = some (v, h') := fun a c => (h2 h a c).trans hc
    obtain ⟨hfd, _⟩ := CS_sound hp (e1 0)
    refine ⟨hfd, ?_⟩
    intro g w vals hcr hgr hhr hvs
    match vals, hvs with
    | [x], hvs =>
     simp only [VRs, VR, PR] at hvs
     obtain ⟨⟨A, c, rfl, _⟩, _⟩ := hvs
     cases A with
     | none =>
      obtain ⟨_, hcall⟩ := CS_sound hp (e1 c)
      exact hcall g w [.slice none 0 c] hcr hgr hhr (by simp [VRs, VR, PR])
     | some a =>
      obtain ⟨_, hcall⟩ := CS_sound hp (e2 a c)
      exact hcall g w [.slice (some a) 0 c] hcr hgr hhr (by simp [VRs, VR, PR])
    | [], hvs => simp [VRs] at hvs
    | _ :: _ :: _, hvs => simp [VRs] at hvs
   ·cases hc
  ·split at hc
   ·rename_i hs
    obtain ⟨rfl, k1, k2⟩ := hs
    exact CS_sound hp ((h3 h _ _ k1 k2).trans hc)
   ·cases hc
 ·cases hc
theorem getE_app {h : List AB} {x : AB} : (h ++ [x])[h.length]? = some x := by simp
theorem setE_app {h : List AB} {x y : AB} : (h ++ [x]).set h.length y = h ++ [y] := by simp
theorem clone_ap0 {t : TypeId} {s bytes : Nat} {h : List AB} {c : Nat} {a : Addr} : appA ((h ++ [.row t s 0 []]) ++ [.row t s 0 []]) t s bytes (.sl (h ++ [AB.row t s 0 []]).length 0 s 0 0) (.p (.val (.slice (some a) 0 c))) = some (clE t s h) := by
 simp only [appA, rowsOf, bsm, appendA]
 rw [if_pos ⟨trivial, trivial⟩, getE_app]
 simp only
 rw [if_pos (by simp [limit47]), if_pos (by simp), setE_app]
 rfl
theorem clone_ap1 {t : TypeId} {s bytes : Nat} {h : List AB} {r : List PV} {rs : List (List PV)} (h1 : (0 + (r :: rs).length) * bytes ≤ limit47) (h2 : 0 + (r :: rs).length ≤ limit47) :
  appA ((h ++ [.row t s 0 []]) ++ [.row t s 0 []]) t s bytes (.sl (h ++ [AB.row t s 0 []]).length 0 s 0 0) (.p (.lst s (r :: rs))) = some (clR t s r rs h) := by
 simp only [appA, rowsOf, if_true, bsm, appendA, List.length_map]
 rw [if_pos ⟨trivial, trivial⟩, getE_app]
 simp only
 rw [if_pos ⟨trivial, trivial, trivial, Nat.le_refl _, h1, h2⟩, if_neg (by simp), setE_app]
 rfl
section
variable {hm : List AB} {n : Nat}
end
noncomputable def primZ (p : Prg) (fn : Nat) (args : List AV) (h : List AB) : Option (AV × List AB) :=
 (selF (rowss args) h).bind fun h1 => (purZs h1 args).bind fun args' => match AV.pure.pures args' with
  | true => (CP p fn args' []).map fun v => (v, h1)
  | false => none
def slOk (r : Int) (len n : Nat) : Bool := decide (0 ≤ r ∧ r ≤ n ∧ len ≤ n)
theorem sl_own {h : List AB} {b t s g len : Nat} {α : Type} {e : α → List PV} {xs : List α} {r : Int} (hb : h[b]? = some (.row t s g (ra e xs))) (hr : slOk r len xs.length = true) : slA h s (.sl b g s 0 len) (some 0) (some r) = some (.sl b g s 0 (Int.toNat r)) := by
 have hr := of_decide_eq_true hr
 simp only [slA, if_true, bsm, hb]
 rw [if_pos ⟨trivial, Int.le_refl 0, hr.1, .inr ⟨by simp [ra]; omega, by simp [ra]; omega⟩⟩]
 simp
def sp (b : Bool) (k o : Nat) : AV := match b with
 | true => .ptr k o
 | false => .p (.val (.pointer none))
theorem sp_t {b : Bool} {k o : Nat} (h : b = true) : sp b k o = .ptr k o := by rw [h]; rfl
theorem sp_f {b : Bool} {k o : Nat} (h : b = false) : sp b k o = .p (.val (.pointer none)) := by rw [h]; rfl
theorem blw_sp {b : Bool} {m k o : Nat} {xs : List AV} (hk : decide (k < m) = true) (h : belows m xs = true) : belows m (sp b k o :: xs) = true := by
 cases b <;> simp only [sp, belows, AV.blw, hk, h, Bool.and_self]
theorem blw_c {m : Nat} {x : AV} {xs : List AV} (hk : x.blw m = true) (h : belows m xs = true) : belows m (x :: xs) = true := by simp only [belows, hk, h, Bool.and_self]
def sbytes (s : ByteArray) : List Int := s.data.toList.map fun b => (b.toNat : Int)
theorem rows_s {h : List AB} {e : Int → List PV} {s : ByteArray} (he : ∀ n, e n = [.val (.int .u8 n)] := by intro n; rfl) : rowsOf h 1 (vs s) = some (ra e (sbytes s)) := by
 simp only [rowsOf, if_true, ra, sbytes, List.map_map]
 congr 1
 refine List.map_congr_left (fun b _ => ?_)
 simp [he]
theorem bytes_ra {e : Int → List PV} (he : ∀ n, e n = [.val (.int .u8 n)]) : ∀ (xs : List Int), bytesOf (ra e xs) = some (xs.map fun n => UInt8.ofNat n.toNat)
 | [] => rfl
 | x :: xs => by
  have := bytes_ra he xs
  simp only [ra] at this
  show bytesOf ((e x).map .p :: xs.map fun v => (e v).map .p) = _
  rw [he x]
  simp only [List.map_cons, List.map_nil, bytesOf, this, msm]
theorem sd_t {h : List AB} {b t g len : Nat} {α : Type} {e : α → List PV} {xs : List α} (hb : h[b]? = some (.row t 1 g (ra e xs))) (hl : decide (0 < len) = true) : sdA h (.sl b g 1 0 len) = some (.rp b g 1 0 0) := by
 simp only [sdA, hb]
 rw [if_pos ⟨trivial, trivial, trivial, trivial⟩, if_pos (of_decide_eq_true hl)]
theorem sd_f {h : List AB} {b t g len : Nat} {α : Type} {e : α → List PV} {xs : List α} (hb : h[b]? = some (.row t 1 g (ra e xs))) (hl : decide (0 < len) = false) : sdA h (.sl b g 1 0 len) = some .anyp := by
 simp only [sdA, hb]
 rw [if_pos ⟨trivial, trivial, trivial, trivial⟩, if_neg (of_decide_eq_false hl)]
def usOk (len n : Nat) : Bool := decide (len ≤ n ∧ (len : Int) ≤ 9223372036854775807)
theorem us_t {h : List AB} {b t g len : Nat} {e : Int → List PV} {xs : List Int} (hb : h[b]? = some (.row t 1 g (ra e xs))) (hl : decide (0 < len) = true) (ho : usOk len xs.length = true) (he : ∀ n, e n = [.val (.int .u8 n)] := by intro n; rfl) :
  uSA h t (.rp b g 1 0 0) (vi .i64 ((len : Nat) : Int)) = some (vs (bstr (xs.take len)), h.set b .dead) := by
 have hl := of_decide_eq_true hl
 have ho := of_decide_eq_true ho
 simp only [uSA, hb]
 rw [if_pos ⟨trivial, trivial, trivial, trivial, trivial, trivial, by omega, by simpa [ra] using ho.1, ho.2⟩]
 have e1 : (ra e xs).take len = ra e (xs.take len) := by simp [ra, List.map_take]
 rw [Int.toNat_natCast, e1, bytes_ra he]
 rfl
theorem us_f {h : List AB} {t len : Nat} (hl : decide (0 < len) = false) : uSA h t .anyp (vi .i64 ((len : Nat) : Int)) = some (vs .empty, h) := by
 have hl := of_decide_eq_false hl
 simp only [uSA]
 rw [if_pos (by omega)]
section
variable {α : Type} {lf : List α → List (List PV)} {e : α → List PV}
theorem igr (hl : ∀ xs, lf xs = xs.map e) {xs : List α} {i : Int} {v : α} {sz : Nat} {k : IntKind} (h : getI xs i = some v) : idxA sz (.p (.lst sz (lf xs))) (vi k i) = some (.ro (e v)) := by rw [hl]; exact idx_get h
theorem lgr (hl : ∀ xs, lf xs = xs.map e) {xs : List α} {sz : Nat} : lnA (.p (.lst sz (lf xs))) = some (vi .i64 (xs.length : Int)) := by rw [hl]; exact ln_get
theorem slr (hl : ∀ xs, lf xs = xs.map e) {xs : List α} {sz : Nat} {l r : Int} (h : sl_ok l r xs.length = true) : slL sz (.p (.lst sz (lf xs))) (some l) (some r) = some (.p (.lst sz (lf ((xs.take r.toNat).drop l.toNat)))) := by rw [hl, hl]; exact sl_lst h
end
def PR2 (p : Prg) (fn : Nat) (args : List AV) (x : AV) : Prop := ∃ v h', CS p fn args [] = some (v, h') ∧ purA h' v = some x ∧ nols v = true ∧ purA (qH h') v = some x
theorem PR2.pr1 {p : Prg} {fn : Nat} {args : List AV} {x : AV} (h : PR2 p fn args x) : PR1 p fn args x := by
 obtain ⟨v, h', h1, h2, _⟩ := h
 exact ⟨v, h', h1, h2⟩
theorem PR2.cp {p : Prg} {fn : Nat} {args : List AV} {x : AV} (h : PR2 p fn args x) (hp : AV.pure.pures args = true) (h0 : List AB) : CP p fn args h0 = some x := h.pr1.cp hp h0
mutual
theorem flat_pure : ∀ (v : AV), flat v = true → v.pure = true
 | .p _, _ => rfl
 | .agg xs, h => by simp only [flat] at h; simp only [AV.pure]; exact flats_pure xs h
 | .tup xs, h => by simp only [flat] at h; simp only [AV.pure]; exact flats_pure xs h
 | .fn _ xs, h => by simp only [flat] at h; simp only [AV.pure]; exact flats_pure xs h
 | .ro _, _ => rfl
 | .ptr _ _, h => by simp [flat] at h
 | .sl .., h => by simp [flat] at h
 | .rp .., h => by simp [flat] at h
 | .mp _, h => by simp [flat] at h
 | .yl _, h => by simp [flat] at h
 | .anyp, h => by simp [flat] at h
 | .anye, h => by simp [flat] at h
 | .und, h => by simp [flat] at h
theorem flats_pure : ∀ (xs : List AV), flats xs = true → AV.pure.pures xs = true
 | [], _ => rfl
 | x :: xs, h => by
  simp only [flats, aet] at h
  simp only [AV.pure.pures, flat_pure x h.1, flats_pure xs h.2, Bool.and_self]
end
theorem PR2.own {p : Prg} {fn : Nat} {args args' : List AV} {x : AV} {h0 : List AB} (h : PR2 p fn args' x) (hp : AV.pure.pures args = false) (ha : purAs h0 args = some args') : CP p fn args h0 = some x := by
 obtain ⟨v, h', h1, h2, h3, h4⟩ := h
 unfold CP callP
 unfold CS at h1
 rw [hp]
 simp only [Bool.false_eq_true, if_false, ha, h1, h3, if_true, h4]
 cases hf : flat v with
 | true =>
  have := purA_pure (h := h') v (flat_pure v hf)
  rw [h2] at this
  simp only [if_true, this]
 | false => simp
theorem fcF {p : Prg} {m fn : Nat} {args : List AV} {h h' : List AB} {v : AV} {ps : List Prop} (H : List (Nat × Hint)) (hp : AllP ps) (k1 : belows m args = true) (k2 : h.all (AB.blw m) = true) (k3 : v.blw m = true) (k4 : (h'.take m).all (AB.blw m) = true) (k5 : m.ble h'.length = true)
  (e : callFS p 30 H fn m args h = some (ps, v, h')) (hx : List AB) : CS p fn args (h ++ hx) = some (v, h'.take m ++ hx) :=
 CS_F e hp (by rw [k1, k2, k3, k4, k5]; rfl) hx
def gnz {α : Type} : List α → Nat
 | [] => 0
 | _ :: _ => 1
def clOk (n bytes : Nat) : Bool := decide ((0 + n) * bytes ≤ limit47 ∧ 0 + n ≤ limit47)
section
variable {hm : List AB} {n : Nat}
end
theorem set_same {o : List Bool} {k : Nat} (h : o[k]? = some true) : o.set k true = o := by
 apply List.ext_getElem?
 intro i
 rw [List.getElem?_set]
 split
 ·rename_i e; subst e
  rw [if_pos (List.getElem?_eq_some_iff.1 h).1, h]
 ·rfl
def fieldsOk (P : Program) (L : List TypeId) : List Field → Nat → Nat → Bool
 | [], off, tot => off == tot
 | f :: fs, off, tot => (f.offset == off) && (L.contains f.type && fieldsOk P L fs (off + P.cellsOf f.type) tot)
def okTy (P : Program) (L : List TypeId) (t : TypeId) : Bool := match P.underlying t with
 | some .bool => P.cellsOf t == 1
 | some (.int _) => P.cellsOf t == 1
 | some .string => P.cellsOf t == 1
 | some (.slice e) => (P.cellsOf t == 1) && (L.contains e && decide (0 < P.cellsOf e))
 | some (.struct fs) => fieldsOk P L fs.toList 0 (P.cellsOf t)
 | some (.array len e) => L.contains e && (P.cellsOf t == len * P.cellsOf e)
 | _ => false
def kidsT (P : Program) (t : TypeId) : List TypeId := match P.underlying t with
 | some (.slice e) => [e]
 | some (.struct fs) => fs.toList.map (·.type)
 | some (.array _ e) => [e]
 | _ => []
def clos (P : Program) : Nat → List TypeId → List TypeId → List TypeId
 | 0, _, acc => acc
 | _ + 1, [], acc => acc
 | n + 1, t :: r, acc => if acc.contains t then clos P n r acc else clos P n (kidsT P t ++ r) (acc ++ [t])
def FitFs (q : TypeId → List PV → Prop) : List Field → List PV → Prop
 | [], xs => xs = []
 | f :: fs, xs => ∃ a b, xs = a ++ b ∧ q f.type a ∧ FitFs q fs b
def FitAr (q : List PV → Prop) : Nat → List PV → Prop
 | 0, xs => xs = []
 | n + 1, xs => ∃ a b, xs = a ++ b ∧ q a ∧ FitAr q n b
def FitT (P : Program) : Nat → TypeId → List PV → Prop
 | 0, _, _ => False
 | n + 1, t, xs => match P.underlying t with
  | some .bool => ∃ b, xs = [.val (.bool b)]
  | some (.int k) => ∃ z, xs = [.val (.int k z)] ∧ k.min ≤ z ∧ z ≤ k.max
  | some .string => ∃ s, xs = [.val (.string s)] ∧ s.size ≤ reachBytes
  | some (.slice e) => ∃ rows, xs = [.lst (P.cellsOf e) rows] ∧ rows.length ≤ maxLen ∧ ∀ r ∈ rows, FitT P n e r
  | some (.struct fs) => FitFs (FitT P n) fs.toList xs
  | some (.array len e) => FitAr (FitT P n e) len xs
  | _ => False
section
variable {P : Program} {L : List TypeId}
theorem fitFs_len {q : TypeId → List PV → Prop} (hq : ∀ t xs, L.contains t = true → q t xs → xs.length = P.cellsOf t) : ∀ (fs : List Field) (xs : List PV) (off tot : Nat), fieldsOk P L fs off tot = true → FitFs q fs xs → off + xs.length = tot
 | [], xs, off, tot, h, hx => by
  simp only [fieldsOk, beq_iff_eq] at h
  simp only [FitFs] at hx
  subst hx
  simpa using h
 | f :: fs, xs, off, tot, h, hx => by
  simp only [fieldsOk, aet] at h
  obtain ⟨a, b, rfl, h1, h2⟩ := hx
  have := fitFs_len hq fs b _ tot h.2.2 h2
  rw [List.length_append, hq _ _ h.2.1 h1]
  omega
theorem fitAr_len {q : List PV → Prop} {k : Nat} (hq : ∀ xs, q xs → xs.length = k) : ∀ (n : Nat) (xs : List PV), FitAr q n xs → xs.length = n * k
 | 0, xs, h => by simp only [FitAr] at h; subst h; simp
 | n + 1, xs, h => by
  obtain ⟨a, b, rfl, h1, h2⟩ := h
  rw [List.length_append, hq _ h1, fitAr_len hq n b h2, Nat.add_mul, Nat.one_mul, Nat.add_comm]
theorem fit_len (hL : ∀ t, L.contains t = true → okTy P L t = true) : ∀ (n : Nat) (t : TypeId) (xs : List PV), L.contains t = true → FitT P n t xs → xs.length = P.cellsOf t
 | 0, _, _, _, h => by simp [FitT] at h
 | n + 1, t, xs, ht, h => by
  have ho := hL t ht
  unfold okTy at ho
  simp only [FitT] at h
  split at h
  ·rename_i hu; rw [hu] at ho; obtain ⟨b, rfl⟩ := h; simpa using (eq_of_beq ho).symm
  ·rename_i hu; rw [hu] at ho; obtain ⟨b, rfl, _⟩ := h; simpa using (eq_of_beq ho).symm
  ·rename_i hu; rw [hu] at ho; obtain ⟨b, rfl, _⟩ := h; simpa using (eq_of_beq ho).symm
  ·rename_i hu; rw [hu] at ho; obtain ⟨b, rfl, _⟩ := h
   simp only [aet] at ho
   simpa using (eq_of_beq ho.1).symm
  ·rename_i fs hu; rw [hu] at ho
   have := fitFs_len (fun t xs h1 h2 => fit_len hL n t xs h1 h2) fs.toList xs 0 _ ho h
   omega
  ·rename_i len e hu; rw [hu] at ho
   simp only [aet] at ho
   have := fitAr_len (fun xs h2 => fit_len hL n e xs ho.1 h2) len xs h
   have := eq_of_beq ho.2
   omega
  ·exact h.elim
end
theorem PRr_of' {S : Nat → Prop} {w : World} {b k : Nat} : ∀ {rows : List (List PV)} {off : Nat}, (∀ i r, rows[i]? = some r → r.length = k ∧ PRs S w b (off + i * k) r) → PRr S w b off k rows
 | [], _, _ => by simp [PRr]
 | r :: rs, off, h => by
  simp only [PRr]
  obtain ⟨h1, h2⟩ := h 0 r rfl
  refine ⟨h1, by simpa using h2, PRr_of' (fun i q hi => ?_)⟩
  obtain ⟨k1, k2⟩ := h (i + 1) q (by simpa using hi)
  refine ⟨k1, ?_⟩
  rw [Nat.add_mul, Nat.one_mul] at k2
  rwa [show off + k + i * k = off + (i * k + k) from by omega]
def Wk {H : Type} (P : Program) (t : TypeId) (d : DataW H) : Prop := ∀ k ∈ DataW.weights P t d, k ≤ reachBytes
def WkE {H : Type} (P : Program) (ts : List TypeId) (ds : List (DataW H)) : Prop := ∀ k ∈ DataW.weightsEach P ts ds, k ≤ reachBytes
def WkA {H : Type} (P : Program) (t : TypeId) (ds : List (DataW H)) : Prop := ∀ k ∈ DataW.weightsAll P t ds, k ≤ reachBytes
section
variable {H : Type} {P : Program}
theorem wkE_cons {t : TypeId} {ts : List TypeId} {d : DataW H} {ds : List (DataW H)} (h : WkE P (t :: ts) (d :: ds)) : Wk P t d ∧ WkE P ts ds :=
 ⟨fun k hk => h k (by simp only [DataW.weightsEach, List.mem_append]; exact .inl hk), fun k hk => h k (by simp only [DataW.weightsEach, List.mem_append]; exact .inr hk)⟩
theorem wkA_at {t : TypeId} : ∀ {ds : List (DataW H)} {i : Nat} {d : DataW H}, WkA P t ds → ds[i]? = some d → Wk P t d
 | [], _, _, _, h => by simp at h
 | d :: ds, 0, _, h, hd => fun k hk => h k (by
  obtain rfl := Option.some.inj (by simpa using hd)
  simp only [DataW.weightsAll, List.mem_append]; exact .inl hk)
 | d :: ds, i + 1, _, h, hd => wkA_at (i := i) (fun k hk => h k (by simp only [DataW.weightsAll, List.mem_append]; exact .inr hk)) (by simpa using hd)
end
section
variable {H : Type} {enc : TypeId × Value → H} {P : Program} {w : World} {L : List TypeId}
theorem fieldsT_rel {S : Nat → Prop} {q : TypeId → List PV → Prop} {tr : TypeId → List Value → Option (DataW H × List MemPlace)} (hrec : ∀ t cs d, L.contains t = true → tr t cs = some d → Wk P t d.1 → ∃ xs, q t xs ∧ PVs S w xs cs) (hq : ∀ t xs, L.contains t = true → q t xs → xs.length = P.cellsOf t) {cs : List Value} :
  ∀ (fs : List Field) (off : Nat) (xs : List (DataW H × List MemPlace)), fieldsOk P L fs off cs.length = true →
   fs.mapM (fun f => tr f.type ((cs.drop f.offset).take (P.cellsOf f.type))) = some xs → WkE P (fs.map (·.type)) (xs.map (·.1)) → ∃ ys, FitFs q fs ys ∧ PVs S w ys (cs.drop off)
 | [], off, xs, hk, _, _ => by
  simp only [fieldsOk, beq_iff_eq] at hk
  refine ⟨[], by simp [FitFs], ?_⟩
  rw [List.drop_eq_nil_of_le (by omega)]
  simp [PVs]
 | f :: fs, off, xs, hk, hm, hw => by
  simp only [fieldsOk, aet] at hk
  obtain ⟨ho, hc, hk⟩ := hk
  have ho := eq_of_beq ho
  subst ho
  simp only [List.mapM_cons, Option.bind_eq_bind, bei, Option.pure_def, oiq] at hm
  obtain ⟨d, hd, ds, hds, rfl⟩ := hm
  obtain ⟨w1, w2⟩ := wkE_cons hw
  obtain ⟨y1, a1, a2⟩ := hrec _ _ _ hc hd w1
  obtain ⟨y2, b1, b2⟩ := fieldsT_rel hrec hq fs (f.offset + P.cellsOf f.type) ds hk hds w2
  refine ⟨y1 ++ y2, ⟨y1, y2, rfl, a1, b1⟩, ?_⟩
  have e : cs.drop f.offset = (cs.drop f.offset).take (P.cellsOf f.type) ++ cs.drop (f.offset + P.cellsOf f.type) := by
   rw [← List.drop_drop, List.take_append_drop]
  rw [e]
  exact a2.append b2
theorem arrT_rel {S : Nat → Prop} {q : List PV → Prop} {k : Nat} {e : TypeId} {tr : List Value → Option (DataW H × List MemPlace)} (hrec : ∀ cs d, tr cs = some d → Wk P e d.1 → ∃ xs, q xs ∧ PVs S w xs cs) :
  ∀ (n : Nat) (cs : List Value), cs.length = n * k → (∀ i, i < n → ∃ d, tr ((cs.drop (i * k)).take k) = some d ∧ Wk P e d.1) → ∃ ys, FitAr q n ys ∧ PVs S w ys cs
 | 0, cs, hl, _ => by
  have : cs = [] := List.eq_nil_of_length_eq_zero (by simpa using hl)
  subst this
  exact ⟨[], by simp [FitAr], by simp [PVs]⟩
 | n + 1, cs, hl, h => by
  obtain ⟨d, hd, hdw⟩ := h 0 (by omega)
  simp only [Nat.zero_mul, List.drop_zero] at hd
  obtain ⟨y1, a1, a2⟩ := hrec _ _ hd hdw
  obtain ⟨y2, b1, b2⟩ := arrT_rel (k := k) hrec n (cs.drop k) (by rw [List.length_drop, hl, Nat.add_mul]; omega) (fun i hi => by
   obtain ⟨d, hd, hdw⟩ := h (i + 1) (by omega)
   refine ⟨d, ?_, hdw⟩
   rw [List.drop_drop]
   rwa [show k + i * k = (i + 1) * k from by rw [Nat.add_mul]; omega])
  refine ⟨y1 ++ y2, ⟨y1, y2, rfl, a1, b1⟩, ?_⟩
  have e : cs = cs.take k ++ cs.drop k := (List.take_append_drop _ _).symm
  rw [e]
  exact a2.append b2
theorem trodT_rel (hL : ∀ t, L.contains t = true → okTy P L t = true) : ∀ (n : Nat) (t : TypeId) (cs : List Value) (x : DataW H × List MemPlace), L.contains t = true → DataW.trod enc P w 0 (fun _ => true) true n t cs = some x → Wk P t x.1 →
  ∃ xs, FitT P n t xs ∧ PVs (fun c => c < w.heap.size) w xs cs
 | 0, _, _, _, _, h, _ => by simp [DataW.trod] at h
 | n + 1, t, cs, x, ht, h, hw => by
  have ho := hL t ht
  unfold okTy at ho
  simp only [DataW.trod] at h
  simp only [FitT]
  split at ho
  ·rename_i hu
   rw [hu] at h
   try simp only [hu]
   split at h <;> simp_all
   rename_i b
   cases b <;> simp [PVs, PR, Value.oneCell']
  ·rename_i k hu
   rw [hu] at h
   try simp only [hu]
   split at h <;> simp_all
   rename_i k' z _
   obtain ⟨⟨rfl, hw⟩, _⟩ := h
   simp only [Lit.wf, aet, decide_eq_true_eq] at hw
   exact ⟨[.val (.int k' z)], by simp [hw], by simp [PVs, PR, Value.oneCell']⟩
  ·rename_i hu
   rw [hu] at h
   try simp only [hu]
   split at h <;> try (first | (cases h; done) | (rename_i h1 h2; simp at h1; done) | (rename_i h1; simp at h1; done))
   ·rename_i s _
    split at h
    ·simp only [oiq] at h
     subst h
     refine ⟨[.val (.string s)], ⟨s, rfl, ?_⟩, by simp [PVs, PR, Value.oneCell']⟩
     have := hw s.data.toList.length (by simp [DataW.weights])
     rwa [Array.length_toList] at this
    ·cases h
   all_goals (exfalso; simp_all)
  ·rename_i e hu
   simp only [aet, decide_eq_true_eq] at ho
   obtain ⟨_, hce, hpos⟩ := ho
   rw [hu] at h
   try simp only [hu]
   split at h <;> try (first | (cases h; done) | (rename_i h1 h2; simp at h1; done) | (rename_i h1; simp at h1; done))
   ·exact ⟨[.lst (P.cellsOf e) []], ⟨[], rfl, by simp, by simp⟩, by simp only [PVs, PR, and_true]; exact ⟨rfl, none, 0, rfl, Nat.le_refl _, Nat.zero_le _, .inl rfl⟩⟩
   ·rename_i e' a len cap h1
    simp only [oiq, TypeDesc.slice.injEq] at h1
    subst h1
    split at h
    ·rename_i hcnd
     simp only [bei] at h
     obtain ⟨elems, hel, h⟩ := h
     obtain ⟨rest, _, rfl⟩ := mei.1 h
     have hwA : WkA P e (elems.map (·.1)) := fun k hk => hw k (by
      simp only [DataW.weights, hu, List.mem_cons, List.mem_append]
      exact .inr (.inl hk))
     rcases Nat.eq_zero_or_pos len with h0 | h0
     ·subst h0
      exact ⟨[.lst (P.cellsOf e) []], ⟨[], rfl, by simp, by simp⟩, by simp only [PVs, PR, and_true]; exact ⟨rfl, some a, cap, rfl, Nat.zero_le _, hcnd.2.2, .inl rfl⟩⟩
     ·have each : ∀ i, i < len → ∃ r, FitT P n e r ∧ ∃ vs, PVs (fun c => c < w.heap.size) w r vs ∧ vs.length = P.cellsOf e ∧ ∀ j v, vs[j]? = some v → w.cell? ((a.add (i * P.cellsOf e)).add j) = some v := by
       intro i hi
       obtain ⟨y, hyi, hy⟩ := Lib.mapM_at hel i i (by simp [hi])
       simp only [bei] at hy
       obtain ⟨vs, hvs, hy⟩ := hy
       obtain ⟨q1, q2⟩ := cells?_get hvs
       obtain ⟨r, r1, r2⟩ := trodT_rel hL n e vs y hce hy (wkA_at hwA (by rw [List.getElem?_map, hyi]; rfl))
       exact ⟨r, r1, vs, r2, q1, q2⟩
      obtain ⟨rows, hrl, hrows⟩ := list_of _ len each
      obtain ⟨r0, _, vs0, _, hl0, hc0⟩ := each 0 h0
      have hv0 : vs0[0]? = some (vs0[0]'(by omega)) := geg _
      have h00 := hc0 0 _ hv0
      obtain ⟨b, off, spot⟩ := a
      have hspot : spot = none := by
       simp only [Nat.zero_mul, Addr.add, if_true] at h00
       unfold World.cell? at h00
       split at h00
       ·cases spot with
        | none => rfl
        | some _ => simp at h00
       ·cases h00
      subst hspot
      have hb : b < w.heap.size := by
       simp only [Nat.zero_mul, Addr.add, if_true] at h00
       unfold World.cell? at h00
       split at h00
       ·rename_i hh; exact heap_lt hh
       ·cases h00
      refine ⟨[.lst (P.cellsOf e) rows], ⟨rows, rfl, by rw [hrl]; exact Nat.le_trans hcnd.2.1 hcnd.2.2, fun r hr => ?_⟩, ?_⟩
      ·obtain ⟨i, hi⟩ := List.getElem?_of_mem hr
       exact (hrows i r hi).1
      ·simp only [PVs, PR, and_true]
       refine ⟨rfl, some ⟨b, off, none⟩, cap, by rw [hrl], by rw [hrl]; exact hcnd.2.1, hcnd.2.2, .inr ⟨b, off, rfl, hb, ?_⟩⟩
       refine PRr_of' (fun i r hi => ?_)
       obtain ⟨g1, vs, g2, _, g4⟩ := hrows i r hi
       refine ⟨fit_len hL n e r hce g1, g2.prs (fun j v hj => ?_)⟩
       have := g4 j v hj
       rwa [add_addr, add_addr] at this
    ·cases h
   all_goals (exfalso; simp_all)
  ·rename_i fs hu
   rw [hu] at h
   try simp only [hu]
   split at h <;> try (first | (cases h; done) | (rename_i h1 h2; simp at h1; done) | (rename_i h1; simp at h1; done))
   ·rename_i fs' h1
    simp only [oiq, TypeDesc.struct.injEq] at h1
    subst h1
    split at h
    ·rename_i hl
     obtain ⟨xs, hxs, rfl⟩ := mei.1 h
     have hwE : WkE P (fs.toList.map (·.type)) (xs.map (·.1)) := fun k hk => hw k (by simp only [DataW.weights, hu]; exact hk)
     obtain ⟨ys, y1, y2⟩ := fieldsT_rel (S := fun c => c < w.heap.size) (tr := DataW.trod enc P w 0 (fun _ => true) true n) (fun t cs d h1 h2 h3 => trodT_rel hL n t cs d h1 h2 h3) (fun t xs h1 h2 => fit_len hL n t xs h1 h2) fs.toList 0 xs (by rw [hl]; exact ho) hxs hwE
     exact ⟨ys, y1, by simpa using y2⟩
    ·cases h
   all_goals (exfalso; simp_all)
  ·rename_i len e hu
   simp only [aet] at ho
   obtain ⟨hce, hct⟩ := ho
   have hct := eq_of_beq hct
   rw [hu] at h
   try simp only [hu]
   split at h <;> try (first | (cases h; done) | (rename_i h1 h2; simp at h1; done) | (rename_i h1; simp at h1; done))
   ·rename_i len' e' h1
    simp only [oiq, TypeDesc.array.injEq] at h1
    obtain ⟨rfl, rfl⟩ := h1
    split at h
    ·rename_i hl
     obtain ⟨xs, hxs, rfl⟩ := mei.1 h
     have hwA : WkA P e (xs.map (·.1)) := fun k hk => hw k (by simp only [DataW.weights, hu]; exact hk)
     refine arrT_rel (e := e) (k := P.cellsOf e) (tr := DataW.trod enc P w 0 (fun _ => true) true n e) (fun cs d h1 h2 => trodT_rel hL n e cs d hce h1 h2) len _ (by omega) (fun i hi => ?_)
     obtain ⟨y, hyi, hy⟩ := Lib.mapM_at hxs i i (by simp [hi])
     exact ⟨y, hy, wkA_at hwA (by rw [List.getElem?_map, hyi]; rfl)⟩
    ·cases h
   all_goals (exfalso; simp_all)
  ·cases ho
def ArgsFitT (P : Program) : List TypeId → List AV → Prop
 | [], [] => True
 | t :: ts, a :: as => (∃ n xs, FitT P n t xs ∧ a = argA P t xs) ∧ ArgsFitT P ts as
 | _, _ => False
variable {g : G}
theorem argT_rel (hL : ∀ t, L.contains t = true → okTy P L t = true) {r : Reach} {base : Nat} {t : TypeId} {v : Value} {d : DataW H} {ps : List MemPlace} (hg : g.S = fun c => c < w.heap.size) (ht : L.contains t = true) (hd : DataW.Trod enc P w 0 (fun _ => true) true t v d ps) (hok : Value.okWide P w r base t v) (hw : Wk P t d) :
  ∃ n xs, FitT P n t xs ∧ VR g w (argA P t xs) v := by
 obtain ⟨n, hn⟩ := hd
 obtain ⟨xs, h1, h2⟩ := trodT_rel hL n t _ _ ht hn hw
 have h3 := h2.vrs hg
 have hlen := fit_len hL n t xs ht h1
 refine ⟨n, xs, h1, ?_⟩
 have one : v.cells = #[v] → aggT P t = some false → VR g w (argA P t xs) v := by
  intro hv ha
  have hx1 : xs.length = 1 := by rw [h2.len, hv]; rfl
  match xs, hx1 with
  | [x], _ =>
   rw [hv] at h3
   simp only [List.map_cons, List.map_nil, VRs] at h3
   simp only [argA, ha]
   exact h3.1
 have ho := hL t ht
 unfold okTy at ho
 unfold Value.okWide at hok
 split at ho
 ·rename_i hu
  rw [hu] at hok
  simp only [Cell.okWide, hu] at hok
  unfold Cell.ok at hok
  rw [hu] at hok
  refine one ?_ (by simp [aggT, hu, isAggD])
  cases v <;> first | rfl | (exfalso; simp at hok)
 ·rename_i k hu
  rw [hu] at hok
  simp only [Cell.okWide, hu] at hok
  unfold Cell.ok at hok
  rw [hu] at hok
  refine one ?_ (by simp [aggT, hu, isAggD])
  cases v <;> first | rfl | (exfalso; simp at hok)
 ·rename_i hu
  rw [hu] at hok
  simp only [Cell.okWide, hu] at hok
  unfold Cell.ok at hok
  rw [hu] at hok
  refine one ?_ (by simp [aggT, hu, isAggD])
  cases v <;> first | rfl | (exfalso; simp at hok)
 ·rename_i e hu
  rw [hu] at hok
  simp only [Cell.okWide, hu] at hok
  unfold Cell.ok at hok
  rw [hu] at hok
  refine one ?_ (by simp [aggT, hu, isAggD])
  cases v <;> first | rfl | (exfalso; simp at hok)
 ·rename_i fs hu
  rw [hu] at hok
  obtain ⟨cs, rfl, _⟩ := hok
  simp only [argA, aggT, hu, msm, isAggD, VR]
  exact ⟨cs, rfl, h3⟩
 ·rename_i len e hu
  rw [hu] at hok
  obtain ⟨cs, rfl, _⟩ := hok
  simp only [argA, aggT, hu, msm, isAggD, VR]
  exact ⟨cs, rfl, h3⟩
 ·cases ho
theorem argsT_rel (hL : ∀ t, L.contains t = true → okTy P L t = true) {r : Reach} {base : Nat} {vt : List TypeId} (hg : g.S = fun c => c < w.heap.size) : ∀ {ts : List TypeId} {vs : List Value} {ds : List (DataW H)} {ps : List MemPlace}, DataW.TrodAll enc P w 0 (fun _ => true) true ts vs ds ps →
  WkE P (ts ++ vt) ds → (∀ (j : Nat) t v, ts[j]? = some t → vs[j]? = some v → Value.okWide P w r base t v) → ts.all (fun t => L.contains t) = true → ds.length = ts.length ∧ ∃ as, ArgsFitT P ts as ∧ VRs g w as vs
 | [], [], [], _, _, _, _, _ => ⟨rfl, [], by simp [ArgsFitT], by simp [VRs]⟩
 | t :: ts, v :: vs, d :: ds, _, ⟨p, q, h1, h2, _⟩, hw, hok, hk => by
  simp only [List.all_cons, aet] at hk
  obtain ⟨w1, w2⟩ := wkE_cons hw
  obtain ⟨n, xs, a1, a2⟩ := argT_rel hL hg hk.1 h1 (hok 0 t v rfl rfl) w1
  obtain ⟨hl, as, b1, b2⟩ := argsT_rel hL hg h2 w2 (fun j t v hj hv => hok (j + 1) t v (by simpa using hj) (by simpa using hv)) hk.2
  exact ⟨by simp [hl], argA P t xs :: as, by simp only [ArgsFitT]; exact ⟨⟨n, xs, a1, rfl⟩, b1⟩, by simp only [VRs]; exact ⟨a2, b2⟩⟩
 | [], [], _ :: _, _, h, _, _, _ => by simp [DataW.TrodAll] at h
 | [], _ :: _, _, _, h, _, _, _ => by simp [DataW.TrodAll] at h
 | _ :: _, [], _, _, h, _, _, _ => by simp [DataW.TrodAll] at h
 | _ :: _, _ :: _, [], _, h, _, _, _ => by simp [DataW.TrodAll] at h
end
section
variable {P : Program} {n : Nat} {t : TypeId} {xs : List PV}
end
open Go
theorem cv_own {h : List AB} {b t g len : Nat} {e : Int → List PV} {xs : List Int} (hb : h[b]? = some (.row t 1 g (ra e xs))) (hl : decide (len ≤ xs.length) = true) (he : ∀ n, e n = [.val (.int .u8 n)] := by intro n; rfl) : cvB h (.sl b g 1 0 len) = some (vs (bstr (xs.take len))) := by
 have hl := of_decide_eq_true hl
 have e1 : ((ra e xs).drop 0).take len = ra e (xs.take len) := by simp [ra, List.map_take]
 simp only [cvB, rowsOf, hb]
 rw [if_pos trivial, if_pos ⟨trivial, trivial, by simp [ra]; omega⟩, e1]
 simp only [bsm, bytes_ra he, msm, bstr]
end Go.Vs
