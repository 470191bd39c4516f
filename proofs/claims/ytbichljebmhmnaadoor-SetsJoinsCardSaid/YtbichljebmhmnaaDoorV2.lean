/- What an abstract value, block and state say of the model's world. -/
import Derived.Test.YtbichljebmhmnaaDoorV1
namespace Go.Vs
set_option linter.unusedSimpArgs false
set_option linter.unusedVariables false
open Go Go.RowKit

mutual
def PR (S : Nat → Prop) (w : World) : PV → Value → Prop
  | .val v, x => x = v
  | .lst size rows, x => ∃ A cap, x = .slice A rows.length cap ∧ rows.length ≤ cap ∧ cap ≤ maxLen ∧
      (rows.length = 0 ∨ ∃ b off, A = some ⟨b, off, none⟩ ∧ S b ∧ PRr S w b off size rows)
def PRs (S : Nat → Prop) (w : World) (b : Nat) (off : Nat) : List PV → Prop
  | [] => True
  | x :: xs => (∃ u, w.cell? ⟨b, off, none⟩ = some u ∧ u.oneCell' = true ∧ PR S w x u) ∧ PRs S w b (off + 1) xs
def PRr (S : Nat → Prop) (w : World) (b : Nat) (off size : Nat) : List (List PV) → Prop
  | [] => True
  | r :: rs => r.length = size ∧ PRs S w b off r ∧ PRr S w b (off + size) size rs
end

/-- Ghosts: S: blocks that stay; Pr: blocks that this call leaves; N: how many abstract blocks; where each lies; a row's heads by generation. -/
structure G where
  S : Nat → Prop
  Pr : Nat → Prop
  N : Nat
  m : Nat → Nat
  gen : Nat → Nat
  hd : Nat → Nat → Option (Nat × Nat)
  cr : IC → Code → Prop

def SlR (size off len : Nat) (v : Value) : Option (Nat × Nat) → Prop
  | none => v = .slice none 0 0 ∧ off = 0 ∧ len = 0
  | some (c, cap) => off + len ≤ cap ∧ cap ≤ maxLen ∧ ∃ A, v = .slice A len (cap - off) ∧ (cap = off ∧ 0 < off ∨ A = some ⟨c, off * size, none⟩)

mutual
def VR (g : G) (w : World) : AV → Value → Prop
  | .p x, v => PR g.S w x v
  | .agg xs, v => ∃ cs, v = .agg cs ∧ VRs g w xs cs.toList
  | .tup xs, v => ∃ cs, v = .tuple cs ∧ VRs g w xs cs.toList
  | .ptr b off, v => b < g.N ∧ v = .pointer (some ⟨g.m b, off, none⟩)
  | .ro xs, v => ∃ b off, v = .pointer (some ⟨b, off, none⟩) ∧ g.S b ∧ PRs g.S w b off xs
  | .rp b gen size k off, v => b < g.N ∧ gen ≤ g.gen b ∧ ∃ c cap, g.hd b gen = some (c, cap) ∧ v = .pointer (some ⟨c, k * size + off, none⟩)
  | .sl b gen size off len, v => b < g.N ∧ gen ≤ g.gen b ∧ SlR size off len v (g.hd b gen)
  | .mp b, v => b < g.N ∧ v = .map (some (g.m b))
  | .yl b, v => b < g.N ∧ v = .func (.yield (g.m b)) #[] #[]
  | .anyp, v => ∃ p, v = .pointer p
  | .fn f caps, v => ∃ cs, v = .func (.func f) #[] cs ∧ VRs g w caps cs.toList
  | .und, _ => True
def VRs (g : G) (w : World) : List AV → List Value → Prop
  | [], [] => True
  | x :: xs, v :: vs => VR g w x v ∧ VRs g w xs vs
  | _, _ => False
end

/-- Cells of memory: related one by one, each fit for one cell. -/
def VRc (g : G) (w : World) (xs : List AV) (vs : List Value) : Prop := VRs g w xs vs ∧ ∀ v ∈ vs, v.oneCell' = true

def unfz (fz : Nat × Nat) (n : Nat) : Prop := ∀ j, j < n → ¬ (fz.1 ≤ j ∧ j < fz.2)

def cid (g : G) (b : Nat) : AB → Option Nat
  | .cells _ _ => some (g.m b)
  | .row _ _ gen _ => (g.hd b gen).map (·.1)
  | .loop .. => some (g.m b)
  | .dead => none

def RowR (g : G) (w : World) (t : TypeId) (size : Nat) (rows : List (List AV)) : Option (Nat × Nat) → Prop
  | none => rows = []
  | some (c, cap) => ∃ cs fz, w.heap[c]? = some (.cells cs t fz) ∧ unfz fz cs.size ∧ cs.size = cap * size ∧ cap ≤ maxLen ∧
      rows.length ≤ cap ∧ VRc g w rows.flatten (cs.toList.take (rows.length * size))

def stOf : Nat → LoopState
  | 0 => .ready
  | 1 => .busy
  | _ => .done

def pendOf : Option (Option Nat) → Option Code
  | none => none
  | some none => some .ret
  | some (some id) => some (.exit id)

structure LoopR (g : G) (w : World) (st : Nat) (pend : Option (Option Nat)) (ps : List Nat) (f : List AV) (ia ib : IC) (rec : Loop) : Prop where
  st : rec.state = stOf st
  pend : rec.pending = pendOf pend
  ps : rec.params.toList = ps
  f : VRs g w f rec.tmps.toList
  ia : g.cr ia rec.assign
  ib : g.cr ib rec.body

def BR (g : G) (w : World) (b : Nat) : AB → Prop
  | .cells t xs => ∃ cs fz, w.heap[g.m b]? = some (.cells cs t fz) ∧ unfz fz cs.size ∧ VRc g w xs cs.toList
  | .row t size gen rows => g.gen b = gen ∧ (∀ r ∈ rows, r.length = size) ∧ RowR g w t size rows (g.hd b gen)
  | .loop st pend ps f ia ib => ∃ rec, w.heap[g.m b]? = some (.loop rec) ∧ LoopR g w st pend ps f ia ib rec
  | .dead => True

structure HR (g : G) (h : List AB) (w : World) : Prop where
  n : g.N = h.length
  br : ∀ b x, h[b]? = some x → BR g w b x
  dis : ∀ b b' x x' c, h[b]? = some x → h[b']? = some x' → cid g b x = some c → cid g b' x' = some c → b = b'
  own : ∀ b x c, h[b]? = some x → cid g b x = some c → ¬ g.Pr c
  spr : ∀ c, g.S c → g.Pr c
  prs : ∀ c, g.Pr c → c < w.heap.size

def GR (g : G) (w : World) (gl : Nat → Option (List PV)) : Prop := ∀ n xs, gl n = some xs → g.S n ∧ PRs g.S w n 0 xs

structure Ext (g : G) (w : World) (g' : G) (w' : World) : Prop where
  S : ∀ c, g.S c → g'.S c
  Pr : ∀ c, g.Pr c → g'.Pr c
  pr : ∀ c, g.Pr c → w'.heap[c]? = w.heap[c]?
  N : g.N ≤ g'.N
  m : ∀ b, b < g.N → g'.m b = g.m b
  gen : ∀ b, b < g.N → g.gen b ≤ g'.gen b
  hd : ∀ b, b < g.N → ∀ k, k ≤ g.gen b → g'.hd b k = g.hd b k
  size : w.heap.size ≤ w'.heap.size
  os : w'.os = w.os
  tape : w'.tape = w.tape
  output : w'.output = w.output
  Sn : ∀ c, g'.S c → g.S c ∨ w.heap.size ≤ c
  cr : g'.cr = g.cr

theorem Ext.refl (g : G) (w : World) : Ext g w g w :=
  ⟨fun _ h => h, fun _ h => h, fun _ _ => rfl, Nat.le_refl _, fun _ _ => rfl, fun _ _ => Nat.le_refl _, fun _ _ _ _ => rfl, Nat.le_refl _, rfl, rfl, rfl, fun _ h => .inl h, rfl⟩

theorem Ext.trans {g g' g'' : G} {w w' w'' : World} (h : Ext g w g' w') (k : Ext g' w' g'' w'') : Ext g w g'' w'' :=
  ⟨fun c hc => k.S c (h.S c hc), fun c hc => k.Pr c (h.Pr c hc), fun c hc => (k.pr c (h.Pr c hc)).trans (h.pr c hc), Nat.le_trans h.N k.N,
   fun b hb => (k.m b (Nat.lt_of_lt_of_le hb h.N)).trans (h.m b hb),
   fun b hb => Nat.le_trans (h.gen b hb) (k.gen b (Nat.lt_of_lt_of_le hb h.N)),
   fun b hb n hn => (k.hd b (Nat.lt_of_lt_of_le hb h.N) n (Nat.le_trans hn (h.gen b hb))).trans (h.hd b hb n hn),
   Nat.le_trans h.size k.size, k.os.trans h.os, k.tape.trans h.tape, k.output.trans h.output,
   fun c hc => (k.Sn c hc).elim (h.Sn c) (fun hh => .inr (Nat.le_trans h.size hh)), k.cr.trans h.cr⟩

theorem cell_same {w w' : World} {b off : Nat} (h : w'.heap[b]? = w.heap[b]?) : w'.cell? ⟨b, off, none⟩ = w.cell? ⟨b, off, none⟩ := by
  simp [World.cell?, h]

mutual
theorem PR_mono {S S' : Nat → Prop} {w w' : World} (hS : ∀ c, S c → S' c) (hw : ∀ c, S c → w'.heap[c]? = w.heap[c]?) : ∀ (x : PV) (v : Value), PR S w x v → PR S' w' x v
  | .val _, _, h => by simpa [PR] using h
  | .lst size rows, v, h => by
    simp only [PR] at h ⊢
    obtain ⟨A, cap, rfl, h1, h2, h3⟩ := h
    refine ⟨A, cap, rfl, h1, h2, ?_⟩
    rcases h3 with h3 | ⟨b, off, hA, hb, hr⟩
    · exact .inl h3
    · exact .inr ⟨b, off, hA, hS _ hb, PRr_mono hS hw b hb off size rows hr⟩
theorem PRs_mono {S S' : Nat → Prop} {w w' : World} (hS : ∀ c, S c → S' c) (hw : ∀ c, S c → w'.heap[c]? = w.heap[c]?) (b : Nat) (hb : S b) : ∀ (off : Nat) (xs : List PV), PRs S w b off xs → PRs S' w' b off xs
  | _, [], _ => by simp [PRs]
  | off, x :: xs, h => by
    simp only [PRs] at h ⊢
    obtain ⟨⟨u, hu, h1, hx⟩, hr⟩ := h
    exact ⟨⟨u, (cell_same (hw b hb)).trans hu, h1, PR_mono hS hw x u hx⟩, PRs_mono hS hw b hb (off + 1) xs hr⟩
theorem PRr_mono {S S' : Nat → Prop} {w w' : World} (hS : ∀ c, S c → S' c) (hw : ∀ c, S c → w'.heap[c]? = w.heap[c]?) (b : Nat) (hb : S b) : ∀ (off size : Nat) (rows : List (List PV)), PRr S w b off size rows → PRr S' w' b off size rows
  | _, _, [], _ => by simp [PRr]
  | off, size, r :: rs, h => by
    simp only [PRr] at h ⊢
    exact ⟨h.1, PRs_mono hS hw b hb off r h.2.1, PRr_mono hS hw b hb (off + size) size rs h.2.2⟩
end

mutual
theorem VR_mono {g g' : G} {w w' : World} (he : Ext g w g' w') (hs : ∀ c, g.S c → g.Pr c) : ∀ (x : AV) (v : Value), VR g w x v → VR g' w' x v
  | .p x, v, h => by
    simp only [VR] at h ⊢
    exact PR_mono he.S (fun c hc => he.pr c (hs c hc)) x v h
  | .agg xs, v, h => by
    simp only [VR] at h ⊢
    obtain ⟨cs, rfl, h⟩ := h
    exact ⟨cs, rfl, VRs_mono he hs xs _ h⟩
  | .tup xs, v, h => by
    simp only [VR] at h ⊢
    obtain ⟨cs, rfl, h⟩ := h
    exact ⟨cs, rfl, VRs_mono he hs xs _ h⟩
  | .ptr b off, v, h => by
    simp only [VR] at h ⊢
    obtain ⟨hb, rfl⟩ := h
    exact ⟨Nat.lt_of_lt_of_le hb he.N, by rw [he.m b hb]⟩
  | .ro xs, v, h => by
    simp only [VR] at h ⊢
    obtain ⟨b, off, rfl, hb, hx⟩ := h
    exact ⟨b, off, rfl, he.S b hb, PRs_mono he.S (fun c hc => he.pr c (hs c hc)) b hb off xs hx⟩
  | .rp b gen size k off, v, h => by
    simp only [VR] at h ⊢
    obtain ⟨hb, hg, c, cap, hd, rfl⟩ := h
    exact ⟨Nat.lt_of_lt_of_le hb he.N, Nat.le_trans hg (he.gen b hb), c, cap, (he.hd b hb _ hg).trans hd, rfl⟩
  | .sl b gen size off len, v, h => by
    simp only [VR] at h ⊢
    obtain ⟨hb, hg, hr⟩ := h
    refine ⟨Nat.lt_of_lt_of_le hb he.N, Nat.le_trans hg (he.gen b hb), ?_⟩
    rw [he.hd b hb _ hg]
    exact hr
  | .mp b, v, h => by
    simp only [VR] at h ⊢
    obtain ⟨hb, rfl⟩ := h
    exact ⟨Nat.lt_of_lt_of_le hb he.N, by rw [he.m b hb]⟩
  | .yl b, v, h => by
    simp only [VR] at h ⊢
    obtain ⟨hb, rfl⟩ := h
    exact ⟨Nat.lt_of_lt_of_le hb he.N, by rw [he.m b hb]⟩
  | .fn f caps, v, h => by
    simp only [VR] at h ⊢
    obtain ⟨cs, rfl, h⟩ := h
    exact ⟨cs, rfl, VRs_mono he hs caps _ h⟩
  | .anyp, _, h => by simpa only [VR] using h
  | .und, _, _ => by simp [VR]
theorem VRs_mono {g g' : G} {w w' : World} (he : Ext g w g' w') (hs : ∀ c, g.S c → g.Pr c) : ∀ (xs : List AV) (vs : List Value), VRs g w xs vs → VRs g' w' xs vs
  | [], [], _ => by simp [VRs]
  | x :: xs, v :: vs, h => by
    simp only [VRs] at h ⊢
    exact ⟨VR_mono he hs x v h.1, VRs_mono he hs xs vs h.2⟩
  | [], _ :: _, h => by simp [VRs] at h
  | _ :: _, [], h => by simp [VRs] at h
end

theorem VRc_mono {g g' : G} {w w' : World} (he : Ext g w g' w') (hs : ∀ c, g.S c → g.Pr c) {xs : List AV} {vs : List Value} (h : VRc g w xs vs) : VRc g' w' xs vs := ⟨VRs_mono he hs _ _ h.1, h.2⟩

/- lists -/
section
variable {g : G} {w : World}
theorem VRs.len : ∀ {xs : List AV} {vs : List Value}, VRs g w xs vs → xs.length = vs.length
  | [], [], _ => rfl
  | _ :: _, _ :: _, h => by simp only [VRs] at h; simp [VRs.len h.2]
  | [], _ :: _, h => by simp [VRs] at h
  | _ :: _, [], h => by simp [VRs] at h

theorem VRs.get : ∀ {xs : List AV} {vs : List Value} {i : Nat} {x : AV}, VRs g w xs vs → xs[i]? = some x → ∃ v, vs[i]? = some v ∧ VR g w x v
  | x :: xs, v :: vs, 0, y, h, hi => by simp only [VRs] at h; simp at hi; subst hi; exact ⟨v, rfl, h.1⟩
  | x :: xs, v :: vs, i + 1, y, h, hi => by simp only [VRs] at h; simp at hi; obtain ⟨u, hu, hv⟩ := VRs.get h.2 hi; exact ⟨u, by simpa using hu, hv⟩
  | [], [], _, _, _, hi => by simp at hi
  | [], _ :: _, _, _, h, _ => by simp [VRs] at h
  | _ :: _, [], _, _, h, _ => by simp [VRs] at h

theorem VRs.get' : ∀ {xs : List AV} {vs : List Value} {i : Nat} {v : Value}, VRs g w xs vs → vs[i]? = some v → ∃ x, xs[i]? = some x ∧ VR g w x v
  | x :: xs, v :: vs, 0, y, h, hi => by simp only [VRs] at h; simp at hi; subst hi; exact ⟨x, rfl, h.1⟩
  | x :: xs, v :: vs, i + 1, y, h, hi => by simp only [VRs] at h; simp at hi; obtain ⟨u, hu, hv⟩ := VRs.get' h.2 hi; exact ⟨u, by simpa using hu, hv⟩
  | [], [], _, _, _, hi => by simp at hi
  | [], _ :: _, _, _, h, _ => by simp [VRs] at h
  | _ :: _, [], _, _, h, _ => by simp [VRs] at h

theorem VRs.set : ∀ {xs : List AV} {vs : List Value} {i : Nat} {x : AV} {v : Value}, VRs g w xs vs → VR g w x v → VRs g w (xs.set i x) (vs.set i v)
  | [], [], _, _, _, _, _ => by simp [VRs]
  | _ :: _, _ :: _, 0, _, _, h, hx => by simp only [VRs, List.set] at h ⊢; exact ⟨hx, h.2⟩
  | _ :: _, _ :: _, i + 1, _, _, h, hx => by simp only [VRs, List.set] at h ⊢; exact ⟨h.1, VRs.set h.2 hx⟩
  | [], _ :: _, _, _, _, h, _ => by simp [VRs] at h
  | _ :: _, [], _, _, _, h, _ => by simp [VRs] at h

theorem VRs.append : ∀ {xs ys : List AV} {vs us : List Value}, VRs g w xs vs → VRs g w ys us → VRs g w (xs ++ ys) (vs ++ us)
  | [], _, [], _, _, h => h
  | _ :: _, _, _ :: _, _, h, k => by simp only [VRs, List.cons_append] at h ⊢; exact ⟨h.1, VRs.append h.2 k⟩
  | [], _, _ :: _, _, h, _ => by simp [VRs] at h
  | _ :: _, _, [], _, h, _ => by simp [VRs] at h

theorem VRs.take : ∀ {xs : List AV} {vs : List Value} (n : Nat), VRs g w xs vs → VRs g w (xs.take n) (vs.take n)
  | [], [], _, _ => by simp [VRs]
  | _ :: _, _ :: _, 0, _ => by simp [VRs]
  | _ :: _, _ :: _, n + 1, h => by simp only [VRs, List.take_succ_cons] at h ⊢; exact ⟨h.1, VRs.take n h.2⟩
  | [], _ :: _, _, h => by simp [VRs] at h
  | _ :: _, [], _, h => by simp [VRs] at h

theorem VRs.drop : ∀ {xs : List AV} {vs : List Value} (n : Nat), VRs g w xs vs → VRs g w (xs.drop n) (vs.drop n)
  | [], [], _, _ => by simp [VRs]
  | _ :: _, _ :: _, 0, h => by simpa using h
  | _ :: _, _ :: _, n + 1, h => by simp only [VRs, List.drop_succ_cons] at h ⊢; exact VRs.drop n h.2
  | [], _ :: _, _, h => by simp [VRs] at h
  | _ :: _, [], _, h => by simp [VRs] at h

theorem VRs.splice {xs cs : List AV} {vs us : List Value} (off : Nat) (h : VRs g w xs vs) (k : VRs g w cs us) : VRs g w (splice xs off cs) (splice vs off us) := by
  unfold Vs.splice
  rw [k.len]
  exact ((h.take off).append k).append (h.drop _)

theorem VRs.sub {xs ys : List AV} {vs : List Value} {off n : Nat} (h : VRs g w xs vs) (hs : sub xs off n = some ys) :
    off + n ≤ vs.length ∧ VRs g w ys ((vs.drop off).take n) := by
  unfold Vs.sub at hs
  split at hs
  · rename_i hle
    simp only [Option.some.injEq] at hs
    subst hs
    exact ⟨by rw [← h.len]; exact hle, (h.drop off).take n⟩
  · cases hs

theorem VRs.replicate {x : AV} {v : Value} (n : Nat) (h : VR g w x v) : VRs g w (List.replicate n x) (List.replicate n v) := by
  induction n with
  | zero => simp [VRs]
  | succ n ih => simp only [List.replicate_succ, VRs]; exact ⟨h, ih⟩

theorem VR_ud : VR g w ud undef := by simp [VR, PR]
end

theorem PRs_add {S : Nat → Prop} {w : World} {b : Nat} : ∀ {off n : Nat} {xs : List PV}, PRs S w b off xs → PRs S w b (off + n) (xs.drop n)
  | off, 0, xs, h => by simpa using h
  | off, n + 1, [], h => by simp [PRs]
  | off, n + 1, x :: xs, h => by
    simp only [PRs] at h
    have := PRs_add (n := n) h.2
    simpa [Nat.add_assoc, Nat.add_comm 1 n] using this

theorem PRs_get {S : Nat → Prop} {w : World} {b : Nat} : ∀ {off i : Nat} {xs : List PV} {x : PV}, PRs S w b off xs → xs[i]? = some x → ∃ u, w.cell? ⟨b, off + i, none⟩ = some u ∧ u.oneCell' = true ∧ PR S w x u
  | off, 0, x :: xs, y, h, hi => by simp only [PRs] at h; simp at hi; subst hi; simpa using h.1
  | off, i + 1, x :: xs, y, h, hi => by
    simp only [PRs] at h
    have := PRs_get h.2 (by simpa using hi)
    simpa [Nat.add_assoc, Nat.add_comm 1 i] using this
  | _, _, [], _, _, hi => by simp at hi

theorem PRr_get {S : Nat → Prop} {w : World} {b size : Nat} : ∀ {off i : Nat} {rows : List (List PV)} {r : List PV}, PRr S w b off size rows → rows[i]? = some r → r.length = size ∧ PRs S w b (off + i * size) r
  | off, 0, x :: xs, y, h, hi => by simp only [PRr] at h; simp at hi; subst hi; simpa using ⟨h.1, h.2.1⟩
  | off, i + 1, x :: xs, y, h, hi => by
    simp only [PRr] at h
    have := PRr_get h.2.2 (by simpa using hi)
    rw [Nat.add_mul, Nat.one_mul, Nat.add_comm (i * size) size, ← Nat.add_assoc]
    exact this
  | _, _, [], _, _, hi => by simp at hi

theorem PRr_take {S : Nat → Prop} {w : World} {b size : Nat} : ∀ {off n : Nat} {rows : List (List PV)}, PRr S w b off size rows → PRr S w b off size (rows.take n)
  | off, 0, _, h => by simp [PRr]
  | off, n + 1, [], h => by simp [PRr]
  | off, n + 1, x :: xs, h => by simp only [PRr, List.take_succ_cons] at h ⊢; exact ⟨h.1, h.2.1, PRr_take h.2.2⟩

theorem PRr_drop {S : Nat → Prop} {w : World} {b size : Nat} : ∀ {off n : Nat} {rows : List (List PV)}, PRr S w b off size rows → PRr S w b (off + n * size) size (rows.drop n)
  | off, 0, _, h => by simpa using h
  | off, n + 1, [], h => by simp [PRr]
  | off, n + 1, x :: xs, h => by
    simp only [PRr, List.drop_succ_cons] at h ⊢
    have := PRr_drop (n := n) h.2.2
    rw [Nat.add_mul, Nat.one_mul, Nat.add_comm (n * size) size, ← Nat.add_assoc]
    exact this

end Go.Vs
