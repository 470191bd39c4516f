/- How the relation between abstract and model memory is kept: a new block, a block that is written, cells read and written. -/
import Derived.Test.YtbichljebmhmnaaDoorV2
namespace Go.Vs
set_option linter.unusedSimpArgs false
set_option linter.unusedVariables false
open Go Go.RowKit

theorem isOne_iff (v : Value) : v.oneCell' = isOne v := by cases v <;> rfl

theorem AV.one_val {g : G} {w : World} {x : AV} {v : Value} (h : VR g w x v) (h1 : x.one = true) : v.oneCell' = true := by
  cases x with
  | p x =>
    cases x with
    | val u => simp only [VR, PR] at h; subst h; rw [isOne_iff]; exact h1
    | lst s r => simp only [VR, PR] at h; obtain ⟨A, c, rfl, _⟩ := h; rfl
  | agg xs => simp [AV.one] at h1
  | tup xs => simp [AV.one] at h1
  | und => simp [AV.one] at h1
  | ptr b o => simp only [VR] at h; obtain ⟨_, rfl⟩ := h; rfl
  | ro xs => simp only [VR] at h; obtain ⟨_, _, rfl, _⟩ := h; rfl
  | rp b g s k o => simp only [VR] at h; obtain ⟨_, _, _, _, _, rfl⟩ := h; rfl
  | sl b g s o l =>
    simp only [VR] at h
    obtain ⟨_, _, h⟩ := h
    unfold SlR at h
    split at h
    · obtain ⟨rfl, _⟩ := h; rfl
    · obtain ⟨_, _, A, rfl, _⟩ := h; rfl
  | mp b => simp only [VR] at h; obtain ⟨_, rfl⟩ := h; rfl
  | yl b => simp only [VR] at h; obtain ⟨_, rfl⟩ := h; rfl
  | anyp => simp only [VR] at h; obtain ⟨_, rfl⟩ := h; rfl
  | fn f c => simp only [VR] at h; obtain ⟨_, rfl, _⟩ := h; rfl

theorem VRs.ones {g : G} {w : World} : ∀ {xs : List AV} {vs : List Value}, VRs g w xs vs → xs.all AV.one = true → ∀ v ∈ vs, v.oneCell' = true
  | [], [], _, _ => by simp
  | x :: xs, v :: vs, h, h1 => by
    simp only [VRs] at h
    simp only [List.all_cons, Bool.and_eq_true] at h1
    intro u hu
    rcases List.mem_cons.1 hu with rfl | hu
    · exact AV.one_val h.1 h1.1
    · exact VRs.ones h.2 h1.2 u hu
  | [], _ :: _, h, _ => by simp [VRs] at h
  | _ :: _, [], h, _ => by simp [VRs] at h

theorem cells_of_one {v : Value} (h : v.oneCell' = true) : v.cells = #[v] := by
  cases v <;> first | rfl | (simp [Value.oneCell'] at h)

/-- The cells of a value. -/
theorem cellsOf_rel {g : G} {w : World} {x : AV} {v : Value} {cs : List AV} (h : VR g w x v) (hc : cellsOf x = some cs) :
    VRs g w cs v.cells.toList ∧ (∀ u ∈ v.cells.toList, u.oneCell' = true) ∧ cs.all AV.one = true := by
  cases x with
  | agg xs =>
    simp only [cellsOf] at hc
    split at hc
    · rename_i h1
      simp only [Option.some.injEq] at hc
      subst hc
      simp only [VR] at h
      obtain ⟨cs, rfl, h⟩ := h
      exact ⟨h, VRs.ones h h1, h1⟩
    · cases hc
  | _ =>
    simp only [cellsOf] at hc
    split at hc
    · rename_i h1
      simp only [Option.some.injEq] at hc
      subst hc
      have ho := AV.one_val h h1
      rw [cells_of_one ho]
      refine ⟨by simp only [VRs]; exact ⟨h, trivial⟩, by simpa using ho, by simp [h1]⟩
    · cases hc

/- ---------- blocks ---------- -/

theorem HR.lt {g : G} {h : List AB} {w : World} (hr : HR g h w) {b : Nat} {x : AB} (hb : h[b]? = some x) : b < g.N := by
  rw [hr.n]
  exact (List.getElem?_eq_some_iff.1 hb).1

theorem heap_lt {w : World} {c : Nat} {o : Obj} (h : w.heap[c]? = some o) : c < w.heap.size := (Array.getElem?_eq_some_iff.1 h).1

theorem cid_lt {g : G} {h : List AB} {w : World} (hr : HR g h w) {b : Nat} {x : AB} {c : Nat} (hb : h[b]? = some x) (hc : cid g b x = some c) : c < w.heap.size := by
  have hx := hr.br b x hb
  cases x with
  | cells t xs =>
    simp only [cid, Option.some.injEq] at hc
    subst hc
    simp only [BR] at hx
    obtain ⟨cs, fz, h1, _⟩ := hx
    exact heap_lt h1
  | row t size gen rows =>
    simp only [BR] at hx
    simp only [cid] at hc
    cases hh : g.hd b gen with
    | none => simp [hh] at hc
    | some p =>
      obtain ⟨c', cap⟩ := p
      simp only [hh, Option.map_some, Option.some.injEq] at hc
      subst hc
      obtain ⟨_, _, hx⟩ := hx
      rw [hh] at hx
      simp only [RowR] at hx
      obtain ⟨cs, fz, h1, _⟩ := hx
      exact heap_lt h1
  | loop st pend ps f ia ib =>
    simp only [cid, Option.some.injEq] at hc
    subst hc
    simp only [BR] at hx
    obtain ⟨rec, h1, _⟩ := hx
    exact heap_lt h1
  | dead => simp [cid] at hc

theorem BR_mono {g g' : G} {h : List AB} {w w' : World} (hr : HR g h w) (he : Ext g w g' w') {b : Nat} {x : AB} (hb : h[b]? = some x)
    (hg : g'.gen b = g.gen b) (hc : ∀ c, cid g b x = some c → w'.heap[c]? = w.heap[c]?) : BR g' w' b x := by
  have hx := hr.br b x hb
  have hlt := hr.lt hb
  cases x with
  | cells t xs =>
    simp only [BR] at hx ⊢
    obtain ⟨cs, fz, h1, h2, h3⟩ := hx
    refine ⟨cs, fz, ?_, h2, VRc_mono he hr.spr h3⟩
    rw [he.m b hlt, hc _ rfl]
    exact h1
  | row t size gen rows =>
    simp only [BR] at hx ⊢
    obtain ⟨h1, h2, h3⟩ := hx
    refine ⟨hg.trans h1, h2, ?_⟩
    rw [he.hd b hlt gen (by rw [h1]; exact Nat.le_refl _)]
    cases hh : g.hd b gen with
    | none => rw [hh] at h3; exact h3
    | some p =>
      obtain ⟨c, cap⟩ := p
      rw [hh] at h3
      simp only [RowR] at h3 ⊢
      obtain ⟨cs, fz, k1, k2, k3, k4, k5, k6⟩ := h3
      refine ⟨cs, fz, ?_, k2, k3, k4, k5, VRc_mono he hr.spr k6⟩
      rw [hc c (by simp [cid, hh])]
      exact k1
  | loop st pend ps f ia ib =>
    simp only [BR] at hx ⊢
    obtain ⟨rec, h1, k⟩ := hx
    refine ⟨rec, ?_, ⟨k.st, k.pend, k.ps, VRs_mono he hr.spr _ _ k.f, by rw [he.cr]; exact k.ia, by rw [he.cr]; exact k.ib⟩⟩
    rw [he.m b hlt, hc _ rfl]
    exact h1
  | dead => simp [BR]

theorem cid_mono {g g' : G} {w w' : World} (he : Ext g w g' w') {b : Nat} (hb : b < g.N) {x : AB} (hg : ∀ t s gen r, x = .row t s gen r → gen ≤ g.gen b) : cid g' b x = cid g b x := by
  cases x with
  | cells t xs => simp only [cid]; rw [he.m b hb]
  | row t s gen r => simp only [cid]; rw [he.hd b hb gen (hg _ _ _ _ rfl)]
  | loop st pend ps f ia ib => simp only [cid]; rw [he.m b hb]
  | dead => rfl

theorem gen_of {g : G} {h : List AB} {w : World} (hr : HR g h w) {b : Nat} {x : AB} (hb : h[b]? = some x) : ∀ t s gen r, x = .row t s gen r → gen ≤ g.gen b := by
  rintro t s gen r rfl
  have := hr.br b _ hb
  simp only [BR] at this
  exact Nat.le_of_eq this.1.symm

/-- A new abstract block. -/
theorem HR.push {g g' : G} {h : List AB} {w w' : World} (hr : HR g h w) (x : AB) (hN : g'.N = g.N + 1) (hS : g'.S = g.S) (hP : g'.Pr = g.Pr)
    (hm : ∀ b, b < g.N → g'.m b = g.m b) (hgen : ∀ b, b < g.N → g'.gen b = g.gen b) (hhd : ∀ b, b < g.N → g'.hd b = g.hd b)
    (hold : ∀ c, c < w.heap.size → w'.heap[c]? = w.heap[c]?) (hsz : w.heap.size ≤ w'.heap.size) (hos : w'.os = w.os) (hta : w'.tape = w.tape) (hou : w'.output = w.output)
    (hbr : BR g' w' g.N x) (hc : ∀ c, cid g' g.N x = some c → w.heap.size ≤ c) (hcr : g'.cr = g.cr := by rfl) : Ext g w g' w' ∧ HR g' (h ++ [x]) w' := by
  have he : Ext g w g' w' := ⟨fun c hc => by rw [hS]; exact hc, fun c hc => by rw [hP]; exact hc, fun c hc => hold c (hr.prs c hc), by omega, hm,
    fun b hb => Nat.le_of_eq (hgen b hb).symm, fun b hb k _ => by rw [hhd b hb], hsz, hos, hta, hou, fun c hc => .inl (by rw [hS] at hc; exact hc), hcr⟩
  have hget : ∀ b y, (h ++ [x])[b]? = some y → (b < g.N ∧ h[b]? = some y) ∨ (b = g.N ∧ y = x) := by
    intro b y hb
    rw [List.getElem?_append] at hb
    split at hb
    · rename_i hl
      exact .inl ⟨by rw [hr.n]; exact hl, hb⟩
    · rename_i hl
      rw [← hr.n] at hb hl
      have : b = g.N := by
        rcases Nat.lt_or_ge g.N b with h' | h'
        · have : b - g.N = (b - g.N - 1) + 1 := by omega
          rw [this] at hb; simp at hb
        · omega
      subst this
      simp at hb
      exact .inr ⟨rfl, hb.symm⟩
  have hcold : ∀ b y c, b < g.N → h[b]? = some y → cid g' b y = some c → cid g b y = some c ∧ c < w.heap.size := by
    intro b y c hb hy hcy
    rw [cid_mono he hb (gen_of hr hy)] at hcy
    exact ⟨hcy, cid_lt hr hy hcy⟩
  refine ⟨he, ⟨by rw [hN, hr.n]; simp, ?_, ?_, ?_, ?_, ?_⟩⟩
  · intro b y hb
    rcases hget b y hb with ⟨h1, h2⟩ | ⟨rfl, rfl⟩
    · exact BR_mono hr he h2 (hgen b h1) (fun c hc => hold c (cid_lt hr h2 hc))
    · exact hbr
  · intro b b' y y' c hb hb' hcy hcy'
    rcases hget b y hb with ⟨h1, h2⟩ | ⟨rfl, rfl⟩ <;> rcases hget b' y' hb' with ⟨k1, k2⟩ | ⟨rfl, rfl⟩
    · exact hr.dis b b' y y' c h2 k2 (hcold b y c h1 h2 hcy).1 (hcold b' y' c k1 k2 hcy').1
    · have := (hcold b y c h1 h2 hcy).2
      have := hc c hcy'
      omega
    · have := (hcold b' y' c k1 k2 hcy').2
      have := hc c hcy
      omega
    · rfl
  · intro b y c hb hcy
    rw [hP]
    rcases hget b y hb with ⟨h1, h2⟩ | ⟨rfl, rfl⟩
    · exact hr.own b y c h2 (hcold b y c h1 h2 hcy).1
    · intro hp
      have := hr.prs c hp
      have := hc c hcy
      omega
  · intro c; rw [hS, hP]; exact hr.spr c
  · intro c; rw [hP]; intro h; exact Nat.lt_of_lt_of_le (hr.prs c h) hsz

/-- An abstract block that is written. -/
theorem HR.upd {g g' : G} {h : List AB} {w w' : World} (hr : HR g h w) {b : Nat} {x x' : AB} (hb : h[b]? = some x) (he : Ext g w g' w') (hN : g'.N = g.N)
    (hS : g'.S = g.S) (hP : g'.Pr = g.Pr) (hgen : ∀ b', b' ≠ b → g'.gen b' = g.gen b')
    (hold : ∀ c, c < w.heap.size → cid g b x ≠ some c → w'.heap[c]? = w.heap[c]?)
    (hbr : BR g' w' b x') (hc : ∀ c, cid g' b x' = some c → cid g b x = some c ∨ w.heap.size ≤ c) : HR g' (h.set b x') w' := by
  have hblt : b < h.length := (List.getElem?_eq_some_iff.1 hb).1
  have hget : ∀ b' y, (h.set b x')[b']? = some y → (b' ≠ b ∧ h[b']? = some y) ∨ (b' = b ∧ y = x') := by
    intro b' y hy
    rw [List.getElem?_set] at hy
    split at hy
    · rename_i e
      subst e
      simp only [hblt, if_true, Option.some.injEq] at hy
      exact .inr ⟨rfl, hy.symm⟩
    · rename_i e
      exact .inl ⟨fun h => e h.symm, hy⟩
  have hcold : ∀ b' y c, h[b']? = some y → cid g' b' y = some c → cid g b' y = some c := by
    intro b' y c hy hcy
    rwa [cid_mono he (hr.lt hy) (gen_of hr hy)] at hcy
  refine ⟨by rw [hN, hr.n]; simp, ?_, ?_, ?_, ?_, ?_⟩
  · intro b' y hy
    rcases hget b' y hy with ⟨h1, h2⟩ | ⟨rfl, rfl⟩
    · refine BR_mono hr he h2 (hgen b' h1) (fun c hc => hold c (cid_lt hr h2 hc) (fun e => h1 (hr.dis b' b y x c h2 hb hc e)))
    · exact hbr
  · intro b1 b2 y1 y2 c h1 h2 hc1 hc2
    rcases hget b1 y1 h1 with ⟨k1, k2⟩ | ⟨rfl, rfl⟩ <;> rcases hget b2 y2 h2 with ⟨l1, l2⟩ | ⟨rfl, rfl⟩
    · exact hr.dis b1 b2 y1 y2 c k2 l2 (hcold _ _ _ k2 hc1) (hcold _ _ _ l2 hc2)
    · have k := hcold _ _ _ k2 hc1
      rcases hc c hc2 with e | e
      · exact hr.dis b1 b2 y1 x c k2 hb k e
      · have := cid_lt hr k2 k
        omega
    · have k := hcold _ _ _ l2 hc2
      rcases hc c hc1 with e | e
      · exact hr.dis b1 b2 x y2 c hb l2 e k
      · have := cid_lt hr l2 k
        omega
    · rfl
  · intro b' y c hy hcy
    rw [hP]
    rcases hget b' y hy with ⟨h1, h2⟩ | ⟨rfl, rfl⟩
    · exact hr.own b' y c h2 (hcold _ _ _ h2 hcy)
    · intro hp
      rcases hc c hcy with e | e
      · exact hr.own b' x c hb e hp
      · have := hr.prs c hp
        omega
  · intro c; rw [hS, hP]; exact hr.spr c
  · intro c; rw [hP]; intro h; exact Nat.lt_of_lt_of_le (hr.prs c h) he.size

/- ---------- the model's memory ---------- -/

theorem add_addr (b off i : Nat) : (⟨b, off, none⟩ : Addr).add i = ⟨b, off + i, none⟩ := by
  unfold Addr.add
  split <;> simp_all

theorem run_loadCells' {P : Program} {w : World} {b off : Nat} {cs : Array Value} {t : TypeId} {fz : Nat × Nat} (h : w.heap[b]? = some (.cells cs t fz)) (n : Nat) (hn : off + n ≤ cs.size) :
    (loadCells ⟨b, off, none⟩ n).run P w = .ok ((cs.toList.drop off).take n).toArray w := by
  have hl : ((cs.toList.drop off).take n).length = n := by simp; omega
  have := run_loadCells_list (P := P) w ⟨b, off, none⟩ ((cs.toList.drop off).take n) (by
    intro j v hj
    rw [add_addr]
    simp only [World.cell?, h]
    rw [List.getElem?_take] at hj
    split at hj
    · simpa [List.getElem?_drop] using hj
    · cases hj)
  rwa [hl] at this

theorem PRs_cells {S : Nat → Prop} {w : World} {b : Nat} : ∀ {off : Nat} {xs : List PV}, PRs S w b off xs →
    ∃ vs : List Value, vs.length = xs.length ∧ (∀ j v, vs[j]? = some v → w.cell? ⟨b, off + j, none⟩ = some v) ∧ ∀ (g : G), g.S = S → VRc g w (xs.map .p) vs
  | off, [], _ => ⟨[], rfl, by simp, fun _ _ => by simp [VRc, VRs]⟩
  | off, x :: xs, h => by
    simp only [PRs] at h
    obtain ⟨⟨u, hu, hone, hx⟩, hr⟩ := h
    obtain ⟨vs, h1, h2, h3⟩ := PRs_cells hr
    refine ⟨u :: vs, by simp [h1], ?_, ?_⟩
    · intro j v hj
      cases j with
      | zero => simp at hj; subst hj; exact hu
      | succ j =>
        have := h2 j v (by simpa using hj)
        simpa [Nat.add_assoc, Nat.add_comm 1 j] using this
    · rintro g rfl
      have h4 := h3 g rfl
      refine ⟨?_, ?_⟩
      · simp only [List.map_cons, VRs, VR]
        exact ⟨hx, h4.1⟩
      · intro v hv
        rcases List.mem_cons.1 hv with rfl | hv
        · exact hone
        · exact h4.2 v hv

/-- A row of cells with another content. -/
def setRow' (w : World) (c : Nat) (cs : Array Value) (t : TypeId) (fz : Nat × Nat) : World := { w with heap := w.heap.setIfInBounds c (.cells cs t fz) }

theorem setRow'_same {w : World} {c : Nat} {cs : Array Value} {t : TypeId} {fz : Nat × Nat} (h : c < w.heap.size) : (setRow' w c cs t fz).heap[c]? = some (.cells cs t fz) := by
  simp [setRow', h]
theorem setRow'_other {w : World} {c k : Nat} {cs : Array Value} {t : TypeId} {fz : Nat × Nat} (h : c ≠ k) : (setRow' w c cs t fz).heap[k]? = w.heap[k]? := by
  simp [setRow', Array.getElem?_setIfInBounds, h]
theorem setRow'_size {w : World} {c : Nat} {cs : Array Value} {t : TypeId} {fz : Nat × Nat} : (setRow' w c cs t fz).heap.size = w.heap.size := by
  simp [setRow']
theorem setRow'_twice {w : World} {c : Nat} {cs cs' : Array Value} {t : TypeId} {fz : Nat × Nat} : setRow' (setRow' w c cs t fz) c cs' t fz = setRow' w c cs' t fz := by
  simp [setRow']
theorem setRow'_self {w : World} {c : Nat} {cs : Array Value} {t : TypeId} {fz : Nat × Nat} (h : w.heap[c]? = some (.cells cs t fz)) : setRow' w c cs t fz = w := by
  have hlt := heap_lt h
  cases w with
  | mk heap tape drawn os output =>
    simp only [setRow']
    congr 1
    apply Array.ext_getElem?
    intro k
    simp only [Array.getElem?_setIfInBounds]
    split
    · rename_i e; subst e; exact h.symm
    · rfl

theorem setCell_eq' {w : World} {c : Nat} {cs : Array Value} {t : TypeId} {fz : Nat × Nat} (h : w.heap[c]? = some (.cells cs t fz)) (i : Nat) (v : Value) :
    w.setCell ⟨c, i, none⟩ v = setRow' w c (cs.setIfInBounds i v) t fz := by
  unfold World.setCell setRow'
  congr 1
  apply Array.ext_getElem?
  intro k
  simp only [Array.getElem?_modify, Array.getElem?_setIfInBounds]
  split
  · rename_i e
    subst e
    rw [h, if_pos (heap_lt h)]
    simp
  · rfl

theorem splice_cons {α : Type} (l : List α) (k : Nat) (v : α) (rest : List α) (hk : k + (rest.length + 1) ≤ l.length) :
    splice (l.set k v) (k + 1) rest = splice l k (v :: rest) := by
  unfold splice
  have h1 : (l.set k v).take (k + 1) = l.take k ++ [v] := by
    apply List.ext_getElem?
    intro j
    simp only [List.getElem?_take, List.getElem?_set, List.getElem?_append, List.length_take]
    by_cases hj : j < k
    · have : min k l.length = k := by omega
      simp [hj, this, Nat.ne_of_gt hj]
      omega
    · by_cases hj2 : j = k
      · subst hj2
        have : min j l.length = j := by omega
        have hjl : j < l.length := by omega
        simp [this, hjl]
      · have : min k l.length = k := by omega
        have h3 : ¬ j < k + 1 := by omega
        simp [hj, this, h3]
        omega
  have h2 : (l.set k v).drop (k + 1 + rest.length) = l.drop (k + (rest.length + 1)) := by
    apply List.ext_getElem?
    intro j
    simp only [List.getElem?_drop, List.getElem?_set]
    have : ¬ k = k + 1 + rest.length + j := by omega
    simp [this]
    congr 1
    omega
  rw [h1, h2]
  simp

theorem splice_length {α : Type} {xs cs : List α} {off : Nat} (h : off + cs.length ≤ xs.length) : (splice xs off cs).length = xs.length := by
  simp [splice]; omega

theorem run_storeCells' {P : Program} {c off : Nat} {t : TypeId} {fz : Nat × Nat} : ∀ (vs : List Value) (i : Nat) (cs : Array Value) (w : World), w.heap[c]? = some (.cells cs t fz) → unfz fz cs.size →
    off + i + vs.length ≤ cs.size → (∀ v ∈ vs, v.oneCell' = true) →
    (storeCells ⟨c, off, none⟩ vs i).run P w = .ok () (setRow' w c (splice cs.toList (off + i) vs).toArray t fz)
  | [], i, cs, w, hg, _, _, _ => by
    simp only [storeCells, splice, List.append_nil, List.length_nil, Nat.add_zero, List.take_append_drop, Array.toArray_toList]
    rw [setRow'_self hg]
    rfl
  | v :: rest, i, cs, w, hg, hz, hl, h1 => by
    have hi : off + i < cs.size := by simp at hl; omega
    have hcell : w.cell? ⟨c, off + i, none⟩ = some cs[off + i] := by simp [World.cell?, hg, hi]
    have hfro : w.frozen? ⟨c, off + i, none⟩ = false := by
      have := hz (off + i) hi
      simp [World.frozen?, hg]
      omega
    have hst : (store ((⟨c, off, none⟩ : Addr).add i) v).run P w = .ok () (setRow' w c (cs.setIfInBounds (off + i) v) t fz) := by
      rw [add_addr, run_store P w _ v _ (h1 v (by simp)), hcell]
      simp [hfro, setCell_eq' hg]
    have hlt := heap_lt hg
    have hl' : off + (i + 1) + rest.length ≤ (cs.setIfInBounds (off + i) v).size := by
      rw [Array.size_setIfInBounds]; simp only [List.length_cons] at hl; omega
    have hg' : (setRow' w c (cs.setIfInBounds (off + i) v) t fz).heap[c]? = some (.cells (cs.setIfInBounds (off + i) v) t fz) := setRow'_same hlt
    have hz' : unfz fz (cs.setIfInBounds (off + i) v).size := fun j hj => hz j (by simpa using hj)
    have ih := run_storeCells' (P := P) rest (i + 1) _ _ hg' hz' hl' (fun x hx => h1 x (by simp [hx]))
    simp only [storeCells, Sem.run_bind, hst, Result.andThen_ok]
    rw [ih, setRow'_twice]
    congr 3
    have e := splice_cons cs.toList (off + i) v rest (by simp at hl ⊢; omega)
    simpa [Array.toList_setIfInBounds, Nat.add_assoc] using e

end Go.Vs
