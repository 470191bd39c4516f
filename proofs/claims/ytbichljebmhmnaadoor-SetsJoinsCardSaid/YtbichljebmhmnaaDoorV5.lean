/- New blocks and blocks that are written, in the relation. -/
import Derived.Test.YtbichljebmhmnaaDoorV4
namespace Go.Vs
set_option linter.unusedSimpArgs false
set_option linter.unusedVariables false
open Go Go.RowKit

section
variable {g g' : G} {h : List AB} {w w' : World}

theorem Ext.push (hr : HR g h w) (hN : g'.N = g.N + 1) (hS : g'.S = g.S) (hP : g'.Pr = g.Pr)
    (hm : ∀ b, b < g.N → g'.m b = g.m b) (hgen : ∀ b, b < g.N → g'.gen b = g.gen b) (hhd : ∀ b, b < g.N → g'.hd b = g.hd b)
    (hold : ∀ c, c < w.heap.size → w'.heap[c]? = w.heap[c]?) (hsz : w.heap.size ≤ w'.heap.size) (hos : w'.os = w.os) (hta : w'.tape = w.tape) (hou : w'.output = w.output) (hcr : g'.cr = g.cr := by rfl) : Ext g w g' w' :=
  ⟨fun c hc => by rw [hS]; exact hc, fun c hc => by rw [hP]; exact hc, fun c hc => hold c (hr.prs c hc), by omega, hm,
    fun b hb => Nat.le_of_eq (hgen b hb).symm, fun b hb k _ => by rw [hhd b hb], hsz, hos, hta, hou, fun c hc => .inl (by rw [hS] at hc; exact hc), hcr⟩

/-- A world with the same blocks. -/
theorem HR.same (hr : HR g h w) (hh : w'.heap = w.heap) (hos : w'.os = w.os) (hta : w'.tape = w.tape) (hou : w'.output = w.output) : Ext g w g w' ∧ HR g h w' := by
  have he : Ext g w g w' := ⟨fun _ h => h, fun _ h => h, fun _ _ => by rw [hh], Nat.le_refl _, fun _ _ => rfl, fun _ _ => Nat.le_refl _, fun _ _ _ _ => rfl, by rw [hh]; exact Nat.le_refl _, hos, hta, hou, fun _ h => .inl h, rfl⟩
  exact ⟨he, ⟨hr.n, fun b x hb => BR_mono hr he hb rfl (fun c _ => by rw [hh]), hr.dis, hr.own, hr.spr, fun c hc => by rw [hh]; exact hr.prs c hc⟩⟩

theorem alloc_new' (w : World) (o : Obj) : (w.alloc o).heap[w.heap.size]? = some o := by
  show (w.heap.push o)[w.heap.size]? = _
  simp

def gCells (g : G) (c : Nat) : G := { g with N := g.N + 1, m := fun b => if b = g.N then c else g.m b }
def gRow (g : G) (o : Option (Nat × Nat)) : G := { g with N := g.N + 1, gen := fun b => if b = g.N then 0 else g.gen b, hd := fun b => if b = g.N then fun _ => o else g.hd b }

theorem push_cells (hr : HR g h w) {xs : List AV} {cs : Array Value} (t : TypeId) (hx : VRc g w xs cs.toList) :
    Ext g w (gCells g w.heap.size) (w.alloc (.cells cs t)) ∧ HR (gCells g w.heap.size) (h ++ [.cells t xs]) (w.alloc (.cells cs t)) ∧
      VR (gCells g w.heap.size) (w.alloc (.cells cs t)) (.ptr h.length 0) (.pointer (some ⟨w.heap.size, 0, none⟩)) := by
  have hold : ∀ c, c < w.heap.size → (w.alloc (.cells cs t)).heap[c]? = w.heap[c]? := fun c hc => Below.heap_alloc w _ c hc
  have he : Ext g w (gCells g w.heap.size) (w.alloc (.cells cs t)) := Ext.push hr rfl rfl rfl (fun b hb => by simp [gCells]; omega) (fun _ _ => rfl) (fun _ _ => rfl) hold (by simp) rfl rfl rfl
  refine ⟨he, (HR.push (g' := gCells g w.heap.size) hr (.cells t xs) rfl rfl rfl (fun b hb => by simp [gCells]; omega) (fun _ _ => rfl) (fun _ _ => rfl) hold (by simp) rfl rfl rfl ?_ ?_).2, ?_⟩
  · simp only [BR]
    refine ⟨cs, (0, 0), by simp only [gCells, if_true]; exact alloc_new' w _, fun j _ => by omega, VRc_mono he hr.spr hx⟩
  · intro c hc
    simp [cid, gCells] at hc
    omega
  · simp only [VR, gCells]
    rw [hr.n]
    simp

theorem push_row (hr : HR g h w) {rows : List (List AV)} {cs : Array Value} (t : TypeId) (size cap : Nat) (fz : Nat × Nat) (hfz : unfz fz cs.size) (hs : cs.size = cap * size) (hm : cap ≤ maxLen) (hl : rows.length ≤ cap)
    (hr1 : ∀ r ∈ rows, r.length = size) (hx : VRc g w rows.flatten (cs.toList.take (rows.length * size)))
    (hw : ∀ c, c < w.heap.size → w'.heap[c]? = w.heap[c]?) (hn : w'.heap[w.heap.size]? = some (.cells cs t fz)) (hsz : w.heap.size ≤ w'.heap.size) (hos : w'.os = w.os) (hta : w'.tape = w.tape) (hou : w'.output = w.output) :
    Ext g w (gRow g (some (w.heap.size, cap))) w' ∧ HR (gRow g (some (w.heap.size, cap))) (h ++ [.row t size 0 rows]) w' ∧
      ∀ len, len ≤ cap → VR (gRow g (some (w.heap.size, cap))) w' (.sl h.length 0 size 0 len) (.slice (some ⟨w.heap.size, 0, none⟩) len cap) := by
  have he : Ext g w (gRow g (some (w.heap.size, cap))) w' := Ext.push hr rfl rfl rfl (fun _ _ => rfl) (fun b hb => by simp [gRow]; omega) (fun b hb => by simp [gRow]; omega) hw hsz hos hta hou
  refine ⟨he, (HR.push (g' := gRow g (some (w.heap.size, cap))) hr (.row t size 0 rows) rfl rfl rfl (fun _ _ => rfl) (fun b hb => by simp [gRow]; omega) (fun b hb => by simp [gRow]; omega) hw hsz hos hta hou ?_ ?_).2, ?_⟩
  · simp only [BR]
    refine ⟨by simp [gRow], hr1, ?_⟩
    have : (gRow g (some (w.heap.size, cap))).hd g.N 0 = some (w.heap.size, cap) := by simp [gRow]
    rw [this]
    exact ⟨cs, fz, hn, hfz, hs, hm, hl, VRc_mono he hr.spr hx⟩
  · intro c hc
    simp [cid, gRow] at hc
    omega
  · intro len hlen
    simp only [VR]
    rw [← hr.n]
    refine ⟨by simp [gRow], by simp, ?_⟩
    have : (gRow g (some (w.heap.size, cap))).hd g.N 0 = some (w.heap.size, cap) := by simp [gRow]
    rw [this]
    exact ⟨by omega, hm, some ⟨w.heap.size, 0, none⟩, by simp, .inr (by simp)⟩

theorem push_nil (hr : HR g h w) (t : TypeId) (size : Nat) :
    Ext g w (gRow g none) w ∧ HR (gRow g none) (h ++ [.row t size 0 []]) w ∧ VR (gRow g none) w (.sl h.length 0 size 0 0) nilS := by
  have he : Ext g w (gRow g none) w := Ext.push hr rfl rfl rfl (fun _ _ => rfl) (fun b hb => by simp [gRow]; omega) (fun b hb => by simp [gRow]; omega) (fun _ _ => rfl) (Nat.le_refl _) rfl rfl rfl
  refine ⟨he, (HR.push (g' := gRow g none) hr (.row t size 0 []) rfl rfl rfl (fun _ _ => rfl) (fun b hb => by simp [gRow]; omega) (fun b hb => by simp [gRow]; omega) (fun _ _ => rfl) (Nat.le_refl _) rfl rfl rfl ?_ ?_).2, ?_⟩
  · simp only [BR]
    refine ⟨by simp [gRow], by simp, ?_⟩
    have : (gRow g none).hd g.N 0 = none := by simp [gRow]
    rw [this]
    rfl
  · intro c hc
    simp [cid, gRow] at hc
  · simp only [VR]
    rw [← hr.n]
    refine ⟨by simp [gRow], by simp, ?_⟩
    have : (gRow g none).hd g.N 0 = none := by simp [gRow]
    rw [this]
    exact ⟨rfl, rfl, rfl⟩

theorem zeroN_rel : ∀ (zs : List ZC) {g : G} {h : List AB}, HR g h w →
    ∃ g', Ext g w g' w ∧ HR g' (h ++ (zeroN zs h.length).2) w ∧ VRs g' w (zeroN zs h.length).1 (zs.map ZC.plain) ∨ ∃ s r, ZC.z (.lst s r) ∈ zs
  | [], g, h, hr => ⟨g, .inl ⟨Ext.refl g w, by simpa [zeroN] using hr, by simp [zeroN, VRs]⟩⟩
  | .z x :: zs, g, h, hr => by
    obtain ⟨g', hh⟩ := zeroN_rel zs hr
    rcases hh with ⟨h1, h2, h3⟩ | ⟨s, r, hm⟩
    · cases x with
      | val v => exact ⟨g', .inl ⟨h1, by simpa [zeroN] using h2, by simp only [zeroN, List.map_cons, VRs]; exact ⟨by simp [VR, PR, ZC.plain], h3⟩⟩⟩
      | lst s r => exact ⟨g, .inr ⟨s, r, by simp⟩⟩
    · exact ⟨g, .inr ⟨s, r, by simp [hm]⟩⟩
  | .r t size :: zs, g, h, hr => by
    obtain ⟨k1, k2, k3⟩ := push_nil hr t size
    obtain ⟨g', hh⟩ := zeroN_rel zs k2
    rcases hh with ⟨h1, h2, h3⟩ | ⟨s, r, hm⟩
    · refine ⟨g', .inl ⟨k1.trans h1, ?_, ?_⟩⟩
      · have : (h ++ [AB.row t size 0 []]).length = h.length + 1 := by simp
        rw [this] at h2
        simpa [zeroN] using h2
      · have : (h ++ [AB.row t size 0 []]).length = h.length + 1 := by simp
        rw [this] at h3
        simp only [zeroN, List.map_cons, VRs]
        exact ⟨VR_mono h1 k2.spr _ _ k3, h3⟩
    · exact ⟨g, .inr ⟨s, r, by simp [hm]⟩⟩

/-- A block of cells is written. -/
theorem upd_cells (hr : HR g h w) {b : Nat} {t : TypeId} {xs xs' : List AV} (hb : h[b]? = some (.cells t xs)) {cs cs' : Array Value} {fz : Nat × Nat}
    (hc : w.heap[g.m b]? = some (.cells cs t fz)) (hz : unfz fz cs'.size) (hx : VRc g w xs' cs'.toList) :
    Ext g w g (setRow' w (g.m b) cs' t fz) ∧ HR g (h.set b (.cells t xs')) (setRow' w (g.m b) cs' t fz) := by
  have hlt := heap_lt hc
  have hpr : ∀ c, g.Pr c → (setRow' w (g.m b) cs' t fz).heap[c]? = w.heap[c]? := fun c hp => setRow'_other (fun e => hr.own b _ (g.m b) hb rfl (by rw [e]; exact hp))
  have he : Ext g w g (setRow' w (g.m b) cs' t fz) := ⟨fun _ h => h, fun _ h => h, hpr, Nat.le_refl _, fun _ _ => rfl, fun _ _ => Nat.le_refl _, fun _ _ _ _ => rfl, by rw [setRow'_size]; exact Nat.le_refl _, rfl, rfl, rfl, fun _ h => .inl h, rfl⟩
  refine ⟨he, HR.upd hr hb he rfl rfl rfl (fun _ _ => rfl) ?_ ?_ ?_⟩
  · intro c _ hne
    exact setRow'_other (fun e => hne (by simp [cid, e]))
  · simp only [BR]
    exact ⟨cs', fz, setRow'_same hlt, hz, VRc_mono he hr.spr hx⟩
  · intro c hc
    exact .inl hc

/-- A row is written in place. -/
theorem upd_row (hr : HR g h w) {b size gen : Nat} {t : TypeId} {rows rows' : List (List AV)} (hb : h[b]? = some (.row t size gen rows)) {c cap : Nat} (hd : g.hd b gen = some (c, cap)) {cs cs' : Array Value} {fz : Nat × Nat}
    (hc : w.heap[c]? = some (.cells cs t fz)) (hz : unfz fz cs'.size) (hs : cs'.size = cap * size) (hm : cap ≤ maxLen) (hl : rows'.length ≤ cap) (hr1 : ∀ r ∈ rows', r.length = size)
    (hx : VRc g w rows'.flatten (cs'.toList.take (rows'.length * size))) :
    Ext g w g (setRow' w c cs' t fz) ∧ HR g (h.set b (.row t size gen rows')) (setRow' w c cs' t fz) := by
  have hlt := heap_lt hc
  have hcid : cid g b (.row t size gen rows) = some c := by simp [cid, hd]
  have hpr : ∀ k, g.Pr k → (setRow' w c cs' t fz).heap[k]? = w.heap[k]? := fun k hp => setRow'_other (fun e => hr.own b _ c hb hcid (by rw [e]; exact hp))
  have he : Ext g w g (setRow' w c cs' t fz) := ⟨fun _ h => h, fun _ h => h, hpr, Nat.le_refl _, fun _ _ => rfl, fun _ _ => Nat.le_refl _, fun _ _ _ _ => rfl, by rw [setRow'_size]; exact Nat.le_refl _, rfl, rfl, rfl, fun _ h => .inl h, rfl⟩
  have hbr := hr.br b _ hb
  simp only [BR] at hbr
  refine ⟨he, HR.upd hr hb he rfl rfl rfl (fun _ _ => rfl) ?_ ?_ ?_⟩
  · intro k _ hne
    exact setRow'_other (fun e => hne (by rw [hcid, e]))
  · simp only [BR]
    refine ⟨hbr.1, hr1, ?_⟩
    rw [hd]
    exact ⟨cs', fz, setRow'_same hlt, hz, hs, hm, hl, VRc_mono he hr.spr hx⟩
  · intro k hk
    simp only [cid] at hk ⊢
    exact .inl hk

def gGrow (g : G) (b gen c cap : Nat) : G := { g with gen := fun x => if x = b then gen + 1 else g.gen x, hd := fun x k => if x = b ∧ k = gen + 1 then some (c, cap) else g.hd x k }

/-- A row that has grown into a new block. -/
theorem upd_grow (hr : HR g h w) {b size gen : Nat} {t' : TypeId} {rows rows' : List (List AV)} (hb : h[b]? = some (.row t' size gen rows)) {cap : Nat} {cs : Array Value} {t : TypeId}
    (hs : cs.size = cap * size) (hm : cap ≤ maxLen) (hl : rows'.length ≤ cap) (hr1 : ∀ r ∈ rows', r.length = size)
    (hx : VRc g w rows'.flatten (cs.toList.take (rows'.length * size)))
    (hw : ∀ c, c < w.heap.size → w'.heap[c]? = w.heap[c]?) (hn : w'.heap[w.heap.size]? = some (.cells cs t (0, 0))) (hsz : w.heap.size ≤ w'.heap.size) (hos : w'.os = w.os) (hta : w'.tape = w.tape) (hou : w'.output = w.output) :
    Ext g w (gGrow g b gen w.heap.size cap) w' ∧ HR (gGrow g b gen w.heap.size cap) (h.set b (.row t size (gen + 1) rows')) w' ∧
      ∀ len, len ≤ cap → VR (gGrow g b gen w.heap.size cap) w' (.sl b (gen + 1) size 0 len) (.slice (some ⟨w.heap.size, 0, none⟩) len cap) := by
  have hbr := hr.br b _ hb
  simp only [BR] at hbr
  have hlt := hr.lt hb
  have he : Ext g w (gGrow g b gen w.heap.size cap) w' := ⟨fun _ h => h, fun _ h => h, fun c hc => hw c (hr.prs c hc), Nat.le_refl _, fun _ _ => rfl, fun x _ => by
      simp only [gGrow]; split
      · rename_i e; subst e; rw [hbr.1]; omega
      · exact Nat.le_refl _, fun x _ k hk => by
      simp only [gGrow]; rw [if_neg]; rintro ⟨rfl, rfl⟩; rw [hbr.1] at hk; omega, hsz, hos, hta, hou, fun _ h => .inl h, rfl⟩
  have hhd : (gGrow g b gen w.heap.size cap).hd b (gen + 1) = some (w.heap.size, cap) := by simp [gGrow]
  refine ⟨he, HR.upd hr hb he rfl rfl rfl (fun x hx => by simp [gGrow, hx]) (fun c hc _ => hw c hc) ?_ ?_, ?_⟩
  · simp only [BR]
    refine ⟨by simp [gGrow], hr1, ?_⟩
    rw [hhd]
    exact ⟨cs, (0, 0), hn, fun j _ => by omega, hs, hm, hl, VRc_mono he hr.spr hx⟩
  · intro c hc
    simp only [cid, hhd, Option.map_some, Option.some.injEq] at hc
    exact .inr (Nat.le_of_eq hc)
  · intro len hlen
    simp only [VR]
    refine ⟨hlt, by simp [gGrow], ?_⟩
    rw [hhd]
    exact ⟨by omega, hm, some ⟨w.heap.size, 0, none⟩, by simp, .inr (by simp)⟩
end

end Go.Vs
