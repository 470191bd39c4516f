/- From what a row tells of the arguments to abstract values: for types of bools, integers, strings, and of arrays, structs and slices of these. No program is named here. -/
import Derived.Test.YtbichljebmhmnaaDoorV21
import Derived.ChangeStays
import Derived.ReadAgain
import Derived.Deep.DeepHandedRow
import Derived.OpenShut
import Derived.Lib.LaidTab
namespace Go.Vs
set_option linter.unusedSimpArgs false
set_option linter.unusedVariables false
open Go Go.RowKit

/-- The shape of a cell. -/
inductive Sh where
  | int (k : IntKind)
  | bool
  | str
  | sl (size : Nat) (cs : List Sh)

def shFields (P : Program) (rec : TypeId → Option (List Sh)) : List Field → Nat → Option (List Sh)
  | [], _ => some []
  | f :: fs, off => match rec f.type with
    | some ks => if f.offset = off ∧ P.cellsOf f.type = ks.length then (shFields P rec fs (off + ks.length)).map (ks ++ ·) else none
    | none => none

def shOfT (P : Program) : Nat → TypeId → Option (List Sh)
  | 0, _ => none
  | n + 1, t => match P.underlying t with
    | some .bool => some [.bool]
    | some (.int k) => some [.int k]
    | some .string => some [.str]
    | some (.slice e) => (shOfT P n e).bind fun ks => if P.cellsOf e = ks.length ∧ 0 < ks.length then some [.sl ks.length ks] else none
    | some (.struct fs) => (shFields P (shOfT P n) fs.toList 0).bind fun ks => if P.cellsOf t = ks.length then some ks else none
    | some (.array len e) => (shOfT P n e).bind fun ks => if P.cellsOf e = ks.length ∧ P.cellsOf t = len * ks.length then some (List.replicate len ks).flatten else none
    | _ => none

mutual
def Fit : Sh → PV → Prop
  | .int k, x => ∃ n, x = .val (.int k n) ∧ k.min ≤ n ∧ n ≤ k.max
  | .bool, x => ∃ b, x = .val (.bool b)
  | .str, x => ∃ s, x = .val (.string s) ∧ s.size ≤ maxLen
  | .sl size cs, x => ∃ rows, x = .lst size rows ∧ rows.length ≤ maxLen ∧ ∀ r ∈ rows, FitL cs r
def FitL : List Sh → List PV → Prop
  | [], [] => True
  | k :: ks, x :: xs => Fit k x ∧ FitL ks xs
  | _, _ => False
end

def PVs (S : Nat → Prop) (w : World) : List PV → List Value → Prop
  | [], [] => True
  | x :: xs, v :: vs => (v.oneCell' = true ∧ PR S w x v) ∧ PVs S w xs vs
  | _, _ => False

theorem FitL.append : ∀ {ks ls : List Sh} {xs ys : List PV}, FitL ks xs → FitL ls ys → FitL (ks ++ ls) (xs ++ ys)
  | [], _, [], _, _, h => h
  | _ :: _, _, _ :: _, _, h, k => by simp only [FitL, List.cons_append] at h ⊢; exact ⟨h.1, FitL.append h.2 k⟩
  | [], _, _ :: _, _, h, _ => by simp [FitL] at h
  | _ :: _, _, [], _, h, _ => by simp [FitL] at h

theorem FitL.len : ∀ {ks : List Sh} {xs : List PV}, FitL ks xs → xs.length = ks.length
  | [], [], _ => rfl
  | _ :: _, _ :: _, h => by simp only [FitL] at h; simp [FitL.len h.2]
  | [], _ :: _, h => by simp [FitL] at h
  | _ :: _, [], h => by simp [FitL] at h

section
variable {S : Nat → Prop} {w : World}
theorem PVs.append : ∀ {xs ys : List PV} {vs us : List Value}, PVs S w xs vs → PVs S w ys us → PVs S w (xs ++ ys) (vs ++ us)
  | [], _, [], _, _, h => h
  | _ :: _, _, _ :: _, _, h, k => by simp only [PVs, List.cons_append] at h ⊢; exact ⟨h.1, PVs.append h.2 k⟩
  | [], _, _ :: _, _, h, _ => by simp [PVs] at h
  | _ :: _, _, [], _, h, _ => by simp [PVs] at h

theorem PVs.len : ∀ {xs : List PV} {vs : List Value}, PVs S w xs vs → xs.length = vs.length
  | [], [], _ => rfl
  | _ :: _, _ :: _, h => by simp only [PVs] at h; simp [PVs.len h.2]
  | [], _ :: _, h => by simp [PVs] at h
  | _ :: _, [], h => by simp [PVs] at h

theorem PVs.vrs {g : G} (hg : g.S = S) : ∀ {xs : List PV} {vs : List Value}, PVs S w xs vs → VRs g w (xs.map .p) vs
  | [], [], _ => by simp [VRs]
  | _ :: _, _ :: _, h => by simp only [PVs, List.map_cons, VRs, VR] at h ⊢; rw [hg]; exact ⟨h.1.2, PVs.vrs hg h.2⟩
  | [], _ :: _, h => by simp [PVs] at h
  | _ :: _, [], h => by simp [PVs] at h

theorem PVs.prs {b : Nat} : ∀ {off : Nat} {xs : List PV} {vs : List Value}, PVs S w xs vs → (∀ j v, vs[j]? = some v → w.cell? ⟨b, off + j, none⟩ = some v) → PRs S w b off xs
  | _, [], [], _, _ => by simp [PRs]
  | off, x :: xs, v :: vs, h, hc => by
    simp only [PVs, PRs] at h ⊢
    refine ⟨⟨v, by simpa using hc 0 v rfl, h.1.1, h.1.2⟩, PVs.prs h.2 (fun j u hj => ?_)⟩
    have := hc (j + 1) u (by simpa using hj)
    rwa [show off + (j + 1) = off + 1 + j from by omega] at this
  | _, [], _ :: _, h, _ => by simp [PVs] at h
  | _, _ :: _, [], h, _ => by simp [PVs] at h
end

theorem cells?_get {w : World} {base n : Nat} {a : Addr} {cs : List Value} (h : w.cells? base a n = some cs) : cs.length = n ∧ ∀ j v, cs[j]? = some v → w.cell? (a.add j) = some v := by
  unfold World.cells? at h
  split at h
  · have hl : cs.length = n := by have := mapM_some_length h; simpa using this
    refine ⟨hl, fun j v hj => ?_⟩
    have hjn : j < n := by rw [← hl]; exact (List.getElem?_eq_some_iff.1 hj).1
    obtain ⟨b, hb, hf⟩ := Lib.mapM_at h j j (by simp [hjn])
    rw [hj] at hb
    cases hb
    exact hf
  · cases h

/-- A list made of what holds at each place. -/
theorem list_of {α : Type} (p : Nat → α → Prop) : ∀ n, (∀ i, i < n → ∃ x, p i x) → ∃ l : List α, l.length = n ∧ ∀ i x, l[i]? = some x → p i x
  | 0, _ => ⟨[], rfl, by simp⟩
  | n + 1, h => by
    obtain ⟨l, h1, h2⟩ := list_of p n (fun i hi => h i (by omega))
    obtain ⟨x, hx⟩ := h n (by omega)
    refine ⟨l ++ [x], by simp [h1], fun i y hy => ?_⟩
    rw [List.getElem?_append] at hy
    split at hy
    · exact h2 i y hy
    · rename_i hi
      have : i = n := by
        rcases Nat.lt_or_ge n i with h' | h'
        · rw [List.getElem?_eq_none (by simp; omega)] at hy; cases hy
        · omega
      subst this
      simp [h1] at hy
      subst hy
      exact hx

theorem PRr_of {S : Nat → Prop} {w : World} {b : Nat} {ks : List Sh} : ∀ {rows : List (List PV)} {off : Nat}, (∀ i r, rows[i]? = some r → FitL ks r ∧ PRs S w b (off + i * ks.length) r) → PRr S w b off ks.length rows
  | [], _, _ => by simp [PRr]
  | r :: rs, off, h => by
    simp only [PRr]
    obtain ⟨h1, h2⟩ := h 0 r rfl
    refine ⟨h1.len, by simpa using h2, PRr_of (fun i q hi => ?_)⟩
    obtain ⟨k1, k2⟩ := h (i + 1) q (by simpa using hi)
    refine ⟨k1, ?_⟩
    rw [Nat.add_mul, Nat.one_mul] at k2
    rwa [show off + ks.length + i * ks.length = off + (i * ks.length + ks.length) from by omega]

section
variable {H : Type} {enc : TypeId × Value → H} {P : Program} {w : World}

theorem fields_rel {S : Nat → Prop} {rec : TypeId → Option (List Sh)} {tr : TypeId → List Value → Option (DataW H × List MemPlace)} (hrec : ∀ t cs d ks, tr t cs = some d → rec t = some ks → ∃ xs, FitL ks xs ∧ PVs S w xs cs) {cs : List Value} :
    ∀ (fs : List Field) (off : Nat) (ks : List Sh) (xs : List (DataW H × List MemPlace)), shFields P rec fs off = some ks → off + ks.length = cs.length →
      fs.mapM (fun f => tr f.type ((cs.drop f.offset).take (P.cellsOf f.type))) = some xs → ∃ ys, FitL ks ys ∧ PVs S w ys (cs.drop off)
  | [], off, ks, xs, hk, hl, _ => by
    simp only [shFields, Option.some.injEq] at hk
    subst hk
    simp at hl
    refine ⟨[], by simp [FitL], ?_⟩
    rw [List.drop_eq_nil_of_le (by omega)]
    simp [PVs]
  | f :: fs, off, ks, xs, hk, hl, hm => by
    simp only [shFields] at hk
    split at hk
    · rename_i ks1 hr
      split at hk
      · rename_i hc
        obtain ⟨rfl, hc⟩ := hc
        obtain ⟨ks2, hk2, rfl⟩ := Option.map_eq_some_iff.1 hk
        simp only [List.mapM_cons, Option.bind_eq_bind, Option.bind_eq_some_iff, Option.pure_def, Option.some.injEq] at hm
        obtain ⟨d, hd, ds, hds, _⟩ := hm
        rw [List.length_append] at hl
        obtain ⟨y1, a1, a2⟩ := hrec _ _ _ _ hd hr
        obtain ⟨y2, b1, b2⟩ := fields_rel hrec fs (f.offset + ks1.length) ks2 ds hk2 (by omega) hds
        refine ⟨y1 ++ y2, a1.append b1, ?_⟩
        have e : cs.drop f.offset = (cs.drop f.offset).take (P.cellsOf f.type) ++ cs.drop (f.offset + ks1.length) := by
          rw [hc, ← List.drop_drop, List.take_append_drop]
        rw [e]
        exact a2.append b2
      · cases hk
    · cases hk

theorem arr_rel {S : Nat → Prop} {ks : List Sh} {tr : List Value → Option (DataW H × List MemPlace)} (hrec : ∀ cs d, tr cs = some d → ∃ xs, FitL ks xs ∧ PVs S w xs cs) :
    ∀ (n : Nat) (cs : List Value), cs.length = n * ks.length → (∀ i, i < n → ∃ d, tr ((cs.drop (i * ks.length)).take ks.length) = some d) → ∃ ys, FitL (List.replicate n ks).flatten ys ∧ PVs S w ys cs
  | 0, cs, hl, _ => by
    have : cs = [] := List.eq_nil_of_length_eq_zero (by simpa using hl)
    subst this
    exact ⟨[], by simp [FitL], by simp [PVs]⟩
  | n + 1, cs, hl, h => by
    obtain ⟨d, hd⟩ := h 0 (by omega)
    simp only [Nat.zero_mul, List.drop_zero] at hd
    obtain ⟨y1, a1, a2⟩ := hrec _ _ hd
    obtain ⟨y2, b1, b2⟩ := arr_rel hrec n (cs.drop ks.length) (by rw [List.length_drop, hl, Nat.add_mul]; omega) (fun i hi => by
      obtain ⟨d, hd⟩ := h (i + 1) (by omega)
      refine ⟨d, ?_⟩
      rw [List.drop_drop]
      rwa [show ks.length + i * ks.length = (i + 1) * ks.length from by rw [Nat.add_mul]; omega])
    refine ⟨y1 ++ y2, by simp only [List.replicate_succ, List.flatten_cons]; exact a1.append b1, ?_⟩
    have e : cs = cs.take ks.length ++ cs.drop ks.length := (List.take_append_drop _ _).symm
    rw [e]
    exact a2.append b2

theorem trod_rel : ∀ (n m : Nat) (t : TypeId) (cs : List Value) (x : DataW H × List MemPlace) (ks : List Sh), DataW.trod enc P w 0 (fun _ => true) true n t cs = some x → shOfT P m t = some ks →
    ∃ xs, FitL ks xs ∧ PVs (fun c => c < w.heap.size) w xs cs
  | 0, _, _, _, _, _, h, _ => by simp [DataW.trod] at h
  | _ + 1, 0, _, _, _, _, _, hk => by simp [shOfT] at hk
  | n + 1, m + 1, t, cs, x, ks, h, hk => by
    simp only [shOfT] at hk
    simp only [DataW.trod] at h
    split at hk
    · rename_i hu
      simp only [Option.some.injEq] at hk
      subst hk
      rw [hu] at h
      split at h <;> simp_all
      rename_i b
      exact ⟨[.val (.bool b)], by simp [FitL, Fit], by simp [PVs, PR, Value.oneCell']⟩
    · rename_i k hu
      simp only [Option.some.injEq] at hk
      subst hk
      rw [hu] at h
      split at h <;> simp_all
      rename_i k' z _
      obtain ⟨⟨rfl, hw⟩, _⟩ := h
      simp only [Lit.wf, Bool.and_eq_true, decide_eq_true_eq] at hw
      exact ⟨[.val (.int k' z)], by simp [FitL, Fit, hw], by simp [PVs, PR, Value.oneCell']⟩
    · rename_i hu
      simp only [Option.some.injEq] at hk
      subst hk
      rw [hu] at h
      split at h <;> simp_all
      rename_i s
      exact ⟨[.val (.string s)], by simp [FitL, Fit]; exact h.1, by simp [PVs, PR, Value.oneCell']⟩
    · rename_i e hu
      simp only [Option.bind_eq_some_iff] at hk
      obtain ⟨ks', hks, hk⟩ := hk
      split at hk
      · rename_i hc
        obtain ⟨hc, hpos⟩ := hc
        simp only [Option.some.injEq] at hk
        subst hk
        rw [hu] at h
        split at h <;> try (first | (cases h; done) | (rename_i h1 h2; simp at h1; done) | (rename_i h1; simp at h1; done))
        · exact ⟨[.lst ks'.length []], by simp [FitL, Fit], by simp only [PVs, PR, and_true]; exact ⟨rfl, none, 0, rfl, Nat.le_refl _, Nat.zero_le _, .inl rfl⟩⟩
        · rename_i e' a len cap h1
          simp only [Option.some.injEq, TypeDesc.slice.injEq] at h1
          subst h1
          split at h
          · rename_i hcnd
            simp only [Option.bind_eq_some_iff] at h
            obtain ⟨elems, hel, _⟩ := h
            rcases Nat.eq_zero_or_pos len with h0 | h0
            · subst h0
              exact ⟨[.lst ks'.length []], by simp [FitL, Fit], by simp only [PVs, PR, and_true]; exact ⟨rfl, some a, cap, rfl, Nat.zero_le _, hcnd.2.2, .inl rfl⟩⟩
            · have each : ∀ i, i < len → ∃ r, FitL ks' r ∧ ∃ vs, PVs (fun c => c < w.heap.size) w r vs ∧ vs.length = ks'.length ∧ ∀ j v, vs[j]? = some v → w.cell? ((a.add (i * ks'.length)).add j) = some v := by
                intro i hi
                obtain ⟨y, _, hy⟩ := Lib.mapM_at hel i i (by simp [hi])
                simp only [Option.bind_eq_some_iff] at hy
                obtain ⟨vs, hvs, hy⟩ := hy
                rw [hc] at hvs
                obtain ⟨q1, q2⟩ := cells?_get hvs
                obtain ⟨r, r1, r2⟩ := trod_rel n m e vs y ks' hy hks
                exact ⟨r, r1, vs, r2, q1, q2⟩
              obtain ⟨rows, hrl, hrows⟩ := list_of _ len each
              obtain ⟨r0, _, vs0, _, hl0, hc0⟩ := each 0 h0
              have hv0 : vs0[0]? = some (vs0[0]'(by omega)) := List.getElem?_eq_getElem _
              have h00 := hc0 0 _ hv0
              obtain ⟨b, off, spot⟩ := a
              have hspot : spot = none := by
                simp only [Nat.zero_mul, Addr.add, if_true] at h00
                unfold World.cell? at h00
                split at h00
                · cases spot with
                  | none => rfl
                  | some _ => simp at h00
                · cases h00
              subst hspot
              have hb : b < w.heap.size := by
                simp only [Nat.zero_mul, Addr.add, if_true] at h00
                unfold World.cell? at h00
                split at h00
                · rename_i hh; exact heap_lt hh
                · cases h00
              refine ⟨[.lst ks'.length rows], ?_, ?_⟩
              · simp only [FitL, Fit, and_true]
                refine ⟨rows, rfl, by rw [hrl]; exact Nat.le_trans hcnd.2.1 hcnd.2.2, fun r hr => ?_⟩
                obtain ⟨i, hi⟩ := List.getElem?_of_mem hr
                exact (hrows i r hi).1
              · simp only [PVs, PR, and_true]
                refine ⟨rfl, some ⟨b, off, none⟩, cap, by rw [hrl], by rw [hrl]; exact hcnd.2.1, hcnd.2.2, .inr ⟨b, off, rfl, hb, ?_⟩⟩
                refine PRr_of (fun i r hi => ?_)
                obtain ⟨g1, vs, g2, _, g4⟩ := hrows i r hi
                refine ⟨g1, g2.prs (fun j v hj => ?_)⟩
                have := g4 j v hj
                rwa [add_addr, add_addr] at this
          · cases h
        all_goals (exfalso; simp_all)
      · cases hk
    · rename_i fs hu
      simp only [Option.bind_eq_some_iff] at hk
      obtain ⟨ks', hks, hk⟩ := hk
      split at hk
      · rename_i hc
        simp only [Option.some.injEq] at hk
        subst hk
        rw [hu] at h
        split at h <;> try (first | (cases h; done) | (rename_i h1 h2; simp at h1; done) | (rename_i h1; simp at h1; done))
        · rename_i fs' h1
          simp only [Option.some.injEq, TypeDesc.struct.injEq] at h1
          subst h1
          split at h
          · rename_i hl
            obtain ⟨xs, hxs, _⟩ := Option.map_eq_some_iff.1 h
            obtain ⟨ys, y1, y2⟩ := fields_rel (S := fun c => c < w.heap.size) (rec := shOfT P m) (tr := DataW.trod enc P w 0 (fun _ => true) true n) (fun t cs d ks h1 h2 => trod_rel n m t cs d ks h1 h2) fs.toList 0 ks' xs hks (by omega) hxs
            exact ⟨ys, y1, by simpa using y2⟩
          · cases h
        all_goals (exfalso; simp_all)
      · cases hk
    · rename_i len e hu
      simp only [Option.bind_eq_some_iff] at hk
      obtain ⟨ks', hks, hk⟩ := hk
      split at hk
      · rename_i hc
        obtain ⟨hc, hct⟩ := hc
        simp only [Option.some.injEq] at hk
        subst hk
        rw [hu] at h
        split at h <;> try (first | (cases h; done) | (rename_i h1 h2; simp at h1; done) | (rename_i h1; simp at h1; done))
        · rename_i len' e' h1
          simp only [Option.some.injEq, TypeDesc.array.injEq] at h1
          obtain ⟨rfl, rfl⟩ := h1
          split at h
          · rename_i hl
            obtain ⟨xs, hxs, _⟩ := Option.map_eq_some_iff.1 h
            refine arr_rel (tr := DataW.trod enc P w 0 (fun _ => true) true n e) (fun cs d h1 => trod_rel n m e cs d ks' h1 hks) len _ (by omega) (fun i hi => ?_)
            obtain ⟨y, _, hy⟩ := Lib.mapM_at hxs i i (by simp [hi])
            rw [hc] at hy
            exact ⟨y, hy⟩
          · cases h
        all_goals (exfalso; simp_all)
      · cases hk
    · cases hk
end
end Go.Vs
