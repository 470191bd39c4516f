/- Each instruction does what its operation does: bytes and strings, make, append, literals. -/
import Derived.Test.YtbichljebmhmnaaDoorV10
namespace Go.Vs
set_option linter.unusedSimpArgs false
set_option linter.unusedVariables false
open Go Go.RowKit

theorem flatten_take {α : Type} {s : Nat} : ∀ {rows : List (List α)} (k : Nat), (∀ r ∈ rows, r.length = s) → (rows.take k).flatten = rows.flatten.take (k * s)
  | [], k, _ => by simp
  | r :: rs, 0, _ => by simp
  | r :: rs, k + 1, h => by
    have hr := h r (by simp)
    have ih := flatten_take (rows := rs) k (fun q hq => h q (by simp [hq]))
    simp only [List.take_succ_cons, List.flatten_cons, ih, Nat.add_mul, Nat.one_mul]
    rw [Nat.add_comm (k * s) s, ← hr, List.take_length_add_append]

theorem flatten_drop {α : Type} {s : Nat} : ∀ {rows : List (List α)} (k : Nat), (∀ r ∈ rows, r.length = s) → (rows.drop k).flatten = rows.flatten.drop (k * s)
  | [], k, _ => by simp
  | r :: rs, 0, _ => by simp
  | r :: rs, k + 1, h => by
    have hr := h r (by simp)
    have ih := flatten_drop (rows := rs) k (fun q hq => h q (by simp [hq]))
    simp only [List.drop_succ_cons, List.flatten_cons, ih, Nat.add_mul, Nat.one_mul]
    rw [Nat.add_comm (k * s) s, ← hr, List.drop_length_add_append]

/-- A slice's rows, as they lie in the model's memory. -/
def SrcR (w : World) (size n : Nat) (us : List Value) (v : Value) : Prop :=
  (∃ A c, v = .slice A n c ∧ (n = 0 ∨ ∃ b off, A = some ⟨b, off, none⟩ ∧ ∀ j u, us[j]? = some u → w.cell? ⟨b, off + j, none⟩ = some u)) ∨
  (∃ s : ByteArray, v = .string s ∧ size = 1 ∧ n = s.size ∧ us = s.data.toList.map fun b => Value.int .u8 b.toNat)

section
variable {P : Program} {gl : Nat → Option (List PV)} {a : Act} {f : List AV} {g : G} {h : List AB} {w : World} {o : Oper}

theorem PRr_rows : ∀ {rows : List (List PV)} {b off size : Nat}, PRr g.S w b off size rows →
    ∃ us, VRc g w (rows.map (·.map AV.p)).flatten us ∧ (∀ r ∈ rows, r.length = size) ∧ ∀ j u, us[j]? = some u → w.cell? ⟨b, off + j, none⟩ = some u
  | [], _, _, _, _ => ⟨[], by simp [VRc, VRs], by simp, by simp⟩
  | r :: rs, b, off, size, h => by
    simp only [PRr] at h
    obtain ⟨h1, h2, h3⟩ := h
    obtain ⟨vs, k1, k2, k3⟩ := PRs_cells h2
    obtain ⟨us, l1, l2, l3⟩ := PRr_rows h3
    refine ⟨vs ++ us, ?_, ?_, ?_⟩
    · simp only [List.map_cons, List.flatten_cons]
      exact ⟨(k3 g rfl).1.append l1.1, fun v hv => (List.mem_append.1 hv).elim ((k3 g rfl).2 v) (l1.2 v)⟩
    · intro q hq
      rcases List.mem_cons.1 hq with rfl | hq
      · exact h1
      · exact l2 q hq
    · intro j u hj
      rw [List.getElem?_append] at hj
      split at hj
      · exact k2 j u hj
      · rename_i hlt
        have := l3 _ u hj
        have e : off + size + (j - vs.length) = off + j := by omega
        rwa [e] at this

theorem rowsOf_rel (c : Ctx P gl a f g h w) {x : Operand} {size : Nat} {rows : List (List AV)} (hx : rowsOf h size ((opd x).ev f gl) = some rows) :
    ∃ us, VRc g w rows.flatten us ∧ (∀ r ∈ rows, r.length = size) ∧ SrcR w size rows.length us (a.eval x) := by
  have hv := c.opd x
  unfold rowsOf at hx
  split at hx
  · rename_i b gen s off len e0
    rw [e0] at hv
    simp only [VR] at hv
    obtain ⟨hb, hg, hsl⟩ := hv
    split at hx
    · rename_i hse
      subst hse
      split at hx
      · rename_i s1 g1 rws hbk
        split at hx
        · rename_i hc
          obtain ⟨rfl, rfl, hle⟩ := hc
          simp only [Option.some.injEq] at hx
          subst hx
          have hlen : ((rws.drop off).take len).length = len := by simp; omega
          have hbr := c.hr.br b _ hbk
          simp only [BR] at hbr
          obtain ⟨_, hr1, hrow⟩ := hbr
          cases hd : g.hd b g1 with
          | none =>
            rw [hd] at hsl hrow
            obtain ⟨hv, rfl, rfl⟩ := hsl
            simp only [RowR] at hrow
            subst hrow
            exact ⟨[], by simp [VRc, VRs], by simp, .inl ⟨none, 0, by simpa using hv, .inl (by simp)⟩⟩
          | some p =>
            obtain ⟨cc, cap⟩ := p
            rw [hd] at hsl hrow
            obtain ⟨k1, k2, A, hv, hA⟩ := hsl
            simp only [RowR] at hrow
            obtain ⟨cs, fz, m1, _, m3, _, m5, m6⟩ := hrow
            refine ⟨((cs.toList.take (rws.length * s1)).drop (off * s1)).take (len * s1), ?_, ?_, .inl ⟨A, cap - off, by rw [hlen]; exact hv, ?_⟩⟩
            · have hr2 : ∀ r ∈ rws.drop off, r.length = s1 := fun r hr => hr1 r (List.mem_of_mem_drop hr)
              rw [flatten_take len hr2, flatten_drop off hr1]
              exact ⟨(m6.1.drop _).take _, fun v hv => m6.2 v (List.mem_of_mem_drop (List.mem_of_mem_take hv))⟩
            · intro r hr
              exact hr1 r (List.mem_of_mem_drop (List.mem_of_mem_take hr))
            · rw [hlen]
              rcases Nat.eq_zero_or_pos len with h0 | h0
              · exact .inl h0
              · right
                have hA' := hA.resolve_left (by omega)
                refine ⟨cc, off * s1, hA', ?_⟩
                intro j u hj
                rw [List.getElem?_take] at hj
                split at hj
                · rw [List.getElem?_drop, List.getElem?_take] at hj
                  split at hj
                  · simp only [World.cell?, m1]
                    simpa using hj
                  · cases hj
                · cases hj
        · cases hx
      · cases hx
    · cases hx
  · rename_i s rws e0
    rw [e0] at hv
    simp only [VR, PR] at hv
    obtain ⟨A, cap, hv, k1, k2, hA⟩ := hv
    split at hx
    · rename_i hse
      subst hse
      simp only [Option.some.injEq] at hx
      subst hx
      rcases hA with h0 | ⟨b, off, rfl, hS, hp⟩
      · have : rws = [] := List.eq_nil_of_length_eq_zero h0
        subst this
        exact ⟨[], by simp [VRc, VRs], by simp, .inl ⟨A, cap, by simpa using hv, .inl (by simp)⟩⟩
      · obtain ⟨us, l1, l2, l3⟩ := PRr_rows hp
        refine ⟨us, l1, ?_, .inl ⟨_, cap, by simpa using hv, .inr ⟨b, off, rfl, l3⟩⟩⟩
        intro r hr
        simp only [List.mem_map] at hr
        obtain ⟨q, hq, rfl⟩ := hr
        simpa using l2 q hq
    · cases hx
  · rename_i e0
    rw [e0] at hv
    simp only [VR, PR] at hv
    simp only [Option.some.injEq] at hx
    subst hx
    exact ⟨[], by simp [VRc, VRs], by simp, .inl ⟨none, 0, hv, .inl rfl⟩⟩
  · rename_i s e0
    rw [e0] at hv
    simp only [VR, PR] at hv
    split at hx
    · rename_i h1
      subst h1
      simp only [Option.some.injEq] at hx
      subst hx
      refine ⟨s.data.toList.map fun b => Value.int .u8 b.toNat, ?_, by simp, .inr ⟨s, hv, rfl, by rw [List.length_map, Array.length_toList]; rfl, rfl⟩⟩
      generalize s.data.toList = l
      refine ⟨?_, by simp [Value.oneCell']⟩
      induction l with
      | nil => simp [VRs]
      | cons b l ih => simp only [List.map_cons, List.flatten_cons, List.cons_append, List.nil_append, VRs]; exact ⟨by simp [VR, PR], ih⟩
    · cases hx
  · cases hx


theorem src_len {size n : Nat} {us : List Value} {v : Value} (hs : SrcR w size n us v) : (Builtin.lenOf v).run P w = .ok n w := by
  rcases hs with ⟨A, c, rfl, _⟩ | ⟨s, rfl, _, rfl, _⟩ <;> simp [Builtin.lenOf]

theorem src_cells {w' : World} (hh : w'.heap = w.heap) {size n : Nat} {us : List Value} {v : Value} (hs : SrcR w size n us v) (hl : us.length = n * size) : (Builtin.firstCells size n v).run P w' = .ok us.toArray w' := by
  have hcell : ∀ p, w'.cell? p = w.cell? p := fun p => by simp [World.cell?, hh]
  rcases hs with ⟨A, c, rfl, h⟩ | ⟨s, rfl, h1, h2, rfl⟩
  · rcases h with rfl | ⟨b, off, rfl, h⟩
    · have : us = [] := List.eq_nil_of_length_eq_zero (by simpa using hl)
      subst this
      cases A <;> simp [Builtin.firstCells, loadCells, loadCellsFrom]
    · have := run_loadCells_list (P := P) w' ⟨b, off, none⟩ us (by intro j u hj; rw [add_addr, hcell]; exact h j u hj)
      rw [hl] at this
      simpa [Builtin.firstCells] using this
  · subst h1; subst h2
    simp only [Builtin.firstCells, Sem.run_pure]
    congr 1
    have : s.extract 0 s.size = s := by simp
    rw [this]
    apply Array.ext'
    simp

theorem run_append_nil' {t u ty e : TypeId} {i : TypeInfo} {z : Value} (ht : P.underlying t = some (.slice e)) (hu : (∃ e', P.underlying u = some (.slice e')) ∨ P.underlying u = some .string) (hi : P.info? e = some i) (hz : i.zero = some z)
    {n : Nat} {us : List Value} {v : Value} (hs : SrcR w i.size n us v) (hl : us.length = n * i.size) (h63 : n ≤ limit47) (h48 : n * i.bytes ≤ limit47) :
    (n = 0 → (Builtin.append_ #[t, u] ty #[nilS, v]).run P w = .ok nilS w) ∧
    (0 < n → ∃ cap, n ≤ cap ∧ cap ≤ maxLen ∧ (Builtin.append_ #[t, u] ty #[nilS, v]).run P w = .ok (.slice (some ⟨w.heap.size, 0, none⟩) n cap) (w.drew.alloc (.cells (us.toArray ++ Builtin.zeroCells z.cells (cap - n)) e))) := by
  have hlen := src_len (P := P) hs
  unfold limit47 at h63 h48
  constructor
  · rintro rfl
    have hc := src_cells (P := P) (w' := w) rfl hs hl
    have : us = [] := List.eq_nil_of_length_eq_zero (by simpa using hl)
    subst this
    rcases hu with ⟨e', hu⟩ | hu <;> simp [Builtin.append_, run_underlying ht, run_underlying hu, sizeOf, typeInfo, hi, hlen, hc]
  · intro h0
    have hn : ¬ n = 0 := by omega
    have h63' : ¬ (9223372036854775807 < (n : Int)) := by omega
    have h48' : ¬ (281474976710656 < Builtin.nextslicecap n 0 * i.bytes) := by rw [nextslicecap_zero h0]; omega
    have hc := src_cells (P := P) (w' := w.drew) rfl hs hl
    refine ⟨grownCap w n 0 e, grownCap_ge w n 0 e, grownCap_le_maxLen w n 0 e (by simp only [maxLen]; omega), ?_⟩
    rcases hu with ⟨e', hu⟩ | hu <;> simp [Builtin.append_, run_underlying ht, run_underlying hu, sizeOf, typeInfo, zeroValue, hi, hz, hlen, hn, h63', h48', Question.forced, run_firstCells_none, hc, newRow, grownCap]


theorem run_append_sl {t u ty e : TypeId} {i : TypeInfo} {z : Value} (ht : P.underlying t = some (.slice e)) (hu : (∃ e', P.underlying u = some (.slice e')) ∨ P.underlying u = some .string) (hi : P.info? e = some i) (hz : i.zero = some z)
    {n len cap c : Nat} {A : Option Addr} (hA : cap = 0 ∨ A = some ⟨c, 0, none⟩) {us : List Value} {v : Value} (hs : SrcR w i.size n us v) (hl : us.length = n * i.size) (h63 : len + n ≤ limit47) (h48 : (len + n) * i.bytes ≤ limit47)
    (hlc : len ≤ cap) {cs : Array Value} {t' : TypeId} {fz : Nat × Nat} (hc : w.heap[c]? = some (.cells cs t' fz)) (hfz : unfz fz cs.size) (hsz : cs.size = cap * i.size) (hone : ∀ v ∈ us, v.oneCell' = true) :
    (len + n ≤ cap → (Builtin.append_ #[t, u] ty #[.slice A len cap, v]).run P w = .ok (.slice A (len + n) cap) (setRow' w c (splice cs.toList (len * i.size) us).toArray t' fz)) ∧
    (cap < len + n → ∃ cap', len + n ≤ cap' ∧ cap' ≤ maxLen ∧ (Builtin.append_ #[t, u] ty #[.slice A len cap, v]).run P w =
      .ok (.slice (some ⟨w.heap.size, 0, none⟩) (len + n) cap') (w.drew.alloc (.cells ((cs.toList.take (len * i.size)).toArray ++ us.toArray ++ Builtin.zeroCells z.cells (cap' - (len + n))) e))) := by
  have hlen := src_len (P := P) hs
  unfold limit47 at h63 h48
  have hm1 : (len + n) * i.size = len * i.size + n * i.size := Nat.add_mul _ _ _
  constructor
  · intro hle
    have hm2 : (len + n) * i.size ≤ cap * i.size := Nat.mul_le_mul_right _ hle
    have hcl := src_cells (P := P) (w' := w) rfl hs hl
    rcases Nat.eq_zero_or_pos cap with h0 | h0
    · subst h0
      have hn : n = 0 := by omega
      have hl0 : len = 0 := by omega
      subst hn; subst hl0
      have : us = [] := List.eq_nil_of_length_eq_zero (by simpa using hl)
      subst this
      have hcs : cs = #[] := Array.eq_empty_of_size_eq_zero (by simpa using hsz)
      have hw : setRow' w c (splice cs.toList (0 * i.size) []).toArray t' fz = w := by
        rw [hcs]
        exact setRow'_self (by rw [hc, hcs]; simp [splice])
      rw [hw]
      rcases hu with ⟨e', hu⟩ | hu <;> cases A <;> simp [Builtin.append_, run_underlying ht, run_underlying hu, sizeOf, typeInfo, hi, hlen, hcl, storeCells]
    · have hA' := hA.resolve_left (by omega)
      subst hA'
      have hst := run_storeCells' (P := P) (off := len * i.size) us 0 cs w hc hfz (by omega) hone
      rw [Nat.add_zero] at hst
      rcases hu with ⟨e', hu⟩ | hu <;> simp [Builtin.append_, run_underlying ht, run_underlying hu, sizeOf, typeInfo, hi, hlen, hle, hcl, add_addr, hst]
  · intro hgt
    have hn : ¬ (len + n ≤ cap) := by omega
    have h63' : ¬ (9223372036854775807 < ((len : Int) + (n : Int))) := by omega
    have h48' : ¬ (281474976710656 < Builtin.nextslicecap (len + n) cap * i.bytes) := by have := growslice_fits (need := len + n) (old := cap) (bytes := i.bytes) (by omega) h48; omega
    have hcl := src_cells (P := P) (w' := w.drew) rfl hs hl
    have hm2 : len * i.size ≤ cap * i.size := Nat.mul_le_mul_right _ hlc
    have hold : (Builtin.firstCells i.size len (.slice A len cap)).run P w.drew = .ok (cs.toList.take (len * i.size)).toArray w.drew := by
      rcases hA with h0 | rfl
      · subst h0
        have : len = 0 := by omega
        subst this
        cases A <;> simp [Builtin.firstCells, loadCells, loadCellsFrom]
      · have := run_loadCells' (P := P) (w := w.drew) (off := 0) (b := c) (cs := cs) (t := t') (fz := fz) (show w.drew.heap[c]? = _ from hc) (len * i.size) (by omega)
        simpa [Builtin.firstCells] using this
    refine ⟨grownCap w (len + n) cap e, grownCap_ge w _ _ e, grownCap_le_maxLen w _ _ e (by simp only [maxLen]; omega), ?_⟩
    rcases hu with ⟨e', hu⟩ | hu <;> simp [Builtin.append_, run_underlying ht, run_underlying hu, sizeOf, typeInfo, zeroValue, hi, hz, hlen, hn, h63', h48', Question.forced, hcl, hold, newRow, grownCap] <;> (congr 2; apply Array.ext'; simp)

end
end Go.Vs
