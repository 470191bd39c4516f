/- Each instruction does what its operation does: make, bytes and strings, literals. -/
import Derived.Test.YtbichljebmhmnaaDoorV12
namespace Go.Vs
set_option linter.unusedSimpArgs false
set_option linter.unusedVariables false
open Go Go.RowKit

theorem replicate_get {α : Type} : ∀ (n : Nat) (l : List α) (j : Nat), 0 < l.length → (List.replicate n l).flatten[j]? = if j < n * l.length then l[j % l.length]? else none
  | 0, l, j, _ => by simp
  | n + 1, l, j, h0 => by
    rw [List.replicate_succ, List.flatten_cons, List.getElem?_append]
    by_cases hj : j < l.length
    · rw [if_pos hj, if_pos (by rw [Nat.add_mul]; omega), Nat.mod_eq_of_lt hj]
    · rw [if_neg hj, replicate_get n l _ h0]
      have e : j % l.length = (j - l.length) % l.length := by
        conv => lhs; rw [show j = (j - l.length) + l.length from by omega]
        rw [Nat.add_mod_right]
      rw [e]
      by_cases h2 : j < (n + 1) * l.length
      · rw [if_pos h2, if_pos (by rw [Nat.add_mul] at h2; omega)]
      · rw [if_neg h2, if_neg (by rw [Nat.add_mul] at h2; omega)]

theorem madeCells_list (z : Array Value) (n : Nat) (h0 : 0 < z.size) : (madeCells z (n * z.size)).toList = (List.replicate n z.toList).flatten := by
  apply List.ext_getElem?
  intro j
  have hl : z.toList.length = z.size := Array.length_toList
  rw [replicate_get n z.toList j (by rw [hl]; exact h0), hl]
  by_cases hj : j < n * z.size
  · rw [if_pos hj]
    have hm : j % z.size < z.size := Nat.mod_lt _ h0
    simp [madeCells, hj, hm]
  · rw [if_neg hj]
    simp [madeCells, hj]

theorem foldl_set {off : Nat} : ∀ (vs : List Value) (k : Nat) (cs : Array Value), off + k + vs.length ≤ cs.size →
    ((vs.zipIdx k).foldl (fun (cs : Array Value) (p : Value × Nat) => cs.setIfInBounds (off + p.2) p.1) cs).toList = splice cs.toList (off + k) vs
  | [], k, cs, _ => by simp [splice]
  | v :: vs, k, cs, h => by
    have ih := foldl_set (off := off) vs (k + 1) (cs.setIfInBounds (off + k) v) (by simp at h ⊢; omega)
    simp only [List.zipIdx_cons, List.foldl_cons]
    rw [ih, Array.toList_setIfInBounds]
    have hcl : cs.toList.length = cs.size := Array.length_toList
    exact splice_cons cs.toList (off + k) v vs (by rw [hcl]; simp at h; omega)

theorem fill_set (vs : Array Value) (off : Nat) (cs : Array Value) (h : off + vs.size ≤ cs.size) :
    (vs.zipIdx.foldl (fun cs (c, j) => cs.setIfInBounds (off + j) c) cs).toList = splice cs.toList off vs.toList := by
  rw [← Array.foldl_toList, Array.toList_zipIdx]
  exact foldl_set (off := off) vs.toList 0 cs (by simpa using h)

section
variable {P : Program} {gl : Nat → Option (List PV)} {a : Act} {f : List AV} {g : G} {h : List AB} {w : World} {o : Oper}

/-- Parts laid one behind the other into cells. -/
theorem fill_rel (c : Ctx P gl a f g h w) (place : Nat → Option (Nat × Nat)) : ∀ (parts : List (Nat × Operand)) (ps : List (Nat × Nat × Opd)) (xs ys : List AV) (cs : Array Value),
    (List.length ps = parts.length ∧ ∀ (i : Nat) (p : Nat × Operand) (q : Nat × Nat × Opd), parts[i]? = some p → ps[i]? = some q → place p.1 = some (q.1, q.2.1) ∧ q.2.2 = opd p.2) →
    VRc g w xs cs.toList → fillA f gl xs ps = some ys → ∃ cs', Instr.fill place cs (parts.map fun (i, x) => (i, a.eval x)) = some cs' ∧ VRc g w ys cs'.toList ∧ cs'.size = cs.size
  | [], ps, xs, ys, cs, hp, hx, hf => by
    have : ps = [] := List.eq_nil_of_length_eq_zero (by simpa using hp.1)
    subst this
    simp only [fillA, Option.some.injEq] at hf
    subst hf
    exact ⟨cs, by simp [Instr.fill], hx, rfl⟩
  | (i, x) :: parts, [], _, _, _, hp, _, _ => by simp at hp
  | (i, x) :: parts, (off, size, y) :: ps, xs, ys, cs, hp, hx, hf => by
    obtain ⟨hpl, hpy⟩ := hp.2 0 (i, x) (off, size, y) rfl rfl
    simp only at hpl hpy
    subst hpy
    simp only [fillA] at hf
    split at hf
    · rename_i us hus
      split at hf
      · rename_i hc
        obtain ⟨rfl, hle⟩ := hc
        obtain ⟨h1, h2, _⟩ := cellsOf_rel (c.opd x) hus
        have hsz : (a.eval x).cells.size = us.length := by rw [h1.len]; simp
        have hxl : cs.size = xs.length := by rw [hx.1.len]; simp
        have hset := fill_set (a.eval x).cells off cs (by omega)
        have hx' : VRc g w (splice xs off us) ((a.eval x).cells.zipIdx.foldl (fun cs (c, j) => cs.setIfInBounds (off + j) c) cs).toList := by
          rw [hset]
          exact hx.splice off ⟨h1, h2⟩
        obtain ⟨cs', k1, k2, k3⟩ := fill_rel c place parts ps (splice xs off us) ys _ ⟨by simpa using hp.1, fun j p q hj hq => hp.2 (j + 1) p q (by simpa using hj) (by simpa using hq)⟩ hx' hf
        have hsz2 : ((a.eval x).cells.zipIdx.foldl (fun cs (c, j) => cs.setIfInBounds (off + j) c) cs).size = cs.size := by
          rw [← Array.length_toList, hset, splice_length (by have hcl : cs.toList.length = cs.size := Array.length_toList; have hcl2 : (a.eval x).cells.toList.length = (a.eval x).cells.size := Array.length_toList; omega), Array.length_toList]
        refine ⟨cs', ?_, k2, by rw [k3, hsz2]⟩
        simp only [List.map_cons, Instr.fill, hpl]
        have hcond : ((a.eval x).cells.size ≠ us.length || off + (a.eval x).cells.size > cs.size) = false := by
          simp [hsz]
          omega
        rw [if_neg (by rw [hcond]; simp)]
        exact k1
      · cases hf
    · cases hf

theorem zero_rel {z : List Value} (hone : ∀ u ∈ z, u.oneCell' = true) : VRc g w (z.map fun v => AV.p (.val v)) z := by
  refine ⟨?_, hone⟩
  clear hone
  induction z with
  | nil => simp [VRs]
  | cons v z ih => simp only [List.map_cons, VRs]; exact ⟨by simp [VR, PR], ih⟩

theorem run_places {fields : Array Field} (hall : fields.toList.all (fun f => (szT P f.type).isSome) = true) :
    (fields.mapM fun f => do pure (f.offset, ← sizeOf f.type) : Sem (Array (Nat × Nat))).run P w = .ok (fields.map fun f => (f.offset, (szT P f.type).getD 0)) w := by
  have : ∀ (fs : List Field), fs.all (fun f => (szT P f.type).isSome) = true → (fs.mapM fun f => do pure (f.offset, ← sizeOf f.type) : Sem (List (Nat × Nat))).run P w = .ok (fs.map fun f => (f.offset, (szT P f.type).getD 0)) w := by
    intro fs
    induction fs with
    | nil => intro _; simp
    | cons f fs ih =>
      intro h
      simp only [List.all_cons, Bool.and_eq_true] at h
      obtain ⟨n, hn⟩ := Option.isSome_iff_exists.1 h.1
      simp only [List.mapM_cons, Sem.run_bind, run_szT hn, Result.andThen_ok, Sem.run_pure, ih h.2, List.map_cons, hn, Option.getD_some]
  obtain ⟨fs⟩ := fields
  have h2 := this fs hall
  rw [Array.mapM_eq_mapM_toList]
  simp only [Sem.run_map]
  rw [h2]
  simp

theorem compParts_spec {fields : Array Field} : ∀ {parts : List (Nat × Operand)} {ps : List (Nat × Nat × Opd)}, compParts P fields parts = some ps →
    ps.length = parts.length ∧ ∀ (i : Nat) (p : Nat × Operand) (q : Nat × Nat × Opd), parts[i]? = some p → ps[i]? = some q → ((fields.map fun f => (f.offset, (szT P f.type).getD 0))[p.1]?) = some (q.1, q.2.1) ∧ q.2.2 = opd p.2
  | [], ps, h => by simp only [compParts, Option.some.injEq] at h; subst h; simp
  | (i, x) :: r, ps, h => by
    simp only [compParts] at h
    split at h
    · rename_i fd hf
      split at h
      · rename_i s l hs hl
        simp only [Option.some.injEq] at h
        subst h
        obtain ⟨h1, h2⟩ := compParts_spec hl
        refine ⟨by simp [h1], ?_⟩
        intro j p q hj hq
        cases j with
        | zero =>
          simp at hj hq
          subst hj; subst hq
          simp [hf, hs]
        | succ j => exact h2 j p q (by simpa using hj) (by simpa using hq)
      · cases h
    · cases h

theorem s_buildSt (c : Ctx P gl a f g h w) {t : TypeId} {parts : Array (Nat × Operand)} {fields : Array Field} {z : List Value} {ps : List (Nat × Nat × Opd)} {cs : List AV} (ho : o.op = .build t parts) (hz : zeroT P t = some z) (ht : P.underlying t = some (.struct fields))
    (hall : fields.toList.all (fun f => (szT P f.type).isSome) = true) (hp : compParts P fields parts.toList = some ps) (hx : fillA f gl (z.map fun v => AV.p (.val v)) ps = some cs) : Fits P o a g w (.agg cs) h := by
  obtain ⟨zv, hzr, hzc, hone⟩ := run_zeroT (w := w) hz
  obtain ⟨cs', k1, k2, _⟩ := fill_rel c (fun i => (fields.map fun f => (f.offset, (szT P f.type).getD 0))[i]?) parts.toList ps _ _ zv.cells (compParts_spec hp) (by rw [hzc]; exact zero_rel hone) hx
  refine fits_same c (x := .agg cs') ?_ (by simp only [VR]; exact ⟨cs', rfl, k2.1⟩)
  have hrun : (Instr.build t (parts.map fun (i, x) => (i, a.eval x))).run P w = .ok (.agg cs') w := by
    unfold Instr.build
    simp only [Sem.run_bind, hzr, Result.andThen_ok, run_underlying ht, run_places hall, Array.toList_map]
    rw [k1]
    simp
  simp only [execOp, ho, Sem.run_bind, hrun, Result.andThen_ok, Sem.run_pure]

theorem s_buildArr (c : Ctx P gl a f g h w) {t e : TypeId} {parts : Array (Nat × Operand)} {n s : Nat} {z : List Value} {cs : List AV} (ho : o.op = .build t parts) (hz : zeroT P t = some z) (ht : P.underlying t = some (.array n e)) (hs : szT P e = some s)
    (hx : fillA f gl (z.map fun v => AV.p (.val v)) (parts.toList.map fun (i, x) => (i * s, s, opd x)) = some cs) : Fits P o a g w (.agg cs) h := by
  obtain ⟨zv, hzr, hzc, hone⟩ := run_zeroT (w := w) hz
  obtain ⟨cs', k1, k2, _⟩ := fill_rel c (fun i => some (i * s, s)) parts.toList _ _ _ zv.cells ⟨by simp, fun i p q hi hq => by simp [hi] at hq; subst hq; simp⟩ (by rw [hzc]; exact zero_rel hone) hx
  refine fits_same c (x := .agg cs') ?_ (by simp only [VR]; exact ⟨cs', rfl, k2.1⟩)
  have hrun : (Instr.build t (parts.map fun (i, x) => (i, a.eval x))).run P w = .ok (.agg cs') w := by
    unfold Instr.build
    simp only [Sem.run_bind, hzr, Result.andThen_ok, run_underlying ht, run_szT hs, Array.toList_map]
    rw [k1]
    simp
  simp only [execOp, ho, Sem.run_bind, hrun, Result.andThen_ok, Sem.run_pure]

theorem fillR_A : ∀ {size : Nat} {rows rows' : List (List AV)} {ps : List (Nat × Opd)}, (∀ r ∈ rows, r.length = size) → fillR f gl size rows ps = some rows' →
    fillA f gl rows.flatten (ps.map fun (i, x) => (i * size, size, x)) = some rows'.flatten ∧ (∀ r ∈ rows', r.length = size) ∧ rows'.length = rows.length
  | size, rows, rows', [], hr, h => by simp only [fillR, Option.some.injEq] at h; subst h; exact ⟨by simp [fillA], hr, rfl⟩
  | size, rows, rows', (i, x) :: ps, hr, h => by
    simp only [fillR] at h
    split at h
    · rename_i vs hvs
      split at h
      · rename_i hc
        obtain ⟨rfl, hi⟩ := hc
        have hr' : ∀ r ∈ rows.set i vs, r.length = vs.length := rows_set_len hr rfl
        obtain ⟨k1, k2, k3⟩ := fillR_A hr' h
        refine ⟨?_, k2, by rw [k3]; simp⟩
        have hlen := flatten_len hr
        have hle : (i + 1) * vs.length ≤ rows.length * vs.length := Nat.mul_le_mul_right _ hi
        rw [Nat.add_mul, Nat.one_mul] at hle
        have hri : rows[i]? = some rows[i] := List.getElem?_eq_getElem hi
        have hril : rows[i].length = vs.length := hr _ (List.getElem_mem hi)
        have e1 := flatten_set (off := 0) (cs := vs) hr hri (by omega)
        have e2 : splice rows[i] 0 vs = vs := by simp [splice, ← hril]
        rw [e2, Nat.add_zero] at e1
        simp only [List.map_cons, fillA, hvs]
        rw [if_pos ⟨trivial, by rw [hlen]; exact hle⟩, ← e1]
        exact k1
      · cases h
    · cases h

theorem s_buildS (c : Ctx P gl a f g h w) {t e : TypeId} {parts : Array (Nat × Operand)} {n s : Nat} {z : List Value} {rows : List (List AV)} (ho : o.op = .buildSlice t n parts) (hz : zeroT P e = some z) (ht : P.underlying t = some (.slice e)) (hs : szT P e = some s)
    (h0 : 0 < s) (hzl : z.length = s) (hb : n * s ≤ 16777216) (hx : fillR f gl s (List.replicate n (z.map fun v => AV.p (.val v))) (parts.toList.map fun (i, x) => (i, opd x)) = some rows) :
    Fits P o a g w (.sl h.length 0 s 0 n) (h ++ [.row e s 0 rows]) := by
  obtain ⟨zv, hzr, hzc, hone⟩ := run_zeroT (w := w) hz
  have hzs : zv.cells.size = s := by rw [← hzl, ← hzc]; simp
  have hrl : ∀ r ∈ List.replicate n (z.map fun v => AV.p (.val v)), r.length = s := by intro r hr; rw [List.eq_of_mem_replicate hr]; simpa using hzl
  obtain ⟨q1, q2, q3⟩ := fillR_A hrl hx
  have hmade : VRc g w (List.replicate n (z.map fun v => AV.p (.val v))).flatten (madeCells zv.cells (n * s)).toList := by
    have := madeCells_list zv.cells n (by omega)
    rw [hzs] at this
    rw [this, hzc]
    have hz1 := zero_rel (g := g) (w := w) hone
    clear hx q1 q2 q3 hrl this hb ho
    induction n with
    | zero => simp [VRc, VRs]
    | succ n ih =>
      simp only [List.replicate_succ, List.flatten_cons]
      exact ⟨hz1.1.append ih.1, fun v hv => (List.mem_append.1 hv).elim (hz1.2 v) (ih.2 v)⟩
  obtain ⟨cs', k1, k2, k3⟩ := fill_rel c (fun i => some (i * s, s)) parts.toList _ _ _ (madeCells zv.cells (n * s)) ⟨by simp, fun i p q hi hq => by simp [hi] at hq; subst hq; simp⟩ hmade q1
  have hn : rows.length = n := by rw [q3]; simp
  have hsz : cs'.size = n * s := by rw [k3, size_madeCells]
  obtain ⟨p1, p2, p3⟩ := push_row (w' := w.alloc (.cells cs' e)) c.hr (rows := rows) (cs := cs') e s n (0, 0) (fun j _ => by omega) hsz (by simp only [maxLen]; have : n * 1 ≤ n * s := Nat.mul_le_mul_left _ h0; omega) (by omega) q2
    (by rw [hn, ← hsz, ← Array.length_toList, List.take_length]; exact k2) (fun k hk => Below.heap_alloc w _ k hk) (alloc_new' w _) (by simp) rfl rfl rfl
  refine ⟨.slice (some ⟨w.heap.size, 0, none⟩) n n, _, _, ?_, p1, p2, p3 n (Nat.le_refl _)⟩
  have hrun : (Instr.buildSlice t n (parts.map fun (i, x) => (i, a.eval x))).run P w = .ok (.slice (some ⟨w.heap.size, 0, none⟩) n n) (w.alloc (.cells cs' e)) := by
    unfold Instr.buildSlice
    have hb' : ¬ (n * s > 2 ^ 24) := by omega
    simp only [Sem.run_bind, run_underlying ht, Result.andThen_ok, run_szT hs, if_neg hb', Array.toList_map]
    by_cases hn0 : n * s = 0
    · simp only [hn0, if_true, Sem.run_pure, Result.andThen_ok]
      have e1 : madeCells zv.cells (n * s) = #[] := Array.eq_empty_of_size_eq_zero (by rw [size_madeCells, hn0])
      rw [e1] at k1
      have e2 : (Array.range 0).map (fun x => (#[] : Array Value)[x % (#[] : Array Value).size]!) = #[] := by simp
      simp only [pure_bind, e2]
      rw [k1]
      simp [newRow]
    · simp only [if_neg hn0, Sem.run_bind, hzr, Result.andThen_ok, Sem.run_pure]
      have e1 : (Array.range (n * s)).map (fun x => zv.cells[x % zv.cells.size]!) = madeCells zv.cells (n * s) := rfl
      rw [e1, k1]
      simp [newRow]
  rw [show (execOp a.eval o).run P w = .ok (.value (.slice (some ⟨w.heap.size, 0, none⟩) n n)) (w.alloc (.cells cs' e)) from by simp only [execOp, ho, Sem.run_bind, hrun, Result.andThen_ok, Sem.run_pure]]
  rfl

theorem s_makeS (c : Ctx P gl a f g h w) {t e : TypeId} {x y : Operand} {s b : Nat} {l k : Int} {z : List Value} (ho : o.op = .makeSlice t x y) (hz : zeroT P e = some z) (ht : P.underlying t = some (.slice e)) (hs : szT P e = some s) (hby : byT P e = some b)
    (h0 : 0 < s) (hzl : z.length = s) (hx : idx ((opd x).ev f gl) = some l) (hy : idx ((opd y).ev f gl) = some k) (hc : 0 ≤ l ∧ l = k ∧ k * b ≤ limit47 ∧ k ≤ limit47) :
    Fits P o a g w (.sl h.length 0 s 0 l.toNat) (h ++ [.row e s 0 (List.replicate l.toNat (z.map fun v => AV.p (.val v)))]) := by
  obtain ⟨h1, rfl, h3, h4⟩ := hc
  obtain ⟨k1, hv1⟩ := idx_of (c.opd x) hx
  obtain ⟨k2, hv2⟩ := idx_of (c.opd y) hy
  obtain ⟨i, zv, hi, hzz, rfl, rfl, hzc⟩ := info_of hs hby hz
  obtain ⟨_, _, _, hone⟩ := run_zeroT (w := w) hz
  have hzs : zv.cells.size = i.size := by rw [← hzl, ← hzc]; simp
  unfold limit47 at h3 h4
  have hcomm : (i.bytes : Int) * l = l * i.bytes := Int.mul_comm _ _
  have hrun := run_make (P := P) w t e i zv ht hi hzz k1 k2 l l h1 (Int.le_refl _) (by omega) (by omega)
  have hl : (List.replicate l.toNat (z.map fun v => AV.p (.val v))).length = l.toNat := by simp
  have hsz : (madeCells zv.cells (l.toNat * i.size)).size = l.toNat * i.size := size_madeCells _ _
  have hmade : VRc g w (List.replicate l.toNat (z.map fun v => AV.p (.val v))).flatten (madeCells zv.cells (l.toNat * i.size)).toList := by
    have := madeCells_list zv.cells l.toNat (by omega)
    rw [hzs] at this
    rw [this, hzc]
    have hz1 := zero_rel (g := g) (w := w) hone
    generalize l.toNat = n
    induction n with
    | zero => simp [VRc, VRs]
    | succ n ih =>
      simp only [List.replicate_succ, List.flatten_cons]
      exact ⟨hz1.1.append ih.1, fun v hv => (List.mem_append.1 hv).elim (hz1.2 v) (ih.2 v)⟩
  obtain ⟨p1, p2, p3⟩ := push_row (w' := w.alloc (.cells (madeCells zv.cells (l.toNat * i.size)) e)) c.hr (rows := List.replicate l.toNat (z.map fun v => AV.p (.val v))) (cs := madeCells zv.cells (l.toNat * i.size)) e i.size l.toNat (0, 0)
    (fun j _ => by omega) hsz (by simp only [maxLen]; omega) (by omega) (by intro r hr; rw [List.eq_of_mem_replicate hr]; simpa using hzl)
    (by rw [hl, List.take_of_length_le (by rw [Array.length_toList, hsz]; exact Nat.le_refl _)]; exact hmade) (fun k hk => Below.heap_alloc w _ k hk) (alloc_new' w _) (by simp) rfl rfl rfl
  refine ⟨.slice (some ⟨w.heap.size, 0, none⟩) l.toNat l.toNat, _, _, ?_, p1, p2, p3 _ (Nat.le_refl _)⟩
  rw [show (execOp a.eval o).run P w = .ok (.value (.slice (some ⟨w.heap.size, 0, none⟩) l.toNat l.toNat)) (w.alloc (.cells (madeCells zv.cells (l.toNat * i.size)) e)) from by
    simp only [execOp, ho, Sem.run_bind, hv1, hv2, hrun, Result.andThen_ok, Sem.run_pure]]
  rfl

theorem bytesOf_spec : ∀ {rows : List (List AV)} {l : List UInt8} {us : List Value}, bytesOf rows = some l → VRs g w rows.flatten us → ∃ ns : List Int, us = ns.map (Value.int .u8) ∧ l = ns.map (fun n => UInt8.ofNat n.toNat)
  | [], l, us, h, hr => by
    simp only [bytesOf, Option.some.injEq] at h
    subst h
    cases us with
    | nil => exact ⟨[], rfl, rfl⟩
    | cons _ _ => simp [VRs] at hr
  | r :: rs, l, us, h, hr => by
    unfold bytesOf at h
    split at h
    · rename_i e; cases e
    · rename_i n rs' e
      injection e with e1 e2
      subst e1; subst e2
      cases hb : bytesOf rs with
      | none => simp [hb] at h
      | some l' =>
        simp only [hb, Option.map_some, Option.some.injEq] at h
        subst h
        simp only [List.flatten_cons, List.cons_append, List.nil_append] at hr
        cases us with
        | nil => simp [VRs] at hr
        | cons u us =>
          simp only [VRs] at hr
          obtain ⟨ns, rfl, rfl⟩ := bytesOf_spec hb hr.2
          have := val_of hr.1 rfl
          subst this
          exact ⟨n :: ns, rfl, rfl⟩
    · cases h

theorem foldl_push : ∀ (ns : List Int) (r : ByteArray), ns.foldl (fun r n => r.push (UInt8.ofNat n.toNat)) r = ⟨r.data ++ (ns.map (fun n => UInt8.ofNat n.toNat)).toArray⟩
  | [], r => by simp
  | n :: ns, r => by
    simp only [List.foldl_cons]
    rw [foldl_push ns]
    simp [ByteArray.push]

theorem s_convB (c : Ctx P gl a f g h w) {src dst e : TypeId} {x : Operand} {rows : List (List AV)} {l : List UInt8} (ho : o.op = .convert src dst x) (hs : P.underlying src = some (.slice e)) (hd : P.underlying dst = some .string) (he : P.underlying e = some (.int .u8))
    (hx : rowsOf h 1 ((opd x).ev f gl) = some rows) (hl : bytesOf rows = some l) (hns : ∀ s, (opd x).ev f gl ≠ vs s) : Fits P o a g w (vs ⟨l.toArray⟩) h := by
  obtain ⟨us, k1, k2, k3⟩ := rowsOf_rel c hx
  obtain ⟨ns, rfl, rfl⟩ := bytesOf_spec hl k1.1
  have hul : (ns.map (Value.int .u8)).length = rows.length * 1 := by rw [← k1.1.len]; exact flatten_len k2
  refine fits_same c (x := .string ⟨(ns.map (fun n => UInt8.ofNat n.toNat)).toArray⟩) ?_ (by simp [VR, PR])
  have hrun : (convert src dst (a.eval x)).run P w = .ok (.string ⟨(ns.map (fun n => UInt8.ofNat n.toNat)).toArray⟩) w := by
    rcases k3 with ⟨A, cc, hv, hA⟩ | ⟨s, hv, _⟩
    · rw [hv, run_convert_bytes_string w src dst e A _ cc hs he hd]
      cases A with
      | none =>
        have hn0 : rows.length = 0 := hA.resolve_right (by rintro ⟨b, off, h, _⟩; cases h)
        have : ns = [] := List.eq_nil_of_length_eq_zero (by simpa [hn0] using hul)
        subst this
        simp [Conv.bytesToString]
        rfl
      | some ad =>
        have hcl : (loadCells ad rows.length).run P w = .ok (ns.map (Value.int .u8)).toArray w := by
          rcases hA with hn0 | ⟨b, off, hA, hcell⟩
          · have : ns = [] := List.eq_nil_of_length_eq_zero (by simpa [hn0] using hul)
            subst this
            rw [hn0]
            simp [loadCells, loadCellsFrom]
          · simp only [Option.some.injEq] at hA
            subst hA
            have := run_cells (P := P) hcell
            rw [hul, Nat.mul_one] at this
            exact this
        rw [run_bytesToString w ad rows.length cc ns hcl, foldl_push]
        simp
    · exfalso
      have h1 := c.opd x
      rw [hv] at h1
      unfold rowsOf at hx
      split at hx
      · rename_i e0
        rw [e0] at h1
        simp only [VR] at h1
        obtain ⟨_, _, h1⟩ := h1
        unfold SlR at h1
        split at h1
        · cases h1.1
        · obtain ⟨_, _, A, h1, _⟩ := h1; cases h1
      · rename_i e0; rw [e0] at h1; simp only [VR, PR] at h1; obtain ⟨A, cc, h1, _⟩ := h1; cases h1
      · rename_i e0; rw [e0] at h1; simp only [VR, PR] at h1; cases h1
      · rename_i s' e0; exact hns s' e0
      · cases hx
  simp only [execOp, ho, Sem.run_bind, hrun, Result.andThen_ok, Sem.run_pure]

theorem s_mkB (c : Ctx P gl a f g h w) {src dst e : TypeId} {x : Operand} {s : ByteArray} (ho : o.op = .convert src dst x) (hs : P.underlying src = some .string) (hd : P.underlying dst = some (.slice e)) (he : P.underlying e = some (.int .u8))
    (hx : (opd x).ev f gl = vs s) (hl : s.size ≤ limit47) : Fits P o a g w (.sl h.length 0 1 0 s.size) (h ++ [.row e 1 0 (s.data.toList.map fun b => [vi .u8 b.toNat])]) := by
  have hv := val_of (c.opd x) hx
  have hrun := run_bytes_of_string (P := P) w src dst e s hs hd he
  unfold limit47 at hl
  have hge := grownCap_ge w s.size 0 e
  have hle := grownCap_le_maxLen w s.size 0 e (by simp only [maxLen]; omega)
  have hdl : s.data.toList.length = s.size := by rw [Array.length_toList]; rfl
  have hbsz : (bytesRow s (grownCap w s.size 0 e)).size = grownCap w s.size 0 e := by
    have : (s.data.map fun b => Value.int .u8 b.toNat).size = s.size := by rw [Array.size_map]; rfl
    simp only [bytesRow, Array.size_append, this, Array.size_replicate]
    omega
  obtain ⟨p1, p2, p3⟩ := push_row (w' := w.drew.alloc (.cells (bytesRow s (grownCap w s.size 0 e)) e ((bytesRow s (grownCap w s.size 0 e)).size, (bytesRow s (grownCap w s.size 0 e)).size + 1))) c.hr
    (rows := s.data.toList.map fun b => [vi .u8 b.toNat]) (cs := bytesRow s (grownCap w s.size 0 e)) e 1 (grownCap w s.size 0 e) _ (fun j hj => by simp only; omega) (by rw [hbsz]; omega) hle (by rw [List.length_map, hdl]; exact hge)
    (by simp) (by
      rw [List.length_map, hdl, Nat.mul_one]
      have e1 : (bytesRow s (grownCap w s.size 0 e)).toList.take s.size = s.data.toList.map fun b => Value.int .u8 b.toNat := by
        simp only [bytesRow, Array.toList_append, Array.toList_map]
        rw [← hdl, ← List.length_map (f := fun b : UInt8 => Value.int .u8 b.toNat), List.take_left]
      rw [e1]
      generalize s.data.toList = l
      refine ⟨?_, by simp [Value.oneCell']⟩
      induction l with
      | nil => simp [VRs]
      | cons b l ih => simp only [List.map_cons, List.flatten_cons, List.cons_append, List.nil_append, VRs]; exact ⟨by simp [VR, PR], ih⟩)
    (fun k hk => Below.heap_alloc w.drew _ k hk) (alloc_new' w.drew _) (by simp) rfl rfl rfl
  refine ⟨_, _, _, ?_, p1, p2, p3 _ hge⟩
  rw [show (execOp a.eval o).run P w = _ from by simp only [execOp, ho, Sem.run_bind, hv, hrun, Result.andThen_ok, Sem.run_pure]; rfl]
  rfl

end
end Go.Vs
