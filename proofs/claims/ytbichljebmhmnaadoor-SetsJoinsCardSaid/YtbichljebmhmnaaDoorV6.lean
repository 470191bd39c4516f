/- Each instruction does what its operation does: values, blocks, cells. -/
import Derived.Test.YtbichljebmhmnaaDoorV5
namespace Go.Vs
set_option linter.unusedSimpArgs false
set_option linter.unusedVariables false
open Go Go.RowKit

section
variable {P : Program} {gl : Nat → Option (List PV)} {a : Act} {f : List AV} {g : G} {h : List AB} {w : World} {o : Oper}

theorem s_mv (c : Ctx P gl a f g h w) (x : Operand) (ho : o.op = .move x ∨ o.op = .assign x) : Fits P o a g w ((opd x).ev f gl) h := by
  refine fits_same c (x := a.eval x) ?_ (c.opd x)
  rcases ho with ho | ho <;> simp [execOp, ho]

theorem s_nilrow (c : Ctx P gl a f g h w) (t : TypeId) (size : Nat) (ho : o.op = .assign (.const nilS)) : Fits P o a g w (.sl h.length 0 size 0 0) (h ++ [.row t size 0 []]) := by
  obtain ⟨h1, h2, h3⟩ := push_nil c.hr t size
  exact ⟨nilS, w, _, by simp [execOp, ho, fin, Act.eval], h1, h2, h3⟩

theorem s_pick (c : Ctx P gl a f g h w) {x y z : Operand} {t : Bool} (ho : o.op = .pick x y z) (hx : (opd x).ev f gl = vb t) :
    Fits P o a g w (if t then (opd y).ev f gl else (opd z).ev f gl) h := by
  have hv := val_of (c.opd x) hx
  refine fits_same c (x := if t then a.eval y else a.eval z) (by simp [execOp, ho, hv, asBool]) ?_
  cases t
  · exact c.opd z
  · exact c.opd y

theorem zc_plain (v : Value) (s : Nat × TypeId) : (zc v s).plain = v := by
  unfold zc
  split
  · split <;> rfl
  · rfl

theorem zcs_plain : ∀ (vs : List Value) (ss : List (Nat × TypeId)), (zcs vs ss).map ZC.plain = vs
  | [], _ => by simp [zcs]
  | v :: vs, [] => by simp [zcs, ZC.plain, zcs_plain vs []]
  | v :: vs, s :: ss => by simp [zcs, zc_plain, zcs_plain vs ss]

theorem zcs_no (s : Nat) (r : List (List PV)) : ∀ (vs : List Value) (ss : List (Nat × TypeId)), ZC.z (.lst s r) ∉ zcs vs ss
  | [], _ => by simp [zcs]
  | v :: vs, [] => by simp [zcs, zcs_no s r vs []]
  | v :: vs, n :: ss => by
    simp only [zcs, List.mem_cons, not_or]
    refine ⟨?_, zcs_no s r vs ss⟩
    unfold zc
    split
    · split <;> simp
    · simp

theorem s_alloc (c : Ctx P gl a f g h w) {t : TypeId} {z : List Value} (ho : o.op = .alloc t) (hz : zeroT P t = some z) (ss : List (Nat × TypeId)) :
    Fits P o a g w (.ptr (h.length + (zeroN (zcs z ss) h.length).2.length) 0) (h ++ (zeroN (zcs z ss) h.length).2 ++ [.cells t (zeroN (zcs z ss) h.length).1]) := by
  obtain ⟨v, hv, hvz, hone⟩ := run_zeroT (w := w) hz
  obtain ⟨g', hh⟩ := zeroN_rel (w := w) (zcs z ss) c.hr
  rcases hh with ⟨h1, h2, h3⟩ | ⟨s, r, hm⟩
  · rw [zcs_plain] at h3
    have h3' : VRc g' w (zeroN (zcs z ss) h.length).1 v.cells.toList := by rw [hvz]; exact ⟨h3, hone⟩
    obtain ⟨k1, k2, k3⟩ := push_cells h2 t h3'
    refine ⟨.pointer (some ⟨w.heap.size, 0, none⟩), _, _, ?_, h1.trans k1, k2, ?_⟩
    · simp [execOp, ho, Instr.alloc, hv, newVar, newRow, fin]
    · simpa using k3
  · exact absurd hm (zcs_no s r z ss)

theorem s_box (c : Ctx P gl a f g h w) {t : TypeId} {x : Operand} {cs : List AV} (ho : o.op = .box t x) (hx : cellsOf ((opd x).ev f gl) = some cs) :
    Fits P o a g w (.ptr h.length 0) (h ++ [.cells t cs]) := by
  obtain ⟨h1, h1', _⟩ := cellsOf_rel (c.opd x) hx
  obtain ⟨k1, k2, k3⟩ := push_cells c.hr t ⟨h1, h1'⟩
  refine ⟨.pointer (some ⟨w.heap.size, 0, none⟩), _, _, ?_, k1, k2, k3⟩
  simp [execOp, ho, Instr.box, newVar, newRow, fin]

theorem oneOr_rel {b : Bool} {cs : List AV} {vs : List Value} {v : AV} (h1 : VRs g w cs vs) (ho : oneOr b cs = some v) :
    (b = true ∧ VR g w v (.agg vs.toArray)) ∨ (b = false ∧ ∃ u, vs = [u] ∧ VR g w v u) := by
  cases b with
  | true =>
    simp only [oneOr, if_true, Option.some.injEq] at ho
    subst ho
    exact .inl ⟨rfl, by simp only [VR]; exact ⟨vs.toArray, rfl, by simpa using h1⟩⟩
  | false =>
    simp only [oneOr] at ho
    cases cs with
    | nil => simp at ho
    | cons x r =>
      cases r with
      | cons y r => simp at ho
      | nil =>
        simp at ho
        subst ho
        cases vs with
        | nil => simp [VRs] at h1
        | cons u us =>
          cases us with
          | nil => simp only [VRs] at h1; exact .inr ⟨rfl, u, rfl, h1.1⟩
          | cons _ _ => simp [VRs] at h1

theorem PRs_take {S : Nat → Prop} {b : Nat} : ∀ (n : Nat) {off : Nat} {xs : List PV}, PRs S w b off xs → PRs S w b off (xs.take n)
  | 0, _, _, _ => by simp [PRs]
  | _ + 1, _, [], _ => by simp [PRs]
  | n + 1, _, _ :: _, h => by simp only [List.take_succ_cons, PRs] at h ⊢; exact ⟨h.1, PRs_take n h.2⟩

theorem cells_at {b off n : Nat} {cs : Array Value} {t : TypeId} {fz : Nat × Nat} (h : w.heap[b]? = some (.cells cs t fz)) :
    ∀ j v, ((cs.toList.drop off).take n)[j]? = some v → w.cell? ⟨b, off + j, none⟩ = some v := by
  intro j v hj
  simp only [World.cell?, h]
  rw [List.getElem?_take] at hj
  split at hj
  · simpa [List.getElem?_drop] using hj
  · cases hj

theorem run_cells {b off : Nat} {vs : List Value} (h : ∀ j v, vs[j]? = some v → w.cell? ⟨b, off + j, none⟩ = some v) : (loadCells ⟨b, off, none⟩ vs.length).run P w = .ok vs.toArray w :=
  run_loadCells_list w _ vs (by intro j v hj; rw [add_addr]; exact h j v hj)

/-- The cells at a pointer, in the model's memory. -/
theorem loadA_rel (c : Ctx P gl a f g h w) {x : Operand} {n : Nat} {cs : List AV} (hx : loadA h n ((opd x).ev f gl) = some cs) :
    ∃ b off vs, a.eval x = .pointer (some ⟨b, off, none⟩) ∧ (∀ j v, vs[j]? = some v → w.cell? ⟨b, off + j, none⟩ = some v) ∧ vs.length = n ∧ VRs g w cs vs := by
  have hv := c.opd x
  unfold loadA at hx
  split at hx
  · rename_i b off e
    rw [e] at hv
    simp only [VR] at hv
    split at hx
    · rename_i xs hb
      have hbr := c.hr.br b _ hb
      simp only [BR] at hbr
      obtain ⟨ys, fz, h1, _, h3⟩ := hbr
      obtain ⟨k1, k2⟩ := h3.1.sub hx
      have hlen : off + n ≤ ys.size := by simpa using k1
      refine ⟨_, off, (ys.toList.drop off).take n, hv.2, cells_at h1, by simp; omega, k2⟩
    · cases hx
  · rename_i xs e
    rw [e] at hv
    simp only [VR] at hv
    obtain ⟨b, off, hv, hS, hp⟩ := hv
    cases hs : sub xs 0 n with
    | none => simp [hs] at hx
    | some ys =>
      simp only [hs, Option.map_some, Option.some.injEq] at hx
      subst hx
      unfold sub at hs
      split at hs
      · rename_i hle
        simp only [List.drop_zero, Option.some.injEq] at hs
        subst hs
        have hp' : PRs g.S w b off (xs.take n) := PRs_take n hp
        obtain ⟨vs, l1, l2, l3⟩ := PRs_cells hp'
        have hl : (xs.take n).length = n := by simp; omega
        rw [hl] at l1
        exact ⟨b, off, vs, hv, l2, l1, (l3 g rfl).1⟩
      · cases hs
  · rename_i b gen size k off e
    rw [e] at hv
    simp only [VR] at hv
    obtain ⟨hb1, hb2, cc, cap, hd, hv⟩ := hv
    split at hx
    · rename_i s g1 rows hb
      split at hx
      · rename_i hgs
        obtain ⟨rfl, rfl⟩ := hgs
        have hbr := c.hr.br b _ hb
        simp only [BR] at hbr
        obtain ⟨_, hr1, hr2⟩ := hbr
        rw [hd] at hr2
        simp only [RowR] at hr2
        obtain ⟨ys, fz, h1, _, h3, h4, h5, h6⟩ := hr2
        cases hk : rows[k]? with
        | none => simp [hk] at hx
        | some r =>
          simp only [hk, Option.bind_some] at hx
          have hrl := hr1 r (List.mem_of_getElem? hk)
          have hklt : k < rows.length := (List.getElem?_eq_some_iff.1 hk).1
          have hflat : VRs g w r ((ys.toList.drop (k * s)).take s) := by
            have hd1 := (h6.1.drop (k * s)).take s
            have e1 : (rows.flatten.drop (k * s)).take s = r := by
              have : ∀ (rows : List (List AV)) (k : Nat), (∀ r ∈ rows, r.length = s) → ∀ r, rows[k]? = some r → (rows.flatten.drop (k * s)).take s = r := by
                intro rows
                induction rows with
                | nil => intro k _ r hr; simp at hr
                | cons q qs ih =>
                  intro k hq r hr
                  have hql := hq q (by simp)
                  cases k with
                  | zero => simp at hr; subst hr; simp [← hql]
                  | succ k =>
                    simp at hr
                    have := ih k (fun r hr => hq r (by simp [hr])) r hr
                    rw [Nat.add_mul, Nat.one_mul, List.flatten_cons, Nat.add_comm (k * s) s, ← List.drop_drop]
                    rw [← hql, List.drop_left, hql]
                    exact this
              exact this rows k hr1 r hk
            rw [e1] at hd1
            have e2 : ((ys.toList.take (rows.length * s)).drop (k * s)).take s = (ys.toList.drop (k * s)).take s := by
              rw [List.drop_take, List.take_take]
              congr 1
              have : (k + 1) * s ≤ rows.length * s := Nat.mul_le_mul_right _ hklt
              rw [Nat.add_mul, Nat.one_mul] at this
              omega
            rw [e2] at hd1
            exact hd1
          obtain ⟨k1, k2⟩ := hflat.sub hx
          have hk2 : (k + 1) * s ≤ cap * s := Nat.mul_le_mul_right _ (by omega)
          rw [Nat.add_mul, Nat.one_mul] at hk2
          have hlen : k * s + off + n ≤ ys.size := by
            simp only [List.length_take, List.length_drop, Array.length_toList] at k1
            omega
          refine ⟨cc, k * s + off, (ys.toList.drop (k * s + off)).take n, hv, cells_at h1, by simp; omega, ?_⟩
          have e3 : ((ys.toList.drop (k * s)).take s |>.drop off).take n = (ys.toList.drop (k * s + off)).take n := by
            rw [List.drop_take, List.take_take, List.drop_drop]
            congr 1
            simp only [List.length_take, List.length_drop, Array.length_toList] at k1
            omega
          rw [e3] at k2
          exact k2
      · cases hx
    · cases hx
  · cases hx

theorem s_load (c : Ctx P gl a f g h w) {t : TypeId} {x : Operand} {b : Bool} {s : Nat} {cs : List AV} {v : AV} (ho : o.op = .load t x) (hb : aggT P t = some b) (hs : szT P t = some s)
    (hx : loadA h (if b then s else 1) ((opd x).ev f gl) = some cs) (hv : oneOr b cs = some v) : Fits P o a g w v h := by
  obtain ⟨bb, off, vs, h1, h2, h3, h4⟩ := loadA_rel c hx
  rcases oneOr_rel h4 hv with ⟨rfl, hr⟩ | ⟨rfl, u, rfl, hr⟩
  · refine fits_same c (x := .agg vs.toArray) ?_ hr
    have h2' := run_cells (P := P) h2
    rw [h3] at h2'
    simp only [if_true] at h2'
    simp [execOp, ho, Instr.loadAt, h1, Instr.sureAddr, loadVar, run_aggT hb, run_szT hs, h2']
  · refine fits_same c (x := u) ?_ hr
    have hcell : w.cell? ⟨bb, off, none⟩ = some u := h2 0 u rfl
    simp [execOp, ho, Instr.loadAt, h1, Instr.sureAddr, loadVar, run_aggT hb, hcell]
end
end Go.Vs
