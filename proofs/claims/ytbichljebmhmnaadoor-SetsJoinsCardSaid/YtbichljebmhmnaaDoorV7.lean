/- Each instruction does what its operation does: stores, arithmetic, conversions. -/
import Derived.Test.YtbichljebmhmnaaDoorV6
namespace Go.Vs
set_option linter.unusedSimpArgs false
set_option linter.unusedVariables false
open Go Go.RowKit

theorem splice_take {α : Type} {xs cs : List α} {off n : Nat} (h : off + cs.length ≤ n) (hn : n ≤ xs.length) : (splice xs off cs).take n = splice (xs.take n) off cs := by
  unfold splice
  apply List.ext_getElem?
  intro j
  simp only [List.getElem?_take, List.getElem?_append, List.length_append, List.length_take, List.getElem?_drop]
  have e1 : min off xs.length = off := by omega
  have e2 : min off (min n xs.length) = off := by omega
  rw [e1, e2]
  by_cases h1 : j < off
  · have : j < n := by omega
    have h1' : j < off + cs.length := by omega
    simp [h1, h1', this]
  · by_cases h2 : j < off + cs.length
    · have : j < n := by omega
      simp [h1, h2, this]
    · by_cases h3 : j < n
      · have : off + cs.length + (j - (off + cs.length)) < n := by omega
        simp [h2, h3, this]
      · have : ¬ off + cs.length + (j - (off + cs.length)) < n := by omega
        simp [h2, h3, this]

theorem flatten_len {α : Type} {s : Nat} : ∀ {rows : List (List α)}, (∀ r ∈ rows, r.length = s) → rows.flatten.length = rows.length * s
  | [], _ => by simp
  | r :: rs, h => by
    have := flatten_len (rows := rs) (fun q hq => h q (by simp [hq]))
    simp only [List.flatten_cons, List.length_append, this, h r (by simp), List.length_cons, Nat.add_mul, Nat.one_mul]
    omega

theorem flatten_set {α : Type} {s : Nat} : ∀ {rows : List (List α)} {k : Nat} {r : List α} {off : Nat} {cs : List α}, (∀ r ∈ rows, r.length = s) → rows[k]? = some r → off + cs.length ≤ r.length →
    (rows.set k (splice r off cs)).flatten = splice rows.flatten (k * s + off) cs
  | [], k, r, _, _, _, h, _ => by simp at h
  | q :: qs, 0, r, off, cs, hs, h, hl => by
    simp at h
    subst h
    simp only [List.set_cons_zero, List.flatten_cons, Nat.zero_mul, Nat.zero_add]
    unfold splice
    rw [List.take_append_of_le_length (by omega), List.drop_append_of_le_length (by omega)]
    simp
  | q :: qs, k + 1, r, off, cs, hs, h, hl => by
    simp at h
    have ih := flatten_set (rows := qs) (fun r hr => hs r (by simp [hr])) h hl
    have hq := hs q (by simp)
    simp only [List.set_cons_succ, List.flatten_cons, ih, Nat.add_mul, Nat.one_mul]
    unfold splice
    have e : k * s + s + off = q.length + (k * s + off) := by omega
    rw [e, List.take_length_add_append, Nat.add_assoc q.length, List.drop_length_add_append]
    simp

theorem mem_splice {α : Type} {xs cs : List α} {off : Nat} {v : α} (h : v ∈ splice xs off cs) : v ∈ xs ∨ v ∈ cs := by
  unfold splice at h
  simp only [List.mem_append] at h
  rcases h with (h | h) | h
  · exact .inl (List.mem_of_mem_take h)
  · exact .inr h
  · exact .inl (List.mem_of_mem_drop h)

theorem VRc.splice {g : G} {w : World} {xs cs : List AV} {vs us : List Value} (off : Nat) (h : VRc g w xs vs) (k : VRc g w cs us) : VRc g w (splice xs off cs) (splice vs off us) :=
  ⟨h.1.splice off k.1, fun v hv => (mem_splice hv).elim (h.2 v) (k.2 v)⟩

section
variable {P : Program} {gl : Nat → Option (List PV)} {a : Act} {f : List AV} {g : G} {h : List AB} {w : World} {o : Oper}

theorem rows_set_len {s k : Nat} {rows : List (List AV)} {r' : List AV} (hr : ∀ r ∈ rows, r.length = s) (h' : r'.length = s) : ∀ r ∈ rows.set k r', r.length = s := by
  intro r hm
  rcases List.mem_or_eq_of_mem_set hm with hm | rfl
  · exact hr r hm
  · exact h'

theorem s_store (c : Ctx P gl a f g h w) {t : TypeId} {x y : Operand} {s : Nat} {cs : List AV} {h' : List AB} (ho : o.op = .store t x y) (hs : szT P t = some s)
    (hy : cellsOf ((opd y).ev f gl) = some cs) (hl : cs.length = s) (hx : storeA h cs ((opd x).ev f gl) = some h') : Fits P o a g w ud h' := by
  obtain ⟨h1, h2, h3⟩ := cellsOf_rel (c.opd y) hy
  have hsz : (a.eval y).cells.size = s := by rw [← hl, h1.len]; simp
  have hlen : (a.eval y).cells.toList.length = cs.length := h1.len.symm
  have hrun : ∀ ad, (execOp a.eval o).run P w = .ok .skip (ad : World) ↔ (do Instr.storeAt t (a.eval x) (a.eval y); pure Next.skip : Sem Next).run P w = .ok .skip ad := by
    intro ad; simp [execOp, ho]
  have hv := c.opd x
  unfold storeA at hx
  split at hx
  · rename_i b off e
    rw [e] at hv
    simp only [VR] at hv
    split at hx
    · rename_i t' xs hb
      split at hx
      · rename_i hle
        simp only [Option.some.injEq] at hx
        subst hx
        have hbr := c.hr.br b _ hb
        simp only [BR] at hbr
        obtain ⟨ys, fz, k1, k2, k3⟩ := hbr
        have hys : ys.toList.length = xs.length := k3.1.len.symm
        have hst := run_storeCells' (P := P) (off := off) (a.eval y).cells.toList 0 ys w k1 k2 (by simp at hys hlen ⊢; omega) h2
        rw [Nat.add_zero] at hst
        have hsp : (splice ys.toList off (a.eval y).cells.toList).length = ys.size := by rw [splice_length (by rw [hlen, hys]; exact hle)]; simp
        obtain ⟨m1, m2⟩ := upd_cells c.hr hb (cs' := (splice ys.toList off (a.eval y).cells.toList).toArray) (xs' := splice xs off cs) k1 (by simpa [hsp] using k2) (by simpa using k3.splice off ⟨h1, h2⟩)
        refine ⟨undef, _, g, ?_, m1, m2, VR_ud⟩
        have : (execOp a.eval o).run P w = .ok .skip (setRow' w (g.m b) (splice ys.toList off (a.eval y).cells.toList).toArray t' fz) := by
          rw [hrun]
          simp [Instr.storeAt, hv.2, Instr.sureAddr, storeVar, run_szT hs, hsz, hst]
        rw [this]; rfl
      · cases hx
    · cases hx
  · rename_i b gen size k off e
    rw [e] at hv
    simp only [VR] at hv
    obtain ⟨hb1, hb2, cc, cap, hd, hv⟩ := hv
    split at hx
    · rename_i t' s' g1 rows hb
      split at hx
      · rename_i hgs
        obtain ⟨rfl, rfl⟩ := hgs
        split at hx
        · rename_i r hk
          split at hx
          · rename_i hle
            simp only [Option.some.injEq] at hx
            subst hx
            have hbr := c.hr.br b _ hb
            simp only [BR] at hbr
            obtain ⟨_, hr1, hr2⟩ := hbr
            rw [hd] at hr2
            simp only [RowR] at hr2
            obtain ⟨ys, fz, l1, l2, l3, l4, l5, l6⟩ := hr2
            have hrl := hr1 r (List.mem_of_getElem? hk)
            have hklt : k < rows.length := (List.getElem?_eq_some_iff.1 hk).1
            have hk2 : (k + 1) * s' ≤ rows.length * s' := Nat.mul_le_mul_right _ (by omega)
            rw [Nat.add_mul, Nat.one_mul] at hk2
            have hk3 : rows.length * s' ≤ cap * s' := Nat.mul_le_mul_right _ l5
            have hfit : k * s' + off + (a.eval y).cells.toList.length ≤ rows.length * s' := by omega
            have hys : ys.toList.length = cap * s' := by simpa using l3
            have hst := run_storeCells' (P := P) (off := k * s' + off) (a.eval y).cells.toList 0 ys w l1 l2 (by rw [l3]; omega) h2
            rw [Nat.add_zero] at hst
            have hsp : (splice ys.toList (k * s' + off) (a.eval y).cells.toList).length = ys.size := by rw [splice_length (by rw [hys]; omega)]; simp
            have hrow : VRc g w (rows.set k (splice r off cs)).flatten ((splice ys.toList (k * s' + off) (a.eval y).cells.toList).take ((rows.set k (splice r off cs)).length * s')) := by
              rw [flatten_set hr1 hk hle, List.length_set, splice_take hfit (by rw [hys]; exact hk3)]
              exact l6.splice _ ⟨h1, h2⟩
            obtain ⟨m1, m2⟩ := upd_row c.hr hb hd (cs' := (splice ys.toList (k * s' + off) (a.eval y).cells.toList).toArray) (rows' := rows.set k (splice r off cs)) l1 (by simpa [hsp] using l2)
              (by simpa [hsp] using l3) l4 (by simpa using l5) (rows_set_len hr1 (by rw [splice_length hle]; exact hrl)) (by simpa using hrow)
            refine ⟨undef, _, g, ?_, m1, m2, VR_ud⟩
            have : (execOp a.eval o).run P w = .ok .skip (setRow' w cc (splice ys.toList (k * s' + off) (a.eval y).cells.toList).toArray t' fz) := by
              rw [hrun]
              simp [Instr.storeAt, hv, Instr.sureAddr, storeVar, run_szT hs, hsz, hst]
            rw [this]; rfl
          · cases hx
        · cases hx
      · cases hx
    · cases hx
  · cases hx

theorem s_nilChk (c : Ctx P gl a f g h w) {x : Operand} {v : AV} (ho : o.op = .nilCheck x) (hx : nilCk ((opd x).ev f gl) = some v) : Fits P o a g w v h := by
  have hv := c.opd x
  unfold nilCk at hx
  split at hx <;> (try cases hx) <;> rename_i e <;> rw [e] at hv
  · have hv' := hv; simp only [VR] at hv'; obtain ⟨_, hv'⟩ := hv'
    exact fits_same c (x := a.eval x) (by simp [execOp, ho, hv']) hv
  · have hv' := hv; simp only [VR] at hv'; obtain ⟨_, _, hv', _⟩ := hv'
    exact fits_same c (x := a.eval x) (by simp [execOp, ho, hv']) hv
  · have hv' := hv; simp only [VR] at hv'; obtain ⟨_, _, _, _, _, hv'⟩ := hv'
    exact fits_same c (x := a.eval x) (by simp [execOp, ho, hv']) hv
  · have hv' := hv; simp only [VR] at hv'; obtain ⟨_, hv', _⟩ := hv'
    exact fits_same c (x := a.eval x) (by simp [execOp, ho, hv']) hv
  · have hv' := hv; simp only [VR, PR] at hv'
    exact fits_same c (x := a.eval x) (by simp [execOp, ho, hv']) hv
  · have hv' := hv; simp only [VR, PR] at hv'
    exact fits_same c (x := a.eval x) (by simp [execOp, ho, hv']) hv

theorem run_intOp {op : BinOp} {k : IntKind} {m n : Int} {v : Value} (h : intOp op k m n = some v) (h1 : op ≠ .shl) (h2 : op ≠ .shr) (t : TypeId) : (binOp op t (.int k m) (.int k n)).run P w = .ok v w := by
  cases op <;> first | (exact absurd rfl h1) | (exact absurd rfl h2) | skip
  all_goals (simp only [intOp] at h)
  all_goals first
    | (split at h
       · cases h
       · rename_i hz; simp only [Option.some.injEq] at h; subst h; simp [binOp, Op.intDiv, hz])
    | (simp only [Option.some.injEq] at h; subst h; simp [binOp, Op.intArith, Op.intBits, Op.intCmp])
    | cases h

theorem run_shiftOp {op : BinOp} {k k' : IntKind} {m n : Int} {v : Value} (h : shiftOp op k m n = some v) (t : TypeId) : (binOp op t (.int k m) (.int k' n)).run P w = .ok v w := by
  unfold shiftOp at h
  split at h
  · cases h
  · rename_i hn
    cases op <;> simp at h
    all_goals (subst h; simp [binOp, Op.shift, hn])

theorem run_strOp {op : BinOp} {x y : ByteArray} {v : Value} (h : strOp op x y = some v) (t : TypeId) : (binOp op t (.string x) (.string y)).run P w = .ok v w := by
  cases op
  case add =>
    simp only [strOp] at h
    split at h
    · rename_i hz
      simp only [Option.some.injEq] at h
      subst h
      have h1 : ¬ (((x.size + y.size : Nat) : Int) > IntKind.max .i64) := by
        have : IntKind.max .i64 = 9223372036854775807 := by decide
        omega
      simp only [binOp, Op.stringOp, if_neg h1]
      rfl
    · cases h
  all_goals (simp only [strOp] at h)
  all_goals first
    | (simp only [Option.some.injEq] at h; subst h; simp [binOp, Op.stringOp])
    | cases h

theorem run_binV {op : BinOp} {x y v : Value} (h : binV op x y = some v) (t : TypeId) : (binOp op t x y).run P w = .ok v w := by
  unfold binV at h
  split at h
  · split at h
    · exact run_shiftOp h t
    · exact run_shiftOp h t
    · rename_i h1 h2
      split at h
      · rename_i e
        subst e
        exact run_intOp h (fun e => h1 e) (fun e => h2 e) t
      · cases h
  · exact run_strOp h t
  · cases h

theorem run_guard_val {op : BinOp} {t : TypeId} {x y : Operand} {u v : Value} (h : binV op u v ≠ none) : (eqGuard op t x y u v).run P w = .ok () w := by
  unfold binV at h
  split at h
  · cases op <;> simp [eqGuard]
  · cases op <;> simp [eqGuard]
  · exact absurd rfl h

theorem s_bin (c : Ctx P gl a f g h w) {op : BinOp} {t yt : TypeId} {x y : Operand} {u v r : Value} (ho : o.op = .binOp op t x y yt) (hx : (opd x).ev f gl = .p (.val u)) (hy : (opd y).ev f gl = .p (.val v))
    (hr : binV op u v = some r) : Fits P o a g w (.p (.val r)) h := by
  have h1 := val_of (c.opd x) hx
  have h2 := val_of (c.opd y) hy
  refine fits_same c (x := r) ?_ (by simp [VR, PR])
  have hg := run_guard_val (P := P) (w := w) (t := t) (x := x) (y := y) (op := op) (u := u) (v := v) (by rw [hr]; simp)
  simp [execOp, ho, h1, h2, hg, run_binV hr]

theorem s_un (c : Ctx P gl a f g h w) {op : UnOp} {t : TypeId} {x : Operand} {u r : Value} (ho : o.op = .unOp op t x) (hx : (opd x).ev f gl = .p (.val u)) (hr : unV op u = some r) : Fits P o a g w (.p (.val r)) h := by
  have h1 := val_of (c.opd x) hx
  refine fits_same c (x := r) ?_ (by simp [VR, PR])
  unfold unV at hr
  split at hr
  · split at hr
    · simp only [intOp, Option.some.injEq] at hr; subst hr; simp [execOp, ho, h1, Op.unary, Op.intArith]
    · simp only [intOp, Option.some.injEq] at hr; subst hr; simp [execOp, ho, h1, Op.unary, Op.intBits]
    · cases hr
  · split at hr
    · simp only [Option.some.injEq] at hr; subst hr; simp [execOp, ho, h1, Op.unary]
    · cases hr
  · cases hr

theorem idx_of {x : AV} {v : Value} {n : Int} (h : VR g w x v) (hi : idx x = some n) : ∃ k, v = .int k n := by
  unfold idx at hi
  split at hi
  · rename_i k m
    simp only [Option.some.injEq] at hi
    subst hi
    exact ⟨k, val_of h rfl⟩
  · cases hi

theorem s_convI (c : Ctx P gl a f g h w) {src dst : TypeId} {k k' : IntKind} {x : Operand} {n : Int} (ho : o.op = .convert src dst x) (hs : P.underlying src = some (.int k')) (hd : P.underlying dst = some (.int k))
    (hx : idx ((opd x).ev f gl) = some n) : Fits P o a g w (vi k (k.wrap n)) h := by
  obtain ⟨kk, hv⟩ := idx_of (c.opd x) hx
  refine fits_same c (x := .int k (k.wrap n)) ?_ (by simp [VR, PR])
  simp [execOp, ho, convert, run_underlying hs, run_underlying hd, hv, Conv.intToInt]

theorem s_convS (c : Ctx P gl a f g h w) {src dst : TypeId} {k' : IntKind} {x : Operand} {n : Int} (ho : o.op = .convert src dst x) (hs : P.underlying src = some (.int k')) (hd : P.underlying dst = some .string)
    (hx : idx ((opd x).ev f gl) = some n) : Fits P o a g w (vs (Utf8.encode n)) h := by
  obtain ⟨kk, hv⟩ := idx_of (c.opd x) hx
  refine fits_same c (x := .string (Utf8.encode n)) ?_ (by simp [VR, PR])
  simp [execOp, ho, convert, run_underlying hs, run_underlying hd, hv, Conv.intToString]

theorem VRs_evs (c : Ctx P gl a f g h w) : ∀ (xs : List Operand), VRs g w (xs.map fun x => (opd x).ev f gl) (xs.map a.eval)
  | [] => by simp [VRs]
  | x :: xs => by simp only [List.map_cons, VRs]; exact ⟨c.opd x, VRs_evs c xs⟩

theorem s_mkfn (c : Ctx P gl a f g h w) {fn : Nat} {first caps : Array Operand} (ho : o.op = .makeFunc (.func fn) first caps) (hf : first.size = 0) : Fits P o a g w (.fn fn (caps.toList.map fun x => (opd x).ev f gl)) h := by
  have hfe : first = #[] := Array.eq_empty_of_size_eq_zero hf
  subst hfe
  refine fits_same c (x := .func (.func fn) #[] (caps.map a.eval)) (by simp [execOp, ho, Instr.makeFunc]) ?_
  simp only [VR]
  exact ⟨caps.map a.eval, rfl, by rw [Array.toList_map]; exact VRs_evs c caps.toList⟩

theorem s_extract (c : Ctx P gl a f g h w) {x : Operand} {i : Nat} {xs : List AV} {v : AV} (ho : o.op = .extract x i) (hx : (opd x).ev f gl = .tup xs) (hi : xs[i]? = some v) : Fits P o a g w v h := by
  have hv := c.opd x
  rw [hx] at hv
  simp only [VR] at hv
  obtain ⟨cs, hv, hr⟩ := hv
  obtain ⟨u, hu, hr⟩ := hr.get hi
  have hu' : cs[i]? = some u := by simpa using hu
  exact fits_same c (x := u) (by simp [execOp, ho, hv, Instr.extract, hu']) hr

end
end Go.Vs
