/- Each instruction does what its operation does: ==, parts, places, cuts. -/
import Derived.Test.YtbichljebmhmnaaDoorV8
namespace Go.Vs
set_option linter.unusedSimpArgs false
set_option linter.unusedVariables false
open Go Go.RowKit

section
variable {P : Program} {gl : Nat → Option (List PV)} {a : Act} {f : List AV} {g : G} {h : List AB} {w : World} {o : Oper}

theorem isAggA_val {x : AV} {v : Value} {cs : List AV} (hv : VR g w x v) (hc : cellsOf x = some cs) : (isAggA x = true → ∃ ys, v = .agg ys) ∧ (isAggA x = false → v.oneCell' = true) := by
  cases x with
  | agg xs => simp only [VR] at hv; obtain ⟨ys, rfl, _⟩ := hv; exact ⟨fun _ => ⟨ys, rfl⟩, fun e => by simp [isAggA] at e⟩
  | _ =>
    refine ⟨fun e => by simp [isAggA] at e, fun _ => ?_⟩
    simp only [cellsOf] at hc
    split at hc
    · rename_i h1; exact AV.one_val hv h1
    · cases hc

theorem partOf_val {x : AV} {v : Value} {cs : List AV} {t : TypeId} {b : Bool} (hv : VR g w x v) (hc : cellsOf x = some cs) (hb : aggT P t = some b) (he : isAggA x = b) : PartOf P t v.cells.toList v := by
  obtain ⟨h1, h2⟩ := isAggA_val hv hc
  refine ⟨b, hb, ?_⟩
  cases b with
  | true => obtain ⟨ys, rfl⟩ := h1 he; exact .inl ⟨rfl, by simp [Value.cells]⟩
  | false => exact .inr ⟨rfl, by rw [cells_of_one (h2 he)]⟩

theorem eqV0 {x y : Value} {p : Bool} (h : eqV 0 x y = some p) : ∃ a b, x = .bool a ∧ y = .bool b := by
  unfold eqV at h
  split at h
  · exact ⟨_, _, rfl, rfl⟩
  · omega
  · omega
  · cases h

theorem s_eqA (c : Ctx P gl a f g h w) {op : BinOp} {t yt : TypeId} {x y : Operand} {b r : Bool} {ks : List Nat} {xs ys : List AV} (ho : o.op = .binOp op t x y yt) (hop : op = .eql ∨ op = .neq)
    (hk : plainK P 40 t = some ks) (hb : (b = false ∧ P.underlying t = some .bool) ∨ (b = true ∧ P.eqGuardType P.depth t = false ∧ aggT P t = some true)) (hx : isAggA ((opd x).ev f gl) = b) (hy : isAggA ((opd y).ev f gl) = b)
    (hxs : cellsOf ((opd x).ev f gl) = some xs) (hys : cellsOf ((opd y).ev f gl) = some ys) (he : eqC ks xs ys = some r) : Fits P o a g w (vb (if op == .neq then !r else r)) h := by
  obtain ⟨k1, _, _⟩ := cellsOf_rel (c.opd x) hxs
  obtain ⟨l1, _, _⟩ := cellsOf_rel (c.opd y) hys
  have hev := eqC_vals he k1 l1
  have hba : aggT P t = some b := by
    rcases hb with ⟨rfl, hb⟩ | ⟨rfl, _, hb⟩
    · simp [aggT, hb, isAggD]
    · exact hb
  have hrun := (run_equalIn_plain 40 10000 t ks (by omega) hk).2.2 _ _ r _ _ w hev (partOf_val (c.opd x) hxs hba hx) (partOf_val (c.opd y) hys hba hy)
  refine fits_same c (x := .bool (if op == .neq then !r else r)) ?_ (by simp [VR, PR])
  have hbin : (binOp op t (a.eval x) (a.eval y)).run P w = .ok (.bool (if op == .neq then !r else r)) w ∧ (eqGuard op t x y (a.eval x) (a.eval y)).run P w = .ok () w := by
    rcases hb with ⟨rfl, hb⟩ | ⟨rfl, hg, _⟩
    · have h1 := (isAggA_val (c.opd x) hxs).2 hx
      have h2 := (isAggA_val (c.opd y) hys).2 hy
      rw [cells_of_one h1, cells_of_one h2] at hev
      have hks : ks = [0] := by
        unfold plainK at hk
        simp only [hb] at hk
        split at hk
        · simpa using hk.symm
        · cases hk
      subst hks
      simp only [eqCV] at hev
      split at hev
      · rename_i p q m1 m2
        obtain ⟨b1, b2, e1, e2⟩ := eqV0 m1
        rw [e1, e2] at hrun ⊢
        rcases hop with rfl | rfl
        · exact ⟨by simp [binOp, Op.equal, Op.maxDepth, hrun], by simp [eqGuard]⟩
        · exact ⟨by simp [binOp, Op.equal, Op.maxDepth, hrun], by simp [eqGuard]⟩
      · cases hev
    · obtain ⟨us, hu⟩ := (isAggA_val (c.opd x) hxs).1 hx
      obtain ⟨vs, hv⟩ := (isAggA_val (c.opd y) hys).1 hy
      rw [hu, hv] at hrun ⊢
      refine ⟨?_, run_eqGuard_agg w op t x y us vs hg⟩
      rcases hop with rfl | rfl
      · rw [run_eql_struct, hrun]; rfl
      · rw [run_neq_struct, hrun]; rfl
  simp [execOp, ho, hbin.1, hbin.2]

theorem s_eqN (c : Ctx P gl a f g h w) {op : BinOp} {t yt : TypeId} {x : Operand} {r : Bool} {ps rs : Array TypeId} {vd : Bool} (ho : o.op = .binOp op t x (.const .nilFunc) yt) (hop : op = .eql ∨ op = .neq)
    (hu : P.underlying t = some (.func ps rs vd)) (hx : (∃ f' cs, (opd x).ev f gl = .fn f' cs ∧ r = (op == .neq)) ∨ ((opd x).ev f gl = .p (.val .nilFunc) ∧ r = !(op == .neq))) : Fits P o a g w (vb r) h := by
  refine fits_same c (x := .bool r) ?_ (by simp [VR, PR])
  have hv := c.opd x
  have key : ∀ (v : Value) (q : Bool), (Op.equalIn (9999 + 1) t v .nilFunc).run P w = .ok q w → (∀ b : Bool, r = (if op == .neq then !q else q)) →
      (execOp a.eval o).run P w = .ok (.value (.bool r)) w ∨ a.eval x ≠ v := by
    intro v q hq hr
    by_cases hxv : a.eval x = v
    · left
      subst hxv
      have hq' : (Op.equal t (a.eval x) .nilFunc).run P w = .ok q w := hq
      have hg : (eqGuard op t x (.const .nilFunc) (a.eval x) .nilFunc).run P w = .ok () w := by
        rcases hop with rfl | rfl <;> (unfold eqGuard; cases a.eval x <;> rfl)
      have hb : (binOp op t (a.eval x) .nilFunc).run P w = .ok (.bool r) w := by
        rcases hop with rfl | rfl
        · have e : binOp .eql t (a.eval x) .nilFunc = (do pure (.bool (← Op.equal t (a.eval x) .nilFunc))) := by cases a.eval x <;> rfl
          rw [e, hr true]
          simp only [Sem.run_bind, hq', Result.andThen_ok, Sem.run_pure]
          rfl
        · have e : binOp .neq t (a.eval x) .nilFunc = (do pure (.bool (!(← Op.equal t (a.eval x) .nilFunc)))) := by cases a.eval x <;> rfl
          rw [e, hr true]
          simp only [Sem.run_bind, hq', Result.andThen_ok, Sem.run_pure]
          rfl
      have he : a.eval (.const .nilFunc) = .nilFunc := rfl
      simp only [execOp, ho, Sem.run_bind, he, hg, Result.andThen_ok, hb, Sem.run_pure]
    · exact .inr hxv
  rcases hx with ⟨f', cs, hx, rfl⟩ | ⟨hx, rfl⟩
  · rw [hx] at hv
    simp only [VR] at hv
    obtain ⟨us, hv, _⟩ := hv
    refine (key _ false (by rw [Op.equalIn]; simp [run_underlying hu]) (fun _ => by cases op <;> rfl)).resolve_right (fun h => h hv)
  · rw [hx] at hv
    simp only [VR, PR] at hv
    refine (key _ true (by rw [Op.equalIn]; simp [run_underlying hu]) (fun _ => by cases op <;> rfl)).resolve_right (fun h => h hv)

theorem ptrAdd_rel {x : AV} {v : Value} {off : Nat} {y : AV} (hv : VR g w x v) (hp : ptrAdd off x = some y) : ∃ ad : Addr, ad.spot = none ∧ v = .pointer (some ad) ∧ VR g w y (.pointer (some (ad.add off))) := by
  unfold ptrAdd at hp
  split at hp
  · simp only [Option.some.injEq] at hp
    subst hp
    simp only [VR] at hv ⊢
    exact ⟨_, rfl, hv.2, hv.1, by rw [add_addr]⟩
  · simp only [Option.some.injEq] at hp
    subst hp
    simp only [VR] at hv ⊢
    obtain ⟨b, o, rfl, h1, h2⟩ := hv
    exact ⟨_, rfl, rfl, b, o + off, by rw [add_addr], h1, PRs_add h2⟩
  · simp only [Option.some.injEq] at hp
    subst hp
    simp only [VR] at hv ⊢
    obtain ⟨h1, h2, cc, cap, h3, rfl⟩ := hv
    exact ⟨_, rfl, rfl, h1, h2, cc, cap, h3, by rw [add_addr, Nat.add_assoc]⟩
  · cases hp

theorem s_fieldA (c : Ctx P gl a f g h w) {s : TypeId} {x : Operand} {i n : Nat} {fields : Array Field} {fd : Field} {v : AV} (ho : o.op = .fieldAddr s x i) (hs : P.underlying s = some (.struct fields)) (hi : fields[i]? = some fd)
    (hn : szT P fd.type = some n) (h0 : 0 < n) (hx : ptrAdd fd.offset ((opd x).ev f gl) = some v) : Fits P o a g w v h := by
  obtain ⟨ad, _, hv, hr⟩ := ptrAdd_rel (c.opd x) hx
  refine fits_same c (x := .pointer (some (ad.add fd.offset))) ?_ hr
  have : ¬ n = 0 := by omega
  simp [execOp, ho, Instr.fieldAt, run_underlying hs, hi, hv, Instr.sureAddr, fieldPlace, run_szT hn, this]

theorem part_rel {t : TypeId} {b : Bool} {s off : Nat} {xs : List AV} {us : Array Value} {cs : List AV} {v : AV} (hr : VRs g w xs us.toList) (hb : aggT P t = some b) (hs : szT P t = some s)
    (hx : sub xs off (if b then s else 1) = some cs) (hv : oneOr b cs = some v) : ∃ u, (part t us off).run P w = .ok u w ∧ VR g w v u := by
  obtain ⟨h1, h2⟩ := hr.sub hx
  rcases oneOr_rel h2 hv with ⟨rfl, hr⟩ | ⟨rfl, u, hu, hr⟩
  · refine ⟨_, ?_, hr⟩
    simp only [part, Sem.run_bind, run_aggT hb, Result.andThen_ok, if_true, run_szT hs, Sem.run_pure]
    congr 2
    apply Array.ext'
    simp [List.extract_eq_take_drop]
  · refine ⟨u, ?_, hr⟩
    have hlt : off < us.size := by
      rcases Nat.lt_or_ge off us.size with h | h
      · exact h
      · have : us.toList.drop off = [] := List.drop_eq_nil_of_le (by simpa using h)
        rw [this] at hu; simp at hu
    have : us[off]? = some u := by
      have e : (us.toList.drop off).take 1 = [us[off]] := by
        rw [List.drop_eq_getElem_cons (by simpa using hlt), List.take_succ_cons, List.take_zero]
        simp
      rw [if_neg (by simp), e] at hu
      simp only [List.cons.injEq, and_true] at hu
      rw [Array.getElem?_eq_getElem hlt, hu]
    simp [part, run_aggT hb, this]

theorem s_field (c : Ctx P gl a f g h w) {s : TypeId} {x : Operand} {i n : Nat} {b : Bool} {fields : Array Field} {fd : Field} {xs cs : List AV} {v : AV} (ho : o.op = .field s x i) (hs : P.underlying s = some (.struct fields)) (hi : fields[i]? = some fd)
    (hb : aggT P fd.type = some b) (hn : szT P fd.type = some n) (hx : (opd x).ev f gl = .agg xs) (hc : sub xs fd.offset (if b then n else 1) = some cs) (hv : oneOr b cs = some v) : Fits P o a g w v h := by
  have hr := c.opd x
  rw [hx] at hr
  simp only [VR] at hr
  obtain ⟨us, hu, hr⟩ := hr
  obtain ⟨u, h1, h2⟩ := part_rel hr hb hn hc hv
  exact fits_same c (x := u) (by simp [execOp, ho, Instr.field, run_underlying hs, hi, hu, asAgg, h1]) h2

theorem s_indexArr (c : Ctx P gl a f g h w) {t e : TypeId} {x i : Operand} {n s : Nat} {k : Int} {v : AV} (ho : o.op = .indexAddr t x i) (ht : P.underlying t = some (.array n e)) (hs : szT P e = some s)
    (hi : idx ((opd i).ev f gl) = some k) (hk : 0 ≤ k ∧ k < n) (hx : ptrAdd (k.toNat * s) ((opd x).ev f gl) = some v) : Fits P o a g w v h := by
  obtain ⟨kk, hki⟩ := idx_of (c.opd i) hi
  obtain ⟨ad, _, hv, hr⟩ := ptrAdd_rel (c.opd x) hx
  refine fits_same c (x := .pointer (some (ad.add (k.toNat * s)))) ?_ hr
  simp [execOp, ho, Instr.indexAt, hki, asIntOf, run_underlying ht, hv, Instr.sureAddr, hk.1, hk.2, run_szT hs]

theorem s_indexSl (c : Ctx P gl a f g h w) {t e : TypeId} {x i : Operand} {s : Nat} {k : Int} {v : AV} (ho : o.op = .indexAddr t x i) (ht : P.underlying t = some (.slice e)) (hs : szT P e = some s)
    (hi : idx ((opd i).ev f gl) = some k)
    (hx : (∃ b gen off len, (opd x).ev f gl = .sl b gen s off len ∧ 0 ≤ k ∧ k < len ∧ v = .rp b gen s (off + k.toNat) 0) ∨ (∃ rows r, (opd x).ev f gl = .p (.lst s rows) ∧ 0 ≤ k ∧ rows[k.toNat]? = some r ∧ v = .ro r)) :
    Fits P o a g w v h := by
  obtain ⟨kk, hki⟩ := idx_of (c.opd i) hi
  have hv := c.opd x
  rcases hx with ⟨b, gen, off, len, hx, h0, h1, rfl⟩ | ⟨rows, r, hx, h0, h1, rfl⟩
  · rw [hx] at hv
    simp only [VR] at hv
    obtain ⟨hb, hg, hs'⟩ := hv
    cases hd : g.hd b gen with
    | none => rw [hd] at hs'; obtain ⟨_, _, rfl⟩ := hs'; omega
    | some p =>
      obtain ⟨cc, cap⟩ := p
      rw [hd] at hs'
      obtain ⟨hle, _, A, hv, hA⟩ := hs'
      have hA' : A = some ⟨cc, off * s, none⟩ := hA.resolve_left (by omega)
      subst hA'
      refine fits_same c (x := .pointer (some ⟨cc, off * s + k.toNat * s, none⟩)) ?_ ?_
      · simp [execOp, ho, Instr.indexAt, hki, asIntOf, run_underlying ht, hv, h0, h1, run_szT hs, add_addr]
      · simp only [VR]
        exact ⟨hb, hg, cc, cap, hd, by rw [Nat.add_mul, Nat.add_zero]⟩
  · rw [hx] at hv
    simp only [VR, PR] at hv
    obtain ⟨A, cap, hv, _, _, hA⟩ := hv
    have hlt : k.toNat < rows.length := (List.getElem?_eq_some_iff.1 h1).1
    obtain ⟨b, off, rfl, hS, hp⟩ := hA.resolve_left (by omega)
    refine fits_same c (x := .pointer (some ⟨b, off + k.toNat * s, none⟩)) ?_ ?_
    · have : k < rows.length := by omega
      simp [execOp, ho, Instr.indexAt, hki, asIntOf, run_underlying ht, hv, h0, this, run_szT hs, add_addr]
    · simp only [VR]
      exact ⟨b, _, rfl, hS, (PRr_get hp h1).2⟩

theorem s_indexS (c : Ctx P gl a f g h w) {t : TypeId} {x i : Operand} {s : ByteArray} {k : Int} {b : UInt8} (ho : o.op = .index t x i) (ht : P.underlying t = some .string) (hx : (opd x).ev f gl = vs s)
    (hi : idx ((opd i).ev f gl) = some k) (h0 : 0 ≤ k) (hb : s.data.toList[k.toNat]? = some b) : Fits P o a g w (vi .u8 b.toNat) h := by
  obtain ⟨kk, hki⟩ := idx_of (c.opd i) hi
  have hv := val_of (c.opd x) hx
  refine fits_same c (x := .int .u8 b.toNat) ?_ (by simp [VR, PR])
  have hb' : s[k.toNat]? = some b := by
    have hlt := (List.getElem?_eq_some_iff.1 hb).1
    have hlt' : k.toNat < s.size := by rw [Array.length_toList] at hlt; exact hlt
    rw [getElem?_pos s k.toNat hlt']
    have := (List.getElem?_eq_some_iff.1 hb).2
    simp only [Option.some.injEq]
    rw [← this]
    rfl
  simp [execOp, ho, Instr.index, hki, asIntOf, run_underlying ht, hv, h0, hb']

theorem s_index (c : Ctx P gl a f g h w) {t e : TypeId} {x i : Operand} {n s : Nat} {bb : Bool} {k : Int} {xs cs : List AV} {v : AV} (ho : o.op = .index t x i) (ht : P.underlying t = some (.array n e)) (hs : szT P e = some s) (hb : aggT P e = some bb) (hbs : bb = true ∨ s = 1)
    (hx : (opd x).ev f gl = .agg xs) (hi : idx ((opd i).ev f gl) = some k) (hk : 0 ≤ k ∧ k < n) (hc : sub xs (k.toNat * s) s = some cs) (hv : oneOr bb cs = some v) : Fits P o a g w v h := by
  obtain ⟨kk, hki⟩ := idx_of (c.opd i) hi
  have hr := c.opd x
  rw [hx] at hr
  simp only [VR] at hr
  obtain ⟨us, hu, hr⟩ := hr
  have hc' : sub xs (k.toNat * s) (if bb then s else 1) = some cs := by
    rcases hbs with rfl | rfl
    · simpa using hc
    · simpa using hc
  obtain ⟨u, h1, h2⟩ := part_rel hr hb hs hc' hv
  have hrun : (Instr.index t (a.eval x) (a.eval i)).run P w = .ok u w := by
    rw [hki, hu]
    unfold Instr.index
    simp only [asIntOf, Sem.run_bind, Sem.run_pure, Result.andThen_ok, run_underlying ht, if_pos hk, run_szT hs, h1]
  exact fits_same c (x := u) (by simp only [execOp, ho, Sem.run_bind, hrun, Result.andThen_ok, Sem.run_pure]) h2

theorem lenA_rel {x : AV} {v : Value} {n : Nat} (hv : VR g w x v) (hl : lenA x = some n) : ∃ A c, v = .slice A n c := by
  unfold lenA at hl
  split at hl
  · simp only [Option.some.injEq] at hl
    subst hl
    simp only [VR] at hv
    obtain ⟨_, _, hv⟩ := hv
    unfold SlR at hv
    split at hv
    · obtain ⟨rfl, _, rfl⟩ := hv; exact ⟨_, _, rfl⟩
    · obtain ⟨_, _, A, rfl, _⟩ := hv; exact ⟨_, _, rfl⟩
  · simp only [Option.some.injEq] at hl
    subst hl
    simp only [VR, PR] at hv
    obtain ⟨A, c, rfl, _⟩ := hv
    exact ⟨_, _, rfl⟩
  · simp only [Option.some.injEq] at hl
    subst hl
    simp only [VR, PR] at hv
    exact ⟨_, _, hv⟩
  · cases hl

theorem s_len (c : Ctx P gl a f g h w) {x : Operand} {t : TypeId} {cl : Call} {n : Nat} (ho : o.op = .call cl) (h1 : cl.callee = .builtin .len) (h2 : cl.args.toList = [x]) (h3 : cl.argTypes.toList = [t])
    {e : TypeId} (ht : P.underlying t = some (.slice e)) (hx : lenA ((opd x).ev f gl) = some n) : Fits P o a g w (vi .i64 n) h := by
  have h2' : cl.args = #[x] := by apply Array.ext'; simpa using h2
  have h3' : cl.argTypes = #[t] := by apply Array.ext'; simpa using h3
  refine fits_same c (x := .int .i64 n) ?_ (by simp [VR, PR])
  obtain ⟨A, cc, hv⟩ := lenA_rel (c.opd x) hx
  simp [execOp, ho, resolve, h1, h2', h3', invoke, builtin, Builtin.len_, run_underlying ht, hv, goInt]

theorem s_lenS (c : Ctx P gl a f g h w) {x : Operand} {t : TypeId} {cl : Call} {s : ByteArray} (ho : o.op = .call cl) (h1 : cl.callee = .builtin .len) (h2 : cl.args.toList = [x]) (h3 : cl.argTypes.toList = [t])
    (ht : P.underlying t = some .string) (hx : (opd x).ev f gl = vs s) : Fits P o a g w (vi .i64 s.size) h := by
  have h2' : cl.args = #[x] := by apply Array.ext'; simpa using h2
  have h3' : cl.argTypes = #[t] := by apply Array.ext'; simpa using h3
  refine fits_same c (x := .int .i64 s.size) ?_ (by simp [VR, PR])
  have hv := val_of (c.opd x) hx
  simp [execOp, ho, resolve, h1, h2', h3', invoke, builtin, Builtin.len_, run_underlying ht, hv, goInt]

theorem s_lenArr (c : Ctx P gl a f g h w) {x : Operand} {t e : TypeId} {cl : Call} {n : Nat} (ho : o.op = .call cl) (h1 : cl.callee = .builtin .len) (h2 : cl.args.toList = [x]) (h3 : cl.argTypes.toList = [t])
    (ht : P.underlying t = some (.array n e)) : Fits P o a g w (vi .i64 n) h := by
  have h2' : cl.args = #[x] := by apply Array.ext'; simpa using h2
  have h3' : cl.argTypes = #[t] := by apply Array.ext'; simpa using h3
  refine fits_same c (x := .int .i64 n) ?_ (by simp [VR, PR])
  simp [execOp, ho, resolve, h1, h2', h3', invoke, builtin, Builtin.len_, run_underlying ht, goInt]

theorem s_min2 (c : Ctx P gl a f g h w) {x y : Operand} {cl : Call} {mx : Bool} {k k' : IntKind} {m n : Int} (ho : o.op = .call cl) (h1 : cl.callee = .builtin (if mx then .max else .min)) (h2 : cl.args.toList = [x, y])
    (hx : (opd x).ev f gl = vi k m) (hy : (opd y).ev f gl = vi k' n) : Fits P o a g w (vi k (if mx then (if m < n then n else m) else (if n < m then n else m))) h := by
  have h2' : cl.args = #[x, y] := by apply Array.ext'; simpa using h2
  have k1 := val_of (c.opd x) hx
  have k2 := val_of (c.opd y) hy
  refine fits_same c (x := .int k (if mx then (if m < n then n else m) else (if n < m then n else m))) ?_ (by simp [VR, PR])
  cases mx
  · simp [execOp, ho, resolve, h1, h2', invoke, builtin, Builtin.min_, Builtin.min2, k1, k2]
  · simp [execOp, ho, resolve, h1, h2', invoke, builtin, Builtin.max_, Builtin.max2, k1, k2]

end
end Go.Vs
