/- Each instruction does what its operation does: pointers held side by side, the strings.Builder's conversions, bytes made a string without a copy. -/
import Derived.Test.YtbichljebmhmnaaDoorV13
import Derived.Lib.Builder
import Derived.Lib.UnsafeStr
namespace Go.Vs
set_option linter.unusedSimpArgs false
set_option linter.unusedVariables false
open Go Go.RowKit

theorem find_ixb {fn : Func} (h : fn.name = "internal/bytealg.IndexByteString") : Extern.find fn = some Extern.BytealgIndexByte.indexByte := by
  unfold Extern.find
  rw [h]
  have h1 : Extern.allGenericRows.lookup "internal/bytealg.IndexByteString" = none := by kernel_rfl
  have h2 : Extern.allTypedRows.lookup "internal/bytealg.IndexByteString" = none := by kernel_rfl
  have h3 : Extern.allRows.lookup "internal/bytealg.IndexByteString" = some Extern.BytealgIndexByte.indexByte := by kernel_rfl
  simp only [h1, h2, h3]
  rfl

theorem find_nes {fn : Func} (h : fn.name = "internal/abi.NoEscape") : Extern.find fn = some Extern.AbiNoEscape.same := by
  unfold Extern.find
  rw [h]
  have h1 : Extern.allGenericRows.lookup "internal/abi.NoEscape" = none := by kernel_rfl
  have h2 : Extern.allTypedRows.lookup "internal/abi.NoEscape" = none := by kernel_rfl
  have h3 : Extern.allRows.lookup "internal/abi.NoEscape" = some Extern.AbiNoEscape.same := by kernel_rfl
  simp only [h1, h2, h3]
  rfl

theorem next_ixb {fn : Func} (h : fn.name = "internal/bytealg.IndexByteString") (k : fn.origin = "") : Extern.findNext fn = none := by
  unfold Extern.findNext
  rw [h, k]
  have h1 : Extern.allNextRows.lookup "internal/bytealg.IndexByteString" = none := by kernel_rfl
  have h2 : Extern.allNextRows.lookup "" = none := by kernel_rfl
  simp only [h1, h2]
  rfl

theorem next_nes {fn : Func} (h : fn.name = "internal/abi.NoEscape") (k : fn.origin = "") : Extern.findNext fn = none := by
  unfold Extern.findNext
  rw [h, k]
  have h1 : Extern.allNextRows.lookup "internal/abi.NoEscape" = none := by kernel_rfl
  have h2 : Extern.allNextRows.lookup "" = none := by kernel_rfl
  simp only [h1, h2]
  rfl

section
variable {P : Program} {gl : Nat → Option (List PV)} {a : Act} {f : List AV} {g : G} {h : List AB} {w : World} {o : Oper}

theorem run_eqPtr {tp te : TypeId} {j : TypeInfo} (hp : P.underlying tp = some (.pointer te)) (hte : P.info? te = some j) {p q : Option Addr} {r : Bool}
    (hr : (q = none ∧ r = p.isNone) ∨ (p = q ∧ r = true)) : (Op.equal tp (.pointer p) (.pointer q)).run P w = .ok r w := by
  have key : ∀ d : Nat, (Op.equalIn (d + 1) tp (.pointer p) (.pointer q)).run P w = .ok r w := by
    intro d
    rcases hr with ⟨rfl, rfl⟩ | ⟨rfl, rfl⟩
    · cases p <;> simp [Op.equalIn, run_underlying hp]
    · cases p
      · simp [Op.equalIn, run_underlying hp]
      · simp [Op.equalIn, run_underlying hp, sizeOf, typeInfo, hte, run_sameAddr_same]
  exact key 9999

theorem run_binPtr {tp te : TypeId} {j : TypeInfo} {op : BinOp} (hop : op = .eql ∨ op = .neq) (hp : P.underlying tp = some (.pointer te)) (hte : P.info? te = some j) {p q : Option Addr} {r : Bool}
    (hr : (q = none ∧ r = p.isNone) ∨ (p = q ∧ r = true)) : (binOp op tp (.pointer p) (.pointer q)).run P w = .ok (.bool (if op == .neq then !r else r)) w := by
  have h1 := run_eqPtr (w := w) hp hte hr
  rcases hop with rfl | rfl
  · have e : binOp .eql tp (.pointer p) (.pointer q) = (do pure (.bool (← Op.equal tp (.pointer p) (.pointer q)))) := rfl
    rw [e]
    simp only [Sem.run_bind, h1, Result.andThen_ok, Sem.run_pure]
    rfl
  · have e : binOp .neq tp (.pointer p) (.pointer q) = (do pure (.bool (!(← Op.equal tp (.pointer p) (.pointer q))))) := rfl
    rw [e]
    simp only [Sem.run_bind, h1, Result.andThen_ok, Sem.run_pure]
    rfl

theorem s_eqP (c : Ctx P gl a f g h w) {op : BinOp} {t te yt : TypeId} {x y : Operand} {v : AV} {h' : List AB} {j : TypeInfo} (ho : o.op = .binOp op t x y yt) (hop : op = .eql ∨ op = .neq)
    (hp : P.underlying t = some (.pointer te)) (hte : P.info? te = some j) (he : evI gl f h (.eqP (op == .neq) (opd x) (opd y)) = some (v, h')) : Fits P o a g w v h' := by
  have key : ∀ (p q : Option Addr) (r : Bool), a.eval x = .pointer p → a.eval y = .pointer q → ((q = none ∧ r = p.isNone) ∨ (p = q ∧ r = true)) → Fits P o a g w (vb (if op == .neq then !r else r)) h := by
    intro p q r h1 h2 hr
    refine fits_same c (x := .bool (if op == .neq then !r else r)) ?_ (by simp [VR, PR])
    have hb := run_binPtr (w := w) hop hp hte hr
    have hg : (eqGuard op t x y (.pointer p) (.pointer q)).run P w = .ok () w := by rcases hop with rfl | rfl <;> rfl
    simp only [execOp, ho, Sem.run_bind, h1, h2, hg, Result.andThen_ok, hb, Sem.run_pure]
  have hx := c.opd x
  have hy := c.opd y
  simp only [evI] at he
  split at he
  · rename_i b o b' o' e1 e2
    rw [e1] at hx; rw [e2] at hy
    simp only [VR] at hx hy
    split at he
    · rename_i hc
      obtain ⟨rfl, rfl⟩ := hc
      simp only [Option.some.injEq, Prod.mk.injEq] at he
      obtain ⟨rfl, rfl⟩ := he
      have := key _ _ true hx.2 hy.2 (.inr ⟨rfl, rfl⟩)
      rcases hop with rfl | rfl <;> exact this
    · cases he
  · rename_i b o e1 e2
    rw [e1] at hx; rw [e2] at hy
    simp only [VR, PR] at hx hy
    simp only [Option.some.injEq, Prod.mk.injEq] at he
    obtain ⟨rfl, rfl⟩ := he
    have := key _ _ false hx.2 hy (.inl ⟨rfl, rfl⟩)
    rcases hop with rfl | rfl <;> exact this
  · rename_i xs e1 e2
    rw [e1] at hx; rw [e2] at hy
    simp only [VR, PR] at hx hy
    obtain ⟨b, off, hx, _⟩ := hx
    simp only [Option.some.injEq, Prod.mk.injEq] at he
    obtain ⟨rfl, rfl⟩ := he
    have := key _ _ false hx hy (.inl ⟨rfl, rfl⟩)
    rcases hop with rfl | rfl <;> exact this
  · rename_i b gen s k off e1 e2
    rw [e1] at hx; rw [e2] at hy
    simp only [VR, PR] at hx hy
    obtain ⟨_, _, cc, cap, _, hx⟩ := hx
    simp only [Option.some.injEq, Prod.mk.injEq] at he
    obtain ⟨rfl, rfl⟩ := he
    have := key _ _ false hx hy (.inl ⟨rfl, rfl⟩)
    rcases hop with rfl | rfl <;> exact this
  · rename_i e1 e2
    rw [e1] at hx; rw [e2] at hy
    simp only [VR, PR] at hx hy
    simp only [Option.some.injEq, Prod.mk.injEq] at he
    obtain ⟨rfl, rfl⟩ := he
    have := key _ _ true hx hy (.inl ⟨rfl, rfl⟩)
    rcases hop with rfl | rfl <;> exact this
  · cases he

theorem shape_of {b off : Nat} {t : TypeId} {xs : List AV} (c : Ctx P gl a f g h w) (hb : h[b]? = some (.cells t xs)) : w.shape? (g.m b) = some (t, xs.length) := by
  have hbr := c.hr.br b _ hb
  simp only [BR] at hbr
  obtain ⟨cs, fz, k1, _, k3⟩ := hbr
  have := k3.1.len
  simp only [Array.length_toList] at this
  simp [World.shape?, k1, this]

theorem s_cvU (c : Ctx P gl a f g h w) {src dst t : TypeId} {x : Operand} {n : Nat} {v : AV} {h' : List AB} (ho : o.op = .convert src dst x) (hs : P.underlying src = some (.pointer t)) (hd : P.underlying dst = some .unsafePointer)
    (ht : szT P t = some n) (hn : n ≠ 0) (he : evI gl f h (.cvU (opd x)) = some (v, h')) : Fits P o a g w v h' := by
  have hx := c.opd x
  simp only [evI] at he
  split at he
  · rename_i b off e1
    rw [e1] at hx
    simp only [VR] at hx
    split at he
    · rename_i t' xs hb
      split at he
      · rename_i hlt
        simp only [Option.some.injEq, Prod.mk.injEq] at he
        obtain ⟨rfl, rfl⟩ := he
        obtain ⟨j, hj, hjn⟩ := Option.map_eq_some_iff.1 ht
        refine fits_same c (x := .pointer (some ⟨g.m b, off, none⟩)) ?_ (by simp only [VR]; exact ⟨hx.1, trivial⟩)
        have := Lib.run_to_unsafe w ⟨g.m b, off, none⟩ hs hd hj (by rw [hjn]; exact hn) (shape_of (off := off) c hb) hlt
        simp only [execOp, ho, Sem.run_bind, hx.2, this, Result.andThen_ok, Sem.run_pure]
      · cases he
    · cases he
  · cases he

theorem s_cvP (c : Ctx P gl a f g h w) {src dst u : TypeId} {x : Operand} {n : Nat} {oks : List (TypeId × Nat × Nat)} {v : AV} {h' : List AB} (ho : o.op = .convert src dst x) (hs : P.underlying src = some .unsafePointer) (hd : P.underlying dst = some (.pointer u))
    (ht : szT P u = some n) (hok : ∀ q ∈ oks, liesAt P P.depth q.1 (q.2.1 / P.cellsOf q.1) q.2.2 u 1 = true) (he : evI gl f h (.cvP oks (opd x)) = some (v, h')) : Fits P o a g w v h' := by
  have hx := c.opd x
  simp only [evI] at he
  split at he
  · rename_i b off e1
    rw [e1] at hx
    simp only [VR] at hx
    split at he
    · rename_i t' xs hb
      split at he
      · rename_i hin
        simp only [Option.some.injEq, Prod.mk.injEq] at he
        obtain ⟨rfl, rfl⟩ := he
        obtain ⟨j, hj, hjn⟩ := Option.map_eq_some_iff.1 ht
        refine fits_same c (x := .pointer (some ⟨g.m b, off, none⟩)) ?_ (by simp only [VR]; exact ⟨hx.1, trivial⟩)
        have hl := hok _ (List.contains_iff_mem.1 hin)
        have := Lib.run_from_unsafe w ⟨g.m b, off, none⟩ hs hd hj (shape_of (off := off) c hb) hl
        simp only [execOp, ho, Sem.run_bind, hx.2, this, Result.andThen_ok, Sem.run_pure]
      · cases he
    · cases he
  · cases he

theorem run_ext {cl : Call} {k : Nat} {fn : Func} {ext : Array Value → Sem Value} (ho : o.op = .call cl) (h1 : cl.callee = .value (.func k)) (hf : P.funcs[k]? = some fn) (hb : fn.body.isNone = true) (hname : (fn.name == "runtime.NumGoroutine") = false)
    (hn : Extern.findNext fn = none) (hE : Extern.find fn = some ext) {v : Value} (hr : (ext (cl.args.map a.eval)).run P w = .ok v w) : (execOp a.eval o).run P w = .ok (.value v) w := by
  have := run_callFunc_extern hf hname hb hn hE (cl.args.map a.eval) w
  rw [hr] at this
  have he : a.eval (.func k) = .func (.func k) #[] #[] := rfl
  have hres : (resolve a.eval cl o.type).run P w = .ok { target := .fn (.func k) #[], args := cl.args.map a.eval } w := by
    simp [resolve, h1, he, Deferred.ofValue]
  simp only [execOp, ho, Sem.run_bind, hres, Result.andThen_ok, invoke, Array.append_empty, this]

theorem s_nes (c : Ctx P gl a f g h w) {cl : Call} {k : Nat} {fn : Func} {x : Operand} (ho : o.op = .call cl) (h1 : cl.callee = .value (.func k)) (h2 : cl.args.toList = [x]) (hf : P.funcs[k]? = some fn) (hb : fn.body.isNone = true)
    (hname : fn.name = "internal/abi.NoEscape") (hor : fn.origin = "") : Fits P o a g w ((opd x).ev f gl) h := by
  refine fits_same c (x := a.eval x) ?_ (c.opd x)
  have h2' : cl.args = #[x] := by apply Array.ext'; simpa using h2
  exact run_ext ho h1 hf hb (by rw [hname]; decide) (next_nes hname hor) (find_nes hname) (by rw [h2']; simp only [List.map_toArray, List.map_cons, List.map_nil]; rfl)

theorem s_ixb (c : Ctx P gl a f g h w) {cl : Call} {k : Nat} {fn : Func} {x y : Operand} {s : ByteArray} {n : Int} (ho : o.op = .call cl) (h1 : cl.callee = .value (.func k)) (h2 : cl.args.toList = [x, y]) (hf : P.funcs[k]? = some fn) (hb : fn.body.isNone = true)
    (hname : fn.name = "internal/bytealg.IndexByteString") (hor : fn.origin = "") (hx : (opd x).ev f gl = vs s) (hy : (opd y).ev f gl = vi .u8 n) : Fits P o a g w (vi .i64 (firstIdx s n.toNat.toUInt8)) h := by
  refine fits_same c (x := .int .i64 (firstIdx s n.toNat.toUInt8)) ?_ (by simp [VR, PR])
  have h2' : cl.args = #[x, y] := by apply Array.ext'; simpa using h2
  have hvx := val_of (c.opd x) hx
  have hvy := val_of (c.opd y) hy
  refine run_ext ho h1 hf hb (by rw [hname]; decide) (next_ixb hname hor) (find_ixb hname) ?_
  rw [h2']
  simp only [List.map_toArray, List.map_cons, List.map_nil, hvx, hvy]
  exact run_indexByte_string s n w

theorem s_slData (c : Ctx P gl a f g h w) {cl : Call} {x : Operand} {te : TypeId} {v : AV} {h' : List AB} (ho : o.op = .call cl) (h1 : cl.callee = .builtin .unsafeSliceData) (h2 : cl.args.toList = [x]) (ht : P.underlying o.type = some (.pointer te))
    (he : evI gl f h (.slData (opd x)) = some (v, h')) : Fits P o a g w v h' := by
  have h2' : cl.args = #[x] := by apply Array.ext'; simpa using h2
  have hex : ∀ r : Result Value, (Builtin.unsafeSliceData_ cl.argTypes o.type #[a.eval x]).run P w = r → (execOp a.eval o).run P w = r.andThen fun v w' => .ok (.value v) w' := by
    intro r hr
    simp only [execOp, ho, resolve, h1, h2', Sem.run_bind, Sem.run_pure, Result.andThen_ok, invoke, builtin, List.map_toArray, List.map_cons, List.map_nil, hr]
  have hx := c.opd x
  simp only [evI] at he
  split at he
  · rename_i b gen size off len e1
    rw [e1] at hx
    simp only [VR] at hx
    obtain ⟨hb1, hg1, hsl⟩ := hx
    split at he
    · rename_i t' s' g1 rows hbk
      split at he
      · rename_i hc
        obtain ⟨rfl, rfl, rfl, rfl⟩ := hc
        simp only [Option.some.injEq, Prod.mk.injEq] at he
        obtain ⟨rfl, rfl⟩ := he
        have hbr := c.hr.br b _ hbk
        simp only [BR] at hbr
        obtain ⟨_, _, hrow⟩ := hbr
        cases hd : g.hd b g1 with
        | none =>
          rw [hd] at hsl hrow
          obtain ⟨hv, _, rfl⟩ := hsl
          have hr : (Builtin.unsafeSliceData_ cl.argTypes o.type #[a.eval x]).run P w = .ok (.pointer none) w := by rw [hv]; rfl
          refine ⟨.pointer none, w, g, by rw [hex _ hr]; rfl, Ext.refl g w, c.hr, ?_⟩
          simp [VR]
        | some p =>
          obtain ⟨cc, cap⟩ := p
          rw [hd] at hsl hrow
          obtain ⟨k1, k2, A, hv, hA⟩ := hsl
          have hA' := hA.resolve_left (by omega)
          subst hA'
          simp only [RowR] at hrow
          obtain ⟨cs, fz, m1, _⟩ := hrow
          rcases Nat.eq_zero_or_pos cap with h0 | h0
          · subst h0
            have hlen : len = 0 := by omega
            subst hlen
            have hr : (Builtin.unsafeSliceData_ cl.argTypes o.type #[a.eval x]).run P w = .ok (.pointer (some ⟨w.heap.size, 0, none⟩)) (w.alloc (.view ⟨cc, 0 * 1, none⟩ te)) := by
              rw [hv]; exact Lib.run_unsafeSliceData_zero w _ _ te ht _ 0 (t', cs.size) (by simp [World.shape?, m1])
            have hold : ∀ c', c' < w.heap.size → (w.alloc (.view ⟨cc, 0 * 1, none⟩ te)).heap[c']? = w.heap[c']? := fun c' hc' => Below.heap_alloc w _ c' hc'
            have he : Ext g w g (w.alloc (.view ⟨cc, 0 * 1, none⟩ te)) := ⟨fun _ h => h, fun _ h => h, fun c' hp => hold c' (c.hr.prs c' hp), Nat.le_refl _, fun _ _ => rfl, fun _ _ => Nat.le_refl _, fun _ _ _ _ => rfl, by simp, rfl, rfl, rfl, fun _ h => .inl h, rfl⟩
            refine ⟨.pointer (some ⟨w.heap.size, 0, none⟩), _, g, by rw [hex _ hr]; rfl, he, ?_, by simp [VR]⟩
            exact ⟨c.hr.n, fun b x hb => BR_mono c.hr he hb rfl (fun c' hc' => hold c' (cid_lt c.hr hb hc')), c.hr.dis, c.hr.own, c.hr.spr, fun c' hc' => Nat.lt_of_lt_of_le (c.hr.prs c' hc') (by simp)⟩
          · have hr : (Builtin.unsafeSliceData_ cl.argTypes o.type #[a.eval x]).run P w = .ok (.pointer (some ⟨cc, 0 * 1, none⟩)) w := by
              rw [hv]; exact Lib.run_unsafeSliceData_row w _ _ _ _ _ (by omega)
            refine ⟨.pointer (some ⟨cc, 0 * 1, none⟩), w, g, by rw [hex _ hr]; rfl, Ext.refl g w, c.hr, ?_⟩
            split
            · simp only [VR]
              exact ⟨hb1, hg1, cc, cap, hd, by simp⟩
            · simp [VR]
      · cases he
    · cases he
  · cases he

theorem freeze_eq {w : World} {cc n : Nat} {cs : Array Value} {t : TypeId} {fz : Nat × Nat} (hc : w.heap[cc]? = some (.cells cs t fz)) (hn : n ≠ 0) :
    ∃ fz', w.freeze ⟨cc, 0, none⟩ n = setRow' w cc cs t fz' := by
  obtain ⟨lo, hi⟩ := fz
  refine ⟨if lo == hi then (0, 0 + n) else (min lo 0, max hi (0 + n)), ?_⟩
  unfold World.freeze setRow'
  rw [if_neg hn]
  congr 1
  apply Array.ext_getElem?
  intro k
  simp only [Array.getElem?_modify, Array.getElem?_setIfInBounds]
  split
  · rename_i e
    subst e
    rw [hc, if_pos (heap_lt hc)]
    simp
  · rfl

theorem upd_dead (hr : HR g h w) {b : Nat} {x : AB} (hb : h[b]? = some x) {cc : Nat} (hcid : cid g b x = some cc) {cs : Array Value} {t : TypeId} {fz fz' : Nat × Nat} (hc : w.heap[cc]? = some (.cells cs t fz)) :
    Ext g w g (setRow' w cc cs t fz') ∧ HR g (h.set b .dead) (setRow' w cc cs t fz') := by
  have hlt := heap_lt hc
  have hpr : ∀ k, g.Pr k → (setRow' w cc cs t fz').heap[k]? = w.heap[k]? := fun k hp => setRow'_other (fun e => hr.own b _ cc hb hcid (by rw [e]; exact hp))
  have he : Ext g w g (setRow' w cc cs t fz') := ⟨fun _ h => h, fun _ h => h, hpr, Nat.le_refl _, fun _ _ => rfl, fun _ _ => Nat.le_refl _, fun _ _ _ _ => rfl, by rw [setRow'_size]; exact Nat.le_refl _, rfl, rfl, rfl, fun _ h => .inl h, rfl⟩
  refine ⟨he, HR.upd hr hb he rfl rfl rfl (fun _ _ => rfl) ?_ (by simp [BR]) (fun c hc => by simp [cid] at hc)⟩
  intro c _ hne
  exact setRow'_other (fun e => hne (by rw [hcid, e]))

theorem run_loadBytes' : ∀ (ns : List Int) (a : Addr) (acc : ByteArray), (∀ j n, ns[j]? = some n → w.cell? (a.add j) = some (.int .u8 n)) →
    (loadBytes a acc ns.length).run P w = .ok ⟨acc.data ++ (ns.map fun n => UInt8.ofNat n.toNat).toArray⟩ w
  | [], a, acc, _ => by simp [loadBytes]
  | n :: ns, a, acc, h => by
    have h0 : w.cell? a = some (.int .u8 n) := by
      have := h 0 n rfl
      simpa [Addr.add] using this
    have ih := run_loadBytes' ns (a.add 1) (acc.push n.toNat.toUInt8) (fun j y hy => by
      have := h (j + 1) y (by simpa using hy)
      have e : (a.add 1).add j = a.add (j + 1) := by
        unfold Addr.add
        by_cases hj : j = 0
        · subst hj; simp
        · simp [hj]; omega
      rw [e]; exact this)
    simp only [List.length_cons, loadBytes, Sem.run_bind, run_load, h0, Result.andThen_ok]
    rw [ih]
    congr 1
    apply ByteArray.ext
    simp [ByteArray.push]

theorem run_unsafeStr' (pt it ty e : TypeId) (hp : P.underlying pt = some (.pointer e)) (hc : P.cellsOf e = 1) (gg cells : Nat) (hsh : w.shape? gg = some (e, cells)) (ns : List Int) (h0 : ns ≠ []) (hn : ns.length ≤ cells) (h63 : ns.length ≤ 9223372036854775807)
    (hcell : ∀ j n, ns[j]? = some n → w.cell? ((⟨gg, 0, none⟩ : Addr).add j) = some (.int .u8 n)) :
    (Builtin.unsafeString_ #[pt, it] ty #[.pointer (some ⟨gg, 0, none⟩), .int .i64 ns.length]).run P w = .ok (.string ⟨(ns.map fun n => UInt8.ofNat n.toNat).toArray⟩) (w.freeze ⟨gg, 0, none⟩ ns.length) := by
  have hl : ns.length ≠ 0 := by simpa using h0
  have hlb := run_loadBytes' (P := P) (w := w) ns ⟨gg, 0, none⟩ .empty hcell
  have hlies := Lib.liesAt_bytes (P := P) hc (cells / P.cellsOf e) ns.length (by rw [hc]; simpa using hn)
  have h63' : ¬ (9223372036854775807 : Int) < (ns.length : Int) := by omega
  have hdef : Builtin.unsafeString_ #[pt, it] ty #[.pointer (some ⟨gg, 0, none⟩), .int .i64 ns.length] =
      (do
        let n ← asInt (.int .i64 ns.length)
        if n < 0 then runtimePanic (.error "unsafe.String: len out of range")
        if n > IntKind.i64.max then unsupported (.unsafePointer "String: a length above the largest int")
        if n = 0 then pure (.string .empty)
        else if ← variablesAt ⟨gg, 0, none⟩ (← elemOf pt) n.toNat then do
          let s ← loadBytes ⟨gg, 0, none⟩ .empty n.toNat
          freeze ⟨gg, 0, none⟩ n.toNat
          pure (.string s)
        else unsupported (.unsafePointer "String: not so many bytes at ptr")) := rfl
  rw [hdef]
  have hmax : IntKind.i64.max = 9223372036854775807 := rfl
  have hneg : ¬ (ns.length : Int) < 0 := by omega
  simp [asInt, asIntOf, hmax, h63', hneg, hl, variablesAt, hsh, elemOf, run_underlying hp, hlies, hlb]

theorem s_uStr (c : Ctx P gl a f g h w) {cl : Call} {x n : Operand} {pt it e : TypeId} {v : AV} {h' : List AB} (ho : o.op = .call cl) (h1 : cl.callee = .builtin .unsafeString) (h2 : cl.args.toList = [x, n]) (h3 : cl.argTypes.toList = [pt, it])
    (hp : P.underlying pt = some (.pointer e)) (hcl : P.cellsOf e = 1) (he : evI gl f h (.uStr e (opd x) (opd n)) = some (v, h')) : Fits P o a g w v h' := by
  have h2' : cl.args = #[x, n] := by apply Array.ext'; simpa using h2
  have h3' : cl.argTypes = #[pt, it] := by apply Array.ext'; simpa using h3
  have hex : ∀ r : Result Value, (Builtin.unsafeString_ #[pt, it] o.type #[a.eval x, a.eval n]).run P w = r → (execOp a.eval o).run P w = r.andThen fun v w' => .ok (.value v) w' := by
    intro r hr
    simp only [execOp, ho, resolve, h1, h2', h3', Sem.run_bind, Sem.run_pure, Result.andThen_ok, invoke, builtin, List.map_toArray, List.map_cons, List.map_nil, hr]
  have hx := c.opd x
  have hn := c.opd n
  simp only [evI] at he
  split at he
  · rename_i b gen s k o1 n' e1 e2
    rw [e1] at hx; rw [e2] at hn
    simp only [VR, PR] at hx hn
    obtain ⟨hb1, hg1, cc, cap, hd, hx⟩ := hx
    split at he
    · rename_i t' s' g1 rows hbk
      split at he
      · rename_i hc
        obtain ⟨rfl, rfl, rfl, rfl, rfl, rfl, hn0, hnl, h63⟩ := hc
        obtain ⟨l, hl, he⟩ := Option.map_eq_some_iff.1 he
        simp only [Prod.mk.injEq] at he
        obtain ⟨rfl, rfl⟩ := he
        have hbr := c.hr.br b _ hbk
        simp only [BR] at hbr
        obtain ⟨_, hr1, hrow⟩ := hbr
        rw [hd] at hrow
        simp only [RowR] at hrow
        obtain ⟨cs, fz, m1, m2, m3, m4, m5, m6⟩ := hrow
        have hvs : VRs g w (rows.take n'.toNat).flatten ((cs.toList.take (rows.length * 1)).take (n'.toNat * 1)) := by
          rw [flatten_take _ hr1]
          exact m6.1.take _
        obtain ⟨ns, q1, rfl⟩ := bytesOf_spec hl hvs
        have hll : ns.length = n'.toNat := by
          have h6 := hvs.len
          rw [q1, flatten_len (fun r hr => hr1 r (List.mem_of_mem_take hr)), List.length_map, List.length_take] at h6
          omega
        have hcell : ∀ j x, ns[j]? = some x → w.cell? ((⟨cc, 0, none⟩ : Addr).add j) = some (.int .u8 x) := by
          intro j x hj
          have h5 : (ns.map (Value.int .u8))[j]? = some (.int .u8 x) := by simp [hj]
          rw [← q1] at h5
          rw [add_addr]
          simp only [World.cell?, m1, Nat.zero_add]
          rw [List.getElem?_take] at h5
          split at h5
          · rw [List.getElem?_take] at h5
            split at h5
            · simpa using h5
            · cases h5
          · cases h5
        have hint : (ns.length : Int) = n' := by rw [hll]; omega
        have hrun := run_unsafeStr' (w := w) pt it o.type t' hp hcl cc cs.size (by simp [World.shape?, m1]) ns (by intro e; rw [e] at hll; simp at hll; omega) (by rw [m3]; omega) (by omega) hcell
        rw [hint] at hrun
        obtain ⟨fz', hfz⟩ := freeze_eq (n := ns.length) m1 (by omega)
        rw [hfz] at hrun
        obtain ⟨p1, p2⟩ := upd_dead (fz' := fz') c.hr hbk (by simp [cid, hd]) m1
        refine ⟨.string ⟨(ns.map fun n => UInt8.ofNat n.toNat).toArray⟩, _, g, ?_, p1, p2, by simp only [VR, PR]⟩
        have hx' : a.eval x = .pointer (some ⟨cc, 0, none⟩) := by simpa using hx
        rw [hx', hn] at hex
        rw [hex _ hrun]
        rfl
      · cases he
    · cases he
  · rename_i n' e1 e2
    rw [e1] at hx; rw [e2] at hn
    simp only [VR, PR] at hx hn
    obtain ⟨p, hx⟩ := hx
    split at he
    · rename_i h0
      subst h0
      simp only [Option.some.injEq, Prod.mk.injEq] at he
      obtain ⟨rfl, rfl⟩ := he
      have hrun := Lib.run_unsafeString_none (P := P) w pt it o.type p
      refine ⟨.string .empty, w, g, ?_, Ext.refl g w, c.hr, by simp [VR, PR]⟩
      rw [hx, hn] at hex
      rw [hex _ hrun]
      rfl
    · cases he
  · cases he

end
end Go.Vs
