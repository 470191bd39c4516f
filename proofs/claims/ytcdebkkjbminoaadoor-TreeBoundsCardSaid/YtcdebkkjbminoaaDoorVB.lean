/- Each instruction does what its operation does: ==, parts, places, cuts. -/
import Derived.Test.YtcdebkkjbminoaaDoorVA
import Derived.Lib.Builder
import Derived.Lib.UnsafeStr
import Derived.Lib.Bytealg
import Derived.Lib.MakeNoZero
import Derived.Laws.IdiomCopy
import Derived.MapKept
open Option renaming some.injEq → oiq, map_eq_some_iff → mei, map_some → msm, bind_some → bsm, bind_eq_some_iff → bei
open Prod renaming mk.injEq → piq
open List renaming getElem?_eq_some_iff → gei, eq_nil_of_length_eq_zero → enz, map_cons → mcs, flatten_cons → fcs, length_append → lap, length_map → lmp, getElem?_set → gst
open Array renaming length_toList → altl, getElem?_toList → agtl
namespace Go.Vs
set_option linter.unusedSimpArgs false
set_option linter.unusedVariables false
open Go Go.RowKit
section
variable {P : Program} {gl : Nat → Option (List PV)} {a : Act} {f : List AV} {g : G} {h : List AB} {w : World} {o : Oper}
theorem isAggA_val {x : AV} {v : Value} {cs : List AV} (hv : VR g w x v) (hc : cellsOf x = some cs) : (isAggA x = true → ∃ ys, v = .agg ys) ∧ (isAggA x = false → v.oneCell' = true) := by
 cases x with
 | agg xs => simp only [VR] at hv; obtain ⟨ys, rfl, _⟩ := hv; exact ⟨fun _ => ⟨ys, rfl⟩, fun e => by simp [isAggA] at e⟩
 | _ =>
  refine ⟨fun e => by simp [isAggA] at e, fun _ => ?_⟩
  simp only [cellsOf] at hc
  split at hc
  ·rename_i h1; exact AV.one_val hv h1
  ·cases hc
theorem partOf_val {x : AV} {v : Value} {cs : List AV} {t : TypeId} {b : Bool} (hv : VR g w x v) (hc : cellsOf x = some cs) (hb : aggT P t = some b) (he : isAggA x = b) : PartOf P t v.cells.toList v := by
 obtain ⟨h1, h2⟩ := isAggA_val hv hc
 refine ⟨b, hb, ?_⟩
 cases b with
 | true => obtain ⟨ys, rfl⟩ := h1 he; exact .inl ⟨rfl, by simp [Value.cells]⟩
 | false => exact .inr ⟨rfl, by rw [cells_of_one (h2 he)]⟩
theorem eqV0 {x y : Value} {p : Bool} (h : eqV 0 x y = some p) : ∃ a b, x = .bool a ∧ y = .bool b := by
 unfold eqV at h
 split at h
 ·exact ⟨_, _, rfl, rfl⟩
 ·omega
 ·omega
 ·cases h
theorem s_eqA (c : Ctx P gl a f g h w) {op : BinOp} {t yt : TypeId} {x y : Operand} {b r : Bool} {ks : List Nat} {xs ys : List AV} (ho : o.op = .binOp op t x y yt) (hop : op = .eql ∨ op = .neq)
  (hk : plainK P 40 t = some ks) (hb : (b = false ∧ P.underlying t = some .bool) ∨ (b = true ∧ P.eqGuardType P.depth t = false ∧ aggT P t = some true)) (hx : isAggA ((opd x).ev f gl) = b) (hy : isAggA ((opd y).ev f gl) = b)
  (hxs : cellsOf ((opd x).ev f gl) = some xs) (hys : cellsOf ((opd y).ev f gl) = some ys) (he : eqC ks xs ys = some r) : Fits P o a g w (vb (if op == .neq then !r else r)) h := by
 obtain ⟨k1, _, _⟩ := cellsOf_rel (c.opd x) hxs
 obtain ⟨l1, _, _⟩ := cellsOf_rel (c.opd y) hys
 have hev := eqC_vals he k1 l1
 have hba : aggT P t = some b := by
  rcases hb with ⟨rfl, hb⟩ | ⟨rfl, _, hb⟩
  ·simp [aggT, hb, isAggD]
  ·exact hb
 have hrun := (run_equalIn_plain 40 10000 t ks (by omega) hk).2.2 _ _ r _ _ w hev (partOf_val (c.opd x) hxs hba hx) (partOf_val (c.opd y) hys hba hy)
 refine fits_same c (x := .bool (if op == .neq then !r else r)) ?_ (by simp [VR, PR])
 have hbin : (binOp op t (a.eval x) (a.eval y)).run P w = .ok (.bool (if op == .neq then !r else r)) w ∧ (eqGuard op t x y (a.eval x) (a.eval y)).run P w = .ok () w := by
  rcases hb with ⟨rfl, hb⟩ | ⟨rfl, hg, _⟩
  ·have h1 := (isAggA_val (c.opd x) hxs).2 hx
   have h2 := (isAggA_val (c.opd y) hys).2 hy
   rw [cells_of_one h1, cells_of_one h2] at hev
   have hks : ks = [0] := by
    unfold plainK at hk
    simp only [hb] at hk
    split at hk
    ·simpa using hk.symm
    ·cases hk
   subst hks
   simp only [eqCV] at hev
   split at hev
   ·rename_i p q m1 m2
    obtain ⟨b1, b2, e1, e2⟩ := eqV0 m1
    rw [e1, e2] at hrun ⊢
    rcases hop with rfl | rfl
    ·exact ⟨by simp [binOp, Op.equal, Op.maxDepth, hrun], by simp [eqGuard]⟩
    ·exact ⟨by simp [binOp, Op.equal, Op.maxDepth, hrun], by simp [eqGuard]⟩
   ·cases hev
  ·obtain ⟨us, hu⟩ := (isAggA_val (c.opd x) hxs).1 hx
   obtain ⟨vs, hv⟩ := (isAggA_val (c.opd y) hys).1 hy
   rw [hu, hv] at hrun ⊢
   refine ⟨?_, run_eqGuard_agg w op t x y us vs hg⟩
   rcases hop with rfl | rfl
   ·rw [run_eql_struct, hrun]; rfl
   ·rw [run_neq_struct, hrun]; rfl
 simp [execOp, ho, hbin.1, hbin.2]
theorem s_eqN (c : Ctx P gl a f g h w) {op : BinOp} {t yt : TypeId} {x : Operand} {r : Bool} {ps rs : Array TypeId} {vd : Bool} (ho : o.op = .binOp op t x (.const .nilFunc) yt) (hop : op = .eql ∨ op = .neq)
  (hu : P.underlying t = some (.func ps rs vd)) (hx : (∃ f' cs, (opd x).ev f gl = .fn f' cs ∧ r = (op == .neq)) ∨ ((opd x).ev f gl = .p (.val .nilFunc) ∧ r = !(op == .neq))) : Fits P o a g w (vb r) h := by
 refine fits_same c (x := .bool r) ?_ (by simp [VR, PR])
 have hv := c.opd x
 have key : ∀ (v : Value) (q : Bool), (Op.equalIn (9999 + 1) t v .nilFunc).run P w = .ok q w → (∀ b : Bool, r = (if op == .neq then !q else q)) →
   (execOp a.eval o).run P w = .ok (.value (.bool r)) w ∨ a.eval x ≠ v := by
  intro v q hq hr
  by_cases hxv : a.eval x = v
  ·left
   subst hxv
   have hq' : (Op.equal t (a.eval x) .nilFunc).run P w = .ok q w := hq
   have hg : (eqGuard op t x (.const .nilFunc) (a.eval x) .nilFunc).run P w = .ok () w := by
    rcases hop with rfl | rfl <;> (unfold eqGuard; cases a.eval x <;> rfl)
   have hb : (binOp op t (a.eval x) .nilFunc).run P w = .ok (.bool r) w := by
    rcases hop with rfl | rfl
    ·have e : binOp .eql t (a.eval x) .nilFunc = (do pure (.bool (← Op.equal t (a.eval x) .nilFunc))) := by cases a.eval x <;> rfl
     rw [e, hr true]
     simp only [Sem.run_bind, hq', Result.andThen_ok, Sem.run_pure]
     rfl
    ·have e : binOp .neq t (a.eval x) .nilFunc = (do pure (.bool (!(← Op.equal t (a.eval x) .nilFunc)))) := by cases a.eval x <;> rfl
     rw [e, hr true]
     simp only [Sem.run_bind, hq', Result.andThen_ok, Sem.run_pure]
     rfl
   have he : a.eval (.const .nilFunc) = .nilFunc := rfl
   simp only [execOp, ho, Sem.run_bind, he, hg, Result.andThen_ok, hb, Sem.run_pure]
  ·exact .inr hxv
 rcases hx with ⟨f', cs, hx, rfl⟩ | ⟨hx, rfl⟩
 ·rw [hx] at hv
  simp only [VR] at hv
  obtain ⟨us, hv, _⟩ := hv
  refine (key _ false (by rw [Op.equalIn]; simp [run_underlying hu]) (fun _ => by cases op <;> rfl)).resolve_right (fun h => h hv)
 ·rw [hx] at hv
  simp only [VR, PR] at hv
  refine (key _ true (by rw [Op.equalIn]; simp [run_underlying hu]) (fun _ => by cases op <;> rfl)).resolve_right (fun h => h hv)
theorem s_eqI (c : Ctx P gl a f g h w) {op : BinOp} {t yt : TypeId} {x : Operand} {r : Bool} {ms : Array (String × TypeId)} (ho : o.op = .binOp op t x (.const .nilIface) yt) (hop : op = .eql ∨ op = .neq)
  (hu : P.underlying t = some (.interface ms)) (hx : ((opd x).ev f gl = .anye ∧ r = (op == .neq)) ∨ ((opd x).ev f gl = .p (.val .nilIface) ∧ r = !(op == .neq))) : Fits P o a g w (vb r) h := by
 refine fits_same c (x := .bool r) ?_ (by simp [VR, PR])
 have hv := c.opd x
 have key : ∀ (v : Value) (q : Bool), (Op.equalIn (9999 + 1) t v .nilIface).run P w = .ok q w → (∀ b : Bool, r = (if op == .neq then !q else q)) →
   (execOp a.eval o).run P w = .ok (.value (.bool r)) w ∨ a.eval x ≠ v := by
  intro v q hq hr
  by_cases hxv : a.eval x = v
  ·left
   subst hxv
   have hq' : (Op.equal t (a.eval x) .nilIface).run P w = .ok q w := hq
   have hg : (eqGuard op t x (.const .nilIface) (a.eval x) .nilIface).run P w = .ok () w := by
    rcases hop with rfl | rfl <;> (unfold eqGuard; cases a.eval x <;> first | rfl | simp)
   have hb : (binOp op t (a.eval x) .nilIface).run P w = .ok (.bool r) w := by
    rcases hop with rfl | rfl
    ·have e : binOp .eql t (a.eval x) .nilIface = (do pure (.bool (← Op.equal t (a.eval x) .nilIface))) := by cases a.eval x <;> rfl
     rw [e, hr true]
     simp only [Sem.run_bind, hq', Result.andThen_ok, Sem.run_pure]
     rfl
    ·have e : binOp .neq t (a.eval x) .nilIface = (do pure (.bool (!(← Op.equal t (a.eval x) .nilIface)))) := by cases a.eval x <;> rfl
     rw [e, hr true]
     simp only [Sem.run_bind, hq', Result.andThen_ok, Sem.run_pure]
     rfl
   have he : a.eval (.const .nilIface) = .nilIface := rfl
   simp only [execOp, ho, Sem.run_bind, he, hg, Result.andThen_ok, hb, Sem.run_pure]
  ·exact .inr hxv
 rcases hx with ⟨hx, rfl⟩ | ⟨hx, rfl⟩
 ·rw [hx] at hv
  simp only [VR] at hv
  obtain ⟨tt, p, hv⟩ := hv
  refine (key _ false (by rw [Op.equalIn]; simp [run_underlying hu]) (fun _ => by cases op <;> rfl)).resolve_right (fun h => h hv)
 ·rw [hx] at hv
  simp only [VR, PR] at hv
  refine (key _ true (by rw [Op.equalIn]; simp [run_underlying hu]) (fun _ => by cases op <;> rfl)).resolve_right (fun h => h hv)
theorem s_eqS (c : Ctx P gl a f g h w) {op : BinOp} {t yt e : TypeId} {x : Operand} {r : Bool} (ho : o.op = .binOp op t x (.const nilS) yt) (hop : op = .eql ∨ op = .neq)
  (hu : P.underlying t = some (.slice e)) {A : Option Addr} {n k : Nat} (hx : a.eval x = .slice A n k) (hr : r = (if op == .neq then A.isSome else A.isNone)) : Fits P o a g w (vb r) h := by
 refine fits_same c (x := .bool r) ?_ (by simp [VR, PR])
 have hq : (Op.equal t (a.eval x) nilS).run P w = .ok A.isNone w := by
  show (Op.equalIn (9999 + 1) t (a.eval x) nilS).run P w = _
  rw [hx]
  cases A <;> (rw [Op.equalIn]; simp [run_underlying hu])
 have hg : (eqGuard op t x (.const nilS) (a.eval x) nilS).run P w = .ok () w := by
  rcases hop with rfl | rfl <;> (unfold eqGuard; cases a.eval x <;> rfl)
 have hb : (binOp op t (a.eval x) nilS).run P w = .ok (.bool r) w := by
  rcases hop with rfl | rfl
  ·have e : binOp .eql t (a.eval x) nilS = (do pure (.bool (← Op.equal t (a.eval x) nilS))) := by cases a.eval x <;> rfl
   rw [e, hr]
   simp only [Sem.run_bind, hq, Result.andThen_ok, Sem.run_pure]
   rfl
  ·have e : binOp .neq t (a.eval x) nilS = (do pure (.bool (!(← Op.equal t (a.eval x) nilS)))) := by cases a.eval x <;> rfl
   rw [e, hr]
   simp only [Sem.run_bind, hq, Result.andThen_ok, Sem.run_pure]
   cases A <;> rfl
 have he : a.eval (.const nilS) = nilS := rfl
 simp only [execOp, ho, Sem.run_bind, he, hg, Result.andThen_ok, hb, Sem.run_pure]
theorem ptrAdd_rel {x : AV} {v : Value} {off : Nat} {y : AV} (hv : VR g w x v) (hp : ptrAdd off x = some y) : ∃ ad : Addr, ad.spot = none ∧ v = .pointer (some ad) ∧ VR g w y (.pointer (some (ad.add off))) := by
 unfold ptrAdd at hp
 split at hp
 ·simp only [oiq] at hp
  subst hp
  simp only [VR] at hv ⊢
  exact ⟨_, rfl, hv.2, hv.1, by rw [add_addr]⟩
 ·simp only [oiq] at hp
  subst hp
  simp only [VR] at hv ⊢
  obtain ⟨b, o, rfl, h1, h2⟩ := hv
  exact ⟨_, rfl, rfl, b, o + off, by rw [add_addr], h1, PRs_add h2⟩
 ·simp only [oiq] at hp
  subst hp
  simp only [VR] at hv ⊢
  obtain ⟨h1, h2, cc, cap, h3, rfl⟩ := hv
  exact ⟨_, rfl, rfl, h1, h2, cc, cap, h3, by rw [add_addr, Nat.add_assoc]⟩
 ·cases hp
theorem s_fieldA (c : Ctx P gl a f g h w) {s : TypeId} {x : Operand} {i n : Nat} {fields : Array Field} {fd : Field} {v : AV} (ho : o.op = .fieldAddr s x i) (hs : P.underlying s = some (.struct fields)) (hi : fields[i]? = some fd)
  (hn : szT P fd.type = some n) (h0 : 0 < n) (hx : ptrAdd fd.offset ((opd x).ev f gl) = some v) : Fits P o a g w v h := by
 obtain ⟨ad, _, hv, hr⟩ := ptrAdd_rel (c.opd x) hx
 refine fits_same c (x := .pointer (some (ad.add fd.offset))) ?_ hr
 have : ¬ n = 0 := by omega
 simp [execOp, ho, Instr.fieldAt, run_underlying hs, hi, hv, Instr.sureAddr, fieldPlace, run_szT hn, this]
theorem part_rel {t : TypeId} {b : Bool} {s off : Nat} {xs : List AV} {us : Array Value} {cs : List AV} {v : AV} (hr : VRs g w xs us.toList) (hb : aggT P t = some b) (hs : szT P t = some s)
  (hx : sub xs off (if b then s else 1) = some cs) (hv : oneOr b cs = some v) : ∃ u, (part t us off).run P w = .ok u w ∧ VR g w v u := by
 obtain ⟨h1, h2⟩ := hr.sub hx
 rcases oneOr_rel h2 hv with ⟨rfl, hr⟩ | ⟨rfl, u, hu, hr⟩
 ·refine ⟨_, ?_, hr⟩
  simp only [part, Sem.run_bind, run_aggT hb, Result.andThen_ok, if_true, run_szT hs, Sem.run_pure]
  congr 2
  apply Array.ext'
  simp [List.extract_eq_take_drop]
 ·refine ⟨u, ?_, hr⟩
  have hlt : off < us.size := by
   rcases Nat.lt_or_ge off us.size with h | h
   ·exact h
   ·have : us.toList.drop off = [] := List.drop_eq_nil_of_le (by simpa using h)
    rw [this] at hu; simp at hu
  have : us[off]? = some u := by
   have e : (us.toList.drop off).take 1 = [us[off]] := by
    rw [List.drop_eq_getElem_cons (by simpa using hlt), List.take_succ_cons, List.take_zero]
    simp
   rw [if_neg (by simp), e] at hu
   simp only [List.cons.injEq, and_true] at hu
   rw [Array.getElem?_eq_getElem hlt, hu]
  simp [part, run_aggT hb, this]
theorem s_field (c : Ctx P gl a f g h w) {s : TypeId} {x : Operand} {i n : Nat} {b : Bool} {fields : Array Field} {fd : Field} {xs cs : List AV} {v : AV} (ho : o.op = .field s x i) (hs : P.underlying s = some (.struct fields)) (hi : fields[i]? = some fd)
  (hb : aggT P fd.type = some b) (hn : szT P fd.type = some n) (hx : (opd x).ev f gl = .agg xs) (hc : sub xs fd.offset (if b then n else 1) = some cs) (hv : oneOr b cs = some v) : Fits P o a g w v h := by
 have hr := c.opd x
 rw [hx] at hr
 simp only [VR] at hr
 obtain ⟨us, hu, hr⟩ := hr
 obtain ⟨u, h1, h2⟩ := part_rel hr hb hn hc hv
 exact fits_same c (x := u) (by simp [execOp, ho, Instr.field, run_underlying hs, hi, hu, asAgg, h1]) h2
theorem s_indexArr (c : Ctx P gl a f g h w) {t e : TypeId} {x i : Operand} {n s : Nat} {k : Int} {v : AV} (ho : o.op = .indexAddr t x i) (ht : P.underlying t = some (.array n e)) (hs : szT P e = some s)
  (hi : idx ((opd i).ev f gl) = some k) (hk : 0 ≤ k ∧ k < n) (hx : ptrAdd (k.toNat * s) ((opd x).ev f gl) = some v) : Fits P o a g w v h := by
 obtain ⟨kk, hki⟩ := idx_of (c.opd i) hi
 obtain ⟨ad, _, hv, hr⟩ := ptrAdd_rel (c.opd x) hx
 refine fits_same c (x := .pointer (some (ad.add (k.toNat * s)))) ?_ hr
 simp [execOp, ho, Instr.indexAt, hki, asIntOf, run_underlying ht, hv, Instr.sureAddr, hk.1, hk.2, run_szT hs]
theorem s_indexSl (c : Ctx P gl a f g h w) {t e : TypeId} {x i : Operand} {s : Nat} {k : Int} {v : AV} (ho : o.op = .indexAddr t x i) (ht : P.underlying t = some (.slice e)) (hs : szT P e = some s)
  (hi : idx ((opd i).ev f gl) = some k)
  (hx : (∃ b gen off len, (opd x).ev f gl = .sl b gen s off len ∧ 0 ≤ k ∧ k < len ∧ v = .rp b gen s (off + k.toNat) 0) ∨ (∃ rows r, (opd x).ev f gl = .p (.lst s rows) ∧ 0 ≤ k ∧ rows[k.toNat]? = some r ∧ v = .ro r)) :
  Fits P o a g w v h := by
 obtain ⟨kk, hki⟩ := idx_of (c.opd i) hi
 have hv := c.opd x
 rcases hx with ⟨b, gen, off, len, hx, h0, h1, rfl⟩ | ⟨rows, r, hx, h0, h1, rfl⟩
 ·rw [hx] at hv
  simp only [VR] at hv
  obtain ⟨hb, hg, hs'⟩ := hv
  cases hd : g.hd b gen with
  | none => rw [hd] at hs'; obtain ⟨_, _, rfl⟩ := hs'; omega
  | some p =>
   obtain ⟨cc, cap⟩ := p
   rw [hd] at hs'
   obtain ⟨hle, _, A, hv, hA⟩ := hs'
   have hA' : A = some ⟨cc, off * s, none⟩ := hA.resolve_left (by omega)
   subst hA'
   refine fits_same c (x := .pointer (some ⟨cc, off * s + k.toNat * s, none⟩)) ?_ ?_
   ·simp [execOp, ho, Instr.indexAt, hki, asIntOf, run_underlying ht, hv, h0, h1, run_szT hs, add_addr]
   ·simp only [VR]
    exact ⟨hb, hg, cc, cap, hd, by rw [Nat.add_mul, Nat.add_zero]⟩
 ·rw [hx] at hv
  simp only [VR, PR] at hv
  obtain ⟨A, cap, hv, _, _, hA⟩ := hv
  have hlt : k.toNat < rows.length := (gei.1 h1).1
  obtain ⟨b, off, rfl, hS, hp⟩ := hA.resolve_left (by omega)
  refine fits_same c (x := .pointer (some ⟨b, off + k.toNat * s, none⟩)) ?_ ?_
  ·have : k < rows.length := by omega
   simp [execOp, ho, Instr.indexAt, hki, asIntOf, run_underlying ht, hv, h0, this, run_szT hs, add_addr]
  ·simp only [VR]
   exact ⟨b, _, rfl, hS, (PRr_get hp h1).2⟩
theorem s_indexS (c : Ctx P gl a f g h w) {t : TypeId} {x i : Operand} {s : ByteArray} {k : Int} {b : UInt8} (ho : o.op = .index t x i) (ht : P.underlying t = some .string) (hx : (opd x).ev f gl = vs s)
  (hi : idx ((opd i).ev f gl) = some k) (h0 : 0 ≤ k) (hb : s.data.toList[k.toNat]? = some b) : Fits P o a g w (vi .u8 b.toNat) h := by
 obtain ⟨kk, hki⟩ := idx_of (c.opd i) hi
 have hv := val_of (c.opd x) hx
 refine fits_same c (x := .int .u8 b.toNat) ?_ (by simp [VR, PR])
 have hb' : s[k.toNat]? = some b := by
  have hlt := (gei.1 hb).1
  have hlt' : k.toNat < s.size := by rw [altl] at hlt; exact hlt
  rw [getElem?_pos s k.toNat hlt']
  have := (gei.1 hb).2
  simp only [oiq]
  rw [← this]
  rfl
 simp [execOp, ho, Instr.index, hki, asIntOf, run_underlying ht, hv, h0, hb']
theorem s_index (c : Ctx P gl a f g h w) {t e : TypeId} {x i : Operand} {n s : Nat} {bb : Bool} {k : Int} {xs cs : List AV} {v : AV} (ho : o.op = .index t x i) (ht : P.underlying t = some (.array n e)) (hs : szT P e = some s) (hb : aggT P e = some bb) (hbs : bb = true ∨ s = 1)
  (hx : (opd x).ev f gl = .agg xs) (hi : idx ((opd i).ev f gl) = some k) (hk : 0 ≤ k ∧ k < n) (hc : sub xs (k.toNat * s) s = some cs) (hv : oneOr bb cs = some v) : Fits P o a g w v h := by
 obtain ⟨kk, hki⟩ := idx_of (c.opd i) hi
 have hr := c.opd x
 rw [hx] at hr
 simp only [VR] at hr
 obtain ⟨us, hu, hr⟩ := hr
 have hc' : sub xs (k.toNat * s) (if bb then s else 1) = some cs := by
  rcases hbs with rfl | rfl
  ·simpa using hc
  ·simpa using hc
 obtain ⟨u, h1, h2⟩ := part_rel hr hb hs hc' hv
 have hrun : (Instr.index t (a.eval x) (a.eval i)).run P w = .ok u w := by
  rw [hki, hu]
  unfold Instr.index
  simp only [asIntOf, Sem.run_bind, Sem.run_pure, Result.andThen_ok, run_underlying ht, if_pos hk, run_szT hs, h1]
 exact fits_same c (x := u) (by simp only [execOp, ho, Sem.run_bind, hrun, Result.andThen_ok, Sem.run_pure]) h2
theorem lenA_rel {x : AV} {v : Value} {n : Nat} (hv : VR g w x v) (hl : lenA x = some n) : ∃ A c, v = .slice A n c := by
 unfold lenA at hl
 split at hl
 ·simp only [oiq] at hl
  subst hl
  simp only [VR] at hv
  obtain ⟨_, _, hv⟩ := hv
  unfold SlR at hv
  split at hv
  ·obtain ⟨rfl, _, rfl⟩ := hv; exact ⟨_, _, rfl⟩
  ·obtain ⟨_, _, A, rfl, _⟩ := hv; exact ⟨_, _, rfl⟩
 ·simp only [oiq] at hl
  subst hl
  simp only [VR, PR] at hv
  obtain ⟨A, c, rfl, _⟩ := hv
  exact ⟨_, _, rfl⟩
 ·simp only [oiq] at hl
  subst hl
  simp only [VR, PR] at hv
  exact ⟨_, _, hv⟩
 ·cases hl
theorem s_len (c : Ctx P gl a f g h w) {x : Operand} {t : TypeId} {cl : Call} {n : Nat} (ho : o.op = .call cl) (h1 : cl.callee = .builtin .len) (h2 : cl.args.toList = [x]) (h3 : cl.argTypes.toList = [t])
  {e : TypeId} (ht : P.underlying t = some (.slice e)) (hx : lenA ((opd x).ev f gl) = some n) : Fits P o a g w (vi .i64 n) h := by
 have h2' : cl.args = #[x] := by apply Array.ext'; simpa using h2
 have h3' : cl.argTypes = #[t] := by apply Array.ext'; simpa using h3
 refine fits_same c (x := .int .i64 n) ?_ (by simp [VR, PR])
 obtain ⟨A, cc, hv⟩ := lenA_rel (c.opd x) hx
 simp [execOp, ho, resolve, h1, h2', h3', invoke, builtin, Builtin.len_, run_underlying ht, hv, goInt]
theorem s_lenS (c : Ctx P gl a f g h w) {x : Operand} {t : TypeId} {cl : Call} {s : ByteArray} (ho : o.op = .call cl) (h1 : cl.callee = .builtin .len) (h2 : cl.args.toList = [x]) (h3 : cl.argTypes.toList = [t])
  (ht : P.underlying t = some .string) (hx : (opd x).ev f gl = vs s) : Fits P o a g w (vi .i64 s.size) h := by
 have h2' : cl.args = #[x] := by apply Array.ext'; simpa using h2
 have h3' : cl.argTypes = #[t] := by apply Array.ext'; simpa using h3
 refine fits_same c (x := .int .i64 s.size) ?_ (by simp [VR, PR])
 have hv := val_of (c.opd x) hx
 simp [execOp, ho, resolve, h1, h2', h3', invoke, builtin, Builtin.len_, run_underlying ht, hv, goInt]
theorem s_lenArr (c : Ctx P gl a f g h w) {x : Operand} {t e : TypeId} {cl : Call} {n : Nat} (ho : o.op = .call cl) (h1 : cl.callee = .builtin .len) (h2 : cl.args.toList = [x]) (h3 : cl.argTypes.toList = [t])
  (ht : P.underlying t = some (.array n e)) : Fits P o a g w (vi .i64 n) h := by
 have h2' : cl.args = #[x] := by apply Array.ext'; simpa using h2
 have h3' : cl.argTypes = #[t] := by apply Array.ext'; simpa using h3
 refine fits_same c (x := .int .i64 n) ?_ (by simp [VR, PR])
 simp [execOp, ho, resolve, h1, h2', h3', invoke, builtin, Builtin.len_, run_underlying ht, goInt]
theorem s_min2 (c : Ctx P gl a f g h w) {x y : Operand} {cl : Call} {mx : Bool} {k k' : IntKind} {m n : Int} (ho : o.op = .call cl) (h1 : cl.callee = .builtin (if mx then .max else .min)) (h2 : cl.args.toList = [x, y])
  (hx : (opd x).ev f gl = vi k m) (hy : (opd y).ev f gl = vi k' n) : Fits P o a g w (vi k (if mx then (if m < n then n else m) else (if n < m then n else m))) h := by
 have h2' : cl.args = #[x, y] := by apply Array.ext'; simpa using h2
 have k1 := val_of (c.opd x) hx
 have k2 := val_of (c.opd y) hy
 refine fits_same c (x := .int k (if mx then (if m < n then n else m) else (if n < m then n else m))) ?_ (by simp [VR, PR])
 cases mx
 ·simp [execOp, ho, resolve, h1, h2', invoke, builtin, Builtin.min_, Builtin.min2, k1, k2]
 ·simp [execOp, ho, resolve, h1, h2', invoke, builtin, Builtin.max_, Builtin.max2, k1, k2]
end
section
variable {P : Program} {gl : Nat → Option (List PV)} {a : Act} {f : List AV} {g : G} {h : List AB} {w : World} {o : Oper}
theorem idxO_rel (c : Ctx P gl a f g h w) {lo : Option Operand} {d : Nat} {l : Int} (hl : idxO f gl d (lo.map opd) = some l) : (lo.map a.eval = none ∧ l = d) ∨ ∃ k, lo.map a.eval = some (.int k l) := by
 cases lo with
 | none => simp only [Option.map_none, idxO, oiq] at hl; exact .inl ⟨rfl, hl.symm⟩
 | some x =>
  simp only [msm, idxO] at hl
  obtain ⟨k, hv⟩ := idx_of (c.opd x) hl
  exact .inr ⟨k, by simp [hv]⟩
theorem bounds_rel (c : Ctx P gl a f g h w) {lo hi : Option Operand} {len cap : Nat} {l r : Int} (isS : Bool) (hl : idxO f gl 0 (lo.map opd) = some l) (hr : idxO f gl len (hi.map opd) = some r)
  (h0 : 0 ≤ l) (h1 : l ≤ r) (h2 : r ≤ cap) : (Instr.sliceBounds isS len cap (lo.map a.eval) (hi.map a.eval) none).run P w = .ok (l.toNat, r.toNat, cap) w := by
 have e1 : ∀ code k, (Instr.sliceBound (.int k r) cap code).run P w = .ok r.toNat w := fun code k => run_sliceBound (P := P) w k r cap code (by omega) h2
 have e2 : ∀ code k, (Instr.sliceBound (.int k l) r.toNat code).run P w = .ok l.toNat w := fun code k => run_sliceBound (P := P) w k l r.toNat code h0 (by omega)
 have e3 : ∀ code k, r = len → (Instr.sliceBound (.int k l) len code).run P w = .ok l.toNat w := fun code k hr => run_sliceBound (P := P) w k l len code h0 (by omega)
 rcases idxO_rel c hl with ⟨hlo, rfl⟩ | ⟨k, hlo⟩ <;> rcases idxO_rel c hr with ⟨hhi, hr'⟩ | ⟨k', hhi⟩ <;> rw [hlo, hhi] <;> unfold Instr.sliceBounds
 ·subst hr'
  simp
 ·simp [e1]
 ·simp [e3 _ _ hr', hr']
 ·simp [e1, e2]
theorem s_sliceS (c : Ctx P gl a f g h w) {t : TypeId} {x : Operand} {lo hi : Option Operand} {s : ByteArray} {l r : Int} (ho : o.op = .slice t x lo hi none) (ht : P.underlying t = some .string) (hx : (opd x).ev f gl = vs s)
  (hl : idxO f gl 0 (lo.map opd) = some l) (hr : idxO f gl s.size (hi.map opd) = some r) (h0 : 0 ≤ l) (h1 : l ≤ r) (h2 : r ≤ s.size) : Fits P o a g w (vs (s.extract l.toNat r.toNat)) h := by
 have hv := val_of (c.opd x) hx
 refine fits_same c (x := .string (s.extract l.toNat r.toNat)) ?_ (by simp [VR, PR])
 have hb := bounds_rel (P := P) c false hl hr h0 h1 h2
 have hrun : (Instr.sliceAt t (a.eval x) (lo.map a.eval) (hi.map a.eval) none).run P w = .ok (.string (s.extract l.toNat r.toNat)) w := by
  rw [hv]
  unfold Instr.sliceAt
  simp only [Sem.run_bind, run_underlying ht, Result.andThen_ok]
  unfold Instr.slice
  simp only [Sem.run_bind, run_underlying ht, Result.andThen_ok, Option.isSome_none, Bool.false_eq_true, if_false, Sem.run_pure, hb]
 simp only [execOp, ho, Sem.run_bind, Option.map_none, hrun, Result.andThen_ok, Sem.run_pure]
theorem run_sliceSl {t e : TypeId} {x : Operand} {lo hi : Option Operand} {s len cap : Nat} {A : Option Addr} {l r : Int} (c : Ctx P gl a f g h w) (ho : o.op = .slice t x lo hi none) (ht : P.underlying t = some (.slice e)) (hs : szT P e = some s)
  (hv : a.eval x = .slice A len cap) (hl : idxO f gl 0 (lo.map opd) = some l) (hr : idxO f gl len (hi.map opd) = some r) (h0 : 0 ≤ l) (h1 : l ≤ r) (h2 : r ≤ cap) :
  (execOp a.eval o).run P w = .ok (.value (.slice (if cap = l.toNat then A else A.map (·.add (l.toNat * s))) (r.toNat - l.toNat) (cap - l.toNat))) w := by
 have hb := bounds_rel (P := P) c true hl hr h0 h1 h2
 have hrun : (Instr.sliceAt t (a.eval x) (lo.map a.eval) (hi.map a.eval) none).run P w = .ok (.slice (if cap = l.toNat then A else A.map (·.add (l.toNat * s))) (r.toNat - l.toNat) (cap - l.toNat)) w := by
  rw [hv]
  unfold Instr.sliceAt
  simp only [Sem.run_bind, run_underlying ht, Result.andThen_ok]
  unfold Instr.slice
  simp only [Sem.run_bind, run_underlying ht, Result.andThen_ok, Sem.run_pure, hb, run_szT hs]
 simp only [execOp, ho, Sem.run_bind, Option.map_none, hrun, Result.andThen_ok, Sem.run_pure]
theorem s_slice (c : Ctx P gl a f g h w) {t e : TypeId} {x : Operand} {lo hi : Option Operand} {s : Nat} {v : AV} {h' : List AB} (ho : o.op = .slice t x lo hi none) (ht : P.underlying t = some (.slice e)) (hs : szT P e = some s)
  (hx : evI gl f h (.slice s (opd x) (lo.map opd) (hi.map opd)) = some (v, h')) : Fits P o a g w v h' := by
 simp only [evI] at hx
 have hv := c.opd x
 split at hx
 ·rename_i b gen size off len e0
  rw [e0] at hv
  simp only [VR] at hv
  obtain ⟨hb, hg, hsl⟩ := hv
  split at hx
  ·rename_i hse
   subst hse
   cases hl : idxO f gl 0 (lo.map opd) with
   | none => simp [hl] at hx
   | some l =>
    cases hr : idxO f gl len (hi.map opd) with
    | none => simp [hl, hr] at hx
    | some r =>
     simp only [hl, hr, bsm] at hx
     split at hx
     ·rename_i s1 g1 rows hbk
      split at hx
      ·rename_i hc
       obtain ⟨rfl, h0, h1, h23⟩ := hc
       simp only [oiq, piq] at hx
       obtain ⟨rfl, rfl⟩ := hx
       have hbr := c.hr.br b _ hbk
       simp only [BR] at hbr
       obtain ⟨_, _, hrow⟩ := hbr
       cases hd : g.hd b g1 with
       | none =>
        rw [hd] at hsl hrow
        obtain ⟨hv, rfl, rfl⟩ := hsl
        simp only [RowR] at hrow
        subst hrow
        have hr0 : r = 0 := by
         rcases h23 with h | ⟨h, _⟩
         ·exact h
         ·simp at h; omega
        have hl0 : l = 0 := by omega
        subst hr0; subst hl0
        have hrun := run_sliceSl (P := P) c ho ht hs hv hl hr (by omega) (by omega) (by omega)
        refine fits_same c hrun ?_
        simp only [VR]
        refine ⟨hb, hg, ?_⟩
        rw [hd]
        exact ⟨rfl, rfl, rfl⟩
       | some p =>
        obtain ⟨cc, cap⟩ := p
        rw [hd] at hsl hrow
        obtain ⟨k1, k2, A, hv, hA⟩ := hsl
        simp only [RowR] at hrow
        obtain ⟨cs, t', fz, _, _, _, _, k5, _⟩ := hrow
        have hrun := run_sliceSl (P := P) c ho ht hs hv hl hr h0 h1 (by rcases h23 with h | ⟨h, _⟩ <;> omega)
        refine fits_same c hrun ?_
        simp only [VR]
        refine ⟨hb, hg, ?_⟩
        rw [hd]
        refine ⟨by omega, k2, (if cap - off = l.toNat then A else A.map (·.add (l.toNat * size))), by rw [Nat.sub_sub], ?_⟩
        by_cases hcap : cap = off + l.toNat ∧ 0 < off + l.toNat
        ·exact .inl hcap
        ·right
         have hA' := hA.resolve_left (by omega)
         subst hA'
         by_cases hz : cap - off = l.toNat
         ·rw [if_pos hz]
          have h1 : off = 0 := by omega
          have h2 : l.toNat = 0 := by omega
          simp [h1, h2]
         ·rw [if_neg hz]
          simp only [msm, add_addr, Nat.add_mul]
      ·cases hx
     ·cases hx
  ·cases hx
 ·rename_i size rows e0
  rw [e0] at hv
  simp only [VR, PR] at hv
  obtain ⟨A, cap, hv, k1, k2, hA⟩ := hv
  split at hx
  ·rename_i hse
   subst hse
   cases hl : idxO f gl 0 (lo.map opd) with
   | none => simp [hl] at hx
   | some l =>
    cases hr : idxO f gl rows.length (hi.map opd) with
    | none => simp [hl, hr] at hx
    | some r =>
     simp only [hl, hr, bsm] at hx
     split at hx
     ·rename_i hc
      obtain ⟨h0, h1, h2⟩ := hc
      simp only [oiq, piq] at hx
      obtain ⟨rfl, rfl⟩ := hx
      have hrun := run_sliceSl (P := P) c ho ht hs hv hl hr h0 h1 (by omega)
      refine fits_same c hrun ?_
      simp only [VR, PR]
      have hlen : ((rows.take r.toNat).drop l.toNat).length = r.toNat - l.toNat := by simp; omega
      refine ⟨_, cap - l.toNat, by rw [hlen], by omega, by omega, ?_⟩
      rw [hlen]
      by_cases hz : r.toNat - l.toNat = 0
      ·exact .inl hz
      ·right
       obtain ⟨b, off, rfl, hS, hp⟩ := hA.resolve_left (by omega)
       rw [if_neg (by omega)]
       simp only [msm, add_addr]
       exact ⟨b, _, rfl, hS, PRr_drop (PRr_take hp)⟩
     ·cases hx
  ·cases hx
 ·rename_i e0
  rw [e0] at hv
  simp only [VR, PR] at hv
  cases hl : idxO f gl 0 (lo.map opd) with
  | none => simp [hl] at hx
  | some l =>
   cases hr : idxO f gl 0 (hi.map opd) with
   | none => simp [hl, hr] at hx
   | some r =>
    simp only [hl, hr, bsm] at hx
    split at hx
    ·rename_i hc
     obtain ⟨rfl, rfl⟩ := hc
     simp only [oiq, piq] at hx
     obtain ⟨rfl, rfl⟩ := hx
     have hrun := run_sliceSl (P := P) c ho ht hs hv hl hr (by omega) (by omega) (by omega)
     exact fits_same c hrun (by simp [VR, PR])
    ·cases hx
 ·cases hx
theorem PRr_app {S : Nat → Prop} {w : World} {b size : Nat} : ∀ {rows more : List (List PV)} {off : Nat}, PRr S w b off size rows → PRr S w b (off + rows.length * size) size more → PRr S w b off size (rows ++ more)
 | [], more, off, _, h => by simpa using h
 | r :: rs, more, off, h, k => by
  simp only [List.cons_append, PRr] at h ⊢
  refine ⟨h.1, h.2.1, PRr_app h.2.2 ?_⟩
  rw [List.length_cons, Nat.add_mul, Nat.one_mul, Nat.add_comm (rs.length * size) size, ← Nat.add_assoc] at k
  exact k
theorem s_sliceX (c : Ctx P gl a f g h w) {t e : TypeId} {x : Operand} {lo hi : Option Operand} {s : Nat} {v : AV} (ho : o.op = .slice t x lo hi none) (ht : P.underlying t = some (.slice e)) (hs : szT P e = some s)
  (hx : slXA s ((opd x).ev f gl) (idxO f gl 0 (lo.map opd)) (idxO f gl (lenX ((opd x).ev f gl)) (hi.map opd)) = some v) : Fits P o a g w v h := by
 have hv := c.opd x
 unfold slXA at hx
 split at hx
 ·rename_i size rows more e0
  rw [e0] at hv
  simp only [e0, lenX] at hx
  simp only [VR, PR] at hv
  obtain ⟨A, cap, hv, k1, k2, b, off, rfl, hS, hp, hm⟩ := hv
  split at hx
  ·rename_i hse
   subst hse
   cases hl : idxO f gl 0 (lo.map opd) with
   | none => simp [hl] at hx
   | some l =>
    cases hr : idxO f gl rows.length (hi.map opd) with
    | none => simp [hl, hr] at hx
    | some r =>
     simp only [hl, hr, bsm] at hx
     split at hx
     ·rename_i hc
      obtain ⟨h0, h1, h2⟩ := hc
      simp only [oiq] at hx
      subst hx
      have hrun := run_sliceSl (P := P) c ho ht hs hv hl hr h0 h1 (by omega)
      refine fits_same c hrun ?_
      simp only [VR, PR]
      have hlen : (((rows ++ more).take r.toNat).drop l.toNat).length = r.toNat - l.toNat := by simp; omega
      refine ⟨_, cap - l.toNat, by rw [hlen], by omega, by omega, ?_⟩
      rw [hlen]
      by_cases hz : r.toNat - l.toNat = 0
      ·exact .inl hz
      ·right
       rw [if_neg (by omega)]
       simp only [msm, add_addr]
       exact ⟨b, _, rfl, hS, PRr_drop (PRr_take (PRr_app hp hm))⟩
     ·cases hx
  ·cases hx
 ·cases hx
end
theorem flatten_take {α : Type} {s : Nat} : ∀ {rows : List (List α)} (k : Nat), (∀ r ∈ rows, r.length = s) → (rows.take k).flatten = rows.flatten.take (k * s)
 | [], k, _ => by simp
 | r :: rs, 0, _ => by simp
 | r :: rs, k + 1, h => by
  have hr := h r (by simp)
  have ih := flatten_take (rows := rs) k (fun q hq => h q (by simp [hq]))
  simp only [List.take_succ_cons, fcs, ih, Nat.add_mul, Nat.one_mul]
  rw [Nat.add_comm (k * s) s, ← hr, List.take_length_add_append]
theorem flatten_drop {α : Type} {s : Nat} : ∀ {rows : List (List α)} (k : Nat), (∀ r ∈ rows, r.length = s) → (rows.drop k).flatten = rows.flatten.drop (k * s)
 | [], k, _ => by simp
 | r :: rs, 0, _ => by simp
 | r :: rs, k + 1, h => by
  have hr := h r (by simp)
  have ih := flatten_drop (rows := rs) k (fun q hq => h q (by simp [hq]))
  simp only [List.drop_succ_cons, fcs, ih, Nat.add_mul, Nat.one_mul]
  rw [Nat.add_comm (k * s) s, ← hr, List.drop_length_add_append]
def SrcR (w : World) (size n : Nat) (us : List Value) (v : Value) : Prop :=
 (∃ A c, v = .slice A n c ∧ (n = 0 ∨ ∃ b off, A = some ⟨b, off, none⟩ ∧ ∀ j u, us[j]? = some u → w.cell? ⟨b, off + j, none⟩ = some u)) ∨
 (∃ s : ByteArray, v = .string s ∧ size = 1 ∧ n = s.size ∧ us = s.data.toList.map fun b => Value.int .u8 b.toNat)
section
variable {P : Program} {gl : Nat → Option (List PV)} {a : Act} {f : List AV} {g : G} {h : List AB} {w : World} {o : Oper}
theorem PRr_rows : ∀ {rows : List (List PV)} {b off size : Nat}, PRr g.S w b off size rows →
  ∃ us, VRc g w (rows.map (·.map AV.p)).flatten us ∧ (∀ r ∈ rows, r.length = size) ∧ ∀ j u, us[j]? = some u → w.cell? ⟨b, off + j, none⟩ = some u
 | [], _, _, _, _ => ⟨[], by simp [VRc, VRs], by simp, by simp⟩
 | r :: rs, b, off, size, h => by
  simp only [PRr] at h
  obtain ⟨h1, h2, h3⟩ := h
  obtain ⟨vs, k1, k2, k3⟩ := PRs_cells h2
  obtain ⟨us, l1, l2, l3⟩ := PRr_rows h3
  refine ⟨vs ++ us, ?_, ?_, ?_⟩
  ·simp only [mcs, fcs]
   exact ⟨(k3 g rfl).1.append l1.1, fun v hv => (List.mem_append.1 hv).elim ((k3 g rfl).2 v) (l1.2 v)⟩
  ·intro q hq
   rcases List.mem_cons.1 hq with rfl | hq
   ·exact h1
   ·exact l2 q hq
  ·intro j u hj
   rw [List.getElem?_append] at hj
   split at hj
   ·exact k2 j u hj
   ·rename_i hlt
    have := l3 _ u hj
    have e : off + size + (j - vs.length) = off + j := by omega
    rwa [e] at this
theorem rowsOf_rel (c : Ctx P gl a f g h w) {x : Operand} {size : Nat} {rows : List (List AV)} (hx : rowsOf h size ((opd x).ev f gl) = some rows) :
  ∃ us, VRc g w rows.flatten us ∧ (∀ r ∈ rows, r.length = size) ∧ SrcR w size rows.length us (a.eval x) := by
 have hv := c.opd x
 unfold rowsOf at hx
 split at hx
 ·rename_i b gen s off len e0
  rw [e0] at hv
  simp only [VR] at hv
  obtain ⟨hb, hg, hsl⟩ := hv
  split at hx
  ·rename_i hse
   subst hse
   split at hx
   ·rename_i s1 g1 rws hbk
    split at hx
    ·rename_i hc
     obtain ⟨rfl, rfl, hle⟩ := hc
     simp only [oiq] at hx
     subst hx
     have hlen : ((rws.drop off).take len).length = len := by simp; omega
     have hbr := c.hr.br b _ hbk
     simp only [BR] at hbr
     obtain ⟨_, hr1, hrow⟩ := hbr
     cases hd : g.hd b g1 with
     | none =>
      rw [hd] at hsl hrow
      obtain ⟨hv, rfl, rfl⟩ := hsl
      simp only [RowR] at hrow
      subst hrow
      exact ⟨[], by simp [VRc, VRs], by simp, .inl ⟨none, 0, by simpa using hv, .inl (by simp)⟩⟩
     | some p =>
      obtain ⟨cc, cap⟩ := p
      rw [hd] at hsl hrow
      obtain ⟨k1, k2, A, hv, hA⟩ := hsl
      simp only [RowR] at hrow
      obtain ⟨cs, fz, m1, _, m3, _, m5, m6⟩ := hrow
      refine ⟨((cs.toList.take (rws.length * s1)).drop (off * s1)).take (len * s1), ?_, ?_, .inl ⟨A, cap - off, by rw [hlen]; exact hv, ?_⟩⟩
      ·have hr2 : ∀ r ∈ rws.drop off, r.length = s1 := fun r hr => hr1 r (List.mem_of_mem_drop hr)
       rw [flatten_take len hr2, flatten_drop off hr1]
       exact ⟨(m6.1.drop _).take _, fun v hv => m6.2 v (List.mem_of_mem_drop (List.mem_of_mem_take hv))⟩
      ·intro r hr
       exact hr1 r (List.mem_of_mem_drop (List.mem_of_mem_take hr))
      ·rw [hlen]
       rcases Nat.eq_zero_or_pos len with h0 | h0
       ·exact .inl h0
       ·right
        have hA' := hA.resolve_left (by omega)
        refine ⟨cc, off * s1, hA', ?_⟩
        intro j u hj
        rw [List.getElem?_take] at hj
        split at hj
        ·rw [List.getElem?_drop, List.getElem?_take] at hj
         split at hj
         ·simp only [World.cell?, m1]
          simpa using hj
         ·cases hj
        ·cases hj
    ·cases hx
   ·rename_i s1 g1 rws hbk
    split at hx
    ·rename_i hc
     obtain ⟨rfl, rfl, hle⟩ := hc
     simp only [oiq] at hx
     subst hx
     have hbr := c.hr.br b _ hbk
     simp only [BR] at hbr
     obtain ⟨_, hrow⟩ := hbr
     cases hd : g.hd b g1 with
     | none =>
      rw [hd] at hsl hrow
      obtain ⟨hv, rfl, rfl⟩ := hsl
      simp only [FrzR] at hrow
      subst hrow
      exact ⟨[], by simp [VRc, VRs], by simp, .inl ⟨none, 0, by simpa using hv, .inl (by simp)⟩⟩
     | some p =>
      obtain ⟨cc, cap⟩ := p
      rw [hd] at hsl hrow
      obtain ⟨k1, k2, A, hv, hA⟩ := hsl
      simp only [FrzR] at hrow
      obtain ⟨hS, m1, m2, hp⟩ := hrow
      have hlen : ((rws.drop off).take len).length = len := by simp; omega
      obtain ⟨us, l1, l2, l3⟩ := PRr_rows (PRr_take (n := len) (PRr_drop (n := off) hp))
      refine ⟨us, l1, ?_, .inl ⟨A, cap - off, by rw [lmp, hlen]; exact hv, ?_⟩⟩
      ·intro r hr
       simp only [List.mem_map] at hr
       obtain ⟨q, hq, rfl⟩ := hr
       simpa using l2 q hq
      ·rw [lmp, hlen]
       rcases Nat.eq_zero_or_pos len with h0 | h0
       ·exact .inl h0
       ·right
        have hA' := hA.resolve_left (by omega)
        exact ⟨cc, off * s1, hA', fun j u hj => by have := l3 j u hj; simpa using this⟩
    ·cases hx
   ·cases hx
  ·cases hx
 ·rename_i s rws e0
  rw [e0] at hv
  simp only [VR, PR] at hv
  obtain ⟨A, cap, hv, k1, k2, hA⟩ := hv
  split at hx
  ·rename_i hse
   subst hse
   simp only [oiq] at hx
   subst hx
   rcases hA with h0 | ⟨b, off, rfl, hS, hp⟩
   ·have : rws = [] := enz h0
    subst this
    exact ⟨[], by simp [VRc, VRs], by simp, .inl ⟨A, cap, by simpa using hv, .inl (by simp)⟩⟩
   ·obtain ⟨us, l1, l2, l3⟩ := PRr_rows hp
    refine ⟨us, l1, ?_, .inl ⟨_, cap, by simpa using hv, .inr ⟨b, off, rfl, l3⟩⟩⟩
    intro r hr
    simp only [List.mem_map] at hr
    obtain ⟨q, hq, rfl⟩ := hr
    simpa using l2 q hq
  ·cases hx
 ·rename_i e0
  rw [e0] at hv
  simp only [VR, PR] at hv
  simp only [oiq] at hx
  subst hx
  exact ⟨[], by simp [VRc, VRs], by simp, .inl ⟨none, 0, hv, .inl rfl⟩⟩
 ·rename_i A cap e0
  rw [e0] at hv
  simp only [VR, PR] at hv
  simp only [oiq] at hx
  subst hx
  exact ⟨[], by simp [VRc, VRs], by simp, .inl ⟨some A, cap, by simpa using hv, .inl (by simp)⟩⟩
 ·rename_i s e0
  rw [e0] at hv
  simp only [VR, PR] at hv
  split at hx
  ·rename_i h1
   subst h1
   simp only [oiq] at hx
   subst hx
   refine ⟨s.data.toList.map fun b => Value.int .u8 b.toNat, ?_, by simp, .inr ⟨s, hv, rfl, by rw [lmp, altl]; rfl, rfl⟩⟩
   generalize s.data.toList = l
   refine ⟨?_, by simp [Value.oneCell']⟩
   induction l with
   | nil => simp [VRs]
   | cons b l ih => simp only [mcs, fcs, List.cons_append, List.nil_append, VRs]; exact ⟨by simp [VR, PR], ih⟩
  ·cases hx
 ·cases hx
theorem src_len {size n : Nat} {us : List Value} {v : Value} (hs : SrcR w size n us v) : (Builtin.lenOf v).run P w = .ok n w := by
 rcases hs with ⟨A, c, rfl, _⟩ | ⟨s, rfl, _, rfl, _⟩ <;> simp [Builtin.lenOf]
theorem src_cells {w' : World} (hh : w'.heap = w.heap) {size n : Nat} {us : List Value} {v : Value} (hs : SrcR w size n us v) (hl : us.length = n * size) : (Builtin.firstCells size n v).run P w' = .ok us.toArray w' := by
 have hcell : ∀ p, w'.cell? p = w.cell? p := fun p => by simp [World.cell?, hh]
 rcases hs with ⟨A, c, rfl, h⟩ | ⟨s, rfl, h1, h2, rfl⟩
 ·rcases h with rfl | ⟨b, off, rfl, h⟩
  ·have : us = [] := enz (by simpa using hl)
   subst this
   cases A <;> simp [Builtin.firstCells, loadCells, loadCellsFrom]
  ·have := run_loadCells_list (P := P) w' ⟨b, off, none⟩ us (by intro j u hj; rw [add_addr, hcell]; exact h j u hj)
   rw [hl] at this
   simpa [Builtin.firstCells] using this
 ·subst h1; subst h2
  simp only [Builtin.firstCells, Sem.run_pure]
  congr 1
  have : s.extract 0 s.size = s := by simp
  rw [this]
  apply Array.ext'
  simp
theorem run_append_nil' {t u ty e : TypeId} {i : TypeInfo} {z : Value} (ht : P.underlying t = some (.slice e)) (hu : (∃ e', P.underlying u = some (.slice e')) ∨ P.underlying u = some .string) (hi : P.info? e = some i) (hz : i.zero = some z)
  {n : Nat} {us : List Value} {v : Value} (hs : SrcR w i.size n us v) (hl : us.length = n * i.size) (h63 : n ≤ limit47) (h48 : n * i.bytes ≤ limit47) :
  (n = 0 → (Builtin.append_ #[t, u] ty #[nilS, v]).run P w = .ok nilS w) ∧
  (0 < n → ∃ cap, n ≤ cap ∧ cap ≤ maxLen ∧ (Builtin.append_ #[t, u] ty #[nilS, v]).run P w = .ok (.slice (some ⟨w.heap.size, 0, none⟩) n cap) (w.drew.alloc (.cells (us.toArray ++ Builtin.zeroCells z.cells (cap - n)) e))) := by
 have hlen := src_len (P := P) hs
 unfold limit47 at h63 h48
 constructor
 ·rintro rfl
  have hc := src_cells (P := P) (w' := w) rfl hs hl
  have : us = [] := enz (by simpa using hl)
  subst this
  rcases hu with ⟨e', hu⟩ | hu <;> simp [Builtin.append_, run_underlying ht, run_underlying hu, sizeOf, typeInfo, hi, hlen, hc]
 ·intro h0
  have hn : ¬ n = 0 := by omega
  have h63' : ¬ (9223372036854775807 < (n : Int)) := by omega
  have h48' : ¬ (281474976710656 < Builtin.nextslicecap n 0 * i.bytes) := by rw [nextslicecap_zero h0]; omega
  have hc := src_cells (P := P) (w' := w.drew) rfl hs hl
  refine ⟨grownCap w n 0 e, grownCap_ge w n 0 e, grownCap_le_maxLen w n 0 e (by simp only [maxLen]; omega), ?_⟩
  rcases hu with ⟨e', hu⟩ | hu <;> simp [Builtin.append_, run_underlying ht, run_underlying hu, sizeOf, typeInfo, zeroValue, hi, hz, hlen, hn, h63', h48', Question.forced, run_firstCells_none, hc, newRow, grownCap]
theorem run_append_sl {t u ty e : TypeId} {i : TypeInfo} {z : Value} (ht : P.underlying t = some (.slice e)) (hu : (∃ e', P.underlying u = some (.slice e')) ∨ P.underlying u = some .string) (hi : P.info? e = some i) (hz : i.zero = some z)
  {n len cap c : Nat} {A : Option Addr} (hA : cap = 0 ∨ A = some ⟨c, 0, none⟩) {us : List Value} {v : Value} (hs : SrcR w i.size n us v) (hl : us.length = n * i.size) (h63 : len + n ≤ limit47) (h48 : (len + n) * i.bytes ≤ limit47)
  (hlc : len ≤ cap) {cs : Array Value} {t' : TypeId} {fz : Nat × Nat} (hc : w.heap[c]? = some (.cells cs t' fz)) (hfz : unfz fz cs.size) (hsz : cs.size = cap * i.size) (hone : ∀ v ∈ us, v.oneCell' = true) :
  (len + n ≤ cap → (Builtin.append_ #[t, u] ty #[.slice A len cap, v]).run P w = .ok (.slice A (len + n) cap) (setRow' w c (splice cs.toList (len * i.size) us).toArray t' fz)) ∧
  (cap < len + n → ∃ cap', len + n ≤ cap' ∧ cap' ≤ maxLen ∧ (Builtin.append_ #[t, u] ty #[.slice A len cap, v]).run P w =
   .ok (.slice (some ⟨w.heap.size, 0, none⟩) (len + n) cap') (w.drew.alloc (.cells ((cs.toList.take (len * i.size)).toArray ++ us.toArray ++ Builtin.zeroCells z.cells (cap' - (len + n))) e))) := by
 have hlen := src_len (P := P) hs
 unfold limit47 at h63 h48
 have hm1 : (len + n) * i.size = len * i.size + n * i.size := Nat.add_mul _ _ _
 constructor
 ·intro hle
  have hm2 : (len + n) * i.size ≤ cap * i.size := Nat.mul_le_mul_right _ hle
  have hcl := src_cells (P := P) (w' := w) rfl hs hl
  rcases Nat.eq_zero_or_pos cap with h0 | h0
  ·subst h0
   have hn : n = 0 := by omega
   have hl0 : len = 0 := by omega
   subst hn; subst hl0
   have : us = [] := enz (by simpa using hl)
   subst this
   have hcs : cs = #[] := Array.eq_empty_of_size_eq_zero (by simpa using hsz)
   have hw : setRow' w c (splice cs.toList (0 * i.size) []).toArray t' fz = w := by
    rw [hcs]
    exact setRow'_self (by rw [hc, hcs]; simp [splice])
   rw [hw]
   rcases hu with ⟨e', hu⟩ | hu <;> cases A <;> simp [Builtin.append_, run_underlying ht, run_underlying hu, sizeOf, typeInfo, hi, hlen, hcl, storeCells]
  ·have hA' := hA.resolve_left (by omega)
   subst hA'
   have hst := run_storeCells' (P := P) (off := len * i.size) us 0 cs w hc hfz (by omega) hone
   rw [Nat.add_zero] at hst
   rcases hu with ⟨e', hu⟩ | hu <;> simp [Builtin.append_, run_underlying ht, run_underlying hu, sizeOf, typeInfo, hi, hlen, hle, hcl, add_addr, hst]
 ·intro hgt
  have hn : ¬ (len + n ≤ cap) := by omega
  have h63' : ¬ (9223372036854775807 < ((len : Int) + (n : Int))) := by omega
  have h48' : ¬ (281474976710656 < Builtin.nextslicecap (len + n) cap * i.bytes) := by have := growslice_fits (need := len + n) (old := cap) (bytes := i.bytes) (by omega) h48; omega
  have hcl := src_cells (P := P) (w' := w.drew) rfl hs hl
  have hm2 : len * i.size ≤ cap * i.size := Nat.mul_le_mul_right _ hlc
  have hold : (Builtin.firstCells i.size len (.slice A len cap)).run P w.drew = .ok (cs.toList.take (len * i.size)).toArray w.drew := by
   rcases hA with h0 | rfl
   ·subst h0
    have : len = 0 := by omega
    subst this
    cases A <;> simp [Builtin.firstCells, loadCells, loadCellsFrom]
   ·have := run_loadCells' (P := P) (w := w.drew) (off := 0) (b := c) (cs := cs) (t := t') (fz := fz) (show w.drew.heap[c]? = _ from hc) (len * i.size) (by omega)
    simpa [Builtin.firstCells] using this
  refine ⟨grownCap w (len + n) cap e, grownCap_ge w _ _ e, grownCap_le_maxLen w _ _ e (by simp only [maxLen]; omega), ?_⟩
  rcases hu with ⟨e', hu⟩ | hu <;> simp [Builtin.append_, run_underlying ht, run_underlying hu, sizeOf, typeInfo, zeroValue, hi, hz, hlen, hn, h63', h48', Question.forced, hcl, hold, newRow, grownCap] <;> (congr 2; apply Array.ext'; simp)
end
section
variable {P : Program} {gl : Nat → Option (List PV)} {a : Act} {f : List AV} {g : G} {h : List AB} {w w' : World} {o : Oper}
theorem upd_bump (hr : HR g h w) {b size gen : Nat} {t : TypeId} {rows rows' : List (List AV)} (hb : h[b]? = some (.row t size gen rows)) {c cap : Nat} (hd : g.hd b gen = some (c, cap)) {cs cs' : Array Value} {fz : Nat × Nat}
  (hc : w.heap[c]? = some (.cells cs t fz)) (hz : unfz fz cs'.size) (hs : cs'.size = cap * size) (hm : cap ≤ maxLen) (hl : rows'.length ≤ cap) (hr1 : ∀ r ∈ rows', r.length = size)
  (hx : VRc g w rows'.flatten (cs'.toList.take (rows'.length * size))) :
  Ext g w (gGrow g b gen c cap) (setRow' w c cs' t fz) ∧ HR (gGrow g b gen c cap) (h.set b (.row t size (gen + 1) rows')) (setRow' w c cs' t fz) := by
 have hlt := heap_lt hc
 have hcid : cid g b (.row t size gen rows) = some c := by simp [cid, hd]
 have hpr : ∀ k, g.Pr k → (setRow' w c cs' t fz).heap[k]? = w.heap[k]? := fun k hp => setRow'_other (fun e => hr.own b _ c hb hcid (by rw [e]; exact hp))
 have hbr := hr.br b _ hb
 simp only [BR] at hbr
 have he : Ext g w (gGrow g b gen c cap) (setRow' w c cs' t fz) := ⟨fun _ h => h, fun _ h => h, hpr, Nat.le_refl _, fun _ h => h, fun _ _ => rfl, fun x _ => by
   simp only [gGrow]; split
   ·rename_i e; subst e; rw [hbr.1]; omega
   ·exact Nat.le_refl _, fun x _ k hk => by
   simp only [gGrow]; rw [if_neg]; rintro ⟨rfl, rfl⟩; rw [hbr.1] at hk; omega, by rw [setRow'_size]; exact Nat.le_refl _, rfl, rfl, rfl, fun _ h => .inl h, rfl, by first | assumption | exact fun _ => (by first | assumption | exact Nat.le_refl _ | exact Nat.le_succ _)⟩
 have hhd : (gGrow g b gen c cap).hd b (gen + 1) = some (c, cap) := by simp [gGrow]
 refine ⟨he, HR.upd hr hb he rfl rfl rfl (fun x hx => by simp [gGrow, hx]) ?_ ?_ ?_⟩
 ·intro k _ hne
  exact setRow'_other (fun e => hne (by rw [hcid, e]))
 ·simp only [BR]
  refine ⟨by simp [gGrow], hr1, ?_⟩
  rw [hhd]
  exact ⟨cs', fz, setRow'_same hlt, hz, hs, hm, hl, VRc_mono he hr.spr hx⟩
 ·intro k hk
  simp only [cid, hhd, msm, oiq] at hk
  subst hk
  exact .inl hcid
theorem flatten_splice {α : Type} {s : Nat} {rows news : List (List α)} {k : Nat} (h1 : ∀ r ∈ rows, r.length = s) (h2 : ∀ r ∈ news, r.length = s) :
  (splice rows k news).flatten = splice rows.flatten (k * s) news.flatten := by
 unfold splice
 simp only [List.flatten_append, flatten_take k h1, flatten_drop _ h1, flatten_len h2, Nat.add_mul]
theorem set_self {α : Type} {l : List α} {i : Nat} {x : α} (h : l[i]? = some x) : l.set i x = l := by
 apply List.ext_getElem?
 intro j
 rw [gst]
 split
 ·rename_i e
  subst e
  rw [if_pos (gei.1 h).1]
  exact h.symm
 ·rfl
theorem zc_size (z : Array Value) (n : Nat) : (Builtin.zeroCells z n).size = n * z.size := by simp [Builtin.zeroCells]
theorem info_of {e : TypeId} {s b : Nat} {z : List Value} (hs : szT P e = some s) (hb : byT P e = some b) (hz : zeroT P e = some z) : ∃ i zv, P.info? e = some i ∧ i.zero = some zv ∧ i.size = s ∧ i.bytes = b ∧ zv.cells.toList = z := by
 unfold szT at hs
 unfold byT at hb
 unfold zeroT at hz
 cases hi : P.info? e with
 | none => simp [hi] at hs
 | some i =>
  simp only [hi, msm, oiq] at hs hb
  simp only [hi, bsm] at hz
  cases hzz : i.zero with
  | none => simp [hzz] at hz
  | some zv =>
   simp only [hzz, bsm] at hz
   split at hz
   ·simp only [oiq] at hz
    exact ⟨i, zv, rfl, hzz, hs, hb, hz⟩
   ·cases hz
theorem s_append (c : Ctx P gl a f g h w) {x y : Operand} {t u e : TypeId} {cl : Call} {s b : Nat} {z : List Value} {news : List (List AV)} {v : AV} {h' : List AB} (ho : o.op = .call cl) (h1 : cl.callee = .builtin .append)
  (h2 : cl.args.toList = [x, y]) (h3 : cl.argTypes.toList = [t, u]) (ht : P.underlying t = some (.slice e)) (hu : (∃ e', P.underlying u = some (.slice e')) ∨ P.underlying u = some .string)
  (hs : szT P e = some s) (hby : byT P e = some b) (hz : zeroT P e = some z) (h0 : 0 < s) (hzl : z.length = s)
  (hn : rowsOf h s ((opd y).ev f gl) = some news) (hx : appendA h e s b ((opd x).ev f gl) news = some (v, h')) : Fits P o a g w v h' := by
 have h2' : cl.args = #[x, y] := by apply Array.ext'; simpa using h2
 have h3' : cl.argTypes = #[t, u] := by apply Array.ext'; simpa using h3
 obtain ⟨i, zv, hi, hzz, rfl, rfl, hzc⟩ := info_of hs hby hz
 have hzs : zv.cells.size = i.size := by rw [← hzl, ← hzc]; simp
 obtain ⟨us, k1, k2, k3⟩ := rowsOf_rel c hn
 have hul : us.length = news.length * i.size := by rw [← k1.1.len]; exact flatten_len k2
 have hex : ∀ r : Result Value, (Builtin.append_ #[t, u] o.type #[a.eval x, a.eval y]).run P w = r → (execOp a.eval o).run P w = r.andThen fun v w' => .ok (.value v) w' := by
  intro r hr
  simp only [execOp, ho, resolve, h1, h2', h3', Sem.run_bind, Sem.run_pure, Result.andThen_ok, invoke, builtin, List.map_toArray, mcs, List.map_nil, hr]
 have hv := c.opd x
 unfold appendA at hx
 split at hx
 ·rename_i bb gen sz off len e0
  rw [e0] at hv
  simp only [VR] at hv
  obtain ⟨hb1, hg1, hsl⟩ := hv
  split at hx
  ·rename_i hc
   obtain ⟨rfl, rfl⟩ := hc
   split at hx
   ·rename_i t' s' g1 rows hbk
    split at hx
    ·rename_i hc
     obtain ⟨rfl, rfl, hte, hle, hbnd, hbnd2⟩ := hc
     obtain rfl := hte.symm
     have hbr := c.hr.br bb _ hbk
     simp only [BR] at hbr
     obtain ⟨hgen, hr1, hrow⟩ := hbr
     cases hd : g.hd bb g1 with
     | none =>
      rw [hd] at hsl hrow
      obtain ⟨hv, _, rfl⟩ := hsl
      simp only [RowR] at hrow
      subst hrow
      obtain ⟨m1, m2⟩ := run_append_nil' (P := P) (ty := o.type) ht hu hi hzz k3 hul (by omega) (by simpa using hbnd)
      rcases Nat.eq_zero_or_pos news.length with hn0 | hn0
      ·have : news = [] := enz hn0
       subst this
       simp [splice] at hx
       obtain ⟨rfl, rfl⟩ := hx
       rw [set_self hbk]
       refine ⟨nilS, w, g, ?_, Ext.refl g w, c.hr, ?_⟩
       ·rw [hv] at hex; rw [hex _ (m1 rfl)]; rfl
       ·simp only [VR]
        refine ⟨hb1, hg1, ?_⟩
        rw [hd]
        exact ⟨rfl, rfl, rfl⟩
      ·obtain ⟨cap, n1, n2, n3⟩ := m2 hn0
       rw [if_neg (by simp only [List.length_nil]; omega)] at hx
       simp only [oiq, piq, List.take_nil, List.nil_append, Nat.zero_add] at hx
       obtain ⟨rfl, rfl⟩ := hx
       obtain ⟨p1, p2, p3⟩ := upd_grow (w' := w.drew.alloc (.cells (us.toArray ++ Builtin.zeroCells zv.cells (cap - news.length)) e)) (cap := cap) c.hr hbk (rows' := news)
        (cs := us.toArray ++ Builtin.zeroCells zv.cells (cap - news.length)) (t := e) (by rw [Array.size_append, zc_size, hzs, List.size_toArray, hul, ← Nat.add_mul]; congr 1; omega) n2 n1 k2
        (by simp only [Array.toList_append, ← hul]; rw [List.take_left]; exact k1)
        (fun k hk => Below.heap_alloc w.drew _ k hk) (alloc_new' w.drew _) (by simp) rfl rfl rfl
       refine ⟨_, _, _, ?_, p1, p2, p3 _ n1⟩
       rw [hv] at hex; rw [hex _ (n3)]; rfl
     | some p =>
      obtain ⟨cc, cap⟩ := p
      rw [hd] at hsl hrow
      obtain ⟨q1, q2, A, hv, hA⟩ := hsl
      simp only [RowR] at hrow
      obtain ⟨cs, fz, l1, l2, l3, l4, l5, l6⟩ := hrow
      rw [Nat.sub_zero] at hv
      have hA' : cap = 0 ∨ A = some ⟨cc, 0, none⟩ := .inr (by simpa using hA)
      obtain ⟨m1, m2⟩ := run_append_sl (P := P) (ty := o.type) ht hu hi hzz hA' k3 hul hbnd2 (by simpa using hbnd) (by omega : len ≤ cap) l1 l2 l3 k1.2
      have hmul : len * i.size + us.length = (len + news.length) * i.size := by rw [hul, Nat.add_mul]
      have hfl : rows.flatten.length = rows.length * i.size := flatten_len hr1
      have hlr : len * i.size ≤ rows.length * i.size := Nat.mul_le_mul_right _ hle
      have hrc : rows.length * i.size ≤ cap * i.size := Nat.mul_le_mul_right _ l5
      have htk : VRc g w (rows.take len).flatten (cs.toList.take (len * i.size)) := by
       have e1 : cs.toList.take (len * i.size) = (cs.toList.take (rows.length * i.size)).take (len * i.size) := by rw [List.take_take, Nat.min_eq_left hlr]
       rw [flatten_take len hr1, e1]
       exact ⟨l6.1.take _, fun v hv => l6.2 v (List.mem_of_mem_take hv)⟩
      have happ : VRc g w (rows.take len ++ news).flatten (cs.toList.take (len * i.size) ++ us) := by
       rw [List.flatten_append]
       exact ⟨htk.1.append k1.1, fun v hv => (List.mem_append.1 hv).elim (htk.2 v) (k1.2 v)⟩
      have hlen' : (rows.take len ++ news).length = len + news.length := by simp; omega
      have hr1' : ∀ r ∈ rows.take len ++ news, r.length = i.size := by
       intro r hr
       rcases List.mem_append.1 hr with hr | hr
       ·exact hr1 r (List.mem_of_mem_take hr)
       ·exact k2 r hr
      split at hx
      ·rename_i hin
       simp only [oiq, piq] at hx
       obtain ⟨rfl, rfl⟩ := hx
       have hin2 : (len + news.length) * i.size ≤ rows.length * i.size := Nat.mul_le_mul_right _ hin
       have hfit : len * i.size + us.length ≤ cs.toList.length := by have hcl : cs.toList.length = cs.size := altl; rw [hcl, l3, hmul]; omega
       have hspl : (splice cs.toList (len * i.size) us).length = cs.size := by rw [splice_length hfit, altl]
       have hsl' : (splice rows len news).length = rows.length := splice_length hin
       obtain ⟨p1, p2⟩ := upd_row c.hr hbk hd (cs' := (splice cs.toList (len * i.size) us).toArray) (rows' := splice rows len news) l1 (by simpa [hspl] using l2) (by simpa [hspl] using l3) l4 (by rw [hsl']; exact l5)
        (fun r hr => (mem_splice hr).elim (hr1 r) (k2 r))
        (by
         rw [hsl', flatten_splice hr1 k2]
         show VRc g w _ ((splice cs.toList (len * i.size) us).take (rows.length * i.size))
         rw [splice_take (by rw [hmul]; omega) (by have hcl : cs.toList.length = cs.size := altl; rw [hcl, l3]; exact hrc)]
         exact l6.splice _ k1)
       refine ⟨.slice A (len + news.length) cap, _, g, ?_, p1, p2, ?_⟩
       ·rw [hv] at hex; rw [hex _ (m1 (by omega))]; rfl
       ·simp only [VR]
        refine ⟨hb1, hg1, ?_⟩
        rw [hd]
        exact ⟨by omega, q2, A, rfl, by simpa using hA⟩
      ·rename_i hout
       simp only [oiq, piq] at hx
       obtain ⟨rfl, rfl⟩ := hx
       by_cases hcap : len + news.length ≤ cap
       ·have hcap2 : (len + news.length) * i.size ≤ cap * i.size := Nat.mul_le_mul_right _ hcap
        have hfit : len * i.size + us.length ≤ cs.toList.length := by have hcl : cs.toList.length = cs.size := altl; rw [hcl, l3, hmul]; omega
        have hspl : (splice cs.toList (len * i.size) us).length = cs.size := by rw [splice_length hfit, altl]
        obtain ⟨p1, p2⟩ := upd_bump c.hr hbk hd (cs' := (splice cs.toList (len * i.size) us).toArray) (rows' := rows.take len ++ news) l1 (by simpa [hspl] using l2) (by simpa [hspl] using l3) l4 (by rw [hlen']; exact hcap) hr1'
         (by
          rw [hlen']
          show VRc g w _ ((splice cs.toList (len * i.size) us).take ((len + news.length) * i.size))
          have : (splice cs.toList (len * i.size) us).take ((len + news.length) * i.size) = cs.toList.take (len * i.size) ++ us := by
           unfold splice
           have e1 : (cs.toList.take (len * i.size) ++ us).length = (len + news.length) * i.size := by have hcl : cs.toList.length = cs.size := altl; rw [lap, List.length_take, hcl, ← hmul, Nat.min_eq_left (by omega)]
           rw [← e1, List.take_left]
          rw [this]
          exact happ)
        refine ⟨.slice A (len + news.length) cap, _, _, ?_, p1, p2, ?_⟩
        ·rw [hv] at hex; rw [hex _ (m1 hcap)]; rfl
        ·simp only [VR]
         refine ⟨hb1, by simp [gGrow], ?_⟩
         have : (gGrow g bb g1 cc cap).hd bb (g1 + 1) = some (cc, cap) := by simp [gGrow]
         rw [this]
         exact ⟨by omega, q2, A, rfl, by simpa using hA⟩
       ·obtain ⟨cap', n1, n2, n3⟩ := m2 (by omega)
        have hsz1 : (cs.toList.take (len * i.size)).length = len * i.size := by have hcl : cs.toList.length = cs.size := altl; rw [List.length_take, hcl]; omega
        obtain ⟨p1, p2, p3⟩ := upd_grow (w' := w.drew.alloc (.cells ((cs.toList.take (len * i.size)).toArray ++ us.toArray ++ Builtin.zeroCells zv.cells (cap' - (len + news.length))) e)) (cap := cap') c.hr hbk (rows' := rows.take len ++ news)
         (cs := (cs.toList.take (len * i.size)).toArray ++ us.toArray ++ Builtin.zeroCells zv.cells (cap' - (len + news.length))) (t := e)
         (by rw [Array.size_append, Array.size_append, zc_size, hzs, List.size_toArray, List.size_toArray, hsz1, hmul, ← Nat.add_mul]; congr 1; omega) n2 (by rw [hlen']; exact n1) hr1'
         (by
          rw [hlen']
          have e1 : (cs.toList.take (len * i.size) ++ us).length = (len + news.length) * i.size := by rw [lap, hsz1, hmul]
          have e2 : ((cs.toList.take (len * i.size)).toArray ++ us.toArray ++ Builtin.zeroCells zv.cells (cap' - (len + news.length))).toList = (cs.toList.take (len * i.size) ++ us) ++ (Builtin.zeroCells zv.cells (cap' - (len + news.length))).toList := by simp
          rw [e2, ← e1, List.take_left]
          exact happ)
         (fun k hk => Below.heap_alloc w.drew _ k hk) (alloc_new' w.drew _) (by simp) rfl rfl rfl
        refine ⟨_, _, _, ?_, p1, p2, p3 _ n1⟩
        rw [hv] at hex; rw [hex _ (n3)]; rfl
    ·cases hx
   ·cases hx
  ·cases hx
 ·rename_i e0
  rw [e0] at hv
  simp only [VR, PR] at hv
  split at hx
  ·rename_i hc
   simp only [oiq, piq] at hx
   obtain ⟨rfl, rfl⟩ := hx
   obtain ⟨m1, m2⟩ := run_append_nil' (P := P) (ty := o.type) ht hu hi hzz k3 hul hc.2 hc.1
   rcases Nat.eq_zero_or_pos news.length with hn0 | hn0
   ·have : news = [] := enz hn0
    subst this
    obtain ⟨p1, p2, p3⟩ := push_nil c.hr e i.size
    refine ⟨nilS, w, _, ?_, p1, p2, p3⟩
    rw [hv] at hex; rw [hex _ (m1 rfl)]; rfl
   ·obtain ⟨cap, n1, n2, n3⟩ := m2 hn0
    obtain ⟨p1, p2, p3⟩ := push_row (w' := w.drew.alloc (.cells (us.toArray ++ Builtin.zeroCells zv.cells (cap - news.length)) e)) c.hr (rows := news)
     (cs := us.toArray ++ Builtin.zeroCells zv.cells (cap - news.length)) e i.size cap (0, 0) (fun j _ => by omega) (by rw [Array.size_append, zc_size, hzs, List.size_toArray, hul, ← Nat.add_mul]; congr 1; omega) n2 n1 k2
     (by simp only [Array.toList_append, ← hul]; rw [List.take_left]; exact k1)
     (fun k hk => Below.heap_alloc w.drew _ k hk) (alloc_new' w.drew _) (by simp) rfl rfl rfl
    refine ⟨_, _, _, ?_, p1, p2, p3 _ n1⟩
    rw [hv] at hex; rw [hex _ (n3)]; rfl
  ·cases hx
 ·cases hx
end
theorem replicate_get {α : Type} : ∀ (n : Nat) (l : List α) (j : Nat), 0 < l.length → (List.replicate n l).flatten[j]? = if j < n * l.length then l[j % l.length]? else none
 | 0, l, j, _ => by simp
 | n + 1, l, j, h0 => by
  rw [List.replicate_succ, fcs, List.getElem?_append]
  by_cases hj : j < l.length
  ·rw [if_pos hj, if_pos (by rw [Nat.add_mul]; omega), Nat.mod_eq_of_lt hj]
  ·rw [if_neg hj, replicate_get n l _ h0]
   have e : j % l.length = (j - l.length) % l.length := by
    conv => lhs; rw [show j = (j - l.length) + l.length from by omega]
    rw [Nat.add_mod_right]
   rw [e]
   by_cases h2 : j < (n + 1) * l.length
   ·rw [if_pos h2, if_pos (by rw [Nat.add_mul] at h2; omega)]
   ·rw [if_neg h2, if_neg (by rw [Nat.add_mul] at h2; omega)]
theorem madeCells_list (z : Array Value) (n : Nat) (h0 : 0 < z.size) : (madeCells z (n * z.size)).toList = (List.replicate n z.toList).flatten := by
 apply List.ext_getElem?
 intro j
 have hl : z.toList.length = z.size := altl
 rw [replicate_get n z.toList j (by rw [hl]; exact h0), hl]
 by_cases hj : j < n * z.size
 ·rw [if_pos hj]
  have hm : j % z.size < z.size := Nat.mod_lt _ h0
  simp [madeCells, hj, hm]
 ·rw [if_neg hj]
  simp [madeCells, hj]
theorem foldl_set {off : Nat} : ∀ (vs : List Value) (k : Nat) (cs : Array Value), off + k + vs.length ≤ cs.size →
  ((vs.zipIdx k).foldl (fun (cs : Array Value) (p : Value × Nat) => cs.setIfInBounds (off + p.2) p.1) cs).toList = splice cs.toList (off + k) vs
 | [], k, cs, _ => by simp [splice]
 | v :: vs, k, cs, h => by
  have ih := foldl_set (off := off) vs (k + 1) (cs.setIfInBounds (off + k) v) (by simp at h ⊢; omega)
  simp only [List.zipIdx_cons, List.foldl_cons]
  rw [ih, Array.toList_setIfInBounds]
  have hcl : cs.toList.length = cs.size := altl
  exact splice_cons cs.toList (off + k) v vs (by rw [hcl]; simp at h; omega)
theorem fill_set (vs : Array Value) (off : Nat) (cs : Array Value) (h : off + vs.size ≤ cs.size) :
  (vs.zipIdx.foldl (fun cs (c, j) => cs.setIfInBounds (off + j) c) cs).toList = splice cs.toList off vs.toList := by
 rw [← Array.foldl_toList, Array.toList_zipIdx]
 exact foldl_set (off := off) vs.toList 0 cs (by simpa using h)
section
variable {P : Program} {gl : Nat → Option (List PV)} {a : Act} {f : List AV} {g : G} {h : List AB} {w : World} {o : Oper}
theorem fill_rel (c : Ctx P gl a f g h w) (place : Nat → Option (Nat × Nat)) : ∀ (parts : List (Nat × Operand)) (ps : List (Nat × Nat × Opd)) (xs ys : List AV) (cs : Array Value),
  (List.length ps = parts.length ∧ ∀ (i : Nat) (p : Nat × Operand) (q : Nat × Nat × Opd), parts[i]? = some p → ps[i]? = some q → place p.1 = some (q.1, q.2.1) ∧ q.2.2 = opd p.2) →
  VRc g w xs cs.toList → fillA f gl xs ps = some ys → ∃ cs', Instr.fill place cs (parts.map fun (i, x) => (i, a.eval x)) = some cs' ∧ VRc g w ys cs'.toList ∧ cs'.size = cs.size
 | [], ps, xs, ys, cs, hp, hx, hf => by
  have : ps = [] := enz (by simpa using hp.1)
  subst this
  simp only [fillA, oiq] at hf
  subst hf
  exact ⟨cs, by simp [Instr.fill], hx, rfl⟩
 | (i, x) :: parts, [], _, _, _, hp, _, _ => by simp at hp
 | (i, x) :: parts, (off, size, y) :: ps, xs, ys, cs, hp, hx, hf => by
  obtain ⟨hpl, hpy⟩ := hp.2 0 (i, x) (off, size, y) rfl rfl
  simp only at hpl hpy
  subst hpy
  simp only [fillA] at hf
  split at hf
  ·rename_i us hus
   split at hf
   ·rename_i hc
    obtain ⟨rfl, hle⟩ := hc
    obtain ⟨h1, h2, _⟩ := cellsOf_rel (c.opd x) hus
    have hsz : (a.eval x).cells.size = us.length := by rw [h1.len]; simp
    have hxl : cs.size = xs.length := by rw [hx.1.len]; simp
    have hset := fill_set (a.eval x).cells off cs (by omega)
    have hx' : VRc g w (splice xs off us) ((a.eval x).cells.zipIdx.foldl (fun cs (c, j) => cs.setIfInBounds (off + j) c) cs).toList := by
     rw [hset]
     exact hx.splice off ⟨h1, h2⟩
    obtain ⟨cs', k1, k2, k3⟩ := fill_rel c place parts ps (splice xs off us) ys _ ⟨by simpa using hp.1, fun j p q hj hq => hp.2 (j + 1) p q (by simpa using hj) (by simpa using hq)⟩ hx' hf
    have hsz2 : ((a.eval x).cells.zipIdx.foldl (fun cs (c, j) => cs.setIfInBounds (off + j) c) cs).size = cs.size := by
     rw [← altl, hset, splice_length (by have hcl : cs.toList.length = cs.size := altl; have hcl2 : (a.eval x).cells.toList.length = (a.eval x).cells.size := altl; omega), altl]
    refine ⟨cs', ?_, k2, by rw [k3, hsz2]⟩
    simp only [mcs, Instr.fill, hpl]
    have hcond : ((a.eval x).cells.size ≠ us.length || off + (a.eval x).cells.size > cs.size) = false := by
     simp [hsz]
     omega
    rw [if_neg (by rw [hcond]; simp)]
    exact k1
   ·cases hf
  ·cases hf
theorem zero_rel {z : List Value} (hone : ∀ u ∈ z, u.oneCell' = true) : VRc g w (z.map fun v => AV.p (.val v)) z := by
 refine ⟨?_, hone⟩
 clear hone
 induction z with
 | nil => simp [VRs]
 | cons v z ih => simp only [mcs, VRs]; exact ⟨by simp [VR, PR], ih⟩
theorem zp_rel {v : Value} {s : Nat × TypeId} : VR g w (.p (zp v s)) v := by
 unfold zp
 split
 ·split
  ·simp [VR, PR, nilS]
  ·simp only [VR, PR]; exact ⟨none, 0, rfl, Nat.le_refl _, Nat.zero_le _, .inl rfl⟩
 ·simp [VR, PR]
theorem zps_rel : ∀ {z : List Value} {ss : List (Nat × TypeId)}, (∀ u ∈ z, u.oneCell' = true) → VRc g w ((zps z ss).map AV.p) z
 | [], _, hone => ⟨by simp [zps, VRs], hone⟩
 | v :: z, [], hone => ⟨by simp only [zps, mcs, VRs]; exact ⟨by simp [VR, PR], (zps_rel (fun u hu => hone u (List.mem_cons_of_mem _ hu))).1⟩, hone⟩
 | v :: z, s :: ss, hone => ⟨by simp only [zps, mcs, VRs]; exact ⟨zp_rel, (zps_rel (fun u hu => hone u (List.mem_cons_of_mem _ hu))).1⟩, hone⟩
theorem run_places {fields : Array Field} (hall : fields.toList.all (fun f => (szT P f.type).isSome) = true) :
  (fields.mapM fun f => do pure (f.offset, ← sizeOf f.type) : Sem (Array (Nat × Nat))).run P w = .ok (fields.map fun f => (f.offset, (szT P f.type).getD 0)) w := by
 have : ∀ (fs : List Field), fs.all (fun f => (szT P f.type).isSome) = true → (fs.mapM fun f => do pure (f.offset, ← sizeOf f.type) : Sem (List (Nat × Nat))).run P w = .ok (fs.map fun f => (f.offset, (szT P f.type).getD 0)) w := by
  intro fs
  induction fs with
  | nil => intro _; simp
  | cons f fs ih =>
   intro h
   simp only [List.all_cons, Bool.and_eq_true] at h
   obtain ⟨n, hn⟩ := Option.isSome_iff_exists.1 h.1
   simp only [List.mapM_cons, Sem.run_bind, run_szT hn, Result.andThen_ok, Sem.run_pure, ih h.2, mcs, hn, Option.getD_some]
 obtain ⟨fs⟩ := fields
 have h2 := this fs hall
 rw [Array.mapM_eq_mapM_toList]
 simp only [Sem.run_map]
 rw [h2]
 simp
theorem compParts_spec {fields : Array Field} : ∀ {parts : List (Nat × Operand)} {ps : List (Nat × Nat × Opd)}, compParts P fields parts = some ps →
  ps.length = parts.length ∧ ∀ (i : Nat) (p : Nat × Operand) (q : Nat × Nat × Opd), parts[i]? = some p → ps[i]? = some q → ((fields.map fun f => (f.offset, (szT P f.type).getD 0))[p.1]?) = some (q.1, q.2.1) ∧ q.2.2 = opd p.2
 | [], ps, h => by simp only [compParts, oiq] at h; subst h; simp
 | (i, x) :: r, ps, h => by
  simp only [compParts] at h
  split at h
  ·rename_i fd hf
   split at h
   ·rename_i s l hs hl
    simp only [oiq] at h
    subst h
    obtain ⟨h1, h2⟩ := compParts_spec hl
    refine ⟨by simp [h1], ?_⟩
    intro j p q hj hq
    cases j with
    | zero =>
     simp at hj hq
     subst hj; subst hq
     simp [hf, hs]
    | succ j => exact h2 j p q (by simpa using hj) (by simpa using hq)
   ·cases h
  ·cases h
theorem s_buildSt (c : Ctx P gl a f g h w) {t : TypeId} {parts : Array (Nat × Operand)} {fields : Array Field} {z : List Value} {ps : List (Nat × Nat × Opd)} {cs : List AV} (ho : o.op = .build t parts) (hz : zeroT P t = some z) (ht : P.underlying t = some (.struct fields))
  (hall : fields.toList.all (fun f => (szT P f.type).isSome) = true) (hp : compParts P fields parts.toList = some ps) {ss : List (Nat × TypeId)} (hx : fillA f gl ((zps z ss).map AV.p) ps = some cs) : Fits P o a g w (.agg cs) h := by
 obtain ⟨zv, hzr, hzc, hone⟩ := run_zeroT (w := w) hz
 obtain ⟨cs', k1, k2, _⟩ := fill_rel c (fun i => (fields.map fun f => (f.offset, (szT P f.type).getD 0))[i]?) parts.toList ps _ _ zv.cells (compParts_spec hp) (by rw [hzc]; exact zps_rel hone) hx
 refine fits_same c (x := .agg cs') ?_ (by simp only [VR]; exact ⟨cs', rfl, k2.1⟩)
 have hrun : (Instr.build t (parts.map fun (i, x) => (i, a.eval x))).run P w = .ok (.agg cs') w := by
  unfold Instr.build
  simp only [Sem.run_bind, hzr, Result.andThen_ok, run_underlying ht, run_places hall, Array.toList_map]
  rw [k1]
  simp
 simp only [execOp, ho, Sem.run_bind, hrun, Result.andThen_ok, Sem.run_pure]
theorem GR_mono {g g' : G} {w w' : World} {gl : Nat → Option (List PV)} (he : Ext g w g' w') (hs : ∀ c, g.S c → g.Pr c) (h : GR g w gl) : GR g' w' gl :=
 fun n xs hx => ⟨he.S n (h n xs hx).1, PRs_mono he.S (fun c hc => he.pr c (hs c hc)) n (h n xs hx).1 0 xs (h n xs hx).2.1, let ⟨cs, t, fz, q, r⟩ := (h n xs hx).2.2; ⟨cs, t, fz, (he.pr n (hs n (h n xs hx).1)).trans q, r⟩⟩
theorem s_buildR (c : Ctx P gl a f g h w) {t : TypeId} {parts : Array (Nat × Operand)} {fields : Array Field} {z : List Value} {ps : List (Nat × Nat × Opd)} {cs : List AV} (ho : o.op = .build t parts) (hz : zeroT P t = some z) (ht : P.underlying t = some (.struct fields))
  (hall : fields.toList.all (fun f => (szT P f.type).isSome) = true) (hp : compParts P fields parts.toList = some ps) {ss : List (Nat × TypeId)} (hx : fillA f gl (zeroN (zcs z ss) h.length).1 ps = some cs) : Fits P o a g w (.agg cs) (h ++ (zeroN (zcs z ss) h.length).2) := by
 obtain ⟨zv, hzr, hzc, hone⟩ := run_zeroT (w := w) hz
 obtain ⟨g', hh⟩ := zeroN_rel (w := w) (zcs z ss) c.hr
 rcases hh with ⟨h1, h2, h3⟩ | ⟨s, hm, hm'⟩
 ·rw [zcs_plain] at h3
  have c' : Ctx P gl a f g' (h ++ (zeroN (zcs z ss) h.length).2) w := ⟨GR_mono h1 c.hr.spr c.gr, h2, VRs_mono h1 c.hr.spr _ _ c.fr⟩
  obtain ⟨cs', k1, k2, _⟩ := fill_rel c' (fun i => (fields.map fun f => (f.offset, (szT P f.type).getD 0))[i]?) parts.toList ps _ _ zv.cells (compParts_spec hp) (by rw [hzc]; exact ⟨h3, hone⟩) hx
  refine ⟨.agg cs', w, g', ?_, h1, h2, by simp only [VR]; exact ⟨cs', rfl, k2.1⟩⟩
  have hrun : (Instr.build t (parts.map fun (i, x) => (i, a.eval x))).run P w = .ok (.agg cs') w := by
   unfold Instr.build
   simp only [Sem.run_bind, hzr, Result.andThen_ok, run_underlying ht, run_places hall, Array.toList_map]
   rw [k1]
   simp
  simp only [execOp, ho, Sem.run_bind, hrun, Result.andThen_ok, Sem.run_pure, fin]
 ·exact absurd hm (zcs_no s hm' z ss)
theorem s_buildArr (c : Ctx P gl a f g h w) {t e : TypeId} {parts : Array (Nat × Operand)} {n s : Nat} {z : List Value} {cs : List AV} (ho : o.op = .build t parts) (hz : zeroT P t = some z) (ht : P.underlying t = some (.array n e)) (hs : szT P e = some s)
  (hx : fillA f gl (z.map fun v => AV.p (.val v)) (parts.toList.map fun (i, x) => (i * s, s, opd x)) = some cs) : Fits P o a g w (.agg cs) h := by
 obtain ⟨zv, hzr, hzc, hone⟩ := run_zeroT (w := w) hz
 obtain ⟨cs', k1, k2, _⟩ := fill_rel c (fun i => some (i * s, s)) parts.toList _ _ _ zv.cells ⟨by simp, fun i p q hi hq => by simp [hi] at hq; subst hq; simp⟩ (by rw [hzc]; exact zero_rel hone) hx
 refine fits_same c (x := .agg cs') ?_ (by simp only [VR]; exact ⟨cs', rfl, k2.1⟩)
 have hrun : (Instr.build t (parts.map fun (i, x) => (i, a.eval x))).run P w = .ok (.agg cs') w := by
  unfold Instr.build
  simp only [Sem.run_bind, hzr, Result.andThen_ok, run_underlying ht, run_szT hs, Array.toList_map]
  rw [k1]
  simp
 simp only [execOp, ho, Sem.run_bind, hrun, Result.andThen_ok, Sem.run_pure]
theorem fillR_A : ∀ {size : Nat} {rows rows' : List (List AV)} {ps : List (Nat × Opd)}, (∀ r ∈ rows, r.length = size) → fillR f gl size rows ps = some rows' →
  fillA f gl rows.flatten (ps.map fun (i, x) => (i * size, size, x)) = some rows'.flatten ∧ (∀ r ∈ rows', r.length = size) ∧ rows'.length = rows.length
 | size, rows, rows', [], hr, h => by simp only [fillR, oiq] at h; subst h; exact ⟨by simp [fillA], hr, rfl⟩
 | size, rows, rows', (i, x) :: ps, hr, h => by
  simp only [fillR] at h
  split at h
  ·rename_i vs hvs
   split at h
   ·rename_i hc
    obtain ⟨rfl, hi⟩ := hc
    have hr' : ∀ r ∈ rows.set i vs, r.length = vs.length := rows_set_len hr rfl
    obtain ⟨k1, k2, k3⟩ := fillR_A hr' h
    refine ⟨?_, k2, by rw [k3]; simp⟩
    have hlen := flatten_len hr
    have hle : (i + 1) * vs.length ≤ rows.length * vs.length := Nat.mul_le_mul_right _ hi
    rw [Nat.add_mul, Nat.one_mul] at hle
    have hri : rows[i]? = some rows[i] := List.getElem?_eq_getElem hi
    have hril : rows[i].length = vs.length := hr _ (List.getElem_mem hi)
    have e1 := flatten_set (off := 0) (cs := vs) hr hri (by omega)
    have e2 : splice rows[i] 0 vs = vs := by simp [splice, ← hril]
    rw [e2, Nat.add_zero] at e1
    simp only [mcs, fillA, hvs]
    rw [if_pos ⟨trivial, by rw [hlen]; exact hle⟩, ← e1]
    exact k1
   ·cases h
  ·cases h
theorem pvs_map : ∀ (xs : List AV) (ys : List PV), pvs xs = some ys → xs = ys.map .p
 | [], ys, h => by simp only [pvs, oiq] at h; subst h; rfl
 | x :: xs, ys, h => by
  cases x <;> simp only [pvs] at h <;> try cases h
  obtain ⟨zs, h1, rfl⟩ := mei.1 h
  rw [pvs_map xs zs h1]; rfl
theorem prs_of {g : G} {w w' : World} {S : Nat → Prop} (hS : ∀ c, g.S c → S c) (hw : ∀ c, g.S c → w'.heap[c]? = w.heap[c]?) {c : Nat} : ∀ (r : List PV) (vs : List Value) (off : Nat), VRc g w (r.map .p) vs → (∀ j u, vs[j]? = some u → w'.cell? ⟨c, off + j, none⟩ = some u) → PRs S w' c off r
 | [], _, _, _, _ => by simp [PRs]
 | x :: r, vs, off, hv, hc => by
  cases vs with
  | nil => simp [VRc, VRs] at hv
  | cons v vs =>
   simp only [VRc, mcs, VRs, VR] at hv
   simp only [PRs]
   refine ⟨⟨v, by have := hc 0 v rfl; simpa using this, hv.2 v (by simp), PR_mono hS hw x v hv.1.1⟩, prs_of hS hw r vs (off + 1) ⟨hv.1.2, fun u hu => hv.2 u (by simp [hu])⟩ (fun j u hj => ?_)⟩
   have := hc (j + 1) u (by simpa using hj)
   rwa [show off + 1 + j = off + (j + 1) from by omega]
theorem prr_of {g : G} {w w' : World} {S : Nat → Prop} (hS : ∀ c, g.S c → S c) (hw : ∀ c, g.S c → w'.heap[c]? = w.heap[c]?) {c size : Nat} : ∀ (rows : List (List AV)) (ys : List (List PV)) (vs : List Value) (off : Nat), pvr rows = some ys → (∀ r ∈ rows, r.length = size) →
  VRc g w rows.flatten vs → (∀ j u, vs[j]? = some u → w'.cell? ⟨c, off + j, none⟩ = some u) → PRr S w' c off size ys ∧ ys.length = rows.length
 | [], ys, vs, off, hm, _, _, _ => by simp only [pvr, oiq] at hm; subst hm; simp [PRr]
 | r :: rows, ys, vs, off, hm, hr, hv, hc => by
  simp only [pvr, bei, mei] at hm
  obtain ⟨y, h1, ys', h2, rfl⟩ := hm
  have hrl := hr r (by simp)
  have hy := pvs_map r y h1
  have hyl : y.length = size := by rw [← hrl, hy, lmp]
  have htk : (r :: rows).flatten.take size = r := by rw [fcs, ← hrl, List.take_left]
  have hdr : (r :: rows).flatten.drop size = rows.flatten := by rw [fcs, ← hrl, List.drop_left]
  have e1 : VRc g w r (vs.take size) := ⟨by have := hv.1.take size; rwa [htk] at this, fun u hu => hv.2 u (List.mem_of_mem_take hu)⟩
  have e2 : VRc g w rows.flatten (vs.drop size) := ⟨by have := hv.1.drop size; rwa [hdr] at this, fun u hu => hv.2 u (List.mem_of_mem_drop hu)⟩
  rw [hy] at e1
  obtain ⟨l1, l2⟩ := prr_of hS hw rows ys' (vs.drop size) (off + size) h2 (fun q hq => hr q (by simp [hq])) e2 (fun j u hj => by
   rw [List.getElem?_drop] at hj
   have := hc (size + j) u hj
   rwa [show off + size + j = off + (size + j) from by omega])
  simp only [PRr]
  exact ⟨⟨hyl, prs_of hS hw y (vs.take size) off e1 (fun j u hj => hc j u (by
   rw [List.getElem?_take] at hj
   split at hj
   ·exact hj
   ·cases hj)), l1⟩, by simp [l2]⟩
theorem s_buildS (c : Ctx P gl a f g h w) {t e : TypeId} {parts : Array (Nat × Operand)} {n s : Nat} {z : List Value} {rows : List (List AV)} (ho : o.op = .buildSlice t n parts) (hz : zeroT P e = some z) (ht : P.underlying t = some (.slice e)) (hs : szT P e = some s)
  (h0 : 0 < s) (hzl : z.length = s) (hb : n * s ≤ 16777216) (hx : fillR f gl s (List.replicate n (z.map fun v => AV.p (.val v))) (parts.toList.map fun (i, x) => (i, opd x)) = some rows) :
  Fits P o a g w (.sl h.length 0 s 0 n) (h ++ [.row e s 0 rows]) := by
 obtain ⟨zv, hzr, hzc, hone⟩ := run_zeroT (w := w) hz
 have hzs : zv.cells.size = s := by rw [← hzl, ← hzc]; simp
 have hrl : ∀ r ∈ List.replicate n (z.map fun v => AV.p (.val v)), r.length = s := by intro r hr; rw [List.eq_of_mem_replicate hr]; simpa using hzl
 obtain ⟨q1, q2, q3⟩ := fillR_A hrl hx
 have hmade : VRc g w (List.replicate n (z.map fun v => AV.p (.val v))).flatten (madeCells zv.cells (n * s)).toList := by
  have := madeCells_list zv.cells n (by omega)
  rw [hzs] at this
  rw [this, hzc]
  have hz1 := zero_rel (g := g) (w := w) hone
  clear hx q1 q2 q3 hrl this hb ho
  induction n with
  | zero => simp [VRc, VRs]
  | succ n ih =>
   simp only [List.replicate_succ, fcs]
   exact ⟨hz1.1.append ih.1, fun v hv => (List.mem_append.1 hv).elim (hz1.2 v) (ih.2 v)⟩
 obtain ⟨cs', k1, k2, k3⟩ := fill_rel c (fun i => some (i * s, s)) parts.toList _ _ _ (madeCells zv.cells (n * s)) ⟨by simp, fun i p q hi hq => by simp [hi] at hq; subst hq; simp⟩ hmade q1
 have hn : rows.length = n := by rw [q3]; simp
 have hsz : cs'.size = n * s := by rw [k3, size_madeCells]
 obtain ⟨p1, p2, p3⟩ := push_row (w' := w.alloc (.cells cs' e)) c.hr (rows := rows) (cs := cs') e s n (0, 0) (fun j _ => by omega) hsz (by simp only [maxLen]; have : n * 1 ≤ n * s := Nat.mul_le_mul_left _ h0; omega) (by omega) q2
  (by rw [hn, ← hsz, ← altl, List.take_length]; exact k2) (fun k hk => Below.heap_alloc w _ k hk) (alloc_new' w _) (by simp) rfl rfl rfl
 refine ⟨.slice (some ⟨w.heap.size, 0, none⟩) n n, _, _, ?_, p1, p2, p3 n (Nat.le_refl _)⟩
 have hrun : (Instr.buildSlice t n (parts.map fun (i, x) => (i, a.eval x))).run P w = .ok (.slice (some ⟨w.heap.size, 0, none⟩) n n) (w.alloc (.cells cs' e)) := by
  unfold Instr.buildSlice
  have hb' : ¬ (n * s > 2 ^ 24) := by omega
  simp only [Sem.run_bind, run_underlying ht, Result.andThen_ok, run_szT hs, if_neg hb', Array.toList_map]
  by_cases hn0 : n * s = 0
  ·simp only [hn0, if_true, Sem.run_pure, Result.andThen_ok]
   have e1 : madeCells zv.cells (n * s) = #[] := Array.eq_empty_of_size_eq_zero (by rw [size_madeCells, hn0])
   rw [e1] at k1
   have e2 : (Array.range 0).map (fun x => (#[] : Array Value)[x % (#[] : Array Value).size]!) = #[] := by simp
   simp only [pure_bind, e2]
   rw [k1]
   simp [newRow]
  ·simp only [if_neg hn0, Sem.run_bind, hzr, Result.andThen_ok, Sem.run_pure]
   have e1 : (Array.range (n * s)).map (fun x => zv.cells[x % zv.cells.size]!) = madeCells zv.cells (n * s) := rfl
   rw [e1, k1]
   simp [newRow]
 rw [show (execOp a.eval o).run P w = .ok (.value (.slice (some ⟨w.heap.size, 0, none⟩) n n)) (w.alloc (.cells cs' e)) from by simp only [execOp, ho, Sem.run_bind, hrun, Result.andThen_ok, Sem.run_pure]]
 rfl
theorem s_buildL (c : Ctx P gl a f g h w) {t e : TypeId} {parts : Array (Nat × Operand)} {n s : Nat} {z : List Value} {rows : List (List AV)} {ys : List (List PV)} (hpv : pvr rows = some ys) (ho : o.op = .buildSlice t n parts) (hz : zeroT P e = some z) (ht : P.underlying t = some (.slice e)) (hs : szT P e = some s)
  (h0 : 0 < s) (hzl : z.length = s) (hb : n * s ≤ 16777216) (hx : fillR f gl s (List.replicate n (z.map fun v => AV.p (.val v))) (parts.toList.map fun (i, x) => (i, opd x)) = some rows) :
  Fits P o a g w (.p (.lst s ys)) h := by
 obtain ⟨zv, hzr, hzc, hone⟩ := run_zeroT (w := w) hz
 have hzs : zv.cells.size = s := by rw [← hzl, ← hzc]; simp
 have hrl : ∀ r ∈ List.replicate n (z.map fun v => AV.p (.val v)), r.length = s := by intro r hr; rw [List.eq_of_mem_replicate hr]; simpa using hzl
 obtain ⟨q1, q2, q3⟩ := fillR_A hrl hx
 have hmade : VRc g w (List.replicate n (z.map fun v => AV.p (.val v))).flatten (madeCells zv.cells (n * s)).toList := by
  have := madeCells_list zv.cells n (by omega)
  rw [hzs] at this
  rw [this, hzc]
  have hz1 := zero_rel (g := g) (w := w) hone
  clear hx q1 q2 q3 hrl this hb ho
  induction n with
  | zero => simp [VRc, VRs]
  | succ n ih =>
   simp only [List.replicate_succ, fcs]
   exact ⟨hz1.1.append ih.1, fun v hv => (List.mem_append.1 hv).elim (hz1.2 v) (ih.2 v)⟩
 obtain ⟨cs', k1, k2, k3⟩ := fill_rel c (fun i => some (i * s, s)) parts.toList _ _ _ (madeCells zv.cells (n * s)) ⟨by simp, fun i p q hi hq => by simp [hi] at hq; subst hq; simp⟩ hmade q1
 have hn : rows.length = n := by rw [q3]; simp
 have hsz : cs'.size = n * s := by rw [k3, size_madeCells]
 obtain ⟨wA, hwA⟩ : ∃ wA, wA = w.alloc (.cells cs' e) := ⟨_, rfl⟩
 have hr := c.hr
 have hszA : wA.heap.size = w.heap.size + 1 := by rw [hwA]; simp
 have holdA : ∀ k, k < w.heap.size → wA.heap[k]? = w.heap[k]? := fun k hk => by rw [hwA]; exact Below.heap_alloc w _ k hk
 have hnewA : wA.heap[w.heap.size]? = some (.cells cs' e) := by rw [hwA]; exact alloc_new' w _
 have eA : Ext g w { g with S := fun k => g.S k ∨ k = w.heap.size, Pr := fun k => g.Pr k ∨ k = w.heap.size } wA :=
  ⟨fun _ h => .inl h, fun _ h => .inl h, fun k hk => holdA k (hr.prs k hk), Nat.le_refl _, fun _ h => h, fun _ _ => rfl, fun _ _ => Nat.le_refl _, fun _ _ _ _ => rfl, by omega, by rw [hwA]; rfl, by rw [hwA]; rfl, by rw [hwA]; rfl,
    fun k hk => hk.imp_right fun (e : k = w.heap.size) hp => by have := hr.prs k hp; omega, rfl, fun _ => (by rw [hwA]; first | exact Nat.le_refl _ | exact Nat.le_succ _)⟩
 have hcidA : ∀ b x, cid { g with S := fun k => g.S k ∨ k = w.heap.size, Pr := fun k => g.Pr k ∨ k = w.heap.size } b x = cid g b x := fun b x => by cases x <;> rfl
 have hrA : HR { g with S := fun k => g.S k ∨ k = w.heap.size, Pr := fun k => g.Pr k ∨ k = w.heap.size } h wA := by
  refine ⟨hr.n, fun b x hb => BR_mono hr eA hb rfl (fun k hk => holdA k (cid_lt hr hb hk)), ?_, ?_, fun k hS => hS.imp_left (hr.spr k), ?_, hr.ho⟩
  ·intro b b' x x' k k1 k2 k3 k4
   rw [hcidA] at k3 k4
   exact hr.dis b b' x x' k k1 k2 k3 k4
  ·intro b x k k1 k2
   rw [hcidA] at k2
   rintro (k3 | k3)
   ·exact hr.own b x k k1 k2 k3
   ·have := cid_lt hr k1 k2; omega
  ·rintro k (q | q)
   ·have := hr.prs k q; omega
   ·omega
 have hcell : ∀ j u, cs'.toList[j]? = some u → wA.cell? ⟨w.heap.size, 0 + j, none⟩ = some u := by
  intro j u hj
  simp only [World.cell?, hnewA]
  simpa using hj
 obtain ⟨pr, pl⟩ := prr_of (S := fun k => g.S k ∨ k = w.heap.size) (fun k hk => .inl hk) (fun k hk => holdA k (hr.prs k (hr.spr k hk))) rows ys cs'.toList 0 hpv q2 k2 hcell
 have hnn : n ≤ maxLen := by simp only [maxLen]; have : n * 1 ≤ n * s := Nat.mul_le_mul_left _ h0; omega
 refine ⟨.slice (some ⟨w.heap.size, 0, none⟩) n n, wA, _, ?_, eA, hrA, ?_⟩
 rotate_left
 ·simp only [VR, PR]
  exact ⟨some ⟨w.heap.size, 0, none⟩, n, by rw [pl, hn], by omega, hnn, .inr ⟨w.heap.size, 0, rfl, .inr rfl, pr⟩⟩
 subst hwA
 have hrun : (Instr.buildSlice t n (parts.map fun (i, x) => (i, a.eval x))).run P w = .ok (.slice (some ⟨w.heap.size, 0, none⟩) n n) (w.alloc (.cells cs' e)) := by
  unfold Instr.buildSlice
  have hb' : ¬ (n * s > 2 ^ 24) := by omega
  simp only [Sem.run_bind, run_underlying ht, Result.andThen_ok, run_szT hs, if_neg hb', Array.toList_map]
  by_cases hn0 : n * s = 0
  ·simp only [hn0, if_true, Sem.run_pure, Result.andThen_ok]
   have e1 : madeCells zv.cells (n * s) = #[] := Array.eq_empty_of_size_eq_zero (by rw [size_madeCells, hn0])
   rw [e1] at k1
   have e2 : (Array.range 0).map (fun x => (#[] : Array Value)[x % (#[] : Array Value).size]!) = #[] := by simp
   simp only [pure_bind, e2]
   rw [k1]
   simp [newRow]
  ·simp only [if_neg hn0, Sem.run_bind, hzr, Result.andThen_ok, Sem.run_pure]
   have e1 : (Array.range (n * s)).map (fun x => zv.cells[x % zv.cells.size]!) = madeCells zv.cells (n * s) := rfl
   rw [e1, k1]
   simp [newRow]
 rw [show (execOp a.eval o).run P w = .ok (.value (.slice (some ⟨w.heap.size, 0, none⟩) n n)) (w.alloc (.cells cs' e)) from by simp only [execOp, ho, Sem.run_bind, hrun, Result.andThen_ok, Sem.run_pure]]
 rfl
theorem s_boxL (c : Ctx P gl a f g h w) {t : TypeId} {x : Operand} {cs : List AV} {ys : List PV} (hpv : pvs cs = some ys) (ho : o.op = .box t x) (hx : cellsOf ((opd x).ev f gl) = some cs) :
  Fits P o a g w (.ro ys) h := by
 obtain ⟨q1, q2, _⟩ := cellsOf_rel (c.opd x) hx
 have hy := pvs_map cs ys hpv
 obtain ⟨wA, hwA⟩ : ∃ wA, wA = w.alloc (.cells (a.eval x).cells t) := ⟨_, rfl⟩
 have hr := c.hr
 have hszA : wA.heap.size = w.heap.size + 1 := by rw [hwA]; simp
 have holdA : ∀ k, k < w.heap.size → wA.heap[k]? = w.heap[k]? := fun k hk => by rw [hwA]; exact Below.heap_alloc w _ k hk
 have hnewA : wA.heap[w.heap.size]? = some (.cells (a.eval x).cells t) := by rw [hwA]; exact alloc_new' w _
 have eA : Ext g w { g with S := fun k => g.S k ∨ k = w.heap.size, Pr := fun k => g.Pr k ∨ k = w.heap.size } wA :=
  ⟨fun _ h => .inl h, fun _ h => .inl h, fun k hk => holdA k (hr.prs k hk), Nat.le_refl _, fun _ h => h, fun _ _ => rfl, fun _ _ => Nat.le_refl _, fun _ _ _ _ => rfl, by omega, by rw [hwA]; rfl, by rw [hwA]; rfl, by rw [hwA]; rfl,
    fun k hk => hk.imp_right fun (e : k = w.heap.size) hp => by have := hr.prs k hp; omega, rfl, fun _ => (by rw [hwA]; first | exact Nat.le_refl _ | exact Nat.le_succ _)⟩
 have hcidA : ∀ b x, cid { g with S := fun k => g.S k ∨ k = w.heap.size, Pr := fun k => g.Pr k ∨ k = w.heap.size } b x = cid g b x := fun b x => by cases x <;> rfl
 have hrA : HR { g with S := fun k => g.S k ∨ k = w.heap.size, Pr := fun k => g.Pr k ∨ k = w.heap.size } h wA := by
  refine ⟨hr.n, fun b x hb => BR_mono hr eA hb rfl (fun k hk => holdA k (cid_lt hr hb hk)), ?_, ?_, fun k hS => hS.imp_left (hr.spr k), ?_, hr.ho⟩
  ·intro b b' x x' k k1 k2 k3 k4
   rw [hcidA] at k3 k4
   exact hr.dis b b' x x' k k1 k2 k3 k4
  ·intro b x k k1 k2
   rw [hcidA] at k2
   rintro (k3 | k3)
   ·exact hr.own b x k k1 k2 k3
   ·have := cid_lt hr k1 k2; omega
  ·rintro k (q | q)
   ·have := hr.prs k q; omega
   ·omega
 have hcell : ∀ j u, (a.eval x).cells.toList[j]? = some u → wA.cell? ⟨w.heap.size, 0 + j, none⟩ = some u := by
  intro j u hj
  simp only [World.cell?, hnewA]
  simpa using hj
 have pr := prs_of (S := fun k => g.S k ∨ k = w.heap.size) (w' := wA) (fun k hk => .inl hk) (fun k hk => holdA k (hr.prs k (hr.spr k hk))) ys _ 0 (by rw [← hy]; exact ⟨q1, q2⟩) hcell
 refine ⟨.pointer (some ⟨w.heap.size, 0, none⟩), wA, _, ?_, eA, hrA, ?_⟩
 rotate_left
 ·simp only [VR]
  exact ⟨w.heap.size, 0, rfl, .inr rfl, pr⟩
 subst hwA
 simp [execOp, ho, Instr.box, newVar, newRow, fin]
theorem s_makeS (c : Ctx P gl a f g h w) {t e : TypeId} {x y : Operand} {s b : Nat} {l k : Int} {z : List Value} (ho : o.op = .makeSlice t x y) (hz : zeroT P e = some z) (ht : P.underlying t = some (.slice e)) (hs : szT P e = some s) (hby : byT P e = some b)
  (h0 : 0 < s) (hzl : z.length = s) (hx : idx ((opd x).ev f gl) = some l) (hy : idx ((opd y).ev f gl) = some k) (hc : 0 ≤ l ∧ l = k ∧ k * b ≤ limit47 ∧ k ≤ limit47) :
  Fits P o a g w (.sl h.length 0 s 0 l.toNat) (h ++ [.row e s 0 (List.replicate l.toNat (z.map fun v => AV.p (.val v)))]) := by
 obtain ⟨h1, rfl, h3, h4⟩ := hc
 obtain ⟨k1, hv1⟩ := idx_of (c.opd x) hx
 obtain ⟨k2, hv2⟩ := idx_of (c.opd y) hy
 obtain ⟨i, zv, hi, hzz, rfl, rfl, hzc⟩ := info_of hs hby hz
 obtain ⟨_, _, _, hone⟩ := run_zeroT (w := w) hz
 have hzs : zv.cells.size = i.size := by rw [← hzl, ← hzc]; simp
 unfold limit47 at h3 h4
 have hcomm : (i.bytes : Int) * l = l * i.bytes := Int.mul_comm _ _
 have hrun := run_make (P := P) w t e i zv ht hi hzz k1 k2 l l h1 (Int.le_refl _) (by omega) (by omega)
 have hl : (List.replicate l.toNat (z.map fun v => AV.p (.val v))).length = l.toNat := by simp
 have hsz : (madeCells zv.cells (l.toNat * i.size)).size = l.toNat * i.size := size_madeCells _ _
 have hmade : VRc g w (List.replicate l.toNat (z.map fun v => AV.p (.val v))).flatten (madeCells zv.cells (l.toNat * i.size)).toList := by
  have := madeCells_list zv.cells l.toNat (by omega)
  rw [hzs] at this
  rw [this, hzc]
  have hz1 := zero_rel (g := g) (w := w) hone
  generalize l.toNat = n
  induction n with
  | zero => simp [VRc, VRs]
  | succ n ih =>
   simp only [List.replicate_succ, fcs]
   exact ⟨hz1.1.append ih.1, fun v hv => (List.mem_append.1 hv).elim (hz1.2 v) (ih.2 v)⟩
 obtain ⟨p1, p2, p3⟩ := push_row (w' := w.alloc (.cells (madeCells zv.cells (l.toNat * i.size)) e)) c.hr (rows := List.replicate l.toNat (z.map fun v => AV.p (.val v))) (cs := madeCells zv.cells (l.toNat * i.size)) e i.size l.toNat (0, 0)
  (fun j _ => by omega) hsz (by simp only [maxLen]; omega) (by omega) (by intro r hr; rw [List.eq_of_mem_replicate hr]; simpa using hzl)
  (by rw [hl, List.take_of_length_le (by rw [altl, hsz]; exact Nat.le_refl _)]; exact hmade) (fun k hk => Below.heap_alloc w _ k hk) (alloc_new' w _) (by simp) rfl rfl rfl
 refine ⟨.slice (some ⟨w.heap.size, 0, none⟩) l.toNat l.toNat, _, _, ?_, p1, p2, p3 _ (Nat.le_refl _)⟩
 rw [show (execOp a.eval o).run P w = .ok (.value (.slice (some ⟨w.heap.size, 0, none⟩) l.toNat l.toNat)) (w.alloc (.cells (madeCells zv.cells (l.toNat * i.size)) e)) from by
  simp only [execOp, ho, Sem.run_bind, hv1, hv2, hrun, Result.andThen_ok, Sem.run_pure]]
 rfl
theorem bytesOf_spec : ∀ {rows : List (List AV)} {l : List UInt8} {us : List Value}, bytesOf rows = some l → VRs g w rows.flatten us → ∃ ns : List Int, us = ns.map (Value.int .u8) ∧ l = ns.map (fun n => UInt8.ofNat n.toNat)
 | [], l, us, h, hr => by
  simp only [bytesOf, oiq] at h
  subst h
  cases us with
  | nil => exact ⟨[], rfl, rfl⟩
  | cons _ _ => simp [VRs] at hr
 | r :: rs, l, us, h, hr => by
  unfold bytesOf at h
  split at h
  ·rename_i e; cases e
  ·rename_i n rs' e
   injection e with e1 e2
   subst e1; subst e2
   cases hb : bytesOf rs with
   | none => simp [hb] at h
   | some l' =>
    simp only [hb, msm, oiq] at h
    subst h
    simp only [fcs, List.cons_append, List.nil_append] at hr
    cases us with
    | nil => simp [VRs] at hr
    | cons u us =>
     simp only [VRs] at hr
     obtain ⟨ns, rfl, rfl⟩ := bytesOf_spec hb hr.2
     have := val_of hr.1 rfl
     subst this
     exact ⟨n :: ns, rfl, rfl⟩
  ·cases h
theorem foldl_push : ∀ (ns : List Int) (r : ByteArray), ns.foldl (fun r n => r.push (UInt8.ofNat n.toNat)) r = ⟨r.data ++ (ns.map (fun n => UInt8.ofNat n.toNat)).toArray⟩
 | [], r => by simp
 | n :: ns, r => by
  simp only [List.foldl_cons]
  rw [foldl_push ns]
  simp [ByteArray.push]
theorem s_convB (c : Ctx P gl a f g h w) {src dst e : TypeId} {x : Operand} {rows : List (List AV)} {l : List UInt8} (ho : o.op = .convert src dst x) (hs : P.underlying src = some (.slice e)) (hd : P.underlying dst = some .string) (he : P.underlying e = some (.int .u8))
  (hx : rowsOf h 1 ((opd x).ev f gl) = some rows) (hl : bytesOf rows = some l) (hns : ∀ s, (opd x).ev f gl ≠ vs s) : Fits P o a g w (vs ⟨l.toArray⟩) h := by
 obtain ⟨us, k1, k2, k3⟩ := rowsOf_rel c hx
 obtain ⟨ns, rfl, rfl⟩ := bytesOf_spec hl k1.1
 have hul : (ns.map (Value.int .u8)).length = rows.length * 1 := by rw [← k1.1.len]; exact flatten_len k2
 refine fits_same c (x := .string ⟨(ns.map (fun n => UInt8.ofNat n.toNat)).toArray⟩) ?_ (by simp [VR, PR])
 have hrun : (convert src dst (a.eval x)).run P w = .ok (.string ⟨(ns.map (fun n => UInt8.ofNat n.toNat)).toArray⟩) w := by
  rcases k3 with ⟨A, cc, hv, hA⟩ | ⟨s, hv, _⟩
  ·rw [hv, run_convert_bytes_string w src dst e A _ cc hs he hd]
   cases A with
   | none =>
    have hn0 : rows.length = 0 := hA.resolve_right (by rintro ⟨b, off, h, _⟩; cases h)
    have : ns = [] := enz (by simpa [hn0] using hul)
    subst this
    simp [Conv.bytesToString]
    rfl
   | some ad =>
    have hcl : (loadCells ad rows.length).run P w = .ok (ns.map (Value.int .u8)).toArray w := by
     rcases hA with hn0 | ⟨b, off, hA, hcell⟩
     ·have : ns = [] := enz (by simpa [hn0] using hul)
      subst this
      rw [hn0]
      simp [loadCells, loadCellsFrom]
     ·simp only [oiq] at hA
      subst hA
      have := run_cells (P := P) hcell
      rw [hul, Nat.mul_one] at this
      exact this
    rw [run_bytesToString w ad rows.length cc ns hcl, foldl_push]
    simp
  ·exfalso
   have h1 := c.opd x
   rw [hv] at h1
   unfold rowsOf at hx
   split at hx
   ·rename_i e0
    rw [e0] at h1
    simp only [VR] at h1
    obtain ⟨_, _, h1⟩ := h1
    unfold SlR at h1
    split at h1
    ·cases h1.1
    ·obtain ⟨_, _, A, h1, _⟩ := h1; cases h1
   ·rename_i e0; rw [e0] at h1; simp only [VR, PR] at h1; obtain ⟨A, cc, h1, _⟩ := h1; cases h1
   ·rename_i e0; rw [e0] at h1; simp only [VR, PR] at h1; cases h1
   ·rename_i e0; rw [e0] at h1; simp only [VR, PR] at h1; cases h1
   ·rename_i s' e0; exact hns s' e0
   ·cases hx
 simp only [execOp, ho, Sem.run_bind, hrun, Result.andThen_ok, Sem.run_pure]
theorem s_mkB (c : Ctx P gl a f g h w) {src dst e : TypeId} {x : Operand} {s : ByteArray} (ho : o.op = .convert src dst x) (hs : P.underlying src = some .string) (hd : P.underlying dst = some (.slice e)) (he : P.underlying e = some (.int .u8))
  (hx : (opd x).ev f gl = vs s) (hl : s.size ≤ limit47) : Fits P o a g w (.sl h.length 0 1 0 s.size) (h ++ [.row e 1 0 (s.data.toList.map fun b => [vi .u8 b.toNat])]) := by
 have hv := val_of (c.opd x) hx
 have hrun := run_bytes_of_string (P := P) w src dst e s hs hd he
 unfold limit47 at hl
 have hge := grownCap_ge w s.size 0 e
 have hle := grownCap_le_maxLen w s.size 0 e (by simp only [maxLen]; omega)
 have hdl : s.data.toList.length = s.size := by rw [altl]; rfl
 have hbsz : (bytesRow s (grownCap w s.size 0 e)).size = grownCap w s.size 0 e := by
  have : (s.data.map fun b => Value.int .u8 b.toNat).size = s.size := by rw [Array.size_map]; rfl
  simp only [bytesRow, Array.size_append, this, Array.size_replicate]
  omega
 obtain ⟨p1, p2, p3⟩ := push_row (w' := w.drew.alloc (.cells (bytesRow s (grownCap w s.size 0 e)) e ((bytesRow s (grownCap w s.size 0 e)).size, (bytesRow s (grownCap w s.size 0 e)).size + 1))) c.hr
  (rows := s.data.toList.map fun b => [vi .u8 b.toNat]) (cs := bytesRow s (grownCap w s.size 0 e)) e 1 (grownCap w s.size 0 e) _ (fun j hj => by simp only; omega) (by rw [hbsz]; omega) hle (by rw [lmp, hdl]; exact hge)
  (by simp) (by
   rw [lmp, hdl, Nat.mul_one]
   have e1 : (bytesRow s (grownCap w s.size 0 e)).toList.take s.size = s.data.toList.map fun b => Value.int .u8 b.toNat := by
    simp only [bytesRow, Array.toList_append, Array.toList_map]
    rw [← hdl, ← lmp (f := fun b : UInt8 => Value.int .u8 b.toNat), List.take_left]
   rw [e1]
   generalize s.data.toList = l
   refine ⟨?_, by simp [Value.oneCell']⟩
   induction l with
   | nil => simp [VRs]
   | cons b l ih => simp only [mcs, fcs, List.cons_append, List.nil_append, VRs]; exact ⟨by simp [VR, PR], ih⟩)
  (fun k hk => Below.heap_alloc w.drew _ k hk) (alloc_new' w.drew _) (by simp) rfl rfl rfl
 refine ⟨_, _, _, ?_, p1, p2, p3 _ hge⟩
 rw [show (execOp a.eval o).run P w = _ from by simp only [execOp, ho, Sem.run_bind, hv, hrun, Result.andThen_ok, Sem.run_pure]; rfl]
 rfl
end
theorem find_ixb {fn : Func} (h : fn.name = "internal/bytealg.IndexByteString") : Extern.find fn = some Extern.BytealgIndexByte.indexByte := by
 unfold Extern.find
 rw [h]
 have h1 : Extern.allGenericRows.lookup "internal/bytealg.IndexByteString" = none := by kernel_rfl
 have h2 : Extern.allTypedRows.lookup "internal/bytealg.IndexByteString" = none := by kernel_rfl
 have h3 : Extern.allRows.lookup "internal/bytealg.IndexByteString" = some Extern.BytealgIndexByte.indexByte := by kernel_rfl
 simp only [h1, h2, h3]
 rfl
theorem find_cnb {fn : Func} (h : fn.name = "internal/bytealg.CountString") : Extern.find fn = some Extern.BytealgCount.count := by
 unfold Extern.find
 rw [h]
 have h1 : Extern.allGenericRows.lookup "internal/bytealg.CountString" = none := by kernel_rfl
 have h2 : Extern.allTypedRows.lookup "internal/bytealg.CountString" = none := by kernel_rfl
 have h3 : Extern.allRows.lookup "internal/bytealg.CountString" = some Extern.BytealgCount.count := by kernel_rfl
 simp only [h1, h2, h3]
 rfl
theorem find_nes {fn : Func} (h : fn.name = "internal/abi.NoEscape") : Extern.find fn = some Extern.AbiNoEscape.same := by
 unfold Extern.find
 rw [h]
 have h1 : Extern.allGenericRows.lookup "internal/abi.NoEscape" = none := by kernel_rfl
 have h2 : Extern.allTypedRows.lookup "internal/abi.NoEscape" = none := by kernel_rfl
 have h3 : Extern.allRows.lookup "internal/abi.NoEscape" = some Extern.AbiNoEscape.same := by kernel_rfl
 simp only [h1, h2, h3]
 rfl
theorem next_ixb {fn : Func} (h : fn.name = "internal/bytealg.IndexByteString") (k : fn.origin = "") : Extern.findNext fn = none := by
 unfold Extern.findNext
 rw [h, k]
 have h1 : Extern.allNextRows.lookup "internal/bytealg.IndexByteString" = none := by kernel_rfl
 have h2 : Extern.allNextRows.lookup "" = none := by kernel_rfl
 simp only [h1, h2]
 rfl
theorem next_cnb {fn : Func} (h : fn.name = "internal/bytealg.CountString") (k : fn.origin = "") : Extern.findNext fn = none := by
 unfold Extern.findNext
 rw [h, k]
 have h1 : Extern.allNextRows.lookup "internal/bytealg.CountString" = none := by kernel_rfl
 have h2 : Extern.allNextRows.lookup "" = none := by kernel_rfl
 simp only [h1, h2]
 rfl
theorem next_nes {fn : Func} (h : fn.name = "internal/abi.NoEscape") (k : fn.origin = "") : Extern.findNext fn = none := by
 unfold Extern.findNext
 rw [h, k]
 have h1 : Extern.allNextRows.lookup "internal/abi.NoEscape" = none := by kernel_rfl
 have h2 : Extern.allNextRows.lookup "" = none := by kernel_rfl
 simp only [h1, h2]
 rfl
section
variable {P : Program} {gl : Nat → Option (List PV)} {a : Act} {f : List AV} {g : G} {h : List AB} {w : World} {o : Oper}
theorem run_eqPtr {tp te : TypeId} {j : TypeInfo} (hp : P.underlying tp = some (.pointer te)) (hte : P.info? te = some j) {p q : Option Addr} {r : Bool}
  (hr : (q = none ∧ r = p.isNone) ∨ (p = q ∧ r = true)) : (Op.equal tp (.pointer p) (.pointer q)).run P w = .ok r w := by
 have key : ∀ d : Nat, (Op.equalIn (d + 1) tp (.pointer p) (.pointer q)).run P w = .ok r w := by
  intro d
  rcases hr with ⟨rfl, rfl⟩ | ⟨rfl, rfl⟩
  ·cases p <;> simp [Op.equalIn, run_underlying hp]
  ·cases p
   ·simp [Op.equalIn, run_underlying hp]
   ·simp [Op.equalIn, run_underlying hp, sizeOf, typeInfo, hte, run_sameAddr_same]
 exact key 9999
theorem run_binPtr {tp te : TypeId} {j : TypeInfo} {op : BinOp} (hop : op = .eql ∨ op = .neq) (hp : P.underlying tp = some (.pointer te)) (hte : P.info? te = some j) {p q : Option Addr} {r : Bool}
  (hr : (q = none ∧ r = p.isNone) ∨ (p = q ∧ r = true)) : (binOp op tp (.pointer p) (.pointer q)).run P w = .ok (.bool (if op == .neq then !r else r)) w := by
 have h1 := run_eqPtr (w := w) hp hte hr
 rcases hop with rfl | rfl
 ·have e : binOp .eql tp (.pointer p) (.pointer q) = (do pure (.bool (← Op.equal tp (.pointer p) (.pointer q)))) := rfl
  rw [e]
  simp only [Sem.run_bind, h1, Result.andThen_ok, Sem.run_pure]
  rfl
 ·have e : binOp .neq tp (.pointer p) (.pointer q) = (do pure (.bool (!(← Op.equal tp (.pointer p) (.pointer q))))) := rfl
  rw [e]
  simp only [Sem.run_bind, h1, Result.andThen_ok, Sem.run_pure]
  rfl
theorem s_eqP (c : Ctx P gl a f g h w) {op : BinOp} {t te yt : TypeId} {x y : Operand} {v : AV} {h' : List AB} {j : TypeInfo} (ho : o.op = .binOp op t x y yt) (hop : op = .eql ∨ op = .neq)
  (hp : P.underlying t = some (.pointer te)) (hte : P.info? te = some j) (he : evI gl f h (.eqP (op == .neq) (opd x) (opd y)) = some (v, h')) : Fits P o a g w v h' := by
 have key : ∀ (p q : Option Addr) (r : Bool), a.eval x = .pointer p → a.eval y = .pointer q → ((q = none ∧ r = p.isNone) ∨ (p = q ∧ r = true)) → Fits P o a g w (vb (if op == .neq then !r else r)) h := by
  intro p q r h1 h2 hr
  refine fits_same c (x := .bool (if op == .neq then !r else r)) ?_ (by simp [VR, PR])
  have hb := run_binPtr (w := w) hop hp hte hr
  have hg : (eqGuard op t x y (.pointer p) (.pointer q)).run P w = .ok () w := by rcases hop with rfl | rfl <;> rfl
  simp only [execOp, ho, Sem.run_bind, h1, h2, hg, Result.andThen_ok, hb, Sem.run_pure]
 have hx := c.opd x
 have hy := c.opd y
 simp only [evI] at he
 split at he
 ·rename_i b o b' o' e1 e2
  rw [e1] at hx; rw [e2] at hy
  simp only [VR] at hx hy
  split at he
  ·rename_i hc
   obtain ⟨rfl, rfl⟩ := hc
   simp only [oiq, piq] at he
   obtain ⟨rfl, rfl⟩ := he
   have := key _ _ true hx.2 hy.2 (.inr ⟨rfl, rfl⟩)
   rcases hop with rfl | rfl <;> exact this
  ·cases he
 ·rename_i b o e1 e2
  rw [e1] at hx; rw [e2] at hy
  simp only [VR, PR] at hx hy
  simp only [oiq, piq] at he
  obtain ⟨rfl, rfl⟩ := he
  have := key _ _ false hx.2 hy (.inl ⟨rfl, rfl⟩)
  rcases hop with rfl | rfl <;> exact this
 ·rename_i xs e1 e2
  rw [e1] at hx; rw [e2] at hy
  simp only [VR, PR] at hx hy
  obtain ⟨b, off, hx, _⟩ := hx
  simp only [oiq, piq] at he
  obtain ⟨rfl, rfl⟩ := he
  have := key _ _ false hx hy (.inl ⟨rfl, rfl⟩)
  rcases hop with rfl | rfl <;> exact this
 ·rename_i b gen s k off e1 e2
  rw [e1] at hx; rw [e2] at hy
  simp only [VR, PR] at hx hy
  obtain ⟨_, _, cc, cap, _, hx⟩ := hx
  simp only [oiq, piq] at he
  obtain ⟨rfl, rfl⟩ := he
  have := key _ _ false hx hy (.inl ⟨rfl, rfl⟩)
  rcases hop with rfl | rfl <;> exact this
 ·rename_i e1 e2
  rw [e1] at hx; rw [e2] at hy
  simp only [VR, PR] at hx hy
  simp only [oiq, piq] at he
  obtain ⟨rfl, rfl⟩ := he
  have := key _ _ true hx hy (.inl ⟨rfl, rfl⟩)
  rcases hop with rfl | rfl <;> exact this
 ·cases he
theorem shape_of {b off : Nat} {t : TypeId} {xs : List AV} (c : Ctx P gl a f g h w) (hb : h[b]? = some (.cells t xs)) : w.shape? (g.m b) = some (t, xs.length) := by
 have hbr := c.hr.br b _ hb
 simp only [BR] at hbr
 obtain ⟨cs, fz, k1, _, k3⟩ := hbr
 have := k3.1.len
 simp only [altl] at this
 simp [World.shape?, k1, this]
theorem s_cvU (c : Ctx P gl a f g h w) {src dst t : TypeId} {x : Operand} {n : Nat} {v : AV} {h' : List AB} (ho : o.op = .convert src dst x) (hs : P.underlying src = some (.pointer t)) (hd : P.underlying dst = some .unsafePointer)
  (ht : szT P t = some n) (hn : n ≠ 0) (he : evI gl f h (.cvU (opd x)) = some (v, h')) : Fits P o a g w v h' := by
 have hx := c.opd x
 simp only [evI] at he
 split at he
 ·rename_i b off e1
  rw [e1] at hx
  simp only [VR] at hx
  split at he
  ·rename_i t' xs hb
   split at he
   ·rename_i hlt
    simp only [oiq, piq] at he
    obtain ⟨rfl, rfl⟩ := he
    obtain ⟨j, hj, hjn⟩ := mei.1 ht
    refine fits_same c (x := .pointer (some ⟨g.m b, off, none⟩)) ?_ (by simp only [VR]; exact ⟨hx.1, trivial⟩)
    have := Lib.run_to_unsafe w ⟨g.m b, off, none⟩ hs hd hj (by rw [hjn]; exact hn) (shape_of (off := off) c hb) hlt
    simp only [execOp, ho, Sem.run_bind, hx.2, this, Result.andThen_ok, Sem.run_pure]
   ·cases he
  ·cases he
 ·cases he
theorem s_cvP (c : Ctx P gl a f g h w) {src dst u : TypeId} {x : Operand} {n : Nat} {oks : List (TypeId × Nat × Nat)} {v : AV} {h' : List AB} (ho : o.op = .convert src dst x) (hs : P.underlying src = some .unsafePointer) (hd : P.underlying dst = some (.pointer u))
  (ht : szT P u = some n) (hok : ∀ q ∈ oks, liesAt P P.depth q.1 (q.2.1 / P.cellsOf q.1) q.2.2 u 1 = true) (he : evI gl f h (.cvP oks (opd x)) = some (v, h')) : Fits P o a g w v h' := by
 have hx := c.opd x
 simp only [evI] at he
 split at he
 ·rename_i b off e1
  rw [e1] at hx
  simp only [VR] at hx
  split at he
  ·rename_i t' xs hb
   split at he
   ·rename_i hin
    simp only [oiq, piq] at he
    obtain ⟨rfl, rfl⟩ := he
    obtain ⟨j, hj, hjn⟩ := mei.1 ht
    refine fits_same c (x := .pointer (some ⟨g.m b, off, none⟩)) ?_ (by simp only [VR]; exact ⟨hx.1, trivial⟩)
    have hl := hok _ (List.contains_iff_mem.1 hin)
    have := Lib.run_from_unsafe w ⟨g.m b, off, none⟩ hs hd hj (shape_of (off := off) c hb) hl
    simp only [execOp, ho, Sem.run_bind, hx.2, this, Result.andThen_ok, Sem.run_pure]
   ·cases he
  ·cases he
 ·cases he
theorem run_ext {cl : Call} {k : Nat} {fn : Func} {ext : Array Value → Sem Value} (ho : o.op = .call cl) (h1 : cl.callee = .value (.func k)) (hf : P.funcs[k]? = some fn) (hb : fn.body.isNone = true) (hname : (fn.name == "runtime.NumGoroutine") = false)
  (hn : Extern.findNext fn = none) (hE : Extern.find fn = some ext) {v : Value} (hr : (ext (cl.args.map a.eval)).run P w = .ok v w) : (execOp a.eval o).run P w = .ok (.value v) w := by
 have := run_callFunc_extern hf hname hb hn hE (cl.args.map a.eval) w
 rw [hr] at this
 have he : a.eval (.func k) = .func (.func k) #[] #[] := rfl
 have hres : (resolve a.eval cl o.type).run P w = .ok { target := .fn (.func k) #[], args := cl.args.map a.eval } w := by
  simp [resolve, h1, he, Deferred.ofValue]
 simp only [execOp, ho, Sem.run_bind, hres, Result.andThen_ok, invoke, Array.append_empty, this]
theorem s_nes (c : Ctx P gl a f g h w) {cl : Call} {k : Nat} {fn : Func} {x : Operand} (ho : o.op = .call cl) (h1 : cl.callee = .value (.func k)) (h2 : cl.args.toList = [x]) (hf : P.funcs[k]? = some fn) (hb : fn.body.isNone = true)
  (hname : fn.name = "internal/abi.NoEscape") (hor : fn.origin = "") : Fits P o a g w ((opd x).ev f gl) h := by
 refine fits_same c (x := a.eval x) ?_ (c.opd x)
 have h2' : cl.args = #[x] := by apply Array.ext'; simpa using h2
 exact run_ext ho h1 hf hb (by rw [hname]; decide) (next_nes hname hor) (find_nes hname) (by rw [h2']; simp only [List.map_toArray, mcs, List.map_nil]; rfl)
theorem s_ixb (c : Ctx P gl a f g h w) {cl : Call} {k : Nat} {fn : Func} {x y : Operand} {s : ByteArray} {n : Int} (ho : o.op = .call cl) (h1 : cl.callee = .value (.func k)) (h2 : cl.args.toList = [x, y]) (hf : P.funcs[k]? = some fn) (hb : fn.body.isNone = true)
  (hname : fn.name = "internal/bytealg.IndexByteString") (hor : fn.origin = "") (hx : (opd x).ev f gl = vs s) (hy : (opd y).ev f gl = vi .u8 n) : Fits P o a g w (vi .i64 (firstIdx s n.toNat.toUInt8)) h := by
 refine fits_same c (x := .int .i64 (firstIdx s n.toNat.toUInt8)) ?_ (by simp [VR, PR])
 have h2' : cl.args = #[x, y] := by apply Array.ext'; simpa using h2
 have hvx := val_of (c.opd x) hx
 have hvy := val_of (c.opd y) hy
 refine run_ext ho h1 hf hb (by rw [hname]; decide) (next_ixb hname hor) (find_ixb hname) ?_
 rw [h2']
 simp only [List.map_toArray, mcs, List.map_nil, hvx, hvy]
 exact run_indexByte_string s n w
theorem s_cnb (c : Ctx P gl a f g h w) {cl : Call} {k : Nat} {fn : Func} {x y : Operand} {s : ByteArray} {n : Int} (ho : o.op = .call cl) (h1 : cl.callee = .value (.func k)) (h2 : cl.args.toList = [x, y]) (hf : P.funcs[k]? = some fn) (hb : fn.body.isNone = true)
  (hname : fn.name = "internal/bytealg.CountString") (hor : fn.origin = "") (hx : (opd x).ev f gl = vs s) (hy : (opd y).ev f gl = vi .u8 n) : Fits P o a g w (vi .i64 ((s.data.toList.count n.toNat.toUInt8 : Nat) : Int)) h := by
 refine fits_same c (x := .int .i64 ((s.data.toList.count n.toNat.toUInt8 : Nat) : Int)) ?_ (by simp [VR, PR])
 have h2' : cl.args = #[x, y] := by apply Array.ext'; simpa using h2
 have hvx := val_of (c.opd x) hx
 have hvy := val_of (c.opd y) hy
 refine run_ext ho h1 hf hb (by rw [hname]; decide) (next_cnb hname hor) (find_cnb hname) ?_
 rw [h2']
 simp only [List.map_toArray, mcs, List.map_nil, hvx, hvy]
 exact Lib.run_countString s n w
theorem find_mnz {fn : Func} (h : fn.name = "internal/bytealg.MakeNoZero") : Extern.find fn = some (Extern.BytealgMakeNoZero.makeNoZero fn.params fn.resultTypes) := by
 unfold Extern.find
 rw [h]
 have h1 : Extern.allGenericRows.lookup "internal/bytealg.MakeNoZero" = none := by kernel_rfl
 have h2 : Extern.allTypedRows.lookup "internal/bytealg.MakeNoZero" = some Extern.BytealgMakeNoZero.makeNoZero := by kernel_rfl
 simp only [h1, h2]
 rfl
theorem next_mnz {fn : Func} (h : fn.name = "internal/bytealg.MakeNoZero") (k : fn.origin = "") : Extern.findNext fn = none := by
 unfold Extern.findNext
 rw [h, k]
 have h1 : Extern.allNextRows.lookup "internal/bytealg.MakeNoZero" = none := by kernel_rfl
 have h2 : Extern.allNextRows.lookup "" = none := by kernel_rfl
 simp only [h1, h2]
 rfl
theorem run_ext' {cl : Call} {k : Nat} {fn : Func} {ext : Array Value → Sem Value} (ho : o.op = .call cl) (h1 : cl.callee = .value (.func k)) (hf : P.funcs[k]? = some fn) (hb : fn.body.isNone = true) (hname : (fn.name == "runtime.NumGoroutine") = false)
  (hn : Extern.findNext fn = none) (hE : Extern.find fn = some ext) {v : Value} {w' : World} (hr : (ext (cl.args.map a.eval)).run P w = .ok v w') : (execOp a.eval o).run P w = .ok (.value v) w' := by
 have := run_callFunc_extern hf hname hb hn hE (cl.args.map a.eval) w
 rw [hr] at this
 have he : a.eval (.func k) = .func (.func k) #[] #[] := rfl
 have hres : (resolve a.eval cl o.type).run P w = .ok { target := .fn (.func k) #[], args := cl.args.map a.eval } w := by
  simp [resolve, h1, he, Deferred.ofValue]
 simp only [execOp, ho, Sem.run_bind, hres, Result.andThen_ok, invoke, Array.append_empty, this]
theorem s_mkNZ (c : Ctx P gl a f g h w) {cl : Call} {k : Nat} {fn : Func} {x : Operand} {t e : TypeId} {n : Int} (ho : o.op = .call cl) (h1 : cl.callee = .value (.func k)) (h2 : cl.args.toList = [x]) (hf : P.funcs[k]? = some fn) (hb : fn.body.isNone = true)
  (hname : fn.name = "internal/bytealg.MakeNoZero") (hor : fn.origin = "") (hrt : fn.resultTypes.toList = [t]) (ht : P.underlying t = some (.slice e)) (hx : (opd x).ev f gl = vi .i64 n) (hn : 0 ≤ n ∧ n ≤ limit47) :
  Fits P o a g w (.sl h.length 0 1 0 n.toNat) (h ++ [.row e 1 0 []]) := by
 obtain ⟨n0, n1⟩ := hn
 unfold limit47 at n1
 have hv := val_of (c.opd x) hx
 have h2' : cl.args = #[x] := by apply Array.ext'; simpa using h2
 have hrt' : fn.resultTypes = #[t] := by apply Array.ext'; simpa using hrt
 obtain ⟨m, rfl⟩ : ∃ m : Nat, n = (m : Int) := ⟨n.toNat, by omega⟩
 obtain ⟨cs, hr, q1, q2⟩ := Lib.run_makeNoZero (P := P) w fn.params t e ht m (by omega)
 have hm := q2 (by simp only [maxLen]; omega)
 obtain ⟨p1, p2, p3⟩ := push_row (w' := w.drew.drew.alloc (.cells cs e)) c.hr (rows := []) (cs := cs) e 1 cs.size (0, 0) (fun j _ => by omega) (by omega) hm (by simp) (by simp) (by simp [VRc, VRs])
  (fun k hk => Below.heap_alloc w.drew.drew _ k hk) (alloc_new' w.drew.drew _) (by simp) rfl rfl rfl (Nat.le_add_right w.drawn 2)
 refine ⟨.slice (some ⟨w.heap.size, 0, none⟩) m cs.size, _, _, ?_, p1, p2, p3 m q1⟩
 have hrun : (execOp a.eval o).run P w = .ok (.value (.slice (some ⟨w.heap.size, 0, none⟩) m cs.size)) (w.drew.drew.alloc (.cells cs e)) := by
  refine run_ext' ho h1 hf hb (by rw [hname]; decide) (next_mnz hname hor) (find_mnz hname) ?_
  rw [h2', hrt']
  simp only [List.map_toArray, mcs, List.map_nil, hv]
  exact hr
 rw [hrun]
 rfl
theorem s_capN (c : Ctx P gl a f g h w) {cl : Call} {x : Operand} {t e : TypeId} (ho : o.op = .call cl) (h1 : cl.callee = .builtin .cap) (h2 : cl.args.toList = [x]) (h3 : cl.argTypes.toList = [t]) (ht : P.underlying t = some (.slice e))
  (hx : (opd x).ev f gl = .p (.val (.slice none 0 0))) : Fits P o a g w (vi .i64 0) h := by
 refine fits_same c (x := .int .i64 0) ?_ (by simp [VR, PR])
 have h2' : cl.args = #[x] := by apply Array.ext'; simpa using h2
 have h3' : cl.argTypes = #[t] := by apply Array.ext'; simpa using h3
 have hv := val_of (c.opd x) hx
 have hr : (Builtin.cap_ #[t] o.type #[a.eval x]).run P w = .ok (goInt 0) w := by
  rw [hv]
  simp [Builtin.cap_, run_underlying ht]
 simp only [execOp, ho, resolve, h1, h2', h3', Sem.run_bind, Sem.run_pure, Result.andThen_ok, invoke, builtin, List.map_toArray, mcs, List.map_nil, hr]
 rfl
theorem s_clrS (c : Ctx P gl a f g h w) {cl : Call} {x : Operand} {t e : TypeId} {s : Nat} {z : List Value} {v : AV} {h' : List AB} (ho : o.op = .call cl) (h1 : cl.callee = .builtin .clear) (h2 : cl.args.toList = [x]) (h3 : cl.argTypes.toList = [t]) (ht : P.underlying t = some (.slice e))
  (hs : szT P e = some s) (hz : zeroT P e = some z) (h0 : 0 < s) (hzl : z.length = s) (he : evI gl f h (.clrS s (z.map .val) (opd x)) = some (v, h')) : Fits P o a g w v h' := by
 have h2' : cl.args = #[x] := by apply Array.ext'; simpa using h2
 have h3' : cl.argTypes = #[t] := by apply Array.ext'; simpa using h3
 have hex : ∀ w', (Builtin.clear_ #[t] o.type #[a.eval x]).run P w = .ok (.tuple #[]) w' → (execOp a.eval o).run P w = .ok (.value (.tuple #[])) w' := by
  intro w' hr
  simp only [execOp, ho, resolve, h1, h2', h3', Sem.run_bind, Sem.run_pure, Result.andThen_ok, invoke, builtin, List.map_toArray, mcs, List.map_nil, hr]
 obtain ⟨zv, hzr, hzc, hone⟩ := run_zeroT (w := w) hz
 have hzs : zv.cells.size = s := by rw [← hzl, ← hzc]; simp
 have hx := c.opd x
 simp only [evI] at he
 split at he
 ·rename_i b gen size off len e1
  rw [e1] at hx
  simp only [VR] at hx
  obtain ⟨hb1, hg1, hsl⟩ := hx
  split at he
  ·rename_i t' s' g1 rows hbk
   split at he
   ·rename_i hc
    obtain ⟨rfl, rfl, rfl, hle⟩ := hc
    simp only [oiq, piq] at he
    obtain ⟨rfl, rfl⟩ := he
    have hbr := c.hr.br b _ hbk
    simp only [BR] at hbr
    obtain ⟨_, hr1, hr2⟩ := hbr
    cases hd : g.hd b g1 with
    | none =>
     rw [hd] at hsl hr2
     simp only [SlR] at hsl
     simp only [RowR] at hr2
     obtain ⟨hv, rfl, rfl⟩ := hsl
     subst hr2
     have es : splice ([] : List (List AV)) 0 (List.replicate 0 ((z.map PV.val).map AV.p)) = [] := rfl
     rw [es]
     have hset : h.set b (.row t' s' g1 []) = h := List.ext_getElem? (fun j => by
      rw [gst]
      split
      ·rename_i e2
       subst e2
       have hlt : b < h.length := (gei.1 hbk).1
       rw [if_pos hlt, hbk]
      ·rfl)
     rw [hset]
     exact ⟨.tuple #[], w, g, by rw [hex w (by rw [hv]; simp [Builtin.clear_, run_underlying ht])]; rfl, Ext.refl g w, c.hr, by simp [VR, VRs]⟩
    | some p =>
     obtain ⟨cc, cap⟩ := p
     rw [hd] at hsl hr2
     simp only [SlR] at hsl
     simp only [RowR] at hr2
     obtain ⟨ys, fz, l1, l2, l3, l4, l5, l6⟩ := hr2
     obtain ⟨q1, q2, A, hv, hA⟩ := hsl
     have hrl : ∀ r ∈ List.replicate len ((z.map PV.val).map AV.p), r.length = s' := by intro r hr; rw [List.eq_of_mem_replicate hr]; simpa using hzl
     have hnew : ∀ r ∈ splice rows off (List.replicate len ((z.map PV.val).map AV.p)), r.length = s' := by
      intro r hr
      rcases mem_splice hr with hr | hr
      ·exact hr1 r hr
      ·exact hrl r hr
     have hlen : (splice rows off (List.replicate len ((z.map PV.val).map AV.p))).length = rows.length := splice_length (by simpa using hle)
     have hzero : VRc g w (List.replicate len ((z.map PV.val).map AV.p)).flatten (List.replicate len z).flatten := by
      have hz1 := zero_rel (g := g) (w := w) hone
      have e3 : (z.map PV.val).map AV.p = z.map fun v => AV.p (.val v) := by simp
      rw [e3]
      clear hrl hnew hlen hle hv hA e1 q1
      induction len with
      | zero => simp [VRc, VRs]
      | succ n ih =>
       simp only [List.replicate_succ, fcs]
       exact ⟨hz1.1.append ih.1, fun v hv => (List.mem_append.1 hv).elim (hz1.2 v) (ih.2 v)⟩
     have hzl2 : (List.replicate len z).flatten.length = len * s' := by
      rw [List.length_flatten, List.map_replicate, hzl]; simp
     have hys : ys.toList.length = cap * s' := by simpa using l3
     have hk2 : (off + len) * s' ≤ rows.length * s' := Nat.mul_le_mul_right _ hle
     have hk3 : rows.length * s' ≤ cap * s' := Nat.mul_le_mul_right _ l5
     rw [Nat.add_mul] at hk2
     have hsp : (splice ys.toList (off * s') (List.replicate len z).flatten).length = ys.size := by rw [splice_length (by rw [hys, hzl2]; omega)]; simp
     have hfl : VRc g w (splice rows off (List.replicate len ((z.map PV.val).map AV.p))).flatten ((splice ys.toList (off * s') (List.replicate len z).flatten).take ((splice rows off (List.replicate len ((z.map PV.val).map AV.p))).length * s')) := by
      rw [flatten_splice hr1 hrl, hlen, splice_take (by rw [hzl2]; omega) (by rw [hys]; exact hk3)]
      exact l6.splice _ hzero
     obtain ⟨m1, m2⟩ := upd_row c.hr hbk hd (cs' := (splice ys.toList (off * s') (List.replicate len z).flatten).toArray) (rows' := splice rows off (List.replicate len ((z.map PV.val).map AV.p))) l1 (by simpa [hsp] using l2)
      (by simpa [hsp] using l3) l4 (by rw [hlen]; exact l5) hnew (by simpa using hfl)
     refine ⟨.tuple #[], _, g, ?_, m1, m2, by simp [VR, VRs]⟩
     have hrun : (Builtin.clear_ #[t] o.type #[a.eval x]).run P w = .ok (.tuple #[]) (setRow' w cc (splice ys.toList (off * s') (List.replicate len z).flatten).toArray t' fz) := by
      by_cases hn : len = 0
      ·subst hn
       have e4 : (splice ys.toList (off * s') (List.replicate 0 z).flatten).toArray = ys := by simp [splice]
       rw [e4, setRow'_self l1, hv]
       cases A with
       | none => simp [Builtin.clear_, run_underlying ht]
       | some ad => simp [Builtin.clear_, run_underlying ht]
      ·rcases hA with ⟨hA, _⟩ | hA
       ·omega
       ·have hzc2 : (Builtin.zeroCells zv.cells len).toList = (List.replicate len z).flatten := by
         have := madeCells_list zv.cells len (by omega)
         rw [hzc] at this
         rw [← this]
         rfl
        have hst := run_storeCells' (P := P) (off := off * s') (List.replicate len z).flatten 0 ys w l1 l2 (by rw [l3, hzl2]; omega) hzero.2
        rw [Nat.add_zero] at hst
        rw [hv, hA]
        obtain ⟨n, rfl⟩ : ∃ n, len = n + 1 := ⟨len - 1, by omega⟩
        simp [Builtin.clear_, run_underlying ht, hzr, hzc2, hst]
     rw [hex _ hrun]; rfl
   ·cases he
  ·cases he
 ·cases he
theorem s_cpy0 (c : Ctx P gl a f g h w) {cl : Call} {x y : Operand} {t u e : TypeId} {b gen size off : Nat} (ho : o.op = .call cl) (h1 : cl.callee = .builtin .copy) (h2 : cl.args.toList = [x, y]) (h3 : cl.argTypes.toList = [t, u]) (ht : P.underlying t = some (.slice e)) (hs : szT P e = some 1)
  (hx : (opd x).ev f gl = .sl b gen size off 0) (hy : (opd y).ev f gl = .p (.val (.slice none 0 0))) : Fits P o a g w (vi .i64 0) h := by
 refine fits_same c (x := .int .i64 0) ?_ (by simp [VR, PR])
 have h2' : cl.args = #[x, y] := by apply Array.ext'; simpa using h2
 have h3' : cl.argTypes = #[t, u] := by apply Array.ext'; simpa using h3
 have hv := val_of (c.opd y) hy
 have hvx := c.opd x
 rw [hx] at hvx
 simp only [VR] at hvx
 obtain ⟨A, cap, hA⟩ : ∃ A cap, a.eval x = .slice A 0 cap := by
  obtain ⟨_, _, hsl⟩ := hvx
  cases hd : g.hd b gen with
  | none => rw [hd] at hsl; exact ⟨none, 0, hsl.1⟩
  | some p => rw [hd] at hsl; obtain ⟨_, _, A, hA, _⟩ := hsl; exact ⟨A, _, hA⟩
 have hsz : (P.info? e).map (·.size) = some 1 := hs
 have hr : (Builtin.copy_ #[t, u] o.type #[a.eval x, a.eval y]).run P w = .ok (goInt 0) w := by
  rw [hv, hA]
  exact run_copy_none w t u o.type e A none 0 cap 0 0 ht hsz rfl
 simp only [execOp, ho, resolve, h1, h2', h3', Sem.run_bind, Sem.run_pure, Result.andThen_ok, invoke, builtin, List.map_toArray, mcs, List.map_nil, hr]
 rfl
theorem s_slData (c : Ctx P gl a f g h w) {cl : Call} {x : Operand} {te : TypeId} {v : AV} {h' : List AB} (ho : o.op = .call cl) (h1 : cl.callee = .builtin .unsafeSliceData) (h2 : cl.args.toList = [x]) (ht : P.underlying o.type = some (.pointer te))
  (he : evI gl f h (.slData (opd x)) = some (v, h')) : Fits P o a g w v h' := by
 have h2' : cl.args = #[x] := by apply Array.ext'; simpa using h2
 have hex : ∀ r : Result Value, (Builtin.unsafeSliceData_ cl.argTypes o.type #[a.eval x]).run P w = r → (execOp a.eval o).run P w = r.andThen fun v w' => .ok (.value v) w' := by
  intro r hr
  simp only [execOp, ho, resolve, h1, h2', Sem.run_bind, Sem.run_pure, Result.andThen_ok, invoke, builtin, List.map_toArray, mcs, List.map_nil, hr]
 have hx := c.opd x
 simp only [evI] at he
 split at he
 ·rename_i b gen size off len e1
  rw [e1] at hx
  simp only [VR] at hx
  obtain ⟨hb1, hg1, hsl⟩ := hx
  split at he
  ·rename_i t' s' g1 rows hbk
   split at he
   ·rename_i hc
    obtain ⟨rfl, rfl, rfl, rfl⟩ := hc
    simp only [oiq, piq] at he
    obtain ⟨rfl, rfl⟩ := he
    have hbr := c.hr.br b _ hbk
    simp only [BR] at hbr
    obtain ⟨_, _, hrow⟩ := hbr
    cases hd : g.hd b g1 with
    | none =>
     rw [hd] at hsl hrow
     obtain ⟨hv, _, rfl⟩ := hsl
     have hr : (Builtin.unsafeSliceData_ cl.argTypes o.type #[a.eval x]).run P w = .ok (.pointer none) w := by rw [hv]; rfl
     refine ⟨.pointer none, w, g, by rw [hex _ hr]; rfl, Ext.refl g w, c.hr, ?_⟩
     simp [VR]
    | some p =>
     obtain ⟨cc, cap⟩ := p
     rw [hd] at hsl hrow
     obtain ⟨k1, k2, A, hv, hA⟩ := hsl
     have hA' := hA.resolve_left (by omega)
     subst hA'
     simp only [RowR] at hrow
     obtain ⟨cs, fz, m1, _⟩ := hrow
     rcases Nat.eq_zero_or_pos cap with h0 | h0
     ·subst h0
      have hlen : len = 0 := by omega
      subst hlen
      have hr : (Builtin.unsafeSliceData_ cl.argTypes o.type #[a.eval x]).run P w = .ok (.pointer (some ⟨w.heap.size, 0, none⟩)) (w.alloc (.view ⟨cc, 0 * 1, none⟩ te)) := by
       rw [hv]; exact Lib.run_unsafeSliceData_zero w _ _ te ht _ 0 (t', cs.size) (by simp [World.shape?, m1])
      have hold : ∀ c', c' < w.heap.size → (w.alloc (.view ⟨cc, 0 * 1, none⟩ te)).heap[c']? = w.heap[c']? := fun c' hc' => Below.heap_alloc w _ c' hc'
      have he : Ext g w g (w.alloc (.view ⟨cc, 0 * 1, none⟩ te)) := ⟨fun _ h => h, fun _ h => h, fun c' hp => hold c' (c.hr.prs c' hp), Nat.le_refl _, fun _ h => h, fun _ _ => rfl, fun _ _ => Nat.le_refl _, fun _ _ _ _ => rfl, by simp, rfl, rfl, rfl, fun _ h => .inl h, rfl, by first | assumption | exact fun _ => (by first | assumption | exact Nat.le_refl _ | exact Nat.le_succ _)⟩
      refine ⟨.pointer (some ⟨w.heap.size, 0, none⟩), _, g, by rw [hex _ hr]; rfl, he, ?_, by simp [VR]⟩
      exact ⟨c.hr.n, fun b x hb => BR_mono c.hr he hb rfl (fun c' hc' => hold c' (cid_lt c.hr hb hc')), c.hr.dis, c.hr.own, c.hr.spr, fun c' hc' => Nat.lt_of_lt_of_le (c.hr.prs c' hc') (by simp), c.hr.ho⟩
     ·have hr : (Builtin.unsafeSliceData_ cl.argTypes o.type #[a.eval x]).run P w = .ok (.pointer (some ⟨cc, 0 * 1, none⟩)) w := by
       rw [hv]; exact Lib.run_unsafeSliceData_row w _ _ _ _ _ (by omega)
      refine ⟨.pointer (some ⟨cc, 0 * 1, none⟩), w, g, by rw [hex _ hr]; rfl, Ext.refl g w, c.hr, ?_⟩
      split
      ·simp only [VR]
       exact ⟨hb1, hg1, cc, cap, hd, by simp⟩
      ·simp [VR]
   ·cases he
  ·cases he
 ·cases he
theorem freeze_eq {w : World} {cc n : Nat} {cs : Array Value} {t : TypeId} {fz : Nat × Nat} (hc : w.heap[cc]? = some (.cells cs t fz)) (hn : n ≠ 0) :
  ∃ fz', w.freeze ⟨cc, 0, none⟩ n = setRow' w cc cs t fz' := by
 obtain ⟨lo, hi⟩ := fz
 refine ⟨if lo == hi then (0, 0 + n) else (min lo 0, max hi (0 + n)), ?_⟩
 unfold World.freeze setRow'
 rw [if_neg hn]
 congr 1
 apply Array.ext_getElem?
 intro k
 simp only [Array.getElem?_modify, Array.getElem?_setIfInBounds]
 split
 ·rename_i e
  subst e
  rw [hc, if_pos (heap_lt hc)]
  simp
 ·rfl
theorem upd_dead (hr : HR g h w) {b : Nat} {x : AB} (hb : h[b]? = some x) {cc : Nat} (hcid : cid g b x = some cc) {cs : Array Value} {t : TypeId} {fz fz' : Nat × Nat} (hc : w.heap[cc]? = some (.cells cs t fz)) :
  Ext g w g (setRow' w cc cs t fz') ∧ HR g (h.set b .dead) (setRow' w cc cs t fz') := by
 have hlt := heap_lt hc
 have hpr : ∀ k, g.Pr k → (setRow' w cc cs t fz').heap[k]? = w.heap[k]? := fun k hp => setRow'_other (fun e => hr.own b _ cc hb hcid (by rw [e]; exact hp))
 have he : Ext g w g (setRow' w cc cs t fz') := ⟨fun _ h => h, fun _ h => h, hpr, Nat.le_refl _, fun _ h => h, fun _ _ => rfl, fun _ _ => Nat.le_refl _, fun _ _ _ _ => rfl, by rw [setRow'_size]; exact Nat.le_refl _, rfl, rfl, rfl, fun _ h => .inl h, rfl, by first | assumption | exact fun _ => (by first | assumption | exact Nat.le_refl _ | exact Nat.le_succ _)⟩
 refine ⟨he, HR.upd hr hb he rfl rfl rfl (fun _ _ => rfl) ?_ (by simp [BR]) (fun c hc => by simp [cid] at hc) rfl (by rintro rfl; simp [cid] at hcid)⟩
 intro c _ hne
 exact setRow'_other (fun e => hne (by rw [hcid, e]))
theorem run_loadBytes' : ∀ (ns : List Int) (a : Addr) (acc : ByteArray), (∀ j n, ns[j]? = some n → w.cell? (a.add j) = some (.int .u8 n)) →
  (loadBytes a acc ns.length).run P w = .ok ⟨acc.data ++ (ns.map fun n => UInt8.ofNat n.toNat).toArray⟩ w
 | [], a, acc, _ => by simp [loadBytes]
 | n :: ns, a, acc, h => by
  have h0 : w.cell? a = some (.int .u8 n) := by
   have := h 0 n rfl
   simpa [Addr.add] using this
  have ih := run_loadBytes' ns (a.add 1) (acc.push n.toNat.toUInt8) (fun j y hy => by
   have := h (j + 1) y (by simpa using hy)
   have e : (a.add 1).add j = a.add (j + 1) := by
    unfold Addr.add
    by_cases hj : j = 0
    ·subst hj; simp
    ·simp [hj]; omega
   rw [e]; exact this)
  simp only [List.length_cons, loadBytes, Sem.run_bind, run_load, h0, Result.andThen_ok]
  rw [ih]
  congr 1
  apply ByteArray.ext
  simp [ByteArray.push]
theorem run_unsafeStr' (pt it ty e : TypeId) (hp : P.underlying pt = some (.pointer e)) (hc : P.cellsOf e = 1) (gg cells : Nat) (hsh : w.shape? gg = some (e, cells)) (ns : List Int) (h0 : ns ≠ []) (hn : ns.length ≤ cells) (h63 : ns.length ≤ 9223372036854775807)
  (hcell : ∀ j n, ns[j]? = some n → w.cell? ((⟨gg, 0, none⟩ : Addr).add j) = some (.int .u8 n)) :
  (Builtin.unsafeString_ #[pt, it] ty #[.pointer (some ⟨gg, 0, none⟩), .int .i64 ns.length]).run P w = .ok (.string ⟨(ns.map fun n => UInt8.ofNat n.toNat).toArray⟩) (w.freeze ⟨gg, 0, none⟩ ns.length) := by
 have hl : ns.length ≠ 0 := by simpa using h0
 have hlb := run_loadBytes' (P := P) (w := w) ns ⟨gg, 0, none⟩ .empty hcell
 have hlies := Lib.liesAt_bytes (P := P) hc (cells / P.cellsOf e) ns.length (by rw [hc]; simpa using hn)
 have h63' : ¬ (9223372036854775807 : Int) < (ns.length : Int) := by omega
 have hdef : Builtin.unsafeString_ #[pt, it] ty #[.pointer (some ⟨gg, 0, none⟩), .int .i64 ns.length] =
   (do
    let n ← asInt (.int .i64 ns.length)
    if n < 0 then runtimePanic (.error "unsafe.String: len out of range")
    if n > IntKind.i64.max then unsupported (.unsafePointer "String: a length above the largest int")
    if n = 0 then pure (.string .empty)
    else if ← variablesAt ⟨gg, 0, none⟩ (← elemOf pt) n.toNat then do
     let s ← loadBytes ⟨gg, 0, none⟩ .empty n.toNat
     freeze ⟨gg, 0, none⟩ n.toNat
     pure (.string s)
    else unsupported (.unsafePointer "String: not so many bytes at ptr")) := rfl
 rw [hdef]
 have hmax : IntKind.i64.max = 9223372036854775807 := rfl
 have hneg : ¬ (ns.length : Int) < 0 := by omega
 simp [asInt, asIntOf, hmax, h63', hneg, hl, variablesAt, hsh, elemOf, run_underlying hp, hlies, hlb]
theorem s_uStr (c : Ctx P gl a f g h w) {cl : Call} {x n : Operand} {pt it e : TypeId} {v : AV} {h' : List AB} (ho : o.op = .call cl) (h1 : cl.callee = .builtin .unsafeString) (h2 : cl.args.toList = [x, n]) (h3 : cl.argTypes.toList = [pt, it])
  (hp : P.underlying pt = some (.pointer e)) (hcl : P.cellsOf e = 1) (he : evI gl f h (.uStr e (opd x) (opd n)) = some (v, h')) : Fits P o a g w v h' := by
 have h2' : cl.args = #[x, n] := by apply Array.ext'; simpa using h2
 have h3' : cl.argTypes = #[pt, it] := by apply Array.ext'; simpa using h3
 have hex : ∀ r : Result Value, (Builtin.unsafeString_ #[pt, it] o.type #[a.eval x, a.eval n]).run P w = r → (execOp a.eval o).run P w = r.andThen fun v w' => .ok (.value v) w' := by
  intro r hr
  simp only [execOp, ho, resolve, h1, h2', h3', Sem.run_bind, Sem.run_pure, Result.andThen_ok, invoke, builtin, List.map_toArray, mcs, List.map_nil, hr]
 have hx := c.opd x
 have hn := c.opd n
 simp only [evI] at he
 split at he
 ·rename_i b gen s k o1 n' e1 e2
  rw [e1] at hx; rw [e2] at hn
  simp only [VR, PR] at hx hn
  obtain ⟨hb1, hg1, cc, cap, hd, hx⟩ := hx
  split at he
  ·rename_i t' s' g1 rows hbk
   split at he
   ·rename_i hc
    obtain ⟨rfl, rfl, rfl, rfl, rfl, rfl, hn0, hnl, h63⟩ := hc
    obtain ⟨l, hl, he⟩ := mei.1 he
    simp only [piq] at he
    obtain ⟨rfl, rfl⟩ := he
    have hbr := c.hr.br b _ hbk
    simp only [BR] at hbr
    obtain ⟨_, hr1, hrow⟩ := hbr
    rw [hd] at hrow
    simp only [RowR] at hrow
    obtain ⟨cs, fz, m1, m2, m3, m4, m5, m6⟩ := hrow
    have hvs : VRs g w (rows.take n'.toNat).flatten ((cs.toList.take (rows.length * 1)).take (n'.toNat * 1)) := by
     rw [flatten_take _ hr1]
     exact m6.1.take _
    obtain ⟨ns, q1, rfl⟩ := bytesOf_spec hl hvs
    have hll : ns.length = n'.toNat := by
     have h6 := hvs.len
     rw [q1, flatten_len (fun r hr => hr1 r (List.mem_of_mem_take hr)), lmp, List.length_take] at h6
     omega
    have hcell : ∀ j x, ns[j]? = some x → w.cell? ((⟨cc, 0, none⟩ : Addr).add j) = some (.int .u8 x) := by
     intro j x hj
     have h5 : (ns.map (Value.int .u8))[j]? = some (.int .u8 x) := by simp [hj]
     rw [← q1] at h5
     rw [add_addr]
     simp only [World.cell?, m1, Nat.zero_add]
     rw [List.getElem?_take] at h5
     split at h5
     ·rw [List.getElem?_take] at h5
      split at h5
      ·simpa using h5
      ·cases h5
     ·cases h5
    have hint : (ns.length : Int) = n' := by rw [hll]; omega
    have hrun := run_unsafeStr' (w := w) pt it o.type t' hp hcl cc cs.size (by simp [World.shape?, m1]) ns (by intro e; rw [e] at hll; simp at hll; omega) (by rw [m3]; omega) (by omega) hcell
    rw [hint] at hrun
    obtain ⟨fz', hfz⟩ := freeze_eq (n := ns.length) m1 (by omega)
    rw [hfz] at hrun
    obtain ⟨p1, p2⟩ := upd_dead (fz' := fz') c.hr hbk (by simp [cid, hd]) m1
    refine ⟨.string ⟨(ns.map fun n => UInt8.ofNat n.toNat).toArray⟩, _, g, ?_, p1, p2, by simp only [VR, PR]⟩
    have hx' : a.eval x = .pointer (some ⟨cc, 0, none⟩) := by simpa using hx
    rw [hx', hn] at hex
    rw [hex _ hrun]
    rfl
   ·cases he
  ·cases he
 ·rename_i n' e1 e2
  rw [e1] at hx; rw [e2] at hn
  simp only [VR, PR] at hx hn
  obtain ⟨p, hx⟩ := hx
  split at he
  ·rename_i h0
   subst h0
   simp only [oiq, piq] at he
   obtain ⟨rfl, rfl⟩ := he
   have hrun := Lib.run_unsafeString_none (P := P) w pt it o.type p
   refine ⟨.string .empty, w, g, ?_, Ext.refl g w, c.hr, by simp [VR, PR]⟩
   rw [hx, hn] at hex
   rw [hex _ hrun]
   rfl
  ·cases he
 ·cases he
def G.addS (g : G) (k : Nat) : G := { g with S := fun c => g.S c ∨ c = k, Pr := fun c => g.Pr c ∨ c = k }
theorem addS_ext {k : Nat} (hk : ¬ g.Pr k) : Ext g w (g.addS k) w :=
 ⟨fun _ h => .inl h, fun _ h => .inl h, fun _ _ => rfl, Nat.le_refl _, fun _ h => h, fun _ _ => rfl, fun _ _ => Nat.le_refl _, fun _ _ _ _ => rfl, Nat.le_refl _, rfl, rfl, rfl,
   fun c hc => hc.imp_right fun (e : c = k) => by rw [e]; exact hk, rfl, fun _ => Nat.le_refl _⟩
theorem addS_hr {k : Nat} (hr : HR g h w) (hk : ¬ g.Pr k) (hlt : k < w.heap.size) (hn : ∀ b x, h[b]? = some x → cid g b x ≠ some k) : HR (g.addS k) h w := by
 have hcid : ∀ b x, cid (g.addS k) b x = cid g b x := fun b x => by cases x <;> rfl
 refine ⟨hr.n, fun b x hb => BR_mono hr (addS_ext hk) hb rfl (fun _ _ => rfl), ?_, ?_, fun c hc => hc.imp_left (hr.spr c), ?_, hr.ho⟩
 ·intro b b' x x' c k1 k2 k3 k4
  rw [hcid] at k3 k4
  exact hr.dis b b' x x' c k1 k2 k3 k4
 ·intro b x c k1 k2
  rw [hcid] at k2
  rintro (k3 | k3)
  ·exact hr.own b x c k1 k2 k3
  ·subst k3; exact hn b x k1 k2
 ·rintro c (q | q)
  ·exact hr.prs c q
  ·subst q; exact hlt
theorem fits_dead {v v' : AV} {h1 h2 : List AB} (hf : Fits P o a g w v h1) (he : frzRes (v, h1) = some (v', h2)) : Fits P o a g w v' h2 := by
 obtain ⟨x, w', g', k1, k2, k3, k4⟩ := hf
 unfold frzRes at he
 simp only at he
 split at he
 ·rename_i b gen s off len
  split at he
  ·rename_i t s' ge rows hb
   split at he
   ·rename_i hc
    obtain ⟨rfl, rfl, rfl, hl⟩ := hc
    simp only [mei, piq] at he
    obtain ⟨ys, hp, rfl, rfl⟩ := he
    have hbr := k3.br b _ hb
    simp only [BR] at hbr
    obtain ⟨hge, hr1, hrow⟩ := hbr
    simp only [VR] at k4
    obtain ⟨hD, _, hsl⟩ := k4
    have hd1 : HR g' (h1.set b .dead) w' := HR.upd k3 hb (Ext.refl g' w') rfl rfl rfl (fun _ _ => rfl) (fun _ _ _ => rfl) (by simp [BR]) (fun c hc => by simp [cid] at hc)
    cases hd : g'.hd b ge with
    | none =>
     rw [hd] at hsl hrow
     obtain ⟨hv, _, rfl⟩ := hsl
     simp only [RowR] at hrow
     subst hrow
     refine ⟨x, w', g', k1, k2, hd1, ?_⟩
     simp only [VR, PR, List.take_zero, List.length_nil]
     exact ⟨none, 0, hv, Nat.le_refl _, Nat.zero_le _, .inl trivial⟩
    | some p =>
     obtain ⟨cc, cap⟩ := p
     rw [hd] at hsl hrow
     obtain ⟨l1, l2, A, hv, hA⟩ := hsl
     simp only [RowR] at hrow
     obtain ⟨cs, fz, m1, _, m3, m4, m5, m6⟩ := hrow
     have hcid : cid g' b (.row t s' ge rows) = some cc := by simp [cid, hd]
     have hnp := k3.own b _ cc hb hcid
     have hlt := heap_lt m1
     have hn : ∀ b' y, (h1.set b .dead)[b']? = some y → cid g' b' y ≠ some cc := by
      intro b' y hy e
      rw [gst] at hy
      split at hy
      ·split at hy
       ·cases hy; simp [cid] at e
       ·cases hy
      ·rename_i hne
       exact hne (k3.dis b b' _ y cc hb hy hcid e)
     have hcell : ∀ j u, (cs.toList.take (rows.length * s'))[j]? = some u → w'.cell? ⟨cc, 0 + j, none⟩ = some u := by
      intro j u hj
      rw [List.getElem?_take] at hj
      split at hj
      ·simp only [World.cell?, m1]
       simpa using hj
      ·cases hj
     obtain ⟨pr, pl⟩ := prr_of (g := g') (w := w') (w' := w') (S := (g'.addS cc).S) (fun k hk => .inl hk) (fun _ _ => rfl) rows ys _ 0 hp hr1 m6 hcell
     refine ⟨x, w', g'.addS cc, k1, k2.trans (addS_ext hnp), addS_hr hd1 hnp hlt hn, ?_⟩
     simp only [VR, PR]
     have hlen : (ys.take len).length = len := by rw [List.length_take]; omega
     refine ⟨A, cap, by rw [hlen, hv, Nat.sub_zero], by omega, l2, ?_⟩
     rw [hlen]
     by_cases hz : len = 0
     ·exact .inl hz
     ·right
      have hA' := hA.resolve_left (by omega)
      exact ⟨cc, 0, by rw [hA', Nat.zero_mul], .inr rfl, PRr_take pr⟩
   ·cases he
  ·cases he
 ·cases he
end
section
variable {P : Program}
def checkElems (b : Bool) (d : Nat) (e : TypeId) (n : Nat) (xs : Array Value) : List Nat → Sem Unit
 | [] => pure ()
 | i :: is => do
  let a ← part e xs (i * n)
  Instr.checkKey b d e a
  checkElems b d e n xs is
def checkFields (b : Bool) (d : Nat) (xs : Array Value) : List Field → Sem Unit
 | [] => pure ()
 | f :: fs => do
  if f.name ≠ "_" then Instr.checkKey b d f.type (← part f.type xs f.offset)
  checkFields b d xs fs
theorem run_checkKey_array (w : World) (b : Bool) (d : Nat) (t e : TypeId) (len n : Nat) (xs : Array Value) (ht : P.underlying t = some (.array len e)) (hs : szT P e = some n) :
  (Instr.checkKey b (d + 1) t (.agg xs)).run P w = (checkElems b d e n xs (List.range len)).run P w := by
 simp only [Instr.checkKey, Sem.run_bind, run_underlying ht, Result.andThen_ok]
 simp only [Std.Legacy.Range.forIn_eq_forIn_range', Std.Legacy.Range.size, Nat.sub_zero, Nat.add_sub_cancel, Nat.div_one, List.range_eq_range']
 generalize List.range' 0 len = is
 clear ht
 induction is generalizing w with
 | nil => simp [checkElems]
 | cons i is ih =>
  simp only [List.forIn_cons, checkElems, Sem.run_bind, run_szT hs, Result.andThen_ok]
  generalize (part e xs (i * n)).run P w = r1
  cases r1 with
  | halt x w1 => simp [Result.andThen]
  | ok a w1 =>
   simp only [Result.andThen_ok]
   generalize (Instr.checkKey b d e a).run P w1 = r2
   cases r2 with
   | halt x w2 => simp [Result.andThen]
   | ok u w2 =>
    simp only [Result.andThen_ok, Sem.run_pure]
    exact ih w2
theorem run_checkKey_struct (w : World) (b : Bool) (d : Nat) (t : TypeId) (fs : Array Field) (xs : Array Value) (ht : P.underlying t = some (.struct fs)) :
  (Instr.checkKey b (d + 1) t (.agg xs)).run P w = (checkFields b d xs fs.toList).run P w := by
 simp only [Instr.checkKey, Sem.run_bind, run_underlying ht, Result.andThen_ok]
 rw [← Array.forIn_toList]
 generalize fs.toList = l
 clear ht
 induction l generalizing w with
 | nil => simp [checkFields]
 | cons f l ih =>
  simp only [List.forIn_cons, checkFields, Sem.run_bind]
  by_cases hn : f.name ≠ "_"
  ·simp only [if_pos hn, Sem.run_bind]
   generalize (part f.type xs f.offset).run P w = r1
   cases r1 with
   | halt x w1 => simp [Result.andThen]
   | ok a w1 =>
    simp only [Result.andThen_ok]
    generalize (Instr.checkKey b d f.type a).run P w1 = r2
    cases r2 with
    | halt x w2 => simp [Result.andThen]
    | ok u w2 =>
     simp only [Result.andThen_ok, Sem.run_pure]
     exact ih w2
  ·simp only [if_neg hn, Sem.run_pure, Result.andThen_ok]
   exact ih w
theorem run_checkKey_plain : ∀ (n d : Nat) (t : TypeId) (ks : List Nat), n ≤ d → plainK P n t = some ks →
  ∀ (cu : List Value) (u : Value) (w : World) (bb : Bool), cu.length = ks.length → PartOf P t cu u → (Instr.checkKey bb d t u).run P w = .ok () w
 | 0, _, _, _, _, h => by simp [plainK] at h
 | n + 1, 0, _, _, hd, _ => by omega
 | n + 1, d + 1, t, ks, hd, h => by
  intro cu u w bb hl hp
  unfold plainK at h
  split at h
  ·rename_i hu
   simp only [Instr.checkKey, Sem.run_bind, run_underlying hu, Result.andThen_ok]
   cases u <;> rfl
  ·rename_i k hu
   simp only [Instr.checkKey, Sem.run_bind, run_underlying hu, Result.andThen_ok]
   cases u <;> rfl
  ·rename_i hu
   simp only [Instr.checkKey, Sem.run_bind, run_underlying hu, Result.andThen_ok]
   cases u <;> rfl
  ·rename_i fs hu
   split at h
   ·rename_i ks' hks
    split at h
    ·rename_i hc
     simp only [oiq] at h
     subst h
     have hb : aggT P t = some true := by simp [aggT, hu, isAggD]
     obtain ⟨b1, hb1, hp⟩ := hp
     rw [hb] at hb1
     simp only [oiq] at hb1
     subst hb1
     simp only [true_and, Bool.true_eq_false, false_and, or_false] at hp
     subst hp
     rw [run_checkKey_struct w bb d t fs _ hu]
     have key : ∀ (fl : List Field) (off : Nat) (ks : List Nat), plainKs P (plainK P n) fl off = some ks → off + ks.length = cu.length → (checkFields bb d cu.toArray fl).run P w = .ok () w := by
      intro fl
      induction fl with
      | nil => intro off ks _ _; simp [checkFields]
      | cons f fl ih =>
       intro off ks hk hc1
       simp only [plainKs] at hk
       split at hk
       ·rename_i ks1 hk1
        split at hk
        ·rename_i hc
         obtain ⟨hn, ho, hsz⟩ := hc
         cases hk2 : plainKs P (plainK P n) fl (off + ks1.length) with
         | none => simp [hk2] at hk
         | some ks2 =>
          simp only [hk2, msm, oiq] at hk
          subst hk
          rw [lap] at hc1
          obtain ⟨_, ⟨b, hb, hb1⟩, _⟩ := run_equalIn_plain n d f.type ks1 (by omega) hk1
          obtain ⟨x, hx, hpx⟩ := run_part (P := P) (w := w) (off := off) (xs := cu) hb hsz hb1 (by omega)
          have hrun := run_checkKey_plain n d f.type ks1 (by omega) hk1 _ x w bb (by simp; omega) hpx
          simp only [checkFields, if_pos hn, ho, Sem.run_bind, hx, Result.andThen_ok, hrun]
          exact ih (off + ks1.length) ks2 hk2 (by omega)
        ·cases hk
       ·cases hk
     exact key fs.toList 0 ks' hks (by omega)
    ·cases h
   ·cases h
  ·rename_i len e hu
   split at h
   ·rename_i ks' hks
    split at h
    ·rename_i hc
     simp only [oiq] at h
     have hb : aggT P t = some true := by simp [aggT, hu, isAggD]
     have hlen : (List.replicate len ks').flatten.length = len * ks'.length := by simp
     subst h
     obtain ⟨b1, hb1, hp⟩ := hp
     rw [hb] at hb1
     simp only [oiq] at hb1
     subst hb1
     simp only [true_and, Bool.true_eq_false, false_and, or_false] at hp
     subst hp
     rw [run_checkKey_array w bb d t e len ks'.length _ hu hc.1]
     obtain ⟨_, ⟨b, hb, hb1⟩, _⟩ := run_equalIn_plain n d e ks' (by omega) hks
     have key : ∀ (m i : Nat), (i + m) * ks'.length ≤ cu.length → (checkElems bb d e ks'.length cu.toArray (List.range' i m)).run P w = .ok () w := by
      intro m
      induction m with
      | zero => intro i _; simp [checkElems]
      | succ m ih =>
       intro i hi
       have hi2 : i * ks'.length + ks'.length ≤ cu.length := by
        have h1 : (i + 1) * ks'.length ≤ (i + (m + 1)) * ks'.length := Nat.mul_le_mul_right _ (by omega)
        rw [Nat.add_mul, Nat.one_mul] at h1
        omega
       obtain ⟨x, hx, hpx⟩ := run_part (P := P) (w := w) (off := i * ks'.length) (xs := cu) hb hc.1 hb1 hi2
       have hrun := run_checkKey_plain n d e ks' (by omega) hks _ x w bb (by simp; omega) hpx
       simp only [List.range'_succ, checkElems, Sem.run_bind, hx, Result.andThen_ok, hrun]
       exact ih (i + 1) (by rw [show i + 1 + m = i + (m + 1) from by omega]; exact hi)
     rw [List.range_eq_range']
     exact key len 0 (by rw [Nat.zero_add, hl, hlen]; exact Nat.le_refl _)
    ·cases h
   ·cases h
  ·cases h
theorem bytes_beq {a b : ByteArray} (h : (a == b) = true) : a = b := by
 rw [beq_toListBytes, ByteArray.toList_eq, ByteArray.toList_eq] at h
 have h2 := eq_of_beq h
 obtain ⟨⟨x⟩⟩ := a
 obtain ⟨⟨y⟩⟩ := b
 simp only at h2
 subst h2
 rfl
theorem bytes_self (a : ByteArray) : (a == a) = true := by
 rw [beq_toListBytes]
 exact beq_self_eq_true _
theorem eqV_eq {k : Nat} {x y : Value} (h : eqV k x y = some true) : x = y ∧ ∀ n, Instr.sameBits n x y = true := by
 unfold eqV at h
 split at h
 ·simp only [oiq, beq_iff_eq] at h
  subst h
  exact ⟨rfl, fun n => by cases n <;> simp [Instr.sameBits]⟩
 ·split at h
  ·rename_i hk
   simp only [oiq, beq_iff_eq] at h
   subst hk; subst h
   exact ⟨rfl, fun n => by cases n <;> simp [Instr.sameBits]⟩
  ·cases h
 ·simp only [oiq] at h
  have := bytes_beq h
  subst this
  exact ⟨rfl, fun n => by cases n <;> simp [Instr.sameBits, bytes_self]⟩
 ·cases h
theorem eqCV_eq : ∀ {ks : List Nat} {xs ys : List Value}, eqCV ks xs ys = some true → xs = ys ∧ ∀ n, (xs.zip ys).all (fun (x, y) => Instr.sameBits n x y) = true
 | [], [], [], _ => ⟨rfl, fun n => rfl⟩
 | k :: ks, x :: xs, y :: ys, h => by
  simp only [eqCV] at h
  split at h
  ·rename_i a b h1 h2
   simp only [oiq, Bool.and_eq_true] at h
   obtain ⟨rfl, rfl⟩ := h
   obtain ⟨rfl, e1⟩ := eqV_eq h1
   obtain ⟨rfl, e2⟩ := eqCV_eq h2
   exact ⟨rfl, fun n => by simp only [List.zip_cons_cons, List.all_cons, e1 n, e2 n, Bool.and_self]⟩
  ·cases h
 | [], _ :: _, _, h => by simp [eqCV] at h
 | [], [], _ :: _, h => by simp [eqCV] at h
 | _ :: _, _ :: _, [], h => by simp [eqCV] at h
 | _ :: _, [], _, h => by simp [eqCV] at h
theorem key_same {t : TypeId} {ks : List Nat} {cu cv : List Value} {u v : Value} (he : eqCV ks cu cv = some true) (hu : PartOf P t cu u) (hv : PartOf P t cv v) : u = v ∧ Instr.sameBits 10000 u v = true := by
 obtain ⟨rfl, hs⟩ := eqCV_eq he
 obtain ⟨b1, h1, hu⟩ := hu
 obtain ⟨b2, h2, hv⟩ := hv
 rw [h1] at h2
 simp only [oiq] at h2
 subst h2
 rcases hu with ⟨rfl, rfl⟩ | ⟨rfl, rfl⟩
 ·rcases hv with ⟨_, rfl⟩ | ⟨h, _⟩
  ·refine ⟨rfl, ?_⟩
   have := hs 9999
   show ((cu.toArray.size == cu.toArray.size) && (cu.toArray.toList.zip cu.toArray.toList).all fun (x, y) => Instr.sameBits 9999 x y) = true
   simpa using this
  ·cases h
 ·rcases hv with ⟨h, _⟩ | ⟨_, h⟩
  ·cases h
  ·simp only [List.cons.injEq, and_true] at h
   subst h
   refine ⟨rfl, ?_⟩
   match ks, he with
   | [k], he =>
    simp only [eqCV] at he
    split at he
    ·rename_i a b h1 h2
     simp only [oiq, Bool.and_eq_true] at he
     obtain ⟨rfl, rfl⟩ := he
     exact (eqV_eq h1).2 10000
    ·cases he
   | [], he => simp [eqCV] at he
   | _ :: _ :: _, he => simp [eqCV] at he
section
variable {gl : Nat → Option (List PV)} {a : Act} {f : List AV} {g : G} {h : List AB} {w : World} {o : Oper}
theorem eqK_run {kt : TypeId} {ks : List Nat} {agg : Bool} {x y : AV} {u v : Value} {r : Bool} (ha : aggT P kt = some agg) (hx : VR g w x u) (hy : VR g w y v) (he : eqK agg ks x y = some r) :
  eqCV ks u.cells.toList v.cells.toList = some r ∧ PartOf P kt u.cells.toList u ∧ PartOf P kt v.cells.toList v := by
 unfold eqK at he
 split at he
 ·rename_i hag
  obtain ⟨cs, hcs, he⟩ := bei.1 he
  obtain ⟨ds, hds, he⟩ := bei.1 he
  exact ⟨eqC_vals he (cellsOf_rel hx hcs).1 (cellsOf_rel hy hds).1, partOf_val hx hcs ha hag.1, partOf_val hy hds ha hag.2⟩
 ·cases he
theorem sameNow_eq {kt : TypeId} {ks : List Nat} {D : TypeDesc} {u v : Value} {r r' : Bool} (hk : plainK P 40 kt = some ks) (hD : P.underlying kt = some D) (he : eqCV ks u.cells.toList v.cells.toList = some r) (hu : PartOf P kt u.cells.toList u) (hv : PartOf P kt v.cells.toList v)
  (hs : Instr.sameNow D u v = some r') : r' = r := by
 unfold plainK at hk
 rw [hD] at hk
 have basic : ∀ k, ks = [k] → u.cells.toList = [u] → v.cells.toList = [v] → eqV k u v = some r := by
  intro k hks h1 h2
  rw [hks, h1, h2] at he
  simp only [eqCV] at he
  split at he
  ·rename_i a b l1 l2
   simp only [oiq] at l2 he
   subst l2
   rw [l1]
   simpa using he
  ·cases he
 have part1 : isAggD D = false → u.cells.toList = [u] ∧ v.cells.toList = [v] := by
  intro hd
  have hb : aggT P kt = some false := by simp [aggT, hD, hd]
  obtain ⟨b1, hb1, hu⟩ := hu
  obtain ⟨b2, hb2, hv⟩ := hv
  rw [hb] at hb1 hb2
  simp only [oiq] at hb1 hb2
  subst hb1; subst hb2
  simp only [Bool.false_eq_true, false_and, true_and, false_or] at hu hv
  exact ⟨hu, hv⟩
 cases D <;> simp only [reduceCtorEq] at hk
 case bool =>
  split at hk
  ·simp only [oiq] at hk
   obtain ⟨p1, p2⟩ := part1 rfl
   have h1 := basic 0 hk.symm p1 p2
   obtain ⟨x, y, rfl, rfl⟩ := eqV0 h1
   simp only [Instr.sameNow, oiq] at hs
   simp only [eqV, oiq] at h1
   rw [← hs, ← h1]
  ·cases hk
 case int k =>
  split at hk
  ·simp only [oiq] at hk
   obtain ⟨p1, p2⟩ := part1 rfl
   have h1 := basic 1 hk.symm p1 p2
   unfold Instr.sameNow at hs
   split at hs
   ·simp only [eqV] at h1
    split at hs
    ·rename_i hc
     rw [if_pos hc] at h1
     simp only [oiq] at hs h1
     rw [← hs, ← h1]
    ·cases hs
   ·simp [eqV] at h1
   ·simp [eqV] at h1
   ·cases hs
  ·cases hk
 case string =>
  split at hk
  ·simp only [oiq] at hk
   obtain ⟨p1, p2⟩ := part1 rfl
   have h1 := basic 2 hk.symm p1 p2
   unfold Instr.sameNow at hs
   split at hs
   ·simp [eqV] at h1
   ·simp only [eqV, oiq] at h1
    simp only [oiq] at hs
    rw [← hs, ← h1]
   ·simp [eqV] at h1
   ·cases hs
  ·cases hk
 all_goals (exfalso; simp [Instr.sameNow] at hs)
def outF (r : Option Nat) (i : Nat) (arr : List MapEntry) : Option (Nat × Value) :=
 match r with
 | none => none
 | some j => (arr[j - i]?).map fun e => (j, e.val)
theorem findM_ge {agg : Bool} {ks : List Nat} {k : AV} : ∀ {xs : List (AV × AV)} {i j : Nat}, findM agg ks k xs i = some (some j) → i ≤ j
 | [], i, j, h => by simp [findM] at h
 | e :: xs, i, j, h => by
  simp only [findM] at h
  split at h
  ·simp only [oiq] at h; omega
  ·have := findM_ge h; omega
  ·cases h
theorem find_ask {kt : TypeId} {ks : List Nat} {agg : Bool} (hk : plainK P 40 kt = some ks) (ha : aggT P kt = some agg) {k : AV} {kv : Value} (hkv : VR g w k kv) : ∀ (xs : List (AV × AV)) (arr : List MapEntry) (i i0 : Nat) (r : Option Nat), MpR g w i0 xs arr → findM agg ks k xs i = some r →
  (Instr.findAsking kt kv arr i).run P w = .ok (outF r i arr) w
 | [], [], i, i0, r, _, hf => by
  simp only [findM, oiq] at hf
  subst hf
  rfl
 | x :: xs, e :: arr, i, i0, r, hm, hf => by
  simp only [MpR] at hm
  simp only [findM] at hf
  have key : ∀ b, eqK agg ks k x.1 = some b → (Op.equal kt kv e.key).run P w = .ok b w := by
   intro b hb
   obtain ⟨h1, h2, h3⟩ := eqK_run (P := P) ha hkv hm.1.1 hb
   exact (run_equalIn_plain 40 10000 kt ks (by omega) hk).2.2 _ _ b _ _ w h1 h2 h3
  split at hf
  ·rename_i hb
   simp only [oiq] at hf
   subst hf
   simp only [Instr.findAsking, Sem.run_bind, key _ hb, Result.andThen_ok, if_true, Sem.run_pure]
   simp [outF]
  ·rename_i hb
   have ih := find_ask hk ha hkv xs arr (i + 1) (i0 + 1) r hm.2 hf
   simp only [Instr.findAsking, Sem.run_bind, key _ hb, Result.andThen_ok, Bool.false_eq_true, if_false, ih]
   cases r with
   | none => rfl
   | some j =>
    have := findM_ge hf
    have e1 : j - i = (j - (i + 1)) + 1 := by omega
    simp only [outF, e1, List.getElem?_cons_succ]
  ·cases hf
 | [], _ :: _, _, _, _, hm, _ => by simp [MpR] at hm
 | _ :: _, [], _, _, _, hm, _ => by simp [MpR] at hm
theorem find_now {kt : TypeId} {ks : List Nat} {agg : Bool} {D : TypeDesc} (hk : plainK P 40 kt = some ks) (ha : aggT P kt = some agg) (hD : P.underlying kt = some D) {k : AV} {kv : Value} (hkv : VR g w k kv) : ∀ (xs : List (AV × AV)) (arr : List MapEntry) (i i0 : Nat) (r : Option Nat) (r' : Option (Nat × Value)), MpR g w i0 xs arr → findM agg ks k xs i = some r →
  Instr.findNow D kv arr i = some r' → r' = outF r i arr
 | [], [], i, i0, r, r', _, hf, hn => by
  simp only [findM, oiq] at hf
  simp only [Instr.findNow, oiq] at hn
  subst hf; subst hn
  rfl
 | x :: xs, e :: arr, i, i0, r, r', hm, hf, hn => by
  simp only [MpR] at hm
  simp only [findM] at hf
  simp only [Instr.findNow] at hn
  have key : ∀ b b', eqK agg ks k x.1 = some b → Instr.sameNow D kv e.key = some b' → b' = b := by
   intro b b' hb hs
   obtain ⟨h1, h2, h3⟩ := eqK_run (P := P) ha hkv hm.1.1 hb
   exact sameNow_eq hk hD h1 h2 h3 hs
  split at hf
  ·rename_i hb
   simp only [oiq] at hf
   subst hf
   split at hn
   ·simp only [oiq] at hn
    subst hn
    simp [outF]
   ·rename_i hs
    have := key _ _ hb hs
    cases this
   ·cases hn
  ·rename_i hb
   split at hn
   ·rename_i hs
    have := key _ _ hb hs
    cases this
   ·have ih := find_now hk ha hD hkv xs arr (i + 1) (i0 + 1) r r' hm.2 hf hn
    rw [ih]
    cases r with
    | none => rfl
    | some j =>
     have := findM_ge hf
     have e1 : j - i = (j - (i + 1)) + 1 := by omega
     simp only [outF, e1, List.getElem?_cons_succ]
   ·cases hn
  ·cases hf
 | [], _ :: _, _, _, _, _, hm, _, _ => by simp [MpR] at hm
 | _ :: _, [], _, _, _, _, hm, _, _ => by simp [MpR] at hm
theorem run_findKey {kt : TypeId} {ks : List Nat} {agg : Bool} {D : TypeDesc} (hk : plainK P 40 kt = some ks) (ha : aggT P kt = some agg) (hD : P.underlying kt = some D) {k : AV} {kv : Value} (hkv : VR g w k kv) {xs : List (AV × AV)} {arr : List MapEntry} {r : Option Nat} {i0 : Nat} (hm : MpR g w i0 xs arr) (hf : findM agg ks k xs 0 = some r) :
  (Instr.findKey kt kv arr).run P w = .ok (outF r 0 arr) w := by
 simp only [Instr.findKey, Sem.run_bind, run_underlying hD, Result.andThen_ok]
 split
 ·rename_i r' hn
  rw [find_now hk ha hD hkv xs arr 0 i0 r r' hm hf hn]
  rfl
 ·exact find_ask hk ha hkv xs arr 0 i0 r hm hf
theorem MpR_get : ∀ {i0 i : Nat} {xs : List (AV × AV)} {arr : List MapEntry} {x : AV × AV}, MpR g w i0 xs arr → xs[i]? = some x → ∃ e, arr[i]? = some e ∧ VR g w x.1 e.key ∧ VR g w x.2 e.val ∧ e.born = i0 + i
 | i0, 0, x :: xs, e :: arr, y, h, hi => by
  simp only [MpR] at h
  simp at hi
  subst hi
  exact ⟨e, rfl, h.1.1, h.1.2.1, by simpa using h.1.2.2⟩
 | i0, i + 1, x :: xs, e :: arr, y, h, hi => by
  simp only [MpR] at h
  obtain ⟨e', h1, h2, h3, h4⟩ := MpR_get h.2 (by simpa using hi)
  exact ⟨e', by simpa using h1, h2, h3, by omega⟩
 | _, _, [], [], _, _, hi => by simp at hi
 | _, _, [], _ :: _, _, h, _ => by simp [MpR] at h
 | _, _, _ :: _, [], _, h, _ => by simp [MpR] at h
theorem MpR_len : ∀ {i0 : Nat} {xs : List (AV × AV)} {arr : List MapEntry}, MpR g w i0 xs arr → xs.length = arr.length
 | _, [], [], _ => rfl
 | _, _ :: _, _ :: _, h => by simp only [MpR] at h; simp [MpR_len h.2]
 | _, [], _ :: _, h => by simp [MpR] at h
 | _, _ :: _, [], h => by simp [MpR] at h
theorem MpR_set : ∀ {i0 i : Nat} {xs : List (AV × AV)} {arr : List MapEntry} {y : AV} {v : Value} {x : AV × AV} {e : MapEntry}, MpR g w i0 xs arr → xs[i]? = some x → arr[i]? = some e → VR g w y v → MpR g w i0 (xs.set i (x.1, y)) (arr.set i { e with val := v })
 | i0, 0, x :: xs, e :: arr, y, v, x', e', h, hx, he, hv => by
  simp only [MpR, List.set] at h ⊢
  simp at hx he
  subst hx; subst he
  exact ⟨⟨h.1.1, hv, h.1.2.2⟩, h.2⟩
 | i0, i + 1, x :: xs, e :: arr, y, v, x', e', h, hx, he, hv => by
  simp only [MpR, List.set] at h ⊢
  exact ⟨h.1, MpR_set h.2 (by simpa using hx) (by simpa using he) hv⟩
 | _, _, [], [], _, _, _, _, _, hx, _, _ => by simp at hx
 | _, _, [], _ :: _, _, _, _, _, h, _, _, _ => by simp [MpR] at h
 | _, _, _ :: _, [], _, _, _, _, h, _, _, _ => by simp [MpR] at h
theorem MpR_snoc : ∀ {i0 : Nat} {xs : List (AV × AV)} {arr : List MapEntry} {k y : AV} {kv v : Value}, MpR g w i0 xs arr → VR g w k kv → VR g w y v → MpR g w i0 (xs ++ [(k, y)]) (arr ++ [⟨kv, v, i0 + xs.length⟩])
 | i0, [], [], k, y, kv, v, h, hk, hv => by simp only [List.nil_append, MpR]; exact ⟨⟨hk, hv, by simp⟩, trivial⟩
 | i0, x :: xs, e :: arr, k, y, kv, v, h, hk, hv => by
  simp only [MpR, List.cons_append, List.length_cons] at h ⊢
  have := MpR_snoc h.2 hk hv
  rw [show i0 + 1 + xs.length = i0 + (xs.length + 1) from by omega] at this
  exact ⟨h.1, this⟩
 | _, [], _ :: _, _, _, _, _, h, _, _ => by simp [MpR] at h
 | _, _ :: _, [], _, _, _, _, h, _, _ => by simp [MpR] at h
theorem keyOk_of {kt : TypeId} {ks : List Nat} {agg : Bool} {k : AV} {kv : Value} (ha : aggT P kt = some agg) (hkv : VR g w k kv) (h : keyOk agg ks k = true) : PartOf P kt kv.cells.toList kv ∧ kv.cells.toList.length = ks.length := by
 unfold keyOk at h
 split at h
 ·rename_i cs hcs
  simp only [Bool.and_eq_true, beq_iff_eq] at h
  exact ⟨partOf_val hkv hcs ha h.1, by rw [← (cellsOf_rel hkv hcs).1.len]; exact Nat.eq_of_beq_eq_true h.2⟩
 ·cases h
theorem run_zeroA {t : TypeId} {b : Bool} {z : List Value} (ss : List (Nat × TypeId)) (h : zeroA P t = some (b, z)) : ∃ v, (zeroValue t).run P w = .ok v w ∧ ∀ x, oneOr b ((zps z ss).map AV.p) = some x → VR g w x v := by
 unfold zeroA at h
 cases hi : P.info? t with
 | none => simp [hi] at h
 | some i =>
  simp only [hi, bsm] at h
  cases hz : i.zero with
  | none => simp [hz] at h
  | some v =>
   simp only [hz, bsm] at h
   refine ⟨v, by simp [zeroValue, typeInfo, hi, hz], ?_⟩
   have zr : ∀ (l : List Value) (ss : List (Nat × TypeId)), VRs g w ((zps l ss).map AV.p) l := by
    intro l
    induction l with
    | nil => intro ss; simp [zps, VRs]
    | cons u l ih =>
     intro ss
     cases ss with
     | nil => simp only [zps, mcs, VRs]; exact ⟨by simp [VR, PR], ih []⟩
     | cons s ss => simp only [zps, mcs, VRs]; exact ⟨zp_rel, ih ss⟩
   intro x hx
   split at h
   ·rename_i cs
    split at h
    ·simp only [oiq, piq] at h
     obtain ⟨rfl, rfl⟩ := h
     simp only [oneOr, if_true, oiq] at hx
     subst hx
     simp only [VR]
     exact ⟨cs, rfl, zr _ _⟩
    ·cases h
   ·split at h
    ·simp only [oiq, piq] at h
     obtain ⟨rfl, rfl⟩ := h
     have h1 := zr [v] ss
     simp only [oneOr, Bool.false_eq_true, if_false] at hx
     cases ss with
     | nil => simp only [zps, mcs, List.map_nil, oiq] at hx h1; subst hx; simp only [VRs] at h1; exact h1.1
     | cons s ss => simp only [zps, mcs, List.map_nil, oiq] at hx h1; subst hx; simp only [VRs] at h1; exact h1.1
    ·cases h
def setMap (w : World) (c : Nat) (arr : Array MapEntry) (n : Nat) : World := { w with heap := w.heap.setIfInBounds c (.map arr n) }
theorem upd_map (hr : HR g h w) {b q q' : Nat} {es es' : List (AV × AV)} (hb : h[b]? = some (.map q es)) {arr arr' : Array MapEntry} (hc : w.heap[g.m b]? = some (.map arr (q + es.length))) (hm : MpR g w q' es' arr'.toList) :
  Ext g w g (setMap w (g.m b) arr' (q' + es'.length)) ∧ HR g (h.set b (.map q' es')) (setMap w (g.m b) arr' (q' + es'.length)) := by
 have hlt := heap_lt hc
 have hoth : ∀ k, g.m b ≠ k → (setMap w (g.m b) arr' (q' + es'.length)).heap[k]? = w.heap[k]? := fun k hk => by simp [setMap, Array.getElem?_setIfInBounds, hk]
 have hpr : ∀ c, g.Pr c → (setMap w (g.m b) arr' (q' + es'.length)).heap[c]? = w.heap[c]? := fun c hp => hoth c (fun e => hr.own b _ (g.m b) hb rfl (by rw [e]; exact hp))
 have he : Ext g w g (setMap w (g.m b) arr' (q' + es'.length)) := ⟨fun _ h => h, fun _ h => h, hpr, Nat.le_refl _, fun _ h => h, fun _ _ => rfl, fun _ _ => Nat.le_refl _, fun _ _ _ _ => rfl, by simp [setMap], rfl, rfl, rfl, fun _ h => .inl h, rfl, by first | assumption | exact fun _ => (by first | assumption | exact Nat.le_refl _ | exact Nat.le_succ _)⟩
 refine ⟨he, HR.upd hr hb he rfl rfl rfl (fun _ _ => rfl) ?_ ?_ (fun c hc => .inl hc)⟩
 ·intro c _ hne
  exact hoth c (fun e => hne (by simp [cid, e]))
 ·simp only [BR]
  exact ⟨arr', by simp [setMap, hlt], MpR_mono he hr.spr _ _ _ hm⟩
theorem getMap {r : Nat} {es : Array MapEntry} {clock : Nat} (hb : w.heap[r]? = some (.map es clock)) : (getObj r).run P w = .ok (.map es clock) w := by
 simp [getObj, Sem.run, hb]
theorem putMap {r n : Nat} {es es' : Array MapEntry} {clock : Nat} (hb : w.heap[r]? = some (.map es clock)) : (setObj r (.map es' n)).run P w = .ok () (setMap w r es' n) := by
 simp [setObj, Sem.run, hb, setMap]
theorem mapAt_of (c : Ctx P gl a f g h w) {m : Operand} {b q : Nat} {es : List (AV × AV)} (hm : mapAt h ((opd m).ev f gl) = some (b, q, es)) :
  h[b]? = some (.map q es) ∧ a.eval m = .map (some (g.m b)) ∧ ∃ arr, w.heap[g.m b]? = some (.map arr (q + es.length)) ∧ MpR g w q es arr.toList := by
 unfold mapAt at hm
 split at hm
 ·rename_i b' e
  split at hm
  ·rename_i q' es' hb
   simp only [oiq, piq] at hm
   obtain ⟨rfl, rfl, rfl⟩ := hm
   have hv := c.opd m
   rw [e] at hv
   simp only [VR] at hv
   have hbr := c.hr.br _ _ hb
   simp only [BR] at hbr
   exact ⟨hb, hv.2, hbr⟩
  ·cases hm
 ·cases hm
theorem s_mkMap (c : Ctx P gl a f g h w) {t : TypeId} (ho : o.op = .makeMap t none) : Fits P o a g w (.mp h.length) (h ++ [.map 0 []]) := by
 have hold : ∀ k, k < w.heap.size → (w.alloc (.map #[] 0)).heap[k]? = w.heap[k]? := fun k hk => Below.heap_alloc w _ k hk
 have hp := HR.push (g' := gCells g w.heap.size) (w' := w.alloc (.map #[] 0)) c.hr (.map 0 []) rfl rfl rfl (fun b hb => by simp [gCells]; omega) (fun _ _ => rfl) (fun _ _ => rfl) hold (by simp) rfl rfl rfl
  (by simp only [BR]; exact ⟨#[], by simp only [gCells, if_true]; exact alloc_new' w _, by simp [MpR]⟩) (by intro k hk; simp [cid, gCells] at hk; omega)
 refine ⟨.map (some w.heap.size), w.alloc (.map #[] 0), gCells g w.heap.size, ?_, hp.1, hp.2, ?_⟩
 ·have : (Instr.makeMap t none).run P w = .ok (.map (some w.heap.size)) (w.alloc (.map #[] 0)) := rfl
  simp only [execOp, ho, Sem.run_bind, Option.map_none, this, Result.andThen_ok, Sem.run_pure]
  rfl
 ·simp only [VR]
  rw [← c.hr.n]
  exact ⟨D_cells c.hr _, by simp [gCells]⟩
theorem s_lkUp (c : Ctx P gl a f g h w) {t : TypeId} {m k : Operand} {ok : Bool} {r : List Nat × Bool × Bool × List Value} {v : AV} {h' : List AB} (ho : o.op = .lookup t m k ok) (hc : compMap P t = some r)
  {ss : List (Nat × TypeId)} (he : evI gl f h (.lkUp r.1 r.2.1 r.2.2.1 (zps r.2.2.2 ss) ok (opd m) (opd k)) = some (v, h')) : Fits P o a g w v h' := by
 unfold compMap at hc
 split at hc
 ·rename_i kt et hu
  split at hc
  ·rename_i ks agg z hk ha hz
   simp only [oiq] at hc
   subst hc
   simp only at he
   obtain ⟨D, hD⟩ : ∃ D, P.underlying kt = some D := by
    unfold aggT at ha
    cases hd : P.underlying kt with
    | none => simp [hd] at ha
    | some D => exact ⟨D, rfl⟩
   obtain ⟨zv, hzr, hzx⟩ := run_zeroA (g := g) (w := w) (b := z.1) (z := z.2) ss (show zeroA P et = some (z.1, z.2) from hz)
   have hkv := c.opd k
   have fin' : ∀ (u : Value) (fd : Bool) (x : AV), VR g w x u → (Instr.lookup t (a.eval m) (a.eval k) ok).run P w = .ok (if ok then .tuple #[u, .bool fd] else u) w → Fits P o a g w (lkRes ok x fd) h := by
    intro u fd x hx hrun
    refine fits_same c (x := if ok then .tuple #[u, .bool fd] else u) ?_ ?_
    ·simp only [execOp, ho, Sem.run_bind, hrun, Result.andThen_ok, Sem.run_pure]
    ·unfold lkRes
     cases ok with
     | true => simp only [if_true, VR]; exact ⟨_, rfl, by simp [VRs, VR, PR, hx]⟩
     | false => simpa using hx
   simp only [evI] at he
   split at he
   ·rename_i e0
    have hv := val_of (c.opd m) e0
    split at he
    ·rename_i hkey
     obtain ⟨x, hx, he⟩ := mei.1 he
     simp only [piq] at he
     obtain ⟨rfl, rfl⟩ := he
     obtain ⟨hp, hl⟩ := keyOk_of (P := P) ha hkv hkey
     refine fin' zv false x (hzx x hx) ?_
     have h1 := run_checkKey_plain 40 10000 kt ks (by omega) hk _ _ w true hl hp
     have h2 := run_findKey hk ha hD hkv (xs := []) (arr := []) (r := none) (i0 := 0) (by simp [MpR]) rfl
     simp only [Instr.lookup, Sem.run_bind, run_underlying hu, Result.andThen_ok, hv, Sem.run_pure]
     have h1' : (Instr.checkKey (#[] : Array MapEntry).isEmpty 10000 kt (a.eval k)).run P w = .ok () w := h1
     have h2' : (Instr.findKey kt (a.eval k) (#[] : Array MapEntry).toList).run P w = .ok none w := h2
     simp only [h1', Result.andThen_ok, h2', Sem.run_bind, hzr, Sem.run_pure]
    ·cases he
   ·obtain ⟨⟨b, q, es⟩, hm, he⟩ := bei.1 he
    obtain ⟨x, hx, he⟩ := mei.1 he
    simp only [piq] at he
    obtain ⟨rfl, rfl⟩ := he
    obtain ⟨hb, hv, arr, harr, hmp⟩ := mapAt_of c hm
    unfold lookM at hx
    split at hx
    ·rename_i hkey
     obtain ⟨hp, hl⟩ := keyOk_of (P := P) ha hkv hkey
     have h1 := run_checkKey_plain 40 10000 kt ks (by omega) hk _ _ w arr.isEmpty hl hp
     split at hx
     ·rename_i i hf
      obtain ⟨y, hy, rfl⟩ := mei.1 hx
      obtain ⟨e, q1, q2, q3, q4⟩ := MpR_get hmp hy
      have h2 := run_findKey hk ha hD hkv hmp hf
      simp only [outF, Nat.sub_zero, q1, msm] at h2
      refine fin' e.val true y.2 q3 ?_
      simp only [Instr.lookup, Sem.run_bind, run_underlying hu, Result.andThen_ok, hv, getMap harr, Sem.run_pure, h1, h2]
     ·rename_i hf
      obtain ⟨y, hy, rfl⟩ := mei.1 hx
      have h2 := run_findKey hk ha hD hkv hmp hf
      simp only [outF] at h2
      refine fin' zv false y (hzx y hy) ?_
      simp only [Instr.lookup, Sem.run_bind, run_underlying hu, Result.andThen_ok, hv, getMap harr, Sem.run_pure, h1, h2, hzr]
     ·cases hx
    ·cases hx
  ·cases hc
 ·cases hc
theorem modify_key {arr : Array MapEntry} {i : Nat} {e : MapEntry} (h : arr.toList[i]? = some e) : (arr.modify i fun q => { q with key := e.key }) = arr := by
 apply Array.ext_getElem?
 intro j
 rw [Array.getElem?_modify]
 rw [agtl] at h
 split
 ·rename_i hij
  subst hij
  rw [h]
  rfl
 ·rfl
theorem modify_both {arr : Array MapEntry} {i : Nat} {e : MapEntry} {v : Value} (h : arr.toList[i]? = some e) : (arr.modify i fun q => { q with key := e.key, val := v }).toList = arr.toList.set i { e with val := v } := by
 apply List.ext_getElem?
 intro j
 rw [agtl, Array.getElem?_modify, gst]
 rw [agtl] at h
 have hi : i < arr.size := (Array.getElem?_eq_some_iff.1 h).1
 split
 ·rename_i hij
  subst hij
  rw [h]
  simp [hi]
 ·rw [agtl]
theorem modify_val {arr : Array MapEntry} {i : Nat} {e : MapEntry} {v : Value} (h : arr.toList[i]? = some e) : (arr.modify i fun q => { q with val := v }).toList = arr.toList.set i { e with val := v } := by
 apply List.ext_getElem?
 intro j
 rw [agtl, Array.getElem?_modify, gst]
 rw [agtl] at h
 have hi : i < arr.size := (Array.getElem?_eq_some_iff.1 h).1
 split
 ·rename_i hij
  subst hij
  rw [h]
  simp [hi]
 ·rw [agtl]
theorem findM_key {kt : TypeId} {ks : List Nat} {agg : Bool} (ha : aggT P kt = some agg) {k : AV} {kv : Value} (hkv : VR g w k kv) : ∀ {xs : List (AV × AV)} {arr : List MapEntry} {i0 i j : Nat}, MpR g w i0 xs arr → findM agg ks k xs i = some (some j) → ∃ e, arr[j - i]? = some e ∧ kv = e.key ∧ Instr.sameBits 10000 e.key kv = true
 | [], [], _, _, _, _, h => by simp [findM] at h
 | x :: xs, e :: arr, i0, i, j, hm, h => by
  simp only [MpR] at hm
  simp only [findM] at h
  split at h
  ·rename_i hb
   simp only [oiq] at h
   subst h
   obtain ⟨h1, h2, h3⟩ := eqK_run (P := P) ha hkv hm.1.1 hb
   obtain ⟨q1, q2⟩ := key_same h1 h2 h3
   exact ⟨e, by simp, q1, by rw [q1] at q2; rw [q1]; exact q2⟩
  ·have := findM_ge h
   obtain ⟨e', q1, q2, q3⟩ := findM_key ha hkv hm.2 h
   have e1 : j - i = (j - (i + 1)) + 1 := by omega
   exact ⟨e', by rw [e1]; simpa using q1, q2, q3⟩
  ·cases h
 | [], _ :: _, _, _, _, hm, _ => by simp [MpR] at hm
 | _ :: _, [], _, _, _, hm, _ => by simp [MpR] at hm
theorem s_mapUp (c : Ctx P gl a f g h w) {t : TypeId} {m k x : Operand} {r : List Nat × Bool × Bool × List Value} {v : AV} {h' : List AB} (ho : o.op = .mapUpdate t m k x ∨ o.op = .insert t m k x) (hc : compMap P t = some r)
  (he : evI gl f h (.mapUp r.1 r.2.1 (opd m) (opd k) (opd x)) = some (v, h')) : Fits P o a g w v h' := by
 unfold compMap at hc
 split at hc
 ·rename_i kt et hu
  split at hc
  ·rename_i ks agg z hk ha hz
   simp only [oiq] at hc
   subst hc
   simp only at he
   obtain ⟨D, hD⟩ : ∃ D, P.underlying kt = some D := by
    unfold aggT at ha
    cases hd : P.underlying kt with
    | none => simp [hd] at ha
    | some D => exact ⟨D, rfl⟩
   have hkv := c.opd k
   have hxv := c.opd x
   simp only [evI] at he
   obtain ⟨⟨b, q, es⟩, hm, he⟩ := bei.1 he
   obtain ⟨es', hx, he⟩ := mei.1 he
   simp only [piq] at he
   obtain ⟨rfl, rfl⟩ := he
   obtain ⟨hb, hv, arr, harr, hmp⟩ := mapAt_of c hm
   unfold updM at hx
   have fin' : ∀ w', (Instr.mapUpdate t (a.eval m) (a.eval k) (a.eval x)).run P w = .ok () w' → fin ((execOp a.eval o).run P w) = some (undef, w') := by
    intro w' hrun
    rcases ho with ho | ho <;> simp only [execOp, ho, Sem.run_bind, hrun, Result.andThen_ok, Sem.run_pure] <;> rfl
   split at hx
   ·rename_i hkey
    obtain ⟨hp, hl⟩ := keyOk_of (P := P) ha hkv hkey
    have h1 := run_checkKey_plain 40 10000 kt ks (by omega) hk _ _ w false hl hp
    split at hx
    ·rename_i i hf
     unfold putM at hx
     obtain ⟨y, hy, rfl⟩ := mei.1 hx
     obtain ⟨e, q1, q2, q3, q4⟩ := MpR_get hmp hy
     have h2 := run_findKey hk ha hD hkv hmp hf
     simp only [outF, Nat.sub_zero, q1, msm] at h2
     obtain ⟨e2, r1, r2, r3⟩ := findM_key (P := P) ha hkv hmp hf
     rw [Nat.sub_zero, q1] at r1
     simp only [oiq] at r1
     subst r1
     have hst : (Instr.keyThatStays (((arr[i]?).map (·.key)).getD (a.eval k)) (a.eval k)).run P w = .ok e.key w := by
      rw [← agtl, q1]
      simp only [msm, Option.getD_some, Instr.keyThatStays, r3, if_true, Sem.run_pure]
      rw [r2]
     have hset : (arr.modify i fun q => { q with key := e.key, val := a.eval x }).toList = arr.toList.set i { e with val := a.eval x } := modify_both q1
     have hm2 := MpR_set hmp hy q1 hxv
     rw [← hset] at hm2
     obtain ⟨p1, p2⟩ := upd_map c.hr hb harr hm2
     rw [List.length_set] at p1 p2
     refine ⟨undef, _, g, fin' _ ?_, p1, p2, VR_ud⟩
     simp only [Instr.mapUpdate, Sem.run_bind, run_underlying hu, Result.andThen_ok, hv, getMap harr, h1, h2, hst, putMap harr]
    ·rename_i hf
     simp only [oiq] at hx
     subst hx
     have h2 := run_findKey hk ha hD hkv hmp hf
     simp only [outF] at h2
     have hm2 := MpR_snoc hmp hkv hxv
     rw [show arr.toList ++ [(⟨a.eval k, a.eval x, q + es.length⟩ : MapEntry)] = (arr.push ⟨a.eval k, a.eval x, q + es.length⟩).toList from by simp] at hm2
     obtain ⟨p1, p2⟩ := upd_map c.hr hb harr hm2
     rw [lap, List.length_singleton, ← Nat.add_assoc] at p1 p2
     refine ⟨undef, _, g, fin' _ ?_, p1, p2, VR_ud⟩
     simp only [Instr.mapUpdate, Sem.run_bind, run_underlying hu, Result.andThen_ok, hv, getMap harr, h1, h2, putMap harr]
    ·cases hx
   ·cases hx
  ·cases hc
 ·cases hc
theorem s_mapEn (c : Ctx P gl a f g h w) {t : TypeId} {m k : Operand} {r : List Nat × Bool × Bool × List Value} {v : AV} {h' : List AB} (ho : o.op = .mapEntry t m k) (hc : compMap P t = some r)
  {ss : List (Nat × TypeId)} (he : evI gl f h (.mapEn r.1 r.2.1 r.2.2.1 (zps r.2.2.2 ss) (opd m) (opd k)) = some (v, h')) : Fits P o a g w v h' := by
 unfold compMap at hc
 split at hc
 ·rename_i kt et hu
  split at hc
  ·rename_i ks agg z hk ha hz
   simp only [oiq] at hc
   subst hc
   simp only at he
   obtain ⟨D, hD⟩ : ∃ D, P.underlying kt = some D := by
    unfold aggT at ha
    cases hd : P.underlying kt with
    | none => simp [hd] at ha
    | some D => exact ⟨D, rfl⟩
   obtain ⟨zv, hzr, hzx⟩ := run_zeroA (g := g) (w := w) (b := z.1) (z := z.2) ss (show zeroA P et = some (z.1, z.2) from hz)
   have hkv := c.opd k
   simp only [evI] at he
   obtain ⟨⟨b, q, es⟩, hm, he⟩ := bei.1 he
   obtain ⟨⟨x, es'⟩, hx, he⟩ := mei.1 he
   simp only [piq] at he
   obtain ⟨rfl, rfl⟩ := he
   obtain ⟨hb, hv, arr, harr, hmp⟩ := mapAt_of c hm
   unfold enterM at hx
   have fin' : ∀ u w', (Instr.mapEntry t (a.eval m) (a.eval k)).run P w = .ok u w' → fin ((execOp a.eval o).run P w) = some (u, w') := by
    intro u w' hrun
    simp only [execOp, ho, Sem.run_bind, hrun, Result.andThen_ok, Sem.run_pure]
    rfl
   split at hx
   ·rename_i hkey
    obtain ⟨hp, hl⟩ := keyOk_of (P := P) ha hkv hkey
    have h1 := run_checkKey_plain 40 10000 kt ks (by omega) hk _ _ w false hl hp
    split at hx
    ·rename_i i hf
     obtain ⟨y, hy, hx⟩ := mei.1 hx
     simp only [piq] at hx
     obtain ⟨rfl, rfl⟩ := hx
     obtain ⟨e, q1, q2, q3, q4⟩ := MpR_get hmp hy
     have h2 := run_findKey hk ha hD hkv hmp hf
     simp only [outF, Nat.sub_zero, q1, msm] at h2
     obtain ⟨e2, r1, r2, r3⟩ := findM_key (P := P) ha hkv hmp hf
     rw [Nat.sub_zero, q1] at r1
     simp only [oiq] at r1
     subst r1
     have hst : (Instr.keyThatStays (((arr[i]?).map (·.key)).getD (a.eval k)) (a.eval k)).run P w = .ok e.key w := by
      rw [← agtl, q1]
      simp only [msm, Option.getD_some, Instr.keyThatStays, r3, if_true, Sem.run_pure]
      rw [r2]
     have hborn : ((arr[i]?).map fun q => (q.born : Int)).getD 0 = ((q + i : Nat) : Int) := by
      rw [← agtl, q1]
      simp [q4]
     obtain ⟨p1, p2⟩ := upd_map c.hr hb harr hmp
     refine ⟨.tuple #[e.val, .int .i64 ((q + i : Nat) : Int)], _, g, fin' _ _ ?_, p1, p2, ?_⟩
     ·simp only [Instr.mapEntry, Sem.run_bind, run_underlying hu, Result.andThen_ok, hv, getMap harr, h1, h2, hst, modify_key q1, putMap harr, Sem.run_pure, hborn]
      rfl
     ·simp only [VR]
      exact ⟨_, rfl, by simp only [VRs, VR, PR, and_true]; exact VR_mono p1 c.hr.spr _ _ q3⟩
    ·rename_i hf
     obtain ⟨y, hy, hx⟩ := mei.1 hx
     simp only [piq] at hx
     obtain ⟨rfl, rfl⟩ := hx
     have h2 := run_findKey hk ha hD hkv hmp hf
     simp only [outF] at h2
     have hm2 := MpR_snoc hmp hkv (hzx y hy)
     rw [show arr.toList ++ [(⟨a.eval k, zv, q + es.length⟩ : MapEntry)] = (arr.push ⟨a.eval k, zv, q + es.length⟩).toList from by simp] at hm2
     obtain ⟨p1, p2⟩ := upd_map c.hr hb harr hm2
     rw [lap, List.length_singleton, ← Nat.add_assoc] at p1 p2
     refine ⟨.tuple #[zv, .int .i64 ((q + es.length : Nat) : Int)], _, g, fin' _ _ ?_, p1, by simpa using p2, ?_⟩
     ·simp only [Instr.mapEntry, Sem.run_bind, run_underlying hu, Result.andThen_ok, hv, getMap harr, h1, h2, hzr, putMap harr, Sem.run_pure]
      rfl
     ·simp only [VR]
      exact ⟨_, rfl, by simp only [VRs, VR, PR, and_true]; exact VR_mono p1 c.hr.spr _ _ (hzx y hy)⟩
    ·cases hx
   ·cases hx
  ·cases hc
 ·cases hc
theorem find_born {arr : Array MapEntry} {xs : List (AV × AV)} {n q : Nat} (hm : MpR g w q xs arr.toList) (hn : n < xs.length) : arr.findIdx? (fun e => (e.born : Int) == ((q + n : Nat) : Int)) = some n := by
 have hl := MpR_len hm
 have hborn : ∀ j (hj : j < arr.size), (arr[j]).born = q + j := by
  intro j hj
  have hjx : j < xs.length := by rw [hl]; simpa using hj
  obtain ⟨e, h1, _, _, h4⟩ := MpR_get hm (List.getElem?_eq_getElem hjx)
  rw [agtl, Array.getElem?_eq_getElem hj] at h1
  simp only [oiq] at h1
  rw [h1, h4]
 have hna : n < arr.size := by rw [hl] at hn; simpa using hn
 rw [Array.findIdx?_eq_some_iff_getElem]
 refine ⟨hna, by simp [hborn n hna], fun j hj => ?_⟩
 have := hborn j (by omega)
 simp [this]
 omega
theorem s_entSt (c : Ctx P gl a f g h w) {t : TypeId} {m s x : Operand} {v : AV} {h' : List AB} (ho : o.op = .entryStore t m s x) (he : evI gl f h (.entSt (opd m) (opd s) (opd x)) = some (v, h')) : Fits P o a g w v h' := by
 have hxv := c.opd x
 simp only [evI] at he
 obtain ⟨⟨b, q, es⟩, hm, he⟩ := bei.1 he
 split at he
 ·rename_i n e0
  have hs := val_of (c.opd s) e0
  split at he
  ·rename_i h0
   obtain ⟨es', hx, he⟩ := mei.1 he
   simp only [piq] at he
   obtain ⟨rfl, rfl⟩ := he
   obtain ⟨hb, hv, arr, harr, hmp⟩ := mapAt_of c hm
   unfold putM at hx
   obtain ⟨y, hy, rfl⟩ := mei.1 hx
   obtain ⟨e, q1, q2, q3, q4⟩ := MpR_get hmp hy
   have hlt : n.toNat - q < es.length := (gei.1 hy).1
   have hf := find_born hmp hlt
   have h0 : (q : Int) ≤ n := h0
   have hnn : ((q + (n.toNat - q) : Nat) : Int) = n := by omega
   rw [hnn] at hf
   have hm2 := MpR_set hmp hy q1 hxv
   rw [← modify_val q1] at hm2
   obtain ⟨p1, p2⟩ := upd_map c.hr hb harr hm2
   rw [List.length_set] at p1 p2
   refine ⟨undef, _, g, ?_, p1, p2, VR_ud⟩
   have hrun : (Instr.entryStore t (a.eval m) (a.eval s) (a.eval x)).run P w = .ok () (setMap w (g.m b) (arr.modify (n.toNat - q) fun q => { q with val := a.eval x }) (q + es.length)) := by
    simp only [Instr.entryStore, hv, hs, Sem.run_bind, getMap harr, Result.andThen_ok, asInt, asIntOf, Sem.run_pure, hf, putMap harr]
   simp only [execOp, ho, Sem.run_bind, hrun, Result.andThen_ok, Sem.run_pure]
   rfl
  ·cases he
 ·cases he
theorem s_clrM (c : Ctx P gl a f g h w) {cl : Call} {x : Operand} {t kt et : TypeId} {v : AV} {h' : List AB} (ho : o.op = .call cl) (h1 : cl.callee = .builtin .clear) (h2 : cl.args.toList = [x]) (h3 : cl.argTypes.toList = [t]) (ht : P.underlying t = some (.map kt et))
  (he : evI gl f h (.clrM (opd x)) = some (v, h')) : Fits P o a g w v h' := by
 have h2' : cl.args = #[x] := by apply Array.ext'; simpa using h2
 have h3' : cl.argTypes = #[t] := by apply Array.ext'; simpa using h3
 simp only [evI] at he
 obtain ⟨⟨b, q, es⟩, hm, he⟩ := mei.1 he
 simp only [piq] at he
 obtain ⟨rfl, rfl⟩ := he
 obtain ⟨hb, hv, arr, harr, hmp⟩ := mapAt_of c hm
 obtain ⟨p1, p2⟩ := upd_map (q' := q + es.length) (es' := []) (arr' := #[]) c.hr hb harr (by simp [MpR])
 refine ⟨.tuple #[], _, g, ?_, p1, p2, by simp [VR, VRs]⟩
 have hr : (Builtin.clear_ #[t] o.type #[a.eval x]).run P w = .ok (.tuple #[]) (setMap w (g.m b) #[] (q + es.length + ([] : List (AV × AV)).length)) := by
  rw [hv]
  simp [Builtin.clear_, run_underlying ht, getMap harr, putMap harr]
 simp only [execOp, ho, resolve, h1, h2', h3', Sem.run_bind, Sem.run_pure, Result.andThen_ok, invoke, builtin, List.map_toArray, mcs, List.map_nil, hr]
 rfl
end
end
end Go.Vs
