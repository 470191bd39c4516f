/- What scope graphs are, as plain data. -/
import Derived.Test.YthlndaofdgpjfaaIr6
import Derived.Test.YthlndaofdgpjfaaVE
import Derived.Test.YthlndaofdgpjfaaVF
open Option renaming some.injEq → oiq
open List renaming getElem?_eq_some_iff → gei, map_cons → mcs, length_cons → lcn
open Array renaming length_toList → altl
namespace Go.Proofs.Try
set_option linter.unusedSimpArgs false
set_option linter.unusedVariables false
open Go Go.Vs
structure ScopeD where
 par : Int
 frm : Int
 til : Int
structure NameD where
 scp : Int
 spc : ByteArray
 txt : ByteArray
 frm : Int
 til : Int
structure ScopesD where
 all : List ScopeD
 decl : List NameD
 uses : List NameD
def eScope (a : ScopeD) : List PV := [.val (.int .i64 a.par), .val (.int .i64 a.frm), .val (.int .i64 a.til)]
def eName (a : NameD) : List PV := [.val (.int .i64 a.scp), .val (.string a.spc), .val (.string a.txt), .val (.int .i64 a.frm), .val (.int .i64 a.til)]
def eScps (a : ScopesD) : List PV := [.lst 3 (a.all.map eScope), .lst 5 (a.decl.map eName), .lst 5 (a.uses.map eName)]
def eI64 (n : Int) : List PV := [.val (.int .i64 n)]
def eStr (s : ByteArray) : List PV := [.val (.string s)]
abbrev i6 (n : Int) : AV := vi .i64 n
abbrev Key := Int × ByteArray × ByteArray
abbrev kA (k : Key) : AV := .agg [vi .i64 k.1, vs k.2.1, vs k.2.2]
abbrev keyN (x : NameD) : Key := (x.scp, x.spc, x.txt)
theorem ba_eq (a b : ByteArray) : (a == b) = decide (a = b) := by
 by_cases h : a = b
 ·subst h; rw [decide_eq_true rfl]; exact bytes_self a
 ·rw [decide_eq_false h]
  cases hb : (a == b) with
  | false => rfl
  | true => exact absurd (bytes_beq hb) h
theorem key_iss : KeyOk kA true [1, 2, 2] := by
 refine ⟨fun a => rfl, fun a b => ?_⟩
 obtain ⟨a1, a2, a3⟩ := a
 obtain ⟨b1, b2, b3⟩ := b
 simp only [kA, eqK, isAggA, and_self, if_true, cellsOf, AV.one, isOne, List.all_cons, List.all_nil, Bool.and_self, Option.bind_some, eqC, eqV, Bool.and_true, ba_eq]
 congr 1
 by_cases h1 : a1 = b1 <;> by_cases h2 : a2 = b2 <;> by_cases h3 : a3 = b3 <;> simp [h1, h2, h3]
def frsF (n : Nat) : Bool := false
def prgF : Prg := ⟨fns, fun _ => none, fun _ _ _ => none, frsF⟩
theorem prgF_ok : PrgOk prog prgF := ⟨fns_ok, fun _ _ _ _ _ h => by cases h⟩
abbrev nilA : AV := .p (.val (.slice none 0 0))
abbrev idA (x : AV) : AV := x
abbrev fnd (l : List NameD) (j : Int) : List (Nat × AV) := [(3, .mp 0), (9, .p (.lst 5 (l.map eName))), (10, vi .i64 (l.length : Int)), (11, vi .i64 j)]
abbrev c34 (x : NameD) : AB := .cells 34 ((eName x).map .p)
abbrev c71 (x : NameD) : AB := .cells 71 [vi .i64 x.scp, vs x.spc, vs x.txt]
section
variable (l : List NameD) (j : Nat) (es : List (Key × AV)) (x : NameD) (is : List Int) (hx : l[j]? = some x) (ug : Nat → AV)
include hx
theorem rd_lt : decide ((j : Int) < (l.length : Int)) = true := decide_eq_true (by have := (gei.1 hx).1; omega)
theorem rd_in (hg : mget nilA es (keyN x) = .sl 1 0 1 0 is.length) (ho : apOk is.length 1 is.length 8 = true) :
  ∃ g, run (envOf prgF (ev prgF)) (ev prgF) ir23_l0 ⟨fr 33 ug (fnd l j), [.map (mrow kA idA es), .row 3 1 0 (ra eI64 is)]⟩ =
   some (.norm, ⟨fr 33 g (fnd l (IntKind.wrap .i64 ((j : Int) + 1))), [.map (mrow kA idA (mput (keyN x) (.sl 1 1 1 0 (is.length + 1)) es)), .row 3 1 1 (ra eI64 (is.take is.length ++ [(j : Int)])), c34 x, c71 x]⟩) := by
 have h12 := rd_lt l j x hx
 have hi : getI l (j : Int) = some x := (getI_nat l j).trans hx
 have q1 : idxA 5 (.p (.lst 5 (l.map eName))) (vi .i64 (j : Int)) = some (.ro (eName x)) := ig eName 5 .i64 hi
 have q2 := en_row (ve := idA) key_iss (h := [.map (mrow kA idA es), .row 3 1 0 (ra eI64 is), c34 x, c71 x]) (b := 0) (es := es) (vagg := false) (zero := [.val (.slice none 0 0)]) (z := nilA) (k := keyN x) rfl rfl
 rw [hg] at q2
 have q3 : appA [.map (mrow kA idA (ment nilA es (keyN x))), .row 3 1 0 (ra eI64 is), c34 x, c71 x] 3 1 8 (.sl 1 0 1 0 is.length) (.p (.lst 1 [[.val (.int .i64 (j : Int))]])) =
   some (.sl 1 1 1 0 (is.length + 1), [.map (mrow kA idA (ment nilA es (keyN x))), .row 3 1 1 (ra eI64 (is.take is.length ++ [(j : Int)])), c34 x, c71 x]) :=
  ap_out (e := eI64) (xs := is) (news := [(j : Int)]) rfl rfl rfl ho (decide_eq_false (by omega))
 have q4 := es_row (ve := idA) key_iss (h := [.map (mrow kA idA (ment nilA es (keyN x))), .row 3 1 1 (ra eI64 (is.take is.length ++ [(j : Int)])), c34 x, c71 x]) (b := 0) (es := es) (z := nilA) (v := .sl 1 1 1 0 (is.length + 1)) (k := keyN x) rfl
 obtain ⟨g, hr⟩ := exitL_of (L := fnd l (IntKind.wrap .i64 ((j : Int) + 1))) (r := runD prgF 30 [(12, .d true), (14, .v (.ro (eName x))),
  (28, .r (.tup [.sl 1 0 1 0 is.length, vi .i64 (midx es (keyN x) : Int)]) [.map (mrow kA idA (ment nilA es (keyN x))), .row 3 1 0 (ra eI64 is), c34 x, c71 x]),
  (29, .r (.sl 1 1 1 0 (is.length + 1)) [.map (mrow kA idA (ment nilA es (keyN x))), .row 3 1 1 (ra eI64 (is.take is.length ++ [(j : Int)])), c34 x, c71 x]),
  (8029, .r ud [.map (mrow kA idA (mput (keyN x) (.sl 1 1 1 0 (is.length + 1)) es)), .row 3 1 1 (ra eI64 (is.take is.length ++ [(j : Int)])), c34 x, c71 x])]
  ir23_l0 ⟨fr 33 ug (fnd l j), [.map (mrow kA idA es), .row 3 1 0 (ra eI64 is)]⟩) (o := .norm) (n := 33)
  (h := [.map (mrow kA idA (mput (keyN x) (.sl 1 1 1 0 (is.length + 1)) es)), .row 3 1 1 (ra eI64 (is.take is.length ++ [(j : Int)])), c34 x, c71 x]) (by kernel_rfl)
 exact ⟨g, runD_ok hr (apc (cv h12) (apc q1 (apc q2 (apc q3 (apc (And.intro q4 (rfl : (ud : AV) = ud)) apn)))))⟩
theorem rd_no (hg : mget nilA es (keyN x) = nilA) :
  ∃ g, run (envOf prgF (ev prgF)) (ev prgF) ir23_l0 ⟨fr 33 ug (fnd l j), [.map (mrow kA idA es)]⟩ =
   some (.norm, ⟨fr 33 g (fnd l (IntKind.wrap .i64 ((j : Int) + 1))), [.map (mrow kA idA (mput (keyN x) (.sl 3 0 1 0 1) es)), c34 x, c71 x, .row 3 1 0 [[vi .i64 (j : Int)]]]⟩) := by
 have h12 := rd_lt l j x hx
 have hi : getI l (j : Int) = some x := (getI_nat l j).trans hx
 have q1 : idxA 5 (.p (.lst 5 (l.map eName))) (vi .i64 (j : Int)) = some (.ro (eName x)) := ig eName 5 .i64 hi
 have q2 := en_row (ve := idA) key_iss (h := [.map (mrow kA idA es), c34 x, c71 x]) (b := 0) (es := es) (vagg := false) (zero := [.val (.slice none 0 0)]) (z := nilA) (k := keyN x) rfl rfl
 rw [hg] at q2
 have q4 := es_row (ve := idA) key_iss (h := [.map (mrow kA idA (ment nilA es (keyN x))), c34 x, c71 x, .row 3 1 0 [[vi .i64 (j : Int)]]]) (b := 0) (es := es) (z := nilA) (v := .sl 3 0 1 0 1) (k := keyN x) rfl
 obtain ⟨g, hr⟩ := exitL_of (L := fnd l (IntKind.wrap .i64 ((j : Int) + 1))) (r := runD prgF 30 [(12, .d true), (14, .v (.ro (eName x))),
  (28, .r (.tup [nilA, vi .i64 (midx es (keyN x) : Int)]) [.map (mrow kA idA (ment nilA es (keyN x))), c34 x, c71 x]),
  (8029, .r ud [.map (mrow kA idA (mput (keyN x) (.sl 3 0 1 0 1) es)), c34 x, c71 x, .row 3 1 0 [[vi .i64 (j : Int)]]])]
  ir23_l0 ⟨fr 33 ug (fnd l j), [.map (mrow kA idA es)]⟩) (o := .norm) (n := 33)
  (h := [.map (mrow kA idA (mput (keyN x) (.sl 3 0 1 0 1) es)), c34 x, c71 x, .row 3 1 0 [[vi .i64 (j : Int)]]]) (by kernel_rfl)
 exact ⟨g, runD_ok hr (apc (cv h12) (apc q1 (apc q2 (apc (And.intro q4 (rfl : (ud : AV) = ud)) apn))))⟩
end
theorem rd_end (l : List NameD) (h : List AB) (ug : Nat → AV) : ∃ g, run (envOf prgF (ev prgF)) (ev prgF) ir23_l0 ⟨fr 33 ug (fnd l l.length), h⟩ = some (.brk 0, ⟨fr 33 g [(3, .mp 0)], h⟩) := by
 have h12 : decide ((l.length : Int) < (l.length : Int)) = false := decide_eq_false (by omega)
 obtain ⟨g, hr⟩ := exitL_of (L := [(3, .mp 0)]) (r := runD prgF 30 [(12, .d false)] ir23_l0 ⟨fr 33 ug (fnd l l.length), h⟩) (o := .brk 0) (n := 33) (h := h) (by kernel_rfl)
 exact ⟨g, runD_ok hr (apc (cv h12) apn)⟩
open Go Go.Vs Go.RowKit
structure En where
 k : Key
 is : List Int
 c : Nat
 cap : Nat
def En.val (e : En) : Value := .slice (some ⟨e.c, 0, none⟩) e.is.length e.cap
abbrev keyV (k : Key) : Value := .agg #[.int .i64 k.1, .string k.2.1, .string k.2.2]
def EntR : Nat → List En → List MapEntry → Prop
 | _, [], [] => True
 | i, e :: es, m :: ms => (m.key = keyV e.k ∧ m.val = e.val ∧ m.born = i) ∧ EntR (i + 1) es ms
 | _, _, _ => False
structure RowOk (w : World) (e : En) : Prop where
 ex : ∃ cs fz, w.heap[e.c]? = some (.cells cs 3 fz) ∧ unfz fz cs.size ∧ cs.size = e.cap ∧ cs.toList.take e.is.length = e.is.map (Value.int .i64)
 cap : e.cap ≤ maxLen
 le : e.is.length ≤ e.cap
structure Inv (w0 w : World) (M : Nat) (S : Nat → Prop) (es : List En) : Prop where
 size : w0.heap.size ≤ w.heap.size
 old : ∀ k, k < w0.heap.size → k ≠ M → w.heap[k]? = w0.heap[k]?
 os : w.os = w0.os
 tape : w.tape = w0.tape
 out : w.output = w0.output
 map : ∃ arr, w.heap[M]? = some (.map arr es.length) ∧ EntR 0 es arr.toList
 row : ∀ e ∈ es, RowOk w e
 new : ∀ e ∈ es, w0.heap.size ≤ e.c
 dis : (es.map (·.c)).Nodup
 keys : (es.map (·.k)).Nodup
 s : ∀ k, S k → k < w.heap.size ∧ k ≠ M ∧ ∀ e ∈ es, k ≠ e.c
 lt : M < w0.heap.size
structure Slots (w : World) (M : Nat) (S : Nat → Prop) (en : Nat) (l : List NameD) (j : Nat) (a : Act) : Prop where
 size : a.tmps.size = 33
 t3 : a.tmps.toList[3]? = some (.map (some M))
 t9 : ∃ v, a.tmps.toList[9]? = some v ∧ PR S w (.lst 5 (l.map eName)) v
 t10 : a.tmps.toList[10]? = some (.int .i64 (l.length : Int))
 t11 : a.tmps.toList[11]? = some (.int .i64 (j : Int))
 d : ∀ d ∈ a.defers, ∃ D, d = { target := .collected D, args := #[] } ∧ en ≤ D ∧ D < w.heap.size ∧ D ≠ M ∧ ¬ S D ∧ w.heap[D]? = some (.deferred (some []))
 nd : a.defers.Nodup
 sz : en ≤ w.heap.size
theorem VRs_of {g : G} {w : World} : ∀ (xs : List AV) (vs : List Value), xs.length = vs.length → (∀ (i : Nat) (x : AV) (v : Value), xs[i]? = some x → vs[i]? = some v → VR g w x v) → VRs g w xs vs
 | [], [], _, _ => by simp [VRs]
 | x :: xs, v :: vs, h, hi => by
  simp only [VRs]
  exact ⟨hi 0 x v rfl rfl, VRs_of xs vs (by simpa using h) (fun i y u h1 h2 => hi (i + 1) y u (by simpa using h1) (by simpa using h2))⟩
 | [], _ :: _, h, _ => by simp at h
 | _ :: _, [], h, _ => by simp at h
theorem W_len (f : Nat → AV) : ∀ (n k : Nat), (W f k n).length = n
 | 0, _ => rfl
 | n + 1, k => by simp only [W, lcn, W_len f n (k + 1)]
theorem W_at (f : Nat → AV) : ∀ (n k i : Nat), i < n → (W f k n)[i]? = some (f (k + i))
 | 0, _, i, h => by omega
 | n + 1, k, 0, _ => rfl
 | n + 1, k, i + 1, h => by
  simp only [W, List.getElem?_cons_succ, W_at f n (k + 1) i (by omega)]
  congr 2
  omega
theorem slots_in {w : World} {M : Nat} {S : Nat → Prop} {en : Nat} {l : List NameD} {j : Nat} {a : Act} (h : Slots w M S en l j a) {g : G} (hS : g.S = S) (hD : g.D 0) (hm : g.m 0 = M) : VRs g w (fr 33 ug (fnd l j)) a.tmps.toList := by
 refine VRs_of _ _ (by unfold fr; rw [W_len, altl, h.size]) (fun i x v hx hv => ?_)
 have hi : i < 33 := by
  have := (gei.1 hx).1
  unfold fr at this
  rwa [W_len] at this
 unfold fr at hx
 rw [W_at _ _ _ _ hi, Nat.zero_add] at hx
 have hx := Option.some.inj hx
 subst hx
 by_cases h3 : i = 3
 ·subst h3
  rw [h.t3] at hv
  have hv := Option.some.inj hv
  subst hv
  show VR g w (.mp 0) _
  simp only [VR]
  exact ⟨hD, by rw [hm]⟩
 by_cases h9 : i = 9
 ·subst h9
  obtain ⟨u, h1, h2⟩ := h.t9
  rw [h1] at hv
  have hv := Option.some.inj hv
  subst hv
  show VR g w (.p (.lst 5 (l.map eName))) _
  simp only [VR, hS]
  exact h2
 by_cases h10 : i = 10
 ·subst h10
  rw [h.t10] at hv
  have hv := Option.some.inj hv
  subst hv
  show VR g w (vi .i64 (l.length : Int)) _
  simp [VR, PR]
 by_cases h11 : i = 11
 ·subst h11
  rw [h.t11] at hv
  have hv := Option.some.inj hv
  subst hv
  show VR g w (vi .i64 (j : Int)) _
  simp [VR, PR]
 have e : ovr ug (fnd l j) i = .und := by
  have nb : ∀ k : Nat, ¬ i = k → k.beq i = false := fun k hk => by
   cases hb : k.beq i with
   | true => exact absurd (Nat.eq_of_beq_eq_true hb).symm hk
   | false => rfl
  simp only [fnd, ovr, nb 3 h3, nb 9 h9, nb 10 h10, nb 11 h11, ug]
 rw [e]
 simp [VR]
theorem slots_out {P : Program} {C : IC → Code → Prop} {gl : Nat → Option (List PV)} {en : Nat} {g : G} {a : Act} {w : World} {gg : Nat → AV} {hh : List AB} {l : List NameD} {j : Nat} (hs : SR P C gl en ⟨fr 33 gg (fnd l j), hh⟩ g a w) {M : Nat} (hm : g.m 0 = M) (hM : ¬ g.Pr M) : Slots w M g.S en l j a := by
 have hv := hs.c.fr
 have hl := hv.len
 have hat : ∀ i, i < 33 → (fr 33 gg (fnd l j))[i]? = some (ovr gg (fnd l j) i) := fun i hi => by unfold fr; rw [W_at _ _ _ _ hi, Nat.zero_add]
 refine ⟨?_, ?_, ?_, ?_, ?_, ?_, hs.nd, hs.sz⟩
 ·unfold fr at hl
  rw [W_len, altl] at hl
  exact hl.symm
 ·obtain ⟨v, h1, h2⟩ := hv.get (hat 3 (by omega))
  have h2 : VR g w (.mp 0) v := h2
  simp only [VR] at h2
  rw [h1, h2.2, hm]
 ·obtain ⟨v, h1, h2⟩ := hv.get (hat 9 (by omega))
  have h2 : VR g w (.p (.lst 5 (l.map eName))) v := h2
  simp only [VR] at h2
  exact ⟨v, h1, h2⟩
 ·obtain ⟨v, h1, h2⟩ := hv.get (hat 10 (by omega))
  have h2 : VR g w (vi .i64 (l.length : Int)) v := h2
  simp only [VR, PR] at h2
  rw [h1, h2]
 ·obtain ⟨v, h1, h2⟩ := hv.get (hat 11 (by omega))
  have h2 : VR g w (vi .i64 (j : Int)) v := h2
  simp only [VR, PR] at h2
  rw [h1, h2]
 ·intro d hd
  obtain ⟨D, h1, h2, h3, h4, h5⟩ := hs.d d hd
  exact ⟨D, h1, h2, hs.c.hr.prs D h3, fun e => hM (by rw [← e]; exact h3), h4, h5⟩
noncomputable def lB : Code := match f23.body with | some (.seq _ (.seq _ (.seq (.seq _ (.block _ (.loop b))) _))) => b | _ => .skip
theorem lB_ic : (compC prog (shOf sh [1, 27]) lB []).1 = ir23_l0 := by kernel_rfl
theorem lB_noR : noR lB = true := by kernel_rfl
theorem step_of {s s' : St} {o : Out} (h : run (envOf prgF (ev prgF)) (ev prgF) ir23_l0 s = some (o, s')) {rd : Option Nat} {en : Nat} {g : G} {a : Act} {w : World} (hs : SR prog (Go.Vs.Good prog) prgF.gl en s g a w) {Q : Exit → Act → World → Prop}
  (hQ : ∀ e a' w' g', ExitR o e → Ext g w g' w' → SR prog (Go.Vs.Good prog) prgF.gl en s' g' a' w' → Q e a' w') : lB.wpIn (FW rd) 0 prog Q a w := by
 obtain ⟨n, hn⟩ := run_cont ir23_l0 s (o, s') h
 have hn : evalN prgF (n + 1) ir23_l0 s = some (o, s') := hn
 rw [← lB_ic] at hn
 exact (eval_sound prgF_ok (n + 1)).1 (shOf sh [1, 27]) lB [] s o s' hn rd en g g a w w (.inl lB_noR) hs (Ext.refl g w) Q hQ
abbrev pin (e : En) : AV := .p (.val e.val)
abbrev esA (s : AV) (k : Key) (es : List En) : List (Key × AV) := es.map fun e => (e.k, if e.k = k then s else pin e)
theorem key_rel {g : G} {w : World} (k : Key) : VR g w (kA k) (keyV k) := by
 simp only [VR]
 exact ⟨_, rfl, by simp [VRs, VR, PR]⟩
theorem mp_in {g : G} {w : World} {s : AV} {e0 : En} (h0 : VR g w s e0.val) : ∀ (es : List En) (i : Nat) (ms : List MapEntry), EntR i es ms → (∀ e ∈ es, e.k = e0.k → e = e0) → MpR g w i (mrow kA idA (esA s e0.k es)) ms
 | [], i, [], _, _ => by simp [MpR, mrow]
 | e :: es, i, m :: ms, h, hu => by
  simp only [EntR] at h
  obtain ⟨⟨h1, h2, h3⟩, h4⟩ := h
  have ih := mp_in h0 es (i + 1) ms h4 (fun e he => hu e (by simp [he]))
  simp only [esA, mrow, mcs, MpR]
  refine ⟨⟨by rw [h1]; exact key_rel e.k, ?_, h3⟩, ih⟩
  by_cases c : e.k = e0.k
  ·rw [if_pos c, h2, hu e (by simp) c]; exact h0
  ·rw [if_neg c, h2]; simp [idA, VR, PR]
 | [], _, _ :: _, h, _ => by simp [EntR] at h
 | _ :: _, _, [], h, _ => by simp [EntR] at h
theorem mp_out {g : G} {w : World} {s : AV} {k : Key} {e1 : En} (hk : e1.k = k) (h0 : ∀ v, VR g w s v → v = e1.val) : ∀ (es : List En) (i : Nat) (ms : List MapEntry), MpR g w i (mrow kA idA (esA s k es)) ms → EntR i (es.map fun e => if e.k = k then e1 else e) ms
 | [], i, [], _ => by simp [EntR]
 | e :: es, i, m :: ms, h => by
  simp only [esA, mrow, mcs, MpR] at h
  obtain ⟨⟨h1, h2, h3⟩, h4⟩ := h
  have ih := mp_out hk h0 es (i + 1) ms h4
  simp only [mcs, EntR]
  have hkey : m.key = keyV e.k := by
   simp only [VR] at h1
   obtain ⟨cs, q1, q2⟩ := h1
   match hcs : cs.toList, q2 with
   | [v1, v2, v3], q2 =>
    simp only [VRs, VR, PR] at q2
    obtain ⟨rfl, rfl, rfl, _⟩ := q2
    rw [q1]
    congr 1
    apply Array.ext'
    rw [hcs]
   | [], q2 => simp [VRs] at q2
   | [_], q2 => simp [VRs] at q2
   | [_, _], q2 => simp [VRs] at q2
   | _ :: _ :: _ :: _ :: _, q2 => simp [VRs] at q2
  by_cases c : e.k = k
  ·rw [if_pos c] at h2
   rw [if_pos c]
   exact ⟨⟨by rw [hkey, hk, c], h0 _ h2, h3⟩, ih⟩
  ·rw [if_neg c] at h2
   rw [if_neg c]
   have h2 : VR g w (pin e) m.val := h2
   simp only [VR, PR] at h2
   exact ⟨⟨hkey, h2, h3⟩, ih⟩
 | [], _, _ :: _, h => by simp [MpR, mrow] at h
 | _ :: _, _, [], h => by simp [MpR, mrow] at h
theorem ent_snoc {e : En} : ∀ (es : List En) (i : Nat) (ms : List MapEntry) {m : MapEntry}, EntR i es ms → m.key = keyV e.k ∧ m.val = e.val ∧ m.born = i + es.length → EntR i (es ++ [e]) (ms ++ [m])
 | [], i, [], m, _, hm => by simp only [List.nil_append, EntR]; exact ⟨by simpa using hm, trivial⟩
 | x :: es, i, y :: ms, m, h, hm => by
  simp only [EntR] at h
  simp only [List.cons_append, EntR]
  exact ⟨h.1, ent_snoc es (i + 1) ms h.2 ⟨hm.1, hm.2.1, by rw [hm.2.2, lcn]; omega⟩⟩
 | [], _, _ :: _, _, h, _ => by simp [EntR] at h
 | _ :: _, _, [], _, h, _ => by simp [EntR] at h
theorem mp_app {g : G} {w : World} : ∀ (a b : List (AV × AV)) (i : Nat) (ms : List MapEntry), MpR g w i (a ++ b) ms → ∃ m1 m2, ms = m1 ++ m2 ∧ MpR g w i a m1 ∧ MpR g w (i + a.length) b m2
 | [], b, i, ms, h => ⟨[], ms, rfl, by simp [MpR], by simpa using h⟩
 | x :: a, b, i, m :: ms, h => by
  simp only [List.cons_append, MpR] at h
  obtain ⟨m1, m2, rfl, h1, h2⟩ := mp_app a b (i + 1) ms h.2
  refine ⟨m :: m1, m2, rfl, ?_, by rw [lcn, show i + (a.length + 1) = i + 1 + a.length by omega]; exact h2⟩
  simp only [MpR]
  exact ⟨h.1, h1⟩
 | _ :: _, _, _, [], h => by simp [MpR] at h
theorem ints_rel {g : G} {w : World} : ∀ (is : List Int) (us : List Value), VRs g w (ra eI64 is).flatten us → us = is.map (Value.int .i64)
 | [], us, h => by
  cases us with
  | nil => rfl
  | cons _ _ => simp [ra, VRs] at h
 | n :: is, us, h => by
  cases us with
  | nil => simp [ra, eI64, VRs] at h
  | cons u us =>
   simp only [ra, mcs, List.flatten_cons, eI64, List.map_nil, List.cons_append, List.nil_append, VRs, VR, PR] at h
   rw [mcs, ← h.1]
   congr 1
   exact ints_rel is us h.2
theorem ints_in {g : G} {w : World} : ∀ (is : List Int), VRc g w (ra eI64 is).flatten (is.map (Value.int .i64))
 | [] => by simp [ra, VRc, VRs]
 | n :: is => by
  have ih := ints_in (g := g) (w := w) is
  refine ⟨?_, fun v hv => ?_⟩
  ·simp only [ra, mcs, List.flatten_cons, eI64, List.map_nil, List.cons_append, List.nil_append, VRs, VR, PR, true_and]
   exact ih.1
  ·rcases List.mem_cons.1 hv with rfl | hv
   ·rfl
   ·exact ih.2 v hv
theorem ra_len (is : List Int) : (ra eI64 is).length = is.length := by simp [ra]
theorem ra_one (is : List Int) : ∀ r ∈ ra eI64 is, r.length = 1 := by
 intro r hr
 simp only [ra, List.mem_map] at hr
 obtain ⟨n, _, rfl⟩ := hr
 rfl
theorem own_row {g : G} {w : World} {h : List AB} (hr : HR g h w) {b gen n : Nat} {is : List Int} (hb : h[b]? = some (.row 3 1 gen (ra eI64 is))) (hn : is.length = n) (h0 : 0 < n) :
  ∃ c cap, (∀ v, VR g w (.sl b gen 1 0 n) v → v = .slice (some ⟨c, 0, none⟩) n cap) ∧ cid g b (.row 3 1 gen (ra eI64 is)) = some c ∧
   (∃ cs fz, w.heap[c]? = some (.cells cs 3 fz) ∧ unfz fz cs.size ∧ cs.size = cap ∧ cs.toList.take n = is.map (Value.int .i64)) ∧ cap ≤ maxLen ∧ n ≤ cap := by
 have hx := hr.br b _ hb
 simp only [BR] at hx
 obtain ⟨_, _, h3⟩ := hx
 cases hd : g.hd b gen with
 | none =>
  rw [hd] at h3
  simp only [RowR] at h3
  have := ra_len is
  rw [h3] at this
  simp at this
  omega
 | some p =>
  obtain ⟨c, cap⟩ := p
  rw [hd] at h3
  simp only [RowR] at h3
  obtain ⟨cs, fz, k1, k2, k3, k4, k5, k6⟩ := h3
  rw [ra_len] at k5
  rw [ra_len, Nat.mul_one, hn] at k6
  rw [Nat.mul_one] at k3
  refine ⟨c, cap, fun v hv => ?_, by simp [cid, hd], ⟨cs, fz, k1, k2, k3, ints_rel is _ k6.1⟩, k4, by omega⟩
  simp only [VR] at hv
  obtain ⟨_, _, hs⟩ := hv
  rw [hd] at hs
  simp only [SlR] at hs
  obtain ⟨_, _, A, q1, q2⟩ := hs
  rcases q2 with ⟨_, q⟩ | q
  ·omega
  ·rw [q1, q]; simp
theorem upd_k {k : Key} {e1 : En} (hk : e1.k = k) (es : List En) : (es.map fun e => if e.k = k then e1 else e).map (·.k) = es.map (·.k) := by
 rw [List.map_map]
 refine List.map_congr_left (fun e _ => ?_)
 show (if e.k = k then e1 else e).k = e.k
 split
 ·rename_i h; rw [hk, h]
 ·rfl
theorem uniq {es : List En} (h : (es.map (·.k)).Nodup) : ∀ a ∈ es, ∀ b ∈ es, a.k = b.k → a = b := by
 induction es with
 | nil => intro a ha; simp at ha
 | cons x es ih =>
  rw [mcs, List.nodup_cons] at h
  intro a ha b hb hab
  rcases List.mem_cons.1 ha with h1 | h1 <;> rcases List.mem_cons.1 hb with h2 | h2
  ·rw [h1, h2]
  ·exact absurd (List.mem_map.2 ⟨b, h2, by rw [← h1]; exact hab.symm⟩) h.1
  ·exact absurd (List.mem_map.2 ⟨a, h1, by rw [← h2]; exact hab⟩) h.1
  ·exact ih h.2 a h1 b h2 hab
theorem mput_upd (v s : AV) (k : Key) : ∀ (es : List En), (es.map (·.k)).Nodup → k ∈ es.map (·.k) → mput k v (esA s k es) = esA v k es
 | [], _, h => by simp at h
 | e :: es, hn, h => by
  rw [mcs, List.nodup_cons] at hn
  simp only [esA, mcs, mput]
  by_cases c : k = e.k
  ·subst c
   rw [if_pos rfl, if_pos rfl]
   congr 1
   refine List.map_congr_left (fun x hx => ?_)
   have : ¬ x.k = e.k := fun h => hn.1 (List.mem_map.2 ⟨x, hx, h⟩)
   rw [if_neg this, if_neg this]
  ·have c' : ¬ e.k = k := fun h => c h.symm
   rw [if_neg c, if_neg c', if_neg c']
   congr 1
   refine mput_upd v s k es hn.2 ?_
   rw [mcs] at h
   exact (List.mem_cons.1 h).resolve_left c
theorem mget_in (s : AV) (k : Key) : ∀ (es : List En), k ∈ es.map (·.k) → mget nilA (esA s k es) k = s
 | [], h => by simp at h
 | e :: es, h => by
  unfold mget
  simp only [esA, mcs, mfind]
  by_cases c : k = e.k
  ·rw [if_pos c, if_pos c.symm]; rfl
  ·rw [if_neg c]
   rw [mcs] at h
   exact mget_in s k es ((List.mem_cons.1 h).resolve_left c)
theorem mfind_no (s : AV) (k : Key) : ∀ (es : List En), k ∉ es.map (·.k) → mfind k (esA s k es) = none
 | [], _ => rfl
 | e :: es, h => by
  rw [mcs, List.mem_cons, not_or] at h
  simp only [esA, mcs, mfind, if_neg h.1]
  exact mfind_no s k es h.2
theorem c_inj {es : List En} (h : (es.map (·.c)).Nodup) : ∀ a ∈ es, ∀ b ∈ es, a.c = b.c → a = b := by
 induction es with
 | nil => intro a ha; simp at ha
 | cons x es ih =>
  rw [mcs, List.nodup_cons] at h
  intro a ha b hb hab
  rcases List.mem_cons.1 ha with h1 | h1 <;> rcases List.mem_cons.1 hb with h2 | h2
  ·rw [h1, h2]
  ·exact absurd (List.mem_map.2 ⟨b, h2, by rw [← h1]; exact hab.symm⟩) h.1
  ·exact absurd (List.mem_map.2 ⟨a, h1, by rw [← h2]; exact hab⟩) h.1
  ·exact ih h.2 a h1 b h2 hab
theorem nod_upd {k : Key} {e1 : En} : ∀ (es : List En), (es.map (·.c)).Nodup → (es.map (·.k)).Nodup → (∀ e ∈ es, ¬ e.k = k → ¬ e.c = e1.c) → ((es.map fun e => if e.k = k then e1 else e).map (·.c)).Nodup
 | [], _, _, _ => by simp
 | x :: es, hc, hk, hn => by
  rw [mcs, List.nodup_cons] at hc hk
  have ih := nod_upd (e1 := e1) es hc.2 hk.2 (fun e he => hn e (by simp [he]))
  rw [mcs, mcs, List.nodup_cons]
  refine ⟨fun hm => ?_, ih⟩
  obtain ⟨y, hy, he⟩ := List.mem_map.1 hm
  obtain ⟨e, hes, rfl⟩ := List.mem_map.1 hy
  by_cases cx : x.k = k
  ·rw [if_pos cx] at he
   have ce : ¬ e.k = k := fun h => hk.1 (List.mem_map.2 ⟨e, hes, by rw [h, cx]⟩)
   rw [if_neg ce] at he
   exact hn e (by simp [hes]) ce he
  ·rw [if_neg cx] at he
   by_cases ce : e.k = k
   ·rw [if_pos ce] at he
    exact hn x (by simp) cx he.symm
   ·rw [if_neg ce] at he
    exact hc.1 (List.mem_map.2 ⟨e, hes, he⟩)
theorem ap8 {n : Nat} (h : n ≤ 1000000) : apOk n 1 n 8 = true := decide_eq_true ⟨Nat.le_refl _, by unfold limit47; omega, by unfold limit47; omega⟩
section
variable {rd : Option Nat} {en : Nat} {w0 w : World} {M : Nat} {S : Nat → Prop} {es : List En} {l : List NameD} {j : Nat} {a : Act} {x : NameD} {Q : Exit → Act → World → Prop}
theorem Inv.clt (hI : Inv w0 w M S es) {e : En} (he : e ∈ es) : e.c < w.heap.size ∧ e.c ≠ M := by
 obtain ⟨cs, fz, h, _⟩ := (hI.row e he).ex
 have := hI.new e he
 have := hI.lt
 exact ⟨heap_lt h, by omega⟩
theorem round_in (hI : Inv w0 w M S es) (hS : Slots w M S en l j a) (hx : l[j]? = some x) (hj : j < 4611686018427387904) {e0 : En} (h0 : e0 ∈ es) (hk : e0.k = keyN x) (hlen : e0.is.length ≤ 1000000)
  (hQ : ∀ a' w' S' e1, e1.k = e0.k → e1.is = e0.is ++ [(j : Int)] → Slots w' M S' en l (j + 1) a' → Inv w0 w' M S' (es.map fun e => if e.k = e0.k then e1 else e) → (∀ k, S k → S' k) → Q .normal a' w') : lB.wpIn (FW rd) 0 prog Q a w := by
 obtain ⟨arr, hM, hE⟩ := hI.map
 have hrow := hI.row e0 h0
 obtain ⟨cs, fz, r1, r2, r3, r4⟩ := hrow.ex
 have hc0 := hI.clt h0
 have hn0 := hI.new e0 h0
 have hMs : M < w.heap.size := heap_lt hM
 obtain ⟨g2, hg2⟩ : ∃ g2 : G, g2 = ⟨S, fun k => k < w.heap.size ∧ k ≠ M ∧ k ≠ e0.c, 2, fun _ => False, fun _ => M, fun _ => 0, fun b _ => if b = 1 then some (e0.c, e0.cap) else none, Go.Vs.Good prog⟩ := ⟨_, rfl⟩
 have gS : g2.S = S := by rw [hg2]
 have gP : ∀ k, g2.Pr k ↔ k < w.heap.size ∧ k ≠ M ∧ k ≠ e0.c := fun k => by rw [hg2]
 have gD : ∀ b, b < 2 → g2.D b := fun b hb => by rw [hg2]; exact ⟨hb, fun h => h⟩
 have gm : ∀ b, g2.m b = M := fun b => by rw [hg2]
 have gh : g2.hd 1 0 = some (e0.c, e0.cap) := by rw [hg2]; rfl
 have gg : ∀ b, g2.gen b = 0 := fun b => by rw [hg2]
 have hsl : VR g2 w (.sl 1 0 1 0 e0.is.length) e0.val := by
  simp only [VR]
  refine ⟨gD 1 (by omega), Nat.zero_le _, ?_⟩
  rw [gh]
  exact ⟨by have := hrow.le; omega, hrow.cap, _, rfl, .inr (by simp)⟩
 have hr2 : HR g2 [.map (mrow kA idA (esA (.sl 1 0 1 0 e0.is.length) e0.k es)), .row 3 1 0 (ra eI64 e0.is)] w := by
  refine ⟨by rw [hg2]; rfl, ?_, ?_, ?_, ?_, ?_, ?_⟩
  ·intro b y hb
   match b, hb with
   | 0, hb =>
    have hb := Option.some.inj hb
    subst hb
    simp only [BR]
    refine ⟨arr, by rw [gm]; simpa [mrow] using hM, mp_in hsl es 0 _ hE (fun e he hke => uniq hI.keys e he e0 h0 hke)⟩
   | 1, hb =>
    have hb := Option.some.inj hb
    subst hb
    simp only [BR]
    refine ⟨gg 1, ra_one _, ?_⟩
    rw [gh]
    simp only [RowR]
    refine ⟨cs, fz, r1, r2, by omega, hrow.cap, by rw [ra_len]; exact hrow.le, ?_⟩
    rw [ra_len, Nat.mul_one, r4]
    exact ints_in _
   | n + 2, hb => simp at hb
  ·intro b b' y y' c hb hb' h1 h2
   have hh : ∀ (b : Nat) (y : AB), [AB.map (mrow kA idA (esA (.sl 1 0 1 0 e0.is.length) e0.k es)), .row 3 1 0 (ra eI64 e0.is)][b]? = some y → cid g2 b y = some c → (b = 0 ∧ c = M) ∨ (b = 1 ∧ c = e0.c) := by
    intro b y hb h1
    match b, hb with
    | 0, hb =>
     have hb := Option.some.inj hb
     subst hb
     simp only [cid, oiq, gm] at h1
     exact .inl ⟨rfl, h1.symm⟩
    | 1, hb =>
     have hb := Option.some.inj hb
     subst hb
     simp only [cid, gh, Option.map_some, oiq] at h1
     exact .inr ⟨rfl, h1.symm⟩
    | n + 2, hb => simp at hb
   rcases hh b y hb h1 with ⟨q1, q2⟩ | ⟨q1, q2⟩ <;> rcases hh b' y' hb' h2 with ⟨q3, q4⟩ | ⟨q3, q4⟩
   ·omega
   ·exact absurd (q4.symm.trans q2) hc0.2
   ·exact absurd (q2.symm.trans q4) hc0.2
   ·omega
  ·intro b y c hb h1 hP
   rw [gP] at hP
   match b, hb with
   | 0, hb =>
    have hb := Option.some.inj hb
    subst hb
    simp only [cid, oiq, gm] at h1
    exact hP.2.1 h1.symm
   | 1, hb =>
    have hb := Option.some.inj hb
    subst hb
    simp only [cid, gh, Option.map_some, oiq] at h1
    exact hP.2.2 h1.symm
   | n + 2, hb => simp at hb
  ·intro c hc
   rw [gS] at hc
   rw [gP]
   obtain ⟨q1, q2, q3⟩ := hI.s c hc
   exact ⟨q1, q2, q3 e0 h0⟩
  ·intro c hc
   rw [gP] at hc
   exact hc.1
  ·intro b
   rw [hg2]
   refine ⟨fun h => h.elim, fun h => ?_⟩
   match b, h with
   | 0, h => cases h
   | 1, h => cases h
   | n + 2, h => simp at h
 have hSR : SR prog (Go.Vs.Good prog) prgF.gl en ⟨fr 33 ug (fnd l j), [.map (mrow kA idA (esA (.sl 1 0 1 0 e0.is.length) e0.k es)), .row 3 1 0 (ra eI64 e0.is)]⟩ g2 a w := by
  refine ⟨⟨(fun n xs h => by cases h), hr2, slots_in hS gS (gD 0 (by omega)) (gm 0)⟩, ?_, hS.nd, hS.sz, by rw [hg2]⟩
  intro d hd
  obtain ⟨D, q1, q2, q3, q4, q5, q6⟩ := hS.d d hd
  exact ⟨D, q1, q2, by rw [gP]; exact ⟨q3, q4, fun e => by rw [e, r1] at q6; cases q6⟩, by rw [gS]; exact q5, q6⟩
 rw [hk] at hSR
 have hmem : keyN x ∈ es.map (·.k) := List.mem_map.2 ⟨e0, h0, hk⟩
 obtain ⟨gx, hrun⟩ := rd_in l j (esA (.sl 1 0 1 0 e0.is.length) (keyN x) es) x e0.is hx ug (mget_in _ _ es hmem) (ap8 hlen)
 rw [w_S hj, mput_upd _ _ _ es hI.keys hmem, List.take_length] at hrun
 refine step_of hrun hSR (fun e a' w' g' k1 he hs => ?_)
 rw [exitR_norm k1]
 have hr := hs.c.hr
 have hm : g'.m 0 = M := (he.m 0 (gD 0 (by omega))).trans (gm 0)
 obtain ⟨c', cap', hv, hcid, ⟨cs', fz', t1, t2, t3, t4⟩, t5, t6⟩ := own_row hr (b := 1) (gen := 1) (n := e0.is.length + 1) (is := e0.is ++ [(j : Int)]) rfl (by simp) (by omega)
 have hM' : ¬ g'.Pr M := hr.own 0 _ M rfl (by simp [cid, hm])
 have hc' : ¬ g'.Pr c' := hr.own 1 _ c' rfl hcid
 have hcM : c' ≠ M := fun e => by
  have := hr.dis 0 1 _ _ M rfl rfl (by simp [cid, hm]) (by have q := hcid; rw [e] at q; exact q)
  omega
 have hc2 : c' = e0.c ∨ w.heap.size ≤ c' := by
  by_cases h : c' = e0.c
  ·exact .inl h
  ·right
   by_cases h2 : w.heap.size ≤ c'
   ·exact h2
   ·exact absurd (he.Pr c' ((gP c').2 ⟨by omega, hcM, h⟩)) hc'
 have same : ∀ e ∈ es, ¬ e.k = keyN x → g2.Pr e.c := fun e hes hne => by
  rw [gP]
  obtain ⟨q1, q2⟩ := hI.clt hes
  exact ⟨q1, q2, fun h => hne (by rw [c_inj hI.dis e hes e0 h0 h, hk])⟩
 obtain ⟨arr', m1, m2⟩ : ∃ arr, w'.heap[M]? = some (.map arr es.length) ∧ MpR g' w' 0 (mrow kA idA (esA (.sl 1 1 1 0 (e0.is.length + 1)) (keyN x) es)) arr.toList := by
  have := hr.br 0 _ rfl
  simp only [BR, hm] at this
  obtain ⟨arr, q1, q2⟩ := this
  exact ⟨arr, by simpa [mrow] using q1, q2⟩
 refine hQ a' w' g'.S ⟨keyN x, e0.is ++ [(j : Int)], c', cap'⟩ hk.symm rfl (slots_out hs hm hM') ?_ (fun k hk => he.S k (by rw [gS]; exact hk))
 rw [hk]
 refine ⟨Nat.le_trans hI.size he.size, fun k k1 k2 => (he.pr k ((gP k).2 ⟨Nat.lt_of_lt_of_le k1 hI.size, k2, by omega⟩)).trans (hI.old k k1 k2), he.os.trans hI.os, he.tape.trans hI.tape, he.output.trans hI.out,
  ⟨arr', by simpa using m1, mp_out (e1 := ⟨keyN x, e0.is ++ [(j : Int)], c', cap'⟩) rfl (fun v hv' => by rw [hv v hv']; simp [En.val]) es 0 _ m2⟩, ?_, ?_, ?_, ?_, ?_, hI.lt⟩
 ·intro e hes
  obtain ⟨y, hy, rfl⟩ := List.mem_map.1 hes
  by_cases c : y.k = keyN x
  ·rw [if_pos c]
   exact ⟨⟨cs', fz', t1, t2, t3, by simpa using t4⟩, t5, by simpa using t6⟩
  ·rw [if_neg c]
   have h2 := hI.row y hy
   obtain ⟨cs2, fz2, v1, v2, v3, v4⟩ := h2.ex
   exact ⟨⟨cs2, fz2, (he.pr _ (same y hy c)).trans v1, v2, v3, v4⟩, h2.cap, h2.le⟩
 ·intro e hes
  obtain ⟨y, hy, rfl⟩ := List.mem_map.1 hes
  by_cases c : y.k = keyN x
  ·rw [if_pos c]
   have := hI.size
   show w0.heap.size ≤ c'
   rcases hc2 with h | h <;> omega
  ·rw [if_neg c]; exact hI.new y hy
 ·refine nod_upd es hI.dis hI.keys (fun e hes hne h => ?_)
  have h : e.c = c' := h
  have hP := same e hes hne
  exact hc' (he.Pr c' (by rw [← h]; exact hP))
 ·rw [upd_k (k := keyN x) (e1 := ⟨keyN x, e0.is ++ [(j : Int)], c', cap'⟩) rfl]; exact hI.keys
 ·intro k hk
  refine ⟨hr.prs k (hr.spr k hk), fun e => hM' (by rw [← e]; exact hr.spr k hk), fun e hes => ?_⟩
  obtain ⟨y, hy, rfl⟩ := List.mem_map.1 hes
  by_cases c : y.k = keyN x
  ·rw [if_pos c]
   rintro rfl
   exact hc' (hr.spr _ hk)
  ·rw [if_neg c]
   rintro rfl
   rcases he.Sn _ hk with q | q
   ·rw [gS] at q
    exact (hI.s _ q).2.2 y hy rfl
   ·exact q (same y hy c)
theorem round_no (hI : Inv w0 w M S es) (hS : Slots w M S en l j a) (hx : l[j]? = some x) (hj : j < 4611686018427387904) (hk : keyN x ∉ es.map (·.k))
  (hQ : ∀ a' w' S' e1, e1.k = keyN x → e1.is = [(j : Int)] → Slots w' M S' en l (j + 1) a' → Inv w0 w' M S' (es ++ [e1]) → (∀ k, S k → S' k) → Q .normal a' w') : lB.wpIn (FW rd) 0 prog Q a w := by
 obtain ⟨arr, hM, hE⟩ := hI.map
 have hMs : M < w.heap.size := heap_lt hM
 obtain ⟨g2, hg2⟩ : ∃ g2 : G, g2 = ⟨S, fun k => k < w.heap.size ∧ k ≠ M, 1, fun _ => False, fun _ => M, fun _ => 0, fun _ _ => none, Go.Vs.Good prog⟩ := ⟨_, rfl⟩
 have gS : g2.S = S := by rw [hg2]
 have gP : ∀ k, g2.Pr k ↔ k < w.heap.size ∧ k ≠ M := fun k => by rw [hg2]
 have gD : g2.D 0 := by rw [hg2]; exact ⟨Nat.zero_lt_one, fun h => h⟩
 have gm : ∀ b, g2.m b = M := fun b => by rw [hg2]
 have hno : ∀ e ∈ es, ¬ e.k = keyN x := fun e he h => hk (List.mem_map.2 ⟨e, he, h⟩)
 have hmp : ∀ (es : List En) (i : Nat) (ms : List MapEntry), EntR i es ms → (∀ e ∈ es, ¬ e.k = keyN x) → MpR g2 w i (mrow kA idA (esA nilA (keyN x) es)) ms := by
  intro es
  induction es with
  | nil =>
   intro i ms h _
   cases ms with
   | nil => simp [MpR, mrow]
   | cons _ _ => simp [EntR] at h
  | cons e es ih =>
   intro i ms h hn
   cases ms with
   | nil => simp [EntR] at h
   | cons m ms =>
    simp only [EntR] at h
    obtain ⟨⟨h1, h2, h3⟩, h4⟩ := h
    simp only [esA, mrow, mcs, MpR]
    refine ⟨⟨by rw [h1]; exact key_rel e.k, ?_, h3⟩, ih (i + 1) ms h4 (fun y hy => hn y (by simp [hy]))⟩
    rw [if_neg (hn e (by simp)), h2]; simp [idA, VR, PR]
 have hr2 : HR g2 [.map (mrow kA idA (esA nilA (keyN x) es))] w := by
  refine ⟨by rw [hg2]; rfl, ?_, ?_, ?_, ?_, ?_, ?_⟩
  ·intro b y hb
   match b, hb with
   | 0, hb =>
    have hb := Option.some.inj hb
    subst hb
    simp only [BR]
    exact ⟨arr, by rw [gm]; simpa [mrow] using hM, hmp es 0 _ hE hno⟩
   | n + 1, hb => simp at hb
  ·intro b b' y y' c hb hb' h1 h2
   match b, b', hb, hb' with
   | 0, 0, _, _ => rfl
   | n + 1, _, hb, _ => simp at hb
   | _, n + 1, _, hb => simp at hb
  ·intro b y c hb h1 hP
   rw [gP] at hP
   match b, hb with
   | 0, hb =>
    have hb := Option.some.inj hb
    subst hb
    simp only [cid, oiq, gm] at h1
    exact hP.2 h1.symm
   | n + 1, hb => simp at hb
  ·intro c hc
   rw [gS] at hc
   rw [gP]
   obtain ⟨q1, q2, q3⟩ := hI.s c hc
   exact ⟨q1, q2⟩
  ·intro c hc
   rw [gP] at hc
   exact hc.1
  ·intro b
   rw [hg2]
   refine ⟨fun h => h.elim, fun h => ?_⟩
   match b, h with
   | 0, h => cases h
   | n + 1, h => simp at h
 have hSR : SR prog (Go.Vs.Good prog) prgF.gl en ⟨fr 33 ug (fnd l j), [.map (mrow kA idA (esA nilA (keyN x) es))]⟩ g2 a w := by
  refine ⟨⟨(fun n xs h => by cases h), hr2, slots_in hS gS gD (gm 0)⟩, ?_, hS.nd, hS.sz, by rw [hg2]⟩
  intro d hd
  obtain ⟨D, q1, q2, q3, q4, q5, q6⟩ := hS.d d hd
  exact ⟨D, q1, q2, by rw [gP]; exact ⟨q3, q4⟩, by rw [gS]; exact q5, q6⟩
 have hf := mfind_no nilA (keyN x) es hk
 obtain ⟨gx, hrun⟩ := rd_no l j (esA nilA (keyN x) es) x hx ug (by unfold mget; rw [hf]; rfl)
 rw [w_S hj, mput_app _ _ _ hf] at hrun
 refine step_of hrun hSR (fun e a' w' g' k1 he hs => ?_)
 rw [exitR_norm k1]
 have hr := hs.c.hr
 have hm : g'.m 0 = M := (he.m 0 gD).trans (gm 0)
 obtain ⟨c', cap', hv, hcid, ⟨cs', fz', t1, t2, t3, t4⟩, t5, t6⟩ := own_row hr (b := 3) (gen := 0) (n := 1) (is := [(j : Int)]) rfl rfl (by omega)
 have hM' : ¬ g'.Pr M := hr.own 0 _ M rfl (by simp [cid, hm])
 have hc' : ¬ g'.Pr c' := hr.own 3 _ c' rfl hcid
 have hcM : c' ≠ M := fun e => by
  have := hr.dis 0 3 _ _ M rfl rfl (by simp [cid, hm]) (by have q := hcid; rw [e] at q; exact q)
  omega
 have hc2 : w.heap.size ≤ c' := by
  by_cases h2 : w.heap.size ≤ c'
  ·exact h2
  ·exact absurd (he.Pr c' ((gP c').2 ⟨by omega, hcM⟩)) hc'
 have same : ∀ e ∈ es, g2.Pr e.c := fun e hes => by
  rw [gP]
  exact hI.clt hes
 obtain ⟨arr', m1, m2⟩ : ∃ arr, w'.heap[M]? = some (.map arr (es.length + 1)) ∧ MpR g' w' 0 (mrow kA idA (esA nilA (keyN x) es ++ [(keyN x, .sl 3 0 1 0 1)])) arr.toList := by
  have := hr.br 0 _ rfl
  simp only [BR, hm] at this
  obtain ⟨arr, q1, q2⟩ := this
  exact ⟨arr, by simpa [mrow] using q1, q2⟩
 have hsp : mrow kA idA (esA nilA (keyN x) es ++ [(keyN x, .sl 3 0 1 0 1)]) = mrow kA idA (esA nilA (keyN x) es) ++ [(kA (keyN x), .sl 3 0 1 0 1)] := by simp [mrow]
 rw [hsp] at m2
 obtain ⟨ma, mb, e1, m3, m4⟩ := mp_app _ _ _ _ m2
 have hid : (es.map fun e => if e.k = keyN x then (⟨keyN x, [], 0, 0⟩ : En) else e) = es := by
  have : ∀ e ∈ es, (if e.k = keyN x then (⟨keyN x, [], 0, 0⟩ : En) else e) = e := fun e he => if_neg (hno e he)
  rw [List.map_congr_left this]; simp
 have hEa : EntR 0 es ma := by
  have hz : ∀ (es : List En) (i : Nat) (ms : List MapEntry), (∀ e ∈ es, ¬ e.k = keyN x) → esA nilA (keyN x) es = esA (.p (.val (En.val ⟨keyN x, [], 0, 0⟩))) (keyN x) es := by
   intro es i ms hn
   refine List.map_congr_left (fun e he => ?_)
   rw [if_neg (hn e he), if_neg (hn e he)]
  rw [hz es 0 ma hno] at m3
  have := mp_out (e1 := ⟨keyN x, [], 0, 0⟩) rfl (fun v hv' => by simpa [VR, PR] using hv') es 0 ma m3
  rw [hid] at this
  exact this
 have hlen : (mrow kA idA (esA nilA (keyN x) es)).length = es.length := by simp [mrow]
 rw [hlen] at m4
 obtain ⟨mm, rfl, hmk, hmv, hmb⟩ : ∃ mm, mb = [mm] ∧ mm.key = keyV (keyN x) ∧ VR g' w' (.sl 3 0 1 0 1) mm.val ∧ mm.born = 0 + es.length := by
  cases mb with
  | nil => simp [MpR] at m4
  | cons mm r =>
   cases r with
   | cons _ _ => simp [MpR] at m4
   | nil =>
    simp only [MpR] at m4
    obtain ⟨⟨h1, h2, h3⟩, _⟩ := m4
    refine ⟨mm, rfl, ?_, h2, h3⟩
    simp only [VR] at h1
    obtain ⟨cs, q1, q2⟩ := h1
    match hcs : cs.toList, q2 with
    | [v1, v2, v3], q2 =>
     simp only [VRs, VR, PR] at q2
     obtain ⟨rfl, rfl, rfl, _⟩ := q2
     rw [q1]
     congr 1
     apply Array.ext'
     rw [hcs]
    | [], q2 => simp [VRs] at q2
    | [_], q2 => simp [VRs] at q2
    | [_, _], q2 => simp [VRs] at q2
    | _ :: _ :: _ :: _ :: _, q2 => simp [VRs] at q2
 refine hQ a' w' g'.S ⟨keyN x, [(j : Int)], c', cap'⟩ rfl rfl (slots_out hs hm hM') ?_ (fun k hk => he.S k (by rw [gS]; exact hk))
 have hsz := hI.size
 refine ⟨Nat.le_trans hI.size he.size, fun k k1 k2 => (he.pr k ((gP k).2 ⟨Nat.lt_of_lt_of_le k1 hI.size, k2⟩)).trans (hI.old k k1 k2), he.os.trans hI.os, he.tape.trans hI.tape, he.output.trans hI.out,
  ⟨arr', by simpa using m1, by rw [e1]; exact ent_snoc es 0 ma hEa ⟨hmk, by rw [hv _ hmv]; rfl, hmb⟩⟩, ?_, ?_, ?_, ?_, ?_, hI.lt⟩
 ·intro e hes
  rcases List.mem_append.1 hes with hes | hes
  ·have h2 := hI.row e hes
   obtain ⟨cs2, fz2, v1, v2, v3, v4⟩ := h2.ex
   exact ⟨⟨cs2, fz2, (he.pr _ (same e hes)).trans v1, v2, v3, v4⟩, h2.cap, h2.le⟩
  ·rw [List.mem_singleton.1 hes]
   exact ⟨⟨cs', fz', t1, t2, t3, t4⟩, t5, t6⟩
 ·intro e hes
  rcases List.mem_append.1 hes with hes | hes
  ·exact hI.new e hes
  ·rw [List.mem_singleton.1 hes]
   show w0.heap.size ≤ c'
   omega
 ·rw [List.map_append, List.nodup_append]
  refine ⟨hI.dis, by simp, ?_⟩
  intro p hp q hq
  obtain ⟨e, hes, rfl⟩ := List.mem_map.1 hp
  simp only [mcs, List.map_nil, List.mem_singleton] at hq
  subst hq
  have := (hI.clt hes).1
  omega
 ·rw [List.map_append, List.nodup_append]
  refine ⟨hI.keys, by simp, ?_⟩
  intro p hp q hq
  simp only [mcs, List.map_nil, List.mem_singleton] at hq
  subst hq
  rintro rfl
  exact hk hp
 ·intro k hk
  refine ⟨hr.prs k (hr.spr k hk), fun e => hM' (by rw [← e]; exact hr.spr k hk), fun e hes => ?_⟩
  rcases List.mem_append.1 hes with hes | hes
  ·rintro rfl
   rcases he.Sn _ hk with q | q
   ·rw [gS] at q
    exact (hI.s _ q).2.2 e hes rfl
   ·exact q (same e hes)
  ·rw [List.mem_singleton.1 hes]
   rintro rfl
   exact hc' (hr.spr _ hk)
end
def fput (x : NameD) (j : Int) (pl : List (Key × List Int)) : List (Key × List Int) := mput (keyN x) (mget [] pl (keyN x) ++ [j]) pl
def foundL : List NameD → Nat → List (Key × List Int) → List (Key × List Int)
 | [], _, pl => pl
 | x :: l, j, pl => foundL l (j + 1) (fput x (j : Int) pl)
def kv (es : List En) : List (Key × List Int) := es.map fun e => (e.k, e.is)
theorem kv_in {e0 e1 : En} (h1 : e1.k = e0.k) {j : Int} (h2 : e1.is = e0.is ++ [j]) : ∀ (es : List En), (es.map (·.k)).Nodup → e0 ∈ es → kv (es.map fun e => if e.k = e0.k then e1 else e) = mput e0.k (mget [] (kv es) e0.k ++ [j]) (kv es)
 | [], _, h => by simp at h
 | e :: es, hn, h => by
  rw [mcs, List.nodup_cons] at hn
  by_cases c : e.k = e0.k
  ·have he : e = e0 := by
    rcases List.mem_cons.1 h with h | h
    ·exact h.symm
    ·exact absurd (List.mem_map.2 ⟨e0, h, c.symm⟩) hn.1
   subst he
   have hr : (es.map fun x => if x.k = e.k then e1 else x) = es := by
    have : ∀ x ∈ es, (if x.k = e.k then e1 else x) = x := fun x hx => if_neg (fun hh => hn.1 (List.mem_map.2 ⟨x, hx, hh⟩))
    rw [List.map_congr_left this]; simp
   simp only [kv, mcs, if_true, mput, mget, mfind, Option.getD_some]
   rw [h1, h2]
   congr 1
   have := congrArg kv hr
   simpa [kv] using this
  ·have c' : ¬ e0.k = e.k := fun h => c h.symm
   have h' : e0 ∈ es := by
    rcases List.mem_cons.1 h with h | h
    ·exact absurd (by rw [h]) c'
    ·exact h
   have ih := kv_in h1 h2 es hn.2 h'
   have hg : mget [] (kv (e :: es)) e0.k = mget [] (kv es) e0.k := by
    show ((mfind e0.k ((e.k, e.is) :: kv es)).getD []) = _
    simp only [mfind, if_neg c']
    rfl
   show kv ((if e.k = e0.k then e1 else e) :: _) = mput e0.k (mget [] (kv (e :: es)) e0.k ++ [j]) ((e.k, e.is) :: kv es)
   rw [hg, if_neg c]
   simp only [mput, if_neg c']
   show (e.k, e.is) :: kv _ = _
   rw [ih]
theorem kv_no {e1 : En} {k : Key} (h1 : e1.k = k) {j : Int} (h2 : e1.is = [j]) (es : List En) (hk : k ∉ es.map (·.k)) : kv (es ++ [e1]) = mput k (mget [] (kv es) k ++ [j]) (kv es) := by
 have hf : mfind k (kv es) = none := by
  clear h1 h2
  induction es with
  | nil => rfl
  | cons e es ih =>
   rw [mcs, List.mem_cons, not_or] at hk
   show mfind k ((e.k, e.is) :: kv es) = none
   simp only [mfind, if_neg hk.1]
   exact ih hk.2
 rw [mput_app _ _ _ hf]
 unfold mget
 rw [hf]
 simp [kv, h1, h2]
structure EndS (w : World) (M : Nat) (S : Nat → Prop) (en : Nat) (a : Act) : Prop where
 size : a.tmps.size = 33
 t3 : a.tmps.toList[3]? = some (.map (some M))
 d : ∀ d ∈ a.defers, ∃ D, d = { target := .collected D, args := #[] } ∧ en ≤ D ∧ D < w.heap.size ∧ ¬ S D ∧ w.heap[D]? = some (.deferred (some []))
 nd : a.defers.Nodup
 sz : en ≤ w.heap.size
section
variable {rd : Option Nat} {en : Nat} {w0 : World} {M : Nat} {l : List NameD}
theorem round_end {w : World} {S : Nat → Prop} {es : List En} {a : Act} {Q : Exit → Act → World → Prop} (hI : Inv w0 w M S es) (hS : Slots w M S en l l.length a)
  (hQ : ∀ a' w' S', EndS w' M S' en a' → Inv w0 w' M S' es → (∀ k, S k → S' k) → Q (.exit 0) a' w') : lB.wpIn (FW rd) 0 prog Q a w := by
 obtain ⟨g2, hg2⟩ : ∃ g2 : G, g2 = ⟨S, fun k => k < w.heap.size, 1, fun _ => False, fun _ => M, fun _ => 0, fun _ _ => none, Go.Vs.Good prog⟩ := ⟨_, rfl⟩
 have gS : g2.S = S := by rw [hg2]
 have gP : ∀ k, g2.Pr k ↔ k < w.heap.size := fun k => by rw [hg2]
 have gD : g2.D 0 := by rw [hg2]; exact ⟨Nat.zero_lt_one, fun h => h⟩
 have gm : ∀ b, g2.m b = M := fun b => by rw [hg2]
 have one : ∀ (b : Nat) (y : AB), [AB.dead][b]? = some y → b = 0 ∧ y = .dead := by
  intro b y hb
  match b, hb with
  | 0, hb => exact ⟨rfl, (Option.some.inj hb).symm⟩
  | n + 1, hb => simp at hb
 have hr2 : HR g2 [.dead] w := by
  refine ⟨by rw [hg2]; rfl, fun b y hb => by rw [(one b y hb).2]; simp [BR], ?_, ?_, fun c hc => by rw [gS] at hc; rw [gP]; exact (hI.s c hc).1, fun c hc => (gP c).1 hc, ?_⟩
  ·intro b b' y y' c hb hb' h1 h2
   rw [(one b y hb).2] at h1
   simp [cid] at h1
  ·intro b y c hb h1
   rw [(one b y hb).2] at h1
   simp [cid] at h1
  ·intro b
   rw [hg2]
   exact ⟨fun h => h.elim, fun h => by have := (one b _ h).2; cases this⟩
 have hSR : SR prog (Go.Vs.Good prog) prgF.gl en ⟨fr 33 ug (fnd l l.length), [.dead]⟩ g2 a w := by
  refine ⟨⟨(fun n xs h => by cases h), hr2, slots_in hS gS gD (gm 0)⟩, ?_, hS.nd, hS.sz, by rw [hg2]⟩
  intro d hd
  obtain ⟨D, q1, q2, q3, q4, q5, q6⟩ := hS.d d hd
  exact ⟨D, q1, q2, (gP D).2 q3, by rw [gS]; exact q5, q6⟩
 obtain ⟨gx, hrun⟩ := rd_end l [.dead] ug
 refine step_of hrun hSR (fun e a' w' g' k1 he hs => ?_)
 have ex : e = .exit 0 := by
  rcases exitR_brk k1 with ⟨h, _⟩ | ⟨_, _, h, _⟩
  ·exact h
  ·omega
 rw [ex]
 have hr := hs.c.hr
 have hold : ∀ k, k < w.heap.size → w'.heap[k]? = w.heap[k]? := fun k hk => he.pr k ((gP k).2 hk)
 have hm : g'.m 0 = M := (he.m 0 gD).trans (gm 0)
 have hv := hs.c.fr
 have hl := hv.len
 have hSn : ∀ k, g'.S k → S k ∨ ¬ k < w.heap.size := fun k hk => by
  rcases he.Sn k hk with q | q
  ·rw [gS] at q; exact .inl q
  ·rw [gP] at q; exact .inr q
 have hMs : M < w.heap.size := Nat.lt_of_lt_of_le hI.lt hI.size
 refine hQ a' w' g'.S ⟨?_, ?_, ?_, hs.nd, hs.sz⟩ ?_ (fun k hk => he.S k (by rw [gS]; exact hk))
 ·unfold fr at hl
  rw [W_len, altl] at hl
  exact hl.symm
 ·obtain ⟨v, h1, h2⟩ := hv.get (show (fr 33 gx [(3, .mp 0)])[3]? = some (.mp 0) by unfold fr; rw [W_at _ _ _ _ (by omega)]; rfl)
  simp only [VR] at h2
  rw [h1, h2.2, hm]
 ·intro d hd
  obtain ⟨D, h1, h2, h3, h4, h5⟩ := hs.d d hd
  exact ⟨D, h1, h2, hr.prs D h3, h4, h5⟩
 ·obtain ⟨arr, m1, m2⟩ := hI.map
  refine ⟨Nat.le_trans hI.size he.size, fun k k1 k2 => (hold k (Nat.lt_of_lt_of_le k1 hI.size)).trans (hI.old k k1 k2), he.os.trans hI.os, he.tape.trans hI.tape, he.output.trans hI.out, ⟨arr, (hold M hMs).trans m1, m2⟩, ?_, hI.new, hI.dis, hI.keys, ?_, hI.lt⟩
  ·intro e hes
   have h2 := hI.row e hes
   obtain ⟨cs2, fz2, v1, v2, v3, v4⟩ := h2.ex
   exact ⟨⟨cs2, fz2, (hold _ (hI.clt hes).1).trans v1, v2, v3, v4⟩, h2.cap, h2.le⟩
  ·intro k hk
   refine ⟨hr.prs k (hr.spr k hk), ?_, ?_⟩
   ·rintro rfl
    rcases hSn _ hk with q | q
    ·exact (hI.s _ q).2.1 rfl
    ·exact q hMs
   ·rintro e hes rfl
    rcases hSn _ hk with q | q
    ·exact (hI.s _ q).2.2 e hes rfl
    ·exact q (hI.clt hes).1
theorem rounds_all (hl : l.length ≤ 1000000) (Q : Exit → Act → World → Prop) : ∀ (k j : Nat) (w : World) (S : Nat → Prop) (es : List En) (a : Act), j + k = l.length → Inv w0 w M S es → Slots w M S en l j a → (∀ e ∈ es, e.is.length ≤ j) →
  (∀ a' w' S' es', EndS w' M S' en a' → Inv w0 w' M S' es' → (∀ k, S k → S' k) → kv es' = foundL (l.drop j) j (kv es) → Q (.exit 0) a' w') → Code.roundsIn (FW rd) 0 prog lB Q (k + 1) a w
 | 0, j, w, S, es, a, hj, hI, hS, _, hQ => by
  obtain rfl : j = l.length := by omega
  rw [roundsIn_succ]
  exact round_end hI hS (fun a' w' S' h1 h2 h3 => hQ a' w' S' es h1 h2 h3 (by rw [List.drop_length]; rfl))
 | k + 1, j, w, S, es, a, hj, hI, hS, hlen, hQ => by
  have hx : l[j]? = some (l[j]'(by omega)) := List.getElem?_eq_getElem _
  have hd : l.drop j = l[j]'(by omega) :: l.drop (j + 1) := List.drop_eq_getElem_cons (by omega)
  generalize l[j]'(by omega) = x at hx hd
  rw [hd] at hQ
  rw [roundsIn_succ]
  by_cases hk : keyN x ∈ es.map (·.k)
  ·obtain ⟨e0, h0, hk0⟩ := List.mem_map.1 hk
   refine round_in hI hS hx (by omega) h0 hk0 (by have := hlen e0 h0; omega) (fun a' w' S' e1 q1 q2 q3 q4 q5 => ?_)
   refine rounds_all hl Q k (j + 1) w' S' _ a' (by omega) q4 q3 (fun e he => ?_) (fun a2 w2 S2 es2 p1 p2 p3 p4 => ?_)
   ·obtain ⟨y, hy, rfl⟩ := List.mem_map.1 he
    by_cases c : y.k = e0.k
    ·rw [if_pos c, q2]; have := hlen e0 h0; simp; omega
    ·rw [if_neg c]; have := hlen y hy; omega
   ·refine hQ a2 w2 S2 es2 p1 p2 (fun k hk => p3 k (q5 k hk)) ?_
    rw [p4, kv_in q1 q2 es hI.keys h0]
    show _ = foundL (l.drop (j + 1)) (j + 1) (fput x (j : Int) (kv es))
    unfold fput
    rw [← hk0]
  ·refine round_no hI hS hx (by omega) hk (fun a' w' S' e1 q1 q2 q3 q4 q5 => ?_)
   refine rounds_all hl Q k (j + 1) w' S' _ a' (by omega) q4 q3 (fun e he => ?_) (fun a2 w2 S2 es2 p1 p2 p3 p4 => ?_)
   ·rcases List.mem_append.1 he with he | he
    ·have := hlen e he; omega
    ·rw [List.mem_singleton.1 he, q2]; simp
   ·refine hQ a2 w2 S2 es2 p1 p2 (fun k hk => p3 k (q5 k hk)) ?_
    rw [p4, kv_no q1 q2 es hk]
    rfl
end
abbrev vL (is : List Int) : AV := .p (.lst 1 (is.map eI64))
noncomputable def c1 : Code := match f23.body with | some (.seq c _) => c | _ => .skip
noncomputable def c2 : Code := match f23.body with | some (.seq _ (.seq c _)) => c | _ => .skip
noncomputable def c3 : Code := match f23.body with | some (.seq _ (.seq _ (.seq (.seq c _) _))) => c | _ => .skip
noncomputable def c4 : Code := match f23.body with | some (.seq _ (.seq _ (.seq _ c))) => c | _ => .skip
noncomputable def c23 : Code := .seq c1 (.seq c2 (.seq (.seq c3 (.block 0 (.loop lB))) c4))
theorem c23_eq : f23.body = some c23 := by kernel_rfl
def i1 : IC := .ops [oI 1 (.boxL (tI 0)), oI 2 (.mv (.c (.p (.val (.map .none)))))]
def i2 : IC := .ops [⟨(.some 7), .mkMap, .none⟩, oI 3 (.mv (tI 7))]
def i3 : IC := .ops [oI 8 (.fieldA 1 (tI 1)), oI 9 (.load .false 1 (tI 8)), oI 10 (.len (tI 9)), oI 11 (.mv (cI 0))]
def i4 : IC := .seq (.ops [oI 32 (.mv (tI 3)), oI 2 (.mv (tI 32))]) .ret
theorem e1 : (compC prog (shOf sh [1, 27]) c1 []).1 = i1 := by kernel_rfl
theorem e2 : (compC prog (shOf sh [1, 27]) c2 []).1 = i2 := by kernel_rfl
theorem e3 : (compC prog (shOf sh [1, 27]) c3 []).1 = i3 := by kernel_rfl
theorem e4 : (compC prog (shOf sh [1, 27]) c4 []).1 = i4 := by kernel_rfl
theorem code_step {c : Code} {i : IC} (hi : (compC prog (shOf sh [1, 27]) c []).1 = i) (hno : noR c = true) {s s' : St} {o : Out} {H : List (Nat × Hint)} {ps : List Prop} (h : runD prgF 30 H i s = some (ps, o, s')) (hp : AllP ps) {rd : Option Nat} {en : Nat} {g : G} {a : Act} {w : World} (hs : SR prog (Go.Vs.Good prog) prgF.gl en s g a w) {Q : Exit → Act → World → Prop}
  (hQ : ∀ e a' w' g', ExitR o e → Ext g w g' w' → SR prog (Go.Vs.Good prog) prgF.gl en s' g' a' w' → Q e a' w') : c.wpIn (FW rd) 0 prog Q a w := by
 have hr := runD_ok h hp
 obtain ⟨n, hn⟩ := run_cont i s (o, s') hr
 have hn : evalN prgF (n + 1) i s = some (o, s') := hn
 rw [← hi] at hn
 exact (eval_sound prgF_ok (n + 1)).1 (shOf sh [1, 27]) c [] s o s' hn rd en g g a w w (.inl hno) hs (Ext.refl g w) Q hQ
section
variable (s : ScopesD) (h : List AB)
abbrev a00 : List AV := [.agg ((eScps s).map .p)]
theorem r1 : ∃ g, runD prgF 30 [] i1 ⟨a00 s ++ List.replicate 32 ud, h⟩ = some ([], .norm, ⟨fr 33 g [(1, .ro (eScps s))], h⟩) := exitL_of (by kernel_rfl)
theorem r2 (ug : Nat → AV) : ∃ g, runD prgF 30 [] i2 ⟨fr 33 ug [(1, .ro (eScps s))], h⟩ = some ([], .norm, ⟨fr 33 g [(1, .ro (eScps s)), (3, .mp h.length)], h ++ [.map []]⟩) := exitL_of (by kernel_rfl)
theorem r3 (ug : Nat → AV) (b : Nat) : ∃ g, runD prgF 30 [(10, .v (vi .i64 (s.decl.length : Int)))] i3 ⟨fr 33 ug [(1, .ro (eScps s)), (3, .mp b)], h⟩ = some ([lnA (.p (.lst 5 (s.decl.map eName))) = some (vi .i64 (s.decl.length : Int))], .norm, ⟨fr 33 g [(3, .mp b), (9, .p (.lst 5 (s.decl.map eName))), (10, vi .i64 (s.decl.length : Int)), (11, vi .i64 0)], h⟩) := exitL_of (by kernel_rfl)
theorem r4 (ug : Nat → AV) (b : Nat) : ∃ g, runD prgF 30 [] i4 ⟨fr 33 ug [(3, .mp b)], h⟩ = some ([], .ret, ⟨fr 33 g [(2, .mp b)], h⟩) := exitL_of (by kernel_rfl)
end
theorem callR_of {P : Program} {gl : Nat → Option (List PV)} {fn : Nat} {fd : Func} {c : Code} {rs : List IRes} (hfd : P.funcs[fn]? = some fd) (hbody : fd.body = some c) (hname : (fd.name == "runtime.NumGoroutine") = false) (hres : compRes P fd.results.toList = some rs) {args : List AV} {h : List AB} {s' : St} {vs : List AV}
  (hcode : CodeR P (Go.Vs.Good P) gl (fun rd => noR c = true ∨ rd = none) (fun rd Q => c.wpIn (FW rd) 0 P Q) ⟨args ++ List.replicate (fd.ntmps - args.length) ud, h⟩ .ret s') (hvs' : resOf s' rs = some vs) : CallR P (Go.Vs.Good P) gl fn args h (packR vs) s'.h := by
 refine ⟨⟨fd, hfd, by simp [hbody], hname⟩, ?_⟩
 intro g w vals hcr hgr hhr hvs
 have hlen := hvs.len
 have hfr : VRs g w (args ++ List.replicate (fd.ntmps - args.length) ud) (vals.toArray ++ Array.replicate (fd.ntmps - vals.toArray.size) undef).toList := by
  simp only [Array.toList_append, Array.toList_replicate, List.size_toArray, ← hlen]
  exact hvs.append (VRs.replicate _ VR_ud)
 have hsr : SR P (Go.Vs.Good P) gl w.heap.size ⟨args ++ List.replicate (fd.ntmps - args.length) ud, h⟩ g { tmps := vals.toArray ++ Array.replicate (fd.ntmps - vals.toArray.size) undef, defers := [] } w :=
  ⟨⟨hgr, hhr, hfr⟩, by simp, by simp, Nat.le_refl _, hcr⟩
 refine (callsIn_wide (n := 0)).1 (callsIn_of_wp_marks (F := FW none) hfd hbody trivial (hcode none w.heap.size g g _ w w (.inr rfl) hsr (Ext.refl g w) _ ?_) rfl)
 intro e a' w' g' k1 k2 k3
 have := marks_leave (en := w.heap.size) hhr.prs hres hvs' a'.defers g' w' a' rfl k2 k3.c k3.d k3.nd
 rw [exitR_ret k1]; exact this
theorem mp_fin {g : G} {w : World} (hS : ∀ e : En, RowOk w e → g.S e.c → VR g w (vL e.is) e.val) : ∀ (es : List En) (i : Nat) (ms : List MapEntry), EntR i es ms → (∀ e ∈ es, RowOk w e ∧ g.S e.c) → MpR g w i (mrow kA vL (kv es)) ms
 | [], i, [], _, _ => by simp [MpR, mrow, kv]
 | e :: es, i, m :: ms, h, hu => by
  simp only [EntR] at h
  obtain ⟨⟨h1, h2, h3⟩, h4⟩ := h
  have ih := mp_fin hS es (i + 1) ms h4 (fun e he => hu e (by simp [he]))
  simp only [kv, mrow, mcs, MpR]
  exact ⟨⟨by rw [h1]; exact key_rel e.k, by rw [h2]; exact hS e (hu e (by simp)).1 (hu e (by simp)).2, h3⟩, ih⟩
 | [], _, _ :: _, h, _ => by simp [EntR] at h
 | _ :: _, _, [], h, _ => by simp [EntR] at h
theorem ints_PRr {S : Nat → Prop} {w : World} {c : Nat} {cs : Array Value} {fz : Nat × Nat} (hc : w.heap[c]? = some (.cells cs 3 fz)) : ∀ (is : List Int) (off : Nat), (cs.toList.drop off).take is.length = is.map (Value.int .i64) → PRr S w c off 1 (is.map eI64)
 | [], off, _ => by simp [PRr]
 | n :: is, off, h => by
  have hlen := congrArg List.length h
  simp only [List.length_take, List.length_drop, List.length_map, lcn] at hlen
  have hlt : off < cs.toList.length := by omega
  have hd : cs.toList.drop off = cs.toList[off] :: cs.toList.drop (off + 1) := List.drop_eq_getElem_cons hlt
  rw [hd, lcn, List.take_succ_cons, mcs, List.cons.injEq] at h
  simp only [mcs, PRr, eI64]
  refine ⟨rfl, ?_, ints_PRr hc is (off + 1) h.2⟩
  simp only [PRs, PR, and_true]
  refine ⟨.int .i64 n, ?_, rfl, rfl⟩
  have hlt' : off < cs.size := by simpa using hlt
  have h1 : cs[off]? = some (.int .i64 n) := by rw [← h.1]; simp [hlt']
  simp only [World.cell?, hc]
  exact h1
theorem val_rel {g : G} {w : World} {e : En} (hr : RowOk w e) (hS : g.S e.c) : VR g w (vL e.is) e.val := by
 obtain ⟨cs, fz, h1, h2, h3, h4⟩ := hr.ex
 simp only [VR, PR]
 refine ⟨_, _, by simp [En.val], by simpa using hr.le, hr.cap, .inr ⟨e.c, 0, rfl, hS, ?_⟩⟩
 exact ints_PRr h1 e.is 0 (by simpa using h4)
section
variable {en : Nat} {gb : G} {a : Act} {w : World} {h : List AB} {l : List NameD} {gg : Nat → AV}
theorem base_in (hs : SR prog (Go.Vs.Good prog) prgF.gl en ⟨fr 33 gg [(3, .mp h.length), (9, .p (.lst 5 (l.map eName))), (10, vi .i64 (l.length : Int)), (11, vi .i64 0)], h ++ [.map []]⟩ gb a w) :
  Slots w (gb.m h.length) gb.S en l 0 a ∧ Inv w w (gb.m h.length) gb.S [] := by
 have hr := hs.c.hr
 have hb : (h ++ [AB.map []])[h.length]? = some (.map []) := by simp
 have hM : ¬ gb.Pr (gb.m h.length) := hr.own h.length _ _ hb rfl
 have hbr := hr.br h.length _ hb
 simp only [BR] at hbr
 obtain ⟨arr, m1, m2⟩ := hbr
 have hv := hs.c.fr
 have hl := hv.len
 have hat : ∀ i, i < 33 → (fr 33 gg [(3, .mp h.length), (9, .p (.lst 5 (l.map eName))), (10, vi .i64 (l.length : Int)), (11, vi .i64 0)])[i]? = some (ovr gg [(3, .mp h.length), (9, .p (.lst 5 (l.map eName))), (10, vi .i64 (l.length : Int)), (11, vi .i64 0)] i) := fun i hi => by unfold fr; rw [W_at _ _ _ _ hi, Nat.zero_add]
 refine ⟨⟨?_, ?_, ?_, ?_, ?_, ?_, hs.nd, hs.sz⟩, ⟨Nat.le_refl _, fun _ _ _ => rfl, rfl, rfl, rfl, ⟨arr, m1, ?_⟩, by simp, by simp, by simp, by simp, fun k hk => ⟨hr.prs k (hr.spr k hk), fun e => hM (by rw [← e]; exact hr.spr k hk), by simp⟩, heap_lt m1⟩⟩
 ·unfold fr at hl
  rw [W_len, altl] at hl
  exact hl.symm
 ·obtain ⟨v, h1, h2⟩ := hv.get (hat 3 (by omega))
  have h2 : VR gb w (.mp h.length) v := h2
  simp only [VR] at h2
  rw [h1, h2.2]
 ·obtain ⟨v, h1, h2⟩ := hv.get (hat 9 (by omega))
  have h2 : VR gb w (.p (.lst 5 (l.map eName))) v := h2
  simp only [VR] at h2
  exact ⟨v, h1, h2⟩
 ·obtain ⟨v, h1, h2⟩ := hv.get (hat 10 (by omega))
  have h2 : VR gb w (vi .i64 (l.length : Int)) v := h2
  simp only [VR, PR] at h2
  rw [h1, h2]
 ·obtain ⟨v, h1, h2⟩ := hv.get (hat 11 (by omega))
  have h2 : VR gb w (vi .i64 0) v := h2
  simp only [VR, PR] at h2
  rw [h1, h2]
  rfl
 ·intro d hd
  obtain ⟨D, h1, h2, h3, h4, h5⟩ := hs.d d hd
  exact ⟨D, h1, h2, hr.prs D h3, fun e => hM (by rw [← e]; exact h3), h4, h5⟩
 ·cases hA : arr.toList with
  | nil => simp [EntR]
  | cons _ _ => rw [hA] at m2; simp [MpR] at m2
theorem fin_out (hs : SR prog (Go.Vs.Good prog) prgF.gl en ⟨fr 33 gg [(3, .mp h.length), (9, .p (.lst 5 (l.map eName))), (10, vi .i64 (l.length : Int)), (11, vi .i64 0)], h ++ [.map []]⟩ gb a w)
  {w' : World} {S' : Nat → Prop} {es : List En} {a' : Act} (hE : EndS w' (gb.m h.length) S' en a') (hI : Inv w w' (gb.m h.length) S' es) (hSS : ∀ k, gb.S k → S' k) :
  ∃ g', Ext gb w g' w' ∧ SR prog (Go.Vs.Good prog) prgF.gl en ⟨fr 33 ug [(3, .mp h.length)], h ++ [.map (mrow kA vL (kv es))]⟩ g' a' w' := by
 have hr := hs.c.hr
 have hb : (h ++ [AB.map []])[h.length]? = some (.map []) := by simp
 have hM : ¬ gb.Pr (gb.m h.length) := hr.own h.length _ _ hb rfl
 have hDm : gb.D h.length := hr.d hb (by simp)
 obtain ⟨g', hg'⟩ : ∃ g' : G, g' = { gb with S := fun k => gb.S k ∨ ∃ e ∈ es, k = e.c, Pr := fun k => gb.Pr k ∨ (∃ e ∈ es, k = e.c) ∨ (k < w'.heap.size ∧ w'.heap[k]? = some (.deferred (some []))) } := ⟨_, rfl⟩
 have gS : ∀ k, g'.S k ↔ gb.S k ∨ ∃ e ∈ es, k = e.c := fun k => by rw [hg']
 have gP : ∀ k, g'.Pr k ↔ gb.Pr k ∨ (∃ e ∈ es, k = e.c) ∨ (k < w'.heap.size ∧ w'.heap[k]? = some (.deferred (some []))) := fun k => by rw [hg']
 have gcid : ∀ b x, cid g' b x = cid gb b x := fun b x => by rw [hg']; cases x <;> rfl
 have hold : ∀ k, k < w.heap.size → k ≠ gb.m h.length → w'.heap[k]? = w.heap[k]? := hI.old
 have he : Ext gb w g' w' := by
  refine ⟨fun k hk => (gS k).2 (.inl hk), fun k hk => (gP k).2 (.inl hk), fun k hk => hold k (hr.prs k hk) (fun e => hM (by rw [← e]; exact hk)), by rw [hg']; exact Nat.le_refl _, fun b hb => by rw [hg']; exact hb, fun b _ => by rw [hg'], fun b _ => by rw [hg']; exact Nat.le_refl _, fun b _ k _ => by rw [hg'], hI.size, hI.os, hI.tape, hI.out, fun k hk => ?_, by rw [hg']⟩
  rcases (gS k).1 hk with q | ⟨e, hes, rfl⟩
  ·exact .inl q
  ·right
   intro hP
   have := hr.prs _ hP
   have := hI.new e hes
   omega
 obtain ⟨arr, m1, m2⟩ := hI.map
 have hget : ∀ (b : Nat) (x : AB), (h ++ [AB.map (mrow kA vL (kv es))])[b]? = some x → (b < h.length ∧ (h ++ [AB.map []])[b]? = some x) ∨ (b = h.length ∧ x = .map (mrow kA vL (kv es))) := by
  intro b x hx
  rw [List.getElem?_append] at hx
  split at hx
  ·rename_i hl
   exact .inl ⟨hl, by rw [List.getElem?_append_left hl]; exact hx⟩
  ·rename_i hl
   right
   have hlt : b - h.length < 1 := by
    have := (gei.1 hx).1
    simpa using this
   have e0 : b = h.length := by omega
   subst e0
   simp at hx
   exact ⟨rfl, hx.symm⟩
 have hcM : ∀ (b : Nat) (x : AB) (c : Nat), b < h.length → (h ++ [AB.map []])[b]? = some x → cid gb b x = some c → c ≠ gb.m h.length := fun b x c hlt hx hc e => by
  have := hr.dis b h.length x _ c hx hb hc (by simp [cid, e])
  omega
 have hcidg : ∀ (b : Nat) (x : AB) (c : Nat), (h ++ [AB.map (mrow kA vL (kv es))])[b]? = some x → cid g' b x = some c → ∃ y, (h ++ [AB.map []])[b]? = some y ∧ cid gb b y = some c := by
  intro b x c hx hc
  rw [gcid] at hc
  rcases hget b x hx with ⟨_, h2⟩ | ⟨rfl, rfl⟩
  ·exact ⟨x, h2, hc⟩
  ·exact ⟨_, hb, by simpa [cid] using hc⟩
 have hr' : HR g' (h ++ [.map (mrow kA vL (kv es))]) w' := by
  refine ⟨by rw [hg']; show gb.N = _; rw [hr.n]; simp, ?_, ?_, ?_, ?_, ?_, ?_⟩
  ·intro b x hx
   rcases hget b x hx with ⟨hlt, h2⟩ | ⟨rfl, rfl⟩
   ·exact BR_mono hr he h2 (by rw [hg']) (fun c hc => hold c (cid_lt hr h2 hc) (hcM b x c hlt h2 hc))
   ·simp only [BR]
    refine ⟨arr, ?_, mp_fin (fun e h1 h2 => val_rel h1 h2) es 0 _ m2 (fun e hes => ⟨hI.row e hes, (gS _).2 (.inr ⟨e, hes, rfl⟩)⟩)⟩
    have : g'.m h.length = gb.m h.length := by rw [hg']
    rw [this, m1]
    simp [mrow, kv]
  ·intro b b' x x' c h1 h2 h3 h4
   obtain ⟨y, p1, p2⟩ := hcidg b x c h1 h3
   obtain ⟨y', p3, p4⟩ := hcidg b' x' c h2 h4
   exact hr.dis b b' y y' c p1 p3 p2 p4
  ·intro b x c h1 h3 hP
   obtain ⟨y, p1, p2⟩ := hcidg b x c h1 h3
   have hclt := cid_lt hr p1 p2
   rcases (gP c).1 hP with q | ⟨e, hes, rfl⟩ | ⟨q1, q2⟩
   ·exact hr.own b y c p1 p2 q
   ·have := hI.new e hes
    omega
   ·by_cases hce : c = gb.m h.length
    ·rw [hce, m1] at q2
     cases q2
    ·rw [hold c hclt hce] at q2
     have hbr := hr.br b y p1
     cases y with
     | cells t xs =>
      simp only [BR] at hbr
      obtain ⟨cs, fz, k1, _⟩ := hbr
      simp only [cid, oiq] at p2
      rw [p2, q2] at k1
      cases k1
     | row t s gen rows =>
      simp only [BR] at hbr
      simp only [cid] at p2
      cases hh : gb.hd b gen with
      | none => rw [hh] at p2; cases p2
      | some pr =>
       obtain ⟨cc, cap⟩ := pr
       rw [hh] at p2 hbr
       simp only [Option.map_some, oiq] at p2
       simp only [RowR] at hbr
       obtain ⟨_, _, cs, fz, k1, _⟩ := hbr
       rw [p2, q2] at k1
       cases k1
     | loop st pend ps f ia ib =>
      simp only [BR] at hbr
      obtain ⟨rec, k1, _⟩ := hbr
      simp only [cid, oiq] at p2
      rw [p2, q2] at k1
      cases k1
     | map es2 =>
      simp only [BR] at hbr
      obtain ⟨ar, k1, _⟩ := hbr
      simp only [cid, oiq] at p2
      rw [p2, q2] at k1
      cases k1
     | frz _ _ _ => simp [cid] at p2
     | dead => simp [cid] at p2
     | hole => simp [cid] at p2
  ·intro c hc
   rw [gP]
   rcases (gS c).1 hc with q | q
   ·exact .inl (hr.spr c q)
   ·exact .inr (.inl q)
  ·intro c hc
   rcases (gP c).1 hc with q | ⟨e, hes, rfl⟩ | q
   ·exact Nat.lt_of_lt_of_le (hr.prs c q) hI.size
   ·exact (hI.clt hes).1
   ·exact q.1
  ·intro b
   have e1 : g'.Ho b ↔ gb.Ho b := by rw [hg']
   rw [e1, hr.ho b]
   constructor
   ·intro hx
    by_cases hlt : b < h.length
    ·rw [List.getElem?_append_left hlt] at hx ⊢
     exact hx
    ·rcases Nat.lt_or_ge h.length b with h1 | h1
     ·rw [List.getElem?_eq_none (by simp; omega)] at hx
      cases hx
     ·obtain rfl : b = h.length := by omega
      rw [hb] at hx
      cases hx
   ·intro hx
    rcases hget b _ hx with ⟨_, h2⟩ | ⟨_, h2⟩
    ·exact h2
    ·cases h2
 refine ⟨g', he, ⟨⟨(fun n xs h => by cases h), hr', ?_⟩, ?_, hE.nd, hE.sz, he.cr.trans hs.cr⟩⟩
 ·refine VRs_of _ _ (by unfold fr; rw [W_len, altl, hE.size]) (fun i x v hx hv => ?_)
  have hi : i < 33 := by
   have := (gei.1 hx).1
   unfold fr at this
   rwa [W_len] at this
  unfold fr at hx
  rw [W_at _ _ _ _ hi, Nat.zero_add] at hx
  have hx := Option.some.inj hx
  subst hx
  by_cases h3 : i = 3
  ·subst h3
   rw [hE.t3] at hv
   have hv := Option.some.inj hv
   subst hv
   show VR g' w' (.mp h.length) _
   simp only [VR]
   exact ⟨by rw [hg']; exact hDm, by rw [hg']⟩
  have nb : Nat.beq 3 i = false := by
   cases hb2 : Nat.beq 3 i with
   | true => exact absurd (Nat.eq_of_beq_eq_true hb2).symm h3
   | false => rfl
  simp only [ovr, nb, ug]
  simp [VR]
 ·intro d hd
  obtain ⟨D, q1, q2, q3, q4, q5⟩ := hE.d d hd
  refine ⟨D, q1, q2, (gP D).2 (.inr (.inr ⟨q3, q5⟩)), fun hS => ?_, q5⟩
  rcases (gS D).1 hS with q | ⟨e, hes, rfl⟩
  ·exact q4 (hSS D q)
  ·obtain ⟨cs, fz, k1, _⟩ := (hI.row e hes).ex
   rw [k1] at q5
   cases q5
end
theorem found_call (s : ScopesD) (h : List AB) (hl : s.decl.length ≤ 1000000) : CallR prog (Go.Vs.Good prog) prgF.gl 23 (a00 s) h (.mp h.length) (h ++ [.map (mrow kA vL (foundL s.decl 0 []))]) := by
 obtain ⟨g1, q1⟩ := r1 s h
 obtain ⟨g2, q2⟩ := r2 s h g1
 obtain ⟨g3, q3⟩ := r3 s (h ++ [.map []]) g2 h.length
 obtain ⟨g4, q4⟩ := r4 (h ++ [.map (mrow kA vL (foundL s.decl 0 []))]) ug h.length
 have n1 : noR c1 = true := by kernel_rfl
 have n2 : noR c2 = true := by kernel_rfl
 have n3 : noR c3 = true := by kernel_rfl
 have n4 : noR c4 = true := by kernel_rfl
 have hres : compRes prog f23.results.toList = some [.tmp 2] := by kernel_rfl
 refine callR_of (fd := f23) (c := c23) (rs := [.tmp 2]) (s' := ⟨fr 33 g4 [(2, .mp h.length)], h ++ [.map (mrow kA vL (foundL s.decl 0 []))]⟩) (vs := [.mp h.length]) func23 c23_eq (by kernel_rfl) hres ?_ (by rfl)
 intro rd en g0 g a w0 w hro hs he Q hQ
 unfold c23
 refine wpIn_seq (code_step e1 n1 q1 trivial hs (fun x1 a1 w1 gg1 k1 he1 hs1 => ?_))
 rw [exitR_norm k1]
 show Code.wpIn _ _ _ _ _ _ _
 refine wpIn_seq (code_step e2 n2 q2 trivial hs1 (fun x2 a2 w2 gg2 k2 he2 hs2 => ?_))
 rw [exitR_norm k2]
 show Code.wpIn _ _ _ _ _ _ _
 refine wpIn_seq (wpIn_seq (code_step e3 n3 q3 (apc (lg s.decl eName 5) apn) hs2 (fun x3 a3 w3 gg3 k3 he3 hs3 => ?_)))
 rw [exitR_norm k3]
 show Code.wpIn _ _ _ _ _ _ _
 obtain ⟨b1, b2⟩ := base_in hs3
 refine wpIn_block (wpIn_loop_rounds (s.decl.length + 1) (rounds_all hl _ s.decl.length 0 w3 gg3.S [] a3 (by omega) b2 b1 (by simp) (fun a' w' S' es' p1 p2 p3 p4 => ?_)))
 rw [List.drop_zero] at p4
 have p4 : kv es' = foundL s.decl 0 [] := p4
 simp only [Exit.inBlock, if_true]
 show Code.wpIn _ _ _ _ _ _ _
 obtain ⟨gf, f1, f2⟩ := fin_out hs3 p1 p2 p3
 rw [p4] at f2
 refine code_step e4 n4 q4 trivial f2 (fun x4 a4 w4 gg4 k4 he4 hs4 => ?_)
 exact hQ x4 a4 w4 gg4 k4 ((((he.trans he1).trans he2).trans he3).trans (f1.trans he4)) hs4
open Go Go.Vs Go.Shelf Go.RowKit
def rhoFS (x : Nat) : Nat := match x with | 190 => 35 | 125 => 39 | 258 => 38 | 128 => 49 | 129 => 50 | 302 => 40 | 303 => 41 | 304 => 42 | 305 => 43 | 306 => 44 | 307 => 45 | 308 => 46 | 309 => 47 | 310 => 48 | 333 => 51 | 329 => 52 | 330 => 53 | 334 => 54 | 335 => 55 | 336 => 56 | 344 => 57 | n => n
def rhoTS (x : Nat) : Nat := match x with | 31 => 48 | 9 => 9 | 3 => 3 | 46 => 80 | 0 => 0 | 51 => 91 | 53 => 93 | 4 => 4 | 183 => 83 | 182 => 82 | 131 => 88 | 5 => 5 | 218 => 94 | 222 => 98 | 228 => 101 | 229 => 102 | n => n
def rhoS : Ren := ⟨rhoFS, rhoTS, fun n => n⟩
theorem laysS : Lays.n190 prog rhoS := { mixed := Eq.refl true, f125 := func39, f128 := func49, f129 := func50, f190 := func35, f258 := func38, f302 := func40, f303 := func41, f304 := func42, f305 := func43, f306 := func44, f307 := func45, f308 := func46, f309 := func47, f310 := func48, f329 := func52, f330 := func53, f333 := func51, f334 := func54, f335 := func55, f336 := func56, f344 := func57, t0 := underlying0, a0 := isAgg0, z0 := sizeOf0, v0 := zeroValue0, t3 := underlying3, a3 := isAgg3, z3 := sizeOf3, v3 := zeroValue3, t4 := underlying4, a4 := isAgg4, z4 := sizeOf4, v4 := zeroValue4, t5 := underlying5, a5 := isAgg5, z5 := sizeOf5, v5 := zeroValue5, t9 := underlying9, a9 := isAgg9, z9 := sizeOf9, v9 := zeroValue9, t31 := underlying48, a31 := isAgg48, z31 := sizeOf48, v31 := zeroValue48, t46 := underlying80, a46 := isAgg80, z46 := sizeOf80, v46 := zeroValue80, t51 := underlying91, a51 := isAgg91, z51 := sizeOf91, v51 := zeroValue91, t53 := underlying93, a53 := isAgg93, z53 := sizeOf93, v53 := zeroValue93, t131 := underlying88, a131 := isAgg88, z131 := sizeOf88, v131 := zeroValue88, t182 := underlying82, a182 := isAgg82, z182 := sizeOf82, v182 := zeroValue82, t183 := underlying83, a183 := isAgg83, z183 := sizeOf83, v183 := zeroValue83, t218 := underlying94, a218 := isAgg94, z218 := sizeOf94, v218 := zeroValue94, t222 := underlying98, a222 := isAgg98, z222 := sizeOf98, v222 := zeroValue98, t228 := underlying101, a228 := isAgg101, z228 := sizeOf101, v228 := zeroValue101, t229 := underlying102, a229 := isAgg102, z229 := sizeOf102, v229 := zeroValue102 }
def rhoFG (x : Nat) : Nat := match x with | 4 => 37 | n => n
def rhoTG (x : Nat) : Nat := match x with | 22 => 23 | 25 => 34 | 3 => 3 | 4 => 4 | 9 => 9 | 20 => 20 | 0 => 0 | n => n
def rhoG : Ren := ⟨rhoFG, rhoTG, fun n => n⟩
theorem laysG : Lays8.n4 prog rhoG := { mixed := Eq.refl true, f4 := Exists.intro "slices.Grow[[]rosetta/api.Name,rosetta/api.Name]" ⟨of_decide_eq_true (id (Eq.refl true)), Eq.trans func37 (congrArg some (Eq.refl _))⟩, t0 := underlying0, a0 := isAgg0, z0 := sizeOf0, v0 := zeroValue0, t3 := underlying3, a3 := isAgg3, z3 := sizeOf3, v3 := zeroValue3, t4 := underlying4, a4 := isAgg4, z4 := sizeOf4, v4 := zeroValue4, t9 := underlying9, a9 := isAgg9, z9 := sizeOf9, v9 := zeroValue9, t20 := underlying20, a20 := isAgg20, z20 := sizeOf20, v20 := zeroValue20, t22 := underlying23, a22 := isAgg23, z22 := sizeOf23, v22 := zeroValue23 }
def rhoFC (x : Nat) : Nat := match x with | 194 => 36 | n => n
def rhoTC (x : Nat) : Nat := match x with | 31 => 48 | 9 => 9 | 3 => 3 | 4 => 4 | 0 => 0 | n => n
def rhoC : Ren := ⟨rhoFC, rhoTC, fun n => n⟩
theorem laysC : Lays.n194 prog rhoC := { mixed := Eq.refl true, f194 := func36, t0 := underlying0, a0 := isAgg0, z0 := sizeOf0, v0 := zeroValue0, t3 := underlying3, a3 := isAgg3, z3 := sizeOf3, v3 := zeroValue3, t4 := underlying4, a4 := isAgg4, z4 := sizeOf4, v4 := zeroValue4, t9 := underlying9, a9 := isAgg9, z9 := sizeOf9, v9 := zeroValue9, t31 := underlying48, a31 := isAgg48, z31 := sizeOf48, v31 := zeroValue48 }
noncomputable def sortA (args : List AV) (h : List AB) : Option (AV × List AB) := by
 classical exact if hs : ∃ (b gen len : Nat) (xs : List ByteArray), args = [.sl b gen 1 0 len] ∧ h[b]? = some (.row 9 1 gen (ra eStr xs)) ∧ len ≤ xs.length ∧ xs.length ≤ 1000000 then some (.tup [], h.set hs.choose (.row 9 1 hs.choose_spec.choose (ra eStr (srtB (hs.choose_spec.choose_spec.choose_spec.choose.take hs.choose_spec.choose_spec.choose) ++ hs.choose_spec.choose_spec.choose_spec.choose.drop hs.choose_spec.choose_spec.choose)))) else none
theorem sort_ok {args : List AV} {h h' : List AB} {v : AV} (gl : Nat → Option (List PV)) (hc : sortA args h = some (v, h')) : CallR prog (Go.Vs.Good prog) gl 35 args h v h' := by
 unfold sortA at hc
 split at hc
 ·rename_i hs
  have hq := hs.choose_spec.choose_spec.choose_spec.choose_spec
  cases hc
  generalize hs.choose_spec.choose_spec.choose_spec.choose = xs at hq ⊢
  generalize hs.choose_spec.choose_spec.choose = len at hq ⊢
  generalize hs.choose_spec.choose = gen at hq ⊢
  generalize hs.choose = b at hq ⊢
  obtain ⟨rfl, h2, h3, h4⟩ := hq
  exact sort_sound laysS ⟨f35, func35, by kernel_rfl, by kernel_rfl⟩ (fun _ => rfl) h2 h3 (by omega)
 ·cases hc
theorem ra_inj : ∀ {l m : List ByteArray}, ra eStr l = ra eStr m → l = m
 | [], [], _ => rfl
 | [], _ :: _, h => by simp [ra] at h
 | _ :: _, [], h => by simp [ra] at h
 | x :: l, y :: m, h => by
  simp only [ra, eStr, mcs, List.map_nil, List.cons.injEq, AV.p.injEq, PV.val.injEq, Value.string.injEq, and_true] at h
  rw [h.1, ra_inj (l := l) (m := m) (by simpa [ra, eStr] using h.2)]
theorem sortA_eq {h : List AB} {b gen len : Nat} {xs : List ByteArray} (hb : h[b]? = some (.row 9 1 gen (ra eStr xs))) (hl : len ≤ xs.length) (hx : xs.length ≤ 1000000) :
  sortA [.sl b gen 1 0 len] h = some (.tup [], h.set b (.row 9 1 gen (ra eStr (srtB (xs.take len) ++ xs.drop len)))) := by
 have hs : ∃ (b' gen' len' : Nat) (xs' : List ByteArray), ([.sl b gen 1 0 len] : List AV) = [.sl b' gen' 1 0 len'] ∧ h[b']? = some (.row 9 1 gen' (ra eStr xs')) ∧ len' ≤ xs'.length ∧ xs'.length ≤ 1000000 := ⟨b, gen, len, xs, rfl, hb, hl, hx⟩
 unfold sortA
 rw [dif_pos hs]
 have hq := hs.choose_spec.choose_spec.choose_spec.choose_spec
 generalize hs.choose_spec.choose_spec.choose_spec.choose = xs' at hq ⊢
 generalize hs.choose_spec.choose_spec.choose = len' at hq ⊢
 generalize hs.choose_spec.choose = gen' at hq ⊢
 generalize hs.choose = b' at hq ⊢
 obtain ⟨e1, e2, _, _⟩ := hq
 simp only [List.cons.injEq, AV.sl.injEq, true_and, and_true] at e1
 obtain ⟨rfl, rfl, rfl⟩ := e1
 rw [hb] at e2
 simp only [oiq, AB.row.injEq, true_and] at e2
 rw [ra_inj e2]
noncomputable def compA (args : List AV) (h : List AB) : Option (AV × List AB) := by
 classical exact if hs : ∃ (b gen len : Nat) (xs : List ByteArray), args = [.sl b gen 1 0 len] ∧ h[b]? = some (.row 9 1 gen (ra eStr xs)) ∧ len ≤ xs.length ∧ xs.length ≤ 1000000 then some (.sl hs.choose hs.choose_spec.choose 1 0 (cmpB (hs.choose_spec.choose_spec.choose_spec.choose.take hs.choose_spec.choose_spec.choose)).length, h.set hs.choose (.row 9 1 hs.choose_spec.choose (ra eStr (cmpB (hs.choose_spec.choose_spec.choose_spec.choose.take hs.choose_spec.choose_spec.choose) ++ List.replicate (hs.choose_spec.choose_spec.choose - (cmpB (hs.choose_spec.choose_spec.choose_spec.choose.take hs.choose_spec.choose_spec.choose)).length) (toB []) ++ hs.choose_spec.choose_spec.choose_spec.choose.drop hs.choose_spec.choose_spec.choose)))) else none
theorem compact_ok {args : List AV} {h h' : List AB} {v : AV} (gl : Nat → Option (List PV)) (hc : compA args h = some (v, h')) : CallR prog (Go.Vs.Good prog) gl 36 args h v h' := by
 unfold compA at hc
 split at hc
 ·rename_i hs
  have hq := hs.choose_spec.choose_spec.choose_spec.choose_spec
  cases hc
  generalize hs.choose_spec.choose_spec.choose_spec.choose = xs at hq ⊢
  generalize hs.choose_spec.choose_spec.choose = len at hq ⊢
  generalize hs.choose_spec.choose = gen at hq ⊢
  generalize hs.choose = b at hq ⊢
  obtain ⟨rfl, h2, h3, h4⟩ := hq
  exact compact_sound laysC ⟨f36, func36, by kernel_rfl, by kernel_rfl⟩ (fun _ => rfl) h2 h3 (by omega)
 ·cases hc
theorem compA_eq {h : List AB} {b gen len : Nat} {xs : List ByteArray} (hb : h[b]? = some (.row 9 1 gen (ra eStr xs))) (hl : len ≤ xs.length) (hx : xs.length ≤ 1000000) :
  compA [.sl b gen 1 0 len] h = some (.sl b gen 1 0 (cmpB (xs.take len)).length, h.set b (.row 9 1 gen (ra eStr (cmpB (xs.take len) ++ List.replicate (len - (cmpB (xs.take len)).length) (toB []) ++ xs.drop len)))) := by
 have hs : ∃ (b' gen' len' : Nat) (xs' : List ByteArray), ([.sl b gen 1 0 len] : List AV) = [.sl b' gen' 1 0 len'] ∧ h[b']? = some (.row 9 1 gen' (ra eStr xs')) ∧ len' ≤ xs'.length ∧ xs'.length ≤ 1000000 := ⟨b, gen, len, xs, rfl, hb, hl, hx⟩
 unfold compA
 rw [dif_pos hs]
 have hq := hs.choose_spec.choose_spec.choose_spec.choose_spec
 generalize hs.choose_spec.choose_spec.choose_spec.choose = xs' at hq ⊢
 generalize hs.choose_spec.choose_spec.choose = len' at hq ⊢
 generalize hs.choose_spec.choose = gen' at hq ⊢
 generalize hs.choose = b' at hq ⊢
 obtain ⟨e1, e2, _, _⟩ := hq
 simp only [List.cons.injEq, AV.sl.injEq, true_and, and_true] at e1
 obtain ⟨rfl, rfl, rfl⟩ := e1
 rw [hb] at e2
 simp only [oiq, AB.row.injEq, true_and] at e2
 rw [ra_inj e2]
def growA (args : List AV) (h : List AB) : Option (AV × List AB) := match args with
 | [.p (.val (.slice none 0 0)), .p (.val (.int .i64 n))] => if 0 ≤ n ∧ n ≤ 1000000 then some (.sl h.length 0 5 0 0, h ++ [.row 34 5 0 []]) else none
 | _ => none
theorem grow_ok {args : List AV} {h h' : List AB} {v : AV} (gl : Nat → Option (List PV)) (hc : growA args h = some (v, h')) : CallR prog (Go.Vs.Good prog) gl 37 args h v h' := by
 unfold growA at hc
 split at hc
 ·split at hc
  ·rename_i hn
   cases hc
   exact grow_soundK laysG ⟨f37, func37, by kernel_rfl, by kernel_rfl⟩ (s := 5) (by kernel_rfl) (by decide) hn.1 hn.2 h
  ·cases hc
 ·cases hc
def frs (n : Nat) : Bool := false
def prgN : Prg := ⟨fns, fun _ => none, fun _ _ _ => none, frs⟩
theorem prgN_ok : PrgOk prog prgN := ⟨fns_ok, fun _ _ _ _ _ h => by cases h⟩
theorem known0 : callP prgN (evalN prgN 60) 8 [] [] = some (vb true) := by kernel_rfl
theorem clone1 (h : List AB) (c : Nat) : CS prgN 32 [.p (.val (.slice none 0 c))] h = some (clE 3 1 h) :=
 CS_D (ps := []) (n := 5) (H := []) (by kernel_rfl) trivial
theorem clone2 (h : List AB) (a : Addr) (c : Nat) : CS prgN 32 [.p (.val (.slice (some a) 0 c))] h = some (clE 3 1 h) :=
 CS_D (n := 5) (H := [(7, .r (clE 3 1 h).1 (clE 3 1 h).2)]) (ps := [appA ((h ++ [.row 3 1 0 []]) ++ [.row 3 1 0 []]) 3 1 8 (.sl (h ++ [AB.row 3 1 0 []]).length 0 1 0 0) (.p (.val (.slice (some a) 0 c))) = some ((clE 3 1 h).1, (clE 3 1 h).2)]) (by kernel_rfl) (show appA _ 3 1 8 _ _ = _ from clone_ap0)
theorem clone3 (h : List AB) (r : List PV) (rs : List (List PV)) (h1 : (0 + (r :: rs).length) * 8 ≤ limit47) (h2 : 0 + (r :: rs).length ≤ limit47) : CS prgN 32 [.p (.lst 1 (r :: rs))] h = some (clR 3 1 r rs h) :=
 CS_D (n := 5) (H := [(7, .r (clR 3 1 r rs h).1 (clR 3 1 r rs h).2)]) (ps := [appA ((h ++ [.row 3 1 0 []]) ++ [.row 3 1 0 []]) 3 1 8 (.sl (h ++ [AB.row 3 1 0 []]).length 0 1 0 0) (.p (.lst 1 (r :: rs))) = some ((clR 3 1 r rs h).1, (clR 3 1 r rs h).2)]) (by kernel_rfl) (show appA _ 3 1 8 _ _ = _ from clone_ap1 h1 h2)
theorem clone_ok {args : List AV} {h h' : List AB} {v : AV} (hc : cloneA 3 1 8 args h = some (v, h')) (gl : Nat → Option (List PV)) (hg : gl = fun _ => none) : CallR prog (Go.Vs.Good prog) gl 32 args h v h' := by
 subst hg
 exact clone_sound (p := prgN) prgN_ok clone1 clone2 clone3 hc
noncomputable def foundA (args : List AV) (h : List AB) : Option (AV × List AB) := by
 classical exact if hs : ∃ s : ScopesD, args = a00 s ∧ s.decl.length ≤ 1000000 then some (.mp h.length, h ++ [.map (mrow kA vL (foundL hs.choose.decl 0 []))]) else none
noncomputable def primK (n : Nat) (args : List AV) (h : List AB) : Option (AV × List AB) := match n.beq 32 with
 | true => cloneA 3 1 8 args h
 | false => match n.beq 23 with
  | true => foundA args h
  | false => match n.beq 35 with
   | true => sortA args h
   | false => match n.beq 37 with
    | true => growA args h
    | false => match n.beq 36 with
     | true => compA args h
     | false => match n.beq 8 && args.isEmpty with
      | true => some (vb true, h)
      | false => none
noncomputable def prg : Prg := ⟨fun n => match n.beq 32 || n.beq 23 || n.beq 35 || n.beq 37 || n.beq 36 || n.beq 8 with | true => none | false => fns n, fun _ => none, primK, frs⟩
theorem prg_ok : PrgOk prog prg := by
 refine ⟨fun f F h => ?_, fun f args h v h' hc => ?_⟩
 ·have h : (match f.beq 32 || f.beq 23 || f.beq 35 || f.beq 37 || f.beq 36 || f.beq 8 with | true => none | false => fns f) = some F := h
  split at h
  ·cases h
  ·exact fns_ok f F h
 ·have hc : primK f args h = some (v, h') := hc
  unfold primK at hc
  split at hc
  ·rename_i e
   obtain rfl := Nat.eq_of_beq_eq_true e
   exact clone_ok hc _ rfl
  ·split at hc
   ·rename_i e
    obtain rfl := Nat.eq_of_beq_eq_true e
    have hc : foundA args h = some (v, h') := hc
    unfold foundA at hc
    split at hc
    ·rename_i hs
     obtain ⟨h1, h2⟩ := hs.choose_spec
     generalize hs.choose = s at hc h1 h2
     cases hc
     rw [h1]
     exact found_call s h h2
    ·cases hc
   ·split at hc
    ·rename_i e
     obtain rfl := Nat.eq_of_beq_eq_true e
     exact sort_ok _ hc
    ·split at hc
     ·rename_i e
      obtain rfl := Nat.eq_of_beq_eq_true e
      exact grow_ok _ hc
     ·split at hc
      ·rename_i e
       obtain rfl := Nat.eq_of_beq_eq_true e
       exact compact_ok _ hc
      ·split at hc
       ·rename_i e
        have e1 : f = 8 := Nat.eq_of_beq_eq_true (by cases h1 : f.beq 8 with | true => rfl | false => rw [h1] at e; cases e)
        subst e1
        have e2 : args = [] := by cases args with | nil => rfl | cons _ _ => cases e
        subst e2
        cases hc
        refine CP_sound (p := prgN) prgN_ok ?_
        have k := CP_of 60 known0
        rw [CP_in _ _ rfl] at k ⊢
        exact k
       ·cases hc
theorem known : PR1 prg 8 [] (vb true) := ⟨vb true, [], by unfold CS callS; rfl, rfl⟩
theorem eName_inj {x y : NameD} (h : eName x = eName y) : x = y := by
 cases x; cases y
 simp only [eName, List.cons.injEq, PV.val.injEq, Value.int.injEq, Value.string.injEq, true_and, and_true] at h
 obtain ⟨rfl, rfl, rfl, rfl, rfl⟩ := h
 rfl
theorem map_inj {α β : Type} {f : α → β} (hf : ∀ {x y}, f x = f y → x = y) : ∀ {l m : List α}, l.map f = m.map f → l = m
 | [], [], _ => rfl
 | [], _ :: _, h => by simp at h
 | _ :: _, [], h => by simp at h
 | x :: l, y :: m, h => by
  simp only [mcs, List.cons.injEq] at h
  rw [hf h.1, map_inj hf h.2]
theorem a00_inj {s t : ScopesD} (h : a00 s = a00 t) : s.decl = t.decl := by
 simp only [a00, eScps, mcs, List.map_nil, List.cons.injEq, AV.agg.injEq, AV.p.injEq, PV.lst.injEq, true_and, and_true] at h
 exact map_inj eName_inj h.2.1
theorem cs_found (s : ScopesD) (hl : decide (s.decl.length ≤ 1000000) = true) (h : List AB) : CS prg 23 (a00 s) h = some (.mp h.length, h ++ [.map (mrow kA vL (foundL s.decl 0 []))]) := by
 have hs : ∃ t : ScopesD, a00 s = a00 t ∧ t.decl.length ≤ 1000000 := ⟨s, rfl, of_decide_eq_true hl⟩
 have e : foundA (a00 s) h = some (.mp h.length, h ++ [.map (mrow kA vL (foundL s.decl 0 []))]) := by
  unfold foundA
  rw [dif_pos hs]
  rw [a00_inj hs.choose_spec.1]
 unfold CS callS
 exact e
theorem cs_sort {h h' : List AB} {b gen len : Nat} {xs : List ByteArray} (hb : h[b]? = some (.row 9 1 gen (ra eStr xs))) (hl : decide (len ≤ xs.length ∧ xs.length ≤ 1000000) = true) (hh : h.set b (.row 9 1 gen (ra eStr (srtB (xs.take len) ++ xs.drop len))) = h') :
  CS prg 35 [.sl b gen 1 0 len] h = some (.tup [], h') := by
 have hl := of_decide_eq_true hl
 have e := sortA_eq hb hl.1 hl.2
 rw [hh] at e
 unfold CS callS
 exact e
def cmpR (xs : List ByteArray) (len : Nat) : List ByteArray := cmpB (xs.take len) ++ List.replicate (len - (cmpB (xs.take len)).length) (toB []) ++ xs.drop len
def cmpN (xs : List ByteArray) (len : Nat) : Nat := (cmpB (xs.take len)).length
def srtR (xs : List ByteArray) (len : Nat) : List ByteArray := srtB (xs.take len) ++ xs.drop len
theorem cs_sort2 {h h' : List AB} {b gen len : Nat} {xs : List ByteArray} (hb : h[b]? = some (.row 9 1 gen (ra eStr xs))) (hl : decide (len ≤ xs.length ∧ xs.length ≤ 1000000) = true) (hh : h.set b (.row 9 1 gen (ra eStr (srtR xs len))) = h') :
  CS prg 35 [.sl b gen 1 0 len] h = some (.tup [], h') := cs_sort hb hl hh
theorem cs_comp {h h' : List AB} {b gen len : Nat} {xs : List ByteArray} (hb : h[b]? = some (.row 9 1 gen (ra eStr xs))) (hl : decide (len ≤ xs.length ∧ xs.length ≤ 1000000) = true) (hh : h.set b (.row 9 1 gen (ra eStr (cmpR xs len))) = h') :
  CS prg 36 [.sl b gen 1 0 len] h = some (.sl b gen 1 0 (cmpN xs len), h') := by
 have hl := of_decide_eq_true hl
 have e := compA_eq hb hl.1 hl.2
 rw [show (cmpB (xs.take len) ++ List.replicate (len - (cmpB (xs.take len)).length) (toB []) ++ xs.drop len) = cmpR xs len from rfl, hh] at e
 unfold CS callS
 exact e
theorem cs_grow (n : Int) (hn : decide (0 ≤ n ∧ n ≤ 1000000) = true) (h : List AB) : CS prg 37 [.p (.val (.slice none 0 0)), vi .i64 n] h = some (.sl h.length 0 5 0 0, h ++ [.row 34 5 0 []]) := by
 have e : growA [.p (.val (.slice none 0 0)), vi .i64 n] h = some (.sl h.length 0 5 0 0, h ++ [.row 34 5 0 []]) := by
  unfold growA
  exact if_pos (of_decide_eq_true hn)
 unfold CS callS
 exact e
abbrev Names := List NameD
def eNames (l : Names) : List PV := [.lst 5 (l.map eName)]
theorem cs_cl {p : Prg} {fn : Nat} (hf : p.fn fn = none) {t : TypeId} {s bytes : Nat} (hpr : ∀ args h, p.prim fn args h = cloneA t s bytes args h) {α : Type} {e : α → List PV} {xs : List α} (ho : clOk xs.length bytes = true) (h : List AB) :
  CS p fn [.p (.lst s (xs.map e))] h = some (.sl (h.length + 1) (gnz xs) s 0 xs.length, h ++ [.row t s 0 (ra e []), .row t s (gnz xs) (ra e xs)]) := by
 have ho := of_decide_eq_true ho
 unfold CS callS
 rw [hf]
 simp only [hpr]
 cases xs with
 | nil => simp [cloneA, clE, gnz, ra]
 | cons x xs =>
  simp only [cloneA, mcs]
  rw [if_pos ⟨trivial, by simpa using ho.1, by simpa using ho.2⟩]
  simp [clR, gnz, ra]
noncomputable def F8 : Option Bool := some true
def F8_v (x0 : Bool) : AV := vb x0
theorem F8_ok {r : Bool} (h : F8 = some r) : PR1 prg 8 [] (F8_v r) := by cases h; exact known
abbrev ls {α : Type} (n : Nat) (e : α → List PV) (x : List α) : AV := .p (.lst n (x.map e))
abbrev w6 (n : Int) : Int := IntKind.wrap .i64 n
abbrev n0 : AV := .p (.val (.slice .none 0 0))
abbrev yN (g : Nat) (x : List NameD) : AB := .row 34 5 g (ra eName x)
abbrev yI (g : Nat) (x : List Int) : AB := .row 3 1 g (ra eI64 x)
abbrev yS (g : Nat) (x : List ByteArray) : AB := .row 9 1 g (ra eStr x)
abbrev yN0 : AB := .row 34 5 0 (ra eName [])
abbrev yI0 : AB := .row 3 1 0 (ra eI64 [])
abbrev yS0 : AB := .row 9 1 0 (ra eStr [])
theorem ar {m t s g : Nat} {α : Type} {e : α → List PV} {xs : List α} {l : List AB} (h : l.all (AB.blw m) = true) : (AB.row t s g (ra e xs) :: l).all (AB.blw m) = true := abl_cons abl_row h
theorem ac {m : Nat} {x : AB} {l : List AB} (hs : l.all (AB.blw m) = true) (h : x.blw m = true := by exact rfl) : (x :: l).all (AB.blw m) = true := abl_cons h hs
theorem av {b c : Bool} {qs : List Prop} (h : b = c) (hs : AllP qs) : AllP ((vb b = vb c) :: qs) := apc (cv h) hs
noncomputable def joP (a b : List Prop) : List Prop := List.rec (motive := fun _ => List Prop) b (fun x _ r => x :: r) a
noncomputable def joH (a b : List (Nat × Hint)) : List (Nat × Hint) := List.rec (motive := fun _ => List (Nat × Hint)) b (fun x _ r => x :: r) a
abbrev KP (_ : List (Nat × Hint)) (P : List Prop → List Prop) : Prop := ∀ l, AllP l → AllP (P l)
abbrev kH {H : List (Nat × Hint)} {P : List Prop → List Prop} (_ : KP H P) : List (Nat × Hint) := H
theorem joP_all {l : List Prop} (hl : AllP l) : ∀ {ps : List Prop}, AllP ps → AllP (joP ps l)
 | [], _ => hl
 | _ :: _, h => AllP_cons.2 ⟨(AllP_cons.1 h).1, joP_all hl (AllP_cons.1 h).2⟩
theorem ka (H : List (Nat × Hint)) {ps : List Prop} (hp : AllP ps) : KP H (joP ps) := fun _ hl => joP_all hl hp
theorem KP.a {H : List (Nat × Hint)} {P : List Prop → List Prop} {qs : List Prop} (k : KP H P) (H2 : List (Nat × Hint)) (hq : AllP qs) : KP (joH H2 H) (fun l => P (joP qs l)) := fun _ hl => k _ (joP_all hl hq)
theorem KP.b {H : List (Nat × Hint)} {P : List Prop → List Prop} {qs : List Prop} (k : KP H P) (hq : AllP qs) : AllP (P qs) := k _ hq
section
variable {p : Prg} {m id fn : Nat} {live : List Nat} {b : IC} {s s2 : St} {ps : List Prop} {N : Nat} {h h0 : List AB} {L : List (Nat × AV)} {args : List AV} {v : AV}
theorem rn (H : List (Nat × Hint)) (hp : AllP ps) (e : roundD p 30 H m live b s = some (ps, .norm, s2) := by kernel_rfl) : evH p m live b s = evH p m live b s2 := rnd H hp e
theorem xb (H : List (Nat × Hint)) (hp : AllP ps) (e : exitL L (roundD p 30 H m live b s) = some (ps, .brk id, L, N, h) := by kernel_rfl) : ∃ g, evH p m live b s = some (.brk id, ⟨fr N g L, h⟩) := xbrk H hp e
theorem xr (H : List (Nat × Hint)) (hp : AllP ps) (e : exitL L (roundD p 30 H m live b s) = some (ps, .ret, L, N, h) := by kernel_rfl) : ∃ g, evH p m live b s = some (.ret, ⟨fr N g L, h⟩) := xret H hp e
theorem xy (H : List (Nat × Hint)) (hp : AllP ps) (e : exitV L (roundD p 30 H m live b s) = some (ps, .ret, L, N) := by kernel_rfl) : ∃ g y, evH p m live b s = some (.ret, ⟨fr N g L, y⟩) := xretY H hp e
theorem fc (H : List (Nat × Hint)) (hp : AllP ps) (e : callDS p 30 H fn args h0 = some (ps, v, h) := by kernel_rfl) : CS p fn args h0 = some (v, h) := fcs H hp e
theorem fq (H : List (Nat × Hint)) (hp : AllP ps) (hv : v.pure = true := by exact rfl) (e : (callDS p 30 H fn args []).map (fun r => (r.1, r.2.1)) = some (ps, v) := by kernel_rfl) : PR1 p fn args v := fpr H hp hv e
end
end Go.Proofs.Try
