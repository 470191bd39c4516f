/- A call on no memory of its own leaves the world as it was, but for draws and blocks behind. -/
import Derived.Test.YtbichljebmhmnaaDoorVE
import Derived.Sort.Grow
import Derived.Deep.Draws
import Derived.Shelf.SlSortCmp.NoneTotal
open Array renaming getElem?_toList → agtl
namespace Go.Vs
set_option linter.unusedSimpArgs false
set_option linter.unusedVariables false
open Go Go.RowKit Go.Sort
def gAll (C : IC → Code → Prop) (S : Nat → Prop) (W : World) : G := { S := S, Pr := fun c => c < W.heap.size, N := 0, Ho := fun _ => False, m := fun _ => 0, gen := fun _ => 0, hd := fun _ _ => none, cr := C }
theorem gAll_hr (C : IC → Code → Prop) {S : Nat → Prop} (W : World) (hS : ∀ c, S c → c < W.heap.size) : HR (gAll C S W) [] W := by
 refine ⟨rfl, fun b x h => by simp at h, fun b b' x x' c h => by simp at h, fun b x c h => by simp at h, fun c h => hS c h, fun c h => h, fun b => ⟨fun h => h.elim, fun h => by simp at h⟩⟩
theorem world_grow {w w' : World} (hp : ∀ c, c < w.heap.size → w'.heap[c]? = w.heap[c]?) (hs : w.heap.size ≤ w'.heap.size) (ho : w'.os = w.os) (ht : w'.tape = w.tape) (hu : w'.output = w.output) (hd : w.drawn ≤ w'.drawn) :
  ∃ (q : Nat) (os : Array Obj), w' = grow (w.drewN q) os := by
 refine ⟨w'.drawn - w.drawn, w'.heap.extract w.heap.size w'.heap.size, ?_⟩
 obtain ⟨heap', tape', drawn', os', output'⟩ := w'
 obtain ⟨heap, tape, drawn, os, output⟩ := w
 simp only at hp hs ho ht hu hd
 subst ho ht hu
 have h1 : heap' = heap ++ heap'.extract heap.size heap'.size := by
  apply Array.ext_getElem?
  intro i
  rw [Array.getElem?_append]
  split
  ·rename_i h
   exact hp i h
  ·rename_i h
   rw [Array.getElem?_extract]
   split
   ·congr 1; omega
   ·rw [Array.getElem?_eq_none (by omega)]
 have h2 : drawn' = drawn + (drawn' - drawn) := by omega
 show World.mk heap' tape' drawn' os' output' = World.mk (heap ++ heap'.extract heap.size heap'.size) tape' (drawn + (drawn' - drawn)) os' output'
 rw [← h1, ← h2]
theorem calls_grow {P : Program} {gl : Nat → Option (List PV)} {S : Nat → Prop} {f : Nat} {args : List AV} {v : AV} {vals : List Value} {W : World} {h' : List AB} (hS : ∀ c, S c → c < W.heap.size) (hg : GR (gAll (Good P) S W) W gl) (hc : CallR P (Good P) gl f args [] v h') (hv : VRs (gAll (Good P) S W) W args vals) :
  Calls P f vals.toArray W fun e w' => ∃ x g', e = .returned x ∧ VR g' w' v x ∧ ∃ (q : Nat) (os : Array Obj), w' = grow (W.drewN q) os := by
 refine (hc.2 (gAll (Good P) S W) W vals rfl hg (gAll_hr _ W hS) hv).mono ?_
 rintro e w' ⟨x, g', h1, h2, h3, h4⟩
 exact ⟨x, g', h1, h4, world_grow h2.pr h2.size h2.os h2.tape h2.output h2.drawn⟩
open Go Go.Proofs Go.RowKit Go.Shelf Go.Sort
theorem VRs_val {g : G} {w : World} : ∀ (xs : List Value) (vs : List Value), VRs g w (xs.map fun s => AV.p (.val s)) vs → vs = xs
 | [], [], _ => rfl
 | [], _ :: _, h => by simp [VRs] at h
 | _ :: _, [], h => by simp [VRs] at h
 | x :: xs, v :: vs, h => by
  simp only [List.map_cons, VRs, VR, PR] at h
  rw [h.1, VRs_val xs vs h.2]
theorem val_VRs {g : G} {w : World} : ∀ (xs : List Value), VRs g w (xs.map fun s => AV.p (.val s)) xs
 | [] => by simp [VRs]
 | x :: xs => by simp only [List.map_cons, VRs, VR, PR]; exact ⟨trivial, val_VRs xs⟩
theorem ra_flatK {α : Type} {e : α → List PV} {enc : α → List Value} (he : ∀ x, e x = (enc x).map PV.val) (xs : List α) : (ra e xs).flatten = (xs.flatMap enc).map fun s => AV.p (.val s) := by
 induction xs with
 | nil => rfl
 | cons x xs ih =>
  simp only [ra, List.map_cons, List.flatten_cons, List.flatMap_cons, List.map_append] at ih ⊢
  rw [he, ih, List.map_map]
  rfl
theorem flatMap_len {α : Type} {enc : α → List Value} {k : Nat} (hk : ∀ x, (enc x).length = k) (xs : List α) : (xs.flatMap enc).length = xs.length * k := by
 induction xs with
 | nil => simp
 | cons x xs ih => rw [List.flatMap_cons, List.length_append, hk, ih, List.length_cons, Nat.succ_mul]; omega
theorem flatMap_get {α : Type} [Inhabited α] {enc : α → List Value} {k : Nat} (hk : ∀ x, (enc x).length = k) : ∀ (xs : List α) (t : Nat), t < xs.length * k → (xs.flatMap enc)[t]? = some (enc xs[t / k]!)[t % k]!
 | [], t, h => by simp at h
 | x :: xs, t, h => by
  have k0 : 0 < k := by
   rcases Nat.eq_zero_or_pos k with q | q
   ·subst q; simp at h
   ·exact q
  rw [List.flatMap_cons]
  by_cases ht : t < k
  ·rw [List.getElem?_append_left (by rw [hk]; exact ht), Nat.div_eq_of_lt ht, Nat.mod_eq_of_lt ht]
   have : t < (enc x).length := by rw [hk]; exact ht
   rw [List.getElem?_eq_getElem this, List.getElem!_cons_zero, getElem!_pos _ t this]
  ·obtain ⟨u, rfl⟩ : ∃ u, t = u + k := ⟨t - k, by omega⟩
   rw [List.getElem?_append_right (by rw [hk]; omega), hk, Nat.add_sub_cancel, flatMap_get hk xs u (by rw [List.length_cons, Nat.succ_mul] at h; omega), Nat.add_div_right _ k0, Nat.add_mod_right, List.getElem!_cons_succ]
theorem aget {α : Type} [Inhabited α] (d : Array α) (i : Nat) : d.toList[i]! = d[i]! := by
 simp only [getElem!_def, agtl]
theorem flatK_list {α : Type} [Inhabited α] {enc : α → List Value} {k : Nat} (hk : ∀ x, (enc x).length = k) (d : Array α) : (flatK enc k d).toList = d.toList.flatMap enc := by
 apply List.ext_getElem?
 intro t
 by_cases ht : t < d.size * k
 ·rw [flatMap_get hk _ t (by simpa using ht), agtl, Array.getElem?_eq_getElem (by simpa using ht)]
  have := get_flatK enc k d t ht
  rw [getElem!_pos _ t (by simpa using ht)] at this
  rw [this, aget d]
 ·rw [List.getElem?_eq_none (by simpa using ht), List.getElem?_eq_none (by rw [flatMap_len hk]; simpa using ht)]
theorem put_take {F cs : Array Value} {n : Nat} (h : F.size ≤ n) (hc : n ≤ cs.size) : (putCells id 0 F cs).toList.take n = F.toList ++ (cs.toList.take n).drop F.size := by
 apply List.ext_getElem?
 intro j
 rw [List.getElem?_take]
 by_cases hj : j < n
 ·rw [if_pos hj, agtl]
  simp only [putCells, Array.getElem?_mapIdx]
  have hx : cs[j]? = some (cs[j]'(by omega)) := Array.getElem?_eq_getElem _
  rw [hx]
  simp only [Option.map_some, Nat.zero_add, Nat.zero_le, true_and, Nat.sub_zero]
  by_cases hl : j < F.size
  ·rw [if_pos hl, List.getElem?_append_left (by simpa using hl), agtl, Array.getElem?_eq_getElem hl, getElem!_pos _ j hl]
   rfl
  ·rw [if_neg hl, List.getElem?_append_right (by simpa using hl), Array.length_toList, List.getElem?_drop, show F.size + (j - F.size) = j from by omega, List.getElem?_take, if_pos hj, agtl, hx]
 ·rw [if_neg hj, List.getElem?_eq_none]
  rw [List.length_append, List.length_drop, List.length_take, Array.length_toList, Array.length_toList]
  omega
theorem row_putF {g : G} {w : World} {t : TypeId} {h : List AB} {b gen k : Nat} {α : Type} {enc : α → List Value} {e : α → List PV} {xs ys : List α} (he : ∀ x, e x = (enc x).map PV.val) (hk : ∀ x, (enc x).length = k) (h1 : ∀ x, ∀ v ∈ enc x, v.oneCell' = true)
  (hb : h[b]? = some (.row t k gen (ra e xs))) (hl : ys.length = xs.length) (hhr : HR g h w) (hg : g.gen b = gen)
  {c cap : Nat} (hh : g.hd b gen = some (c, cap)) {cs : Array Value} {fz : Nat × Nat} (hc : w.heap[c]? = some (.cells cs t fz)) (hz : unfz fz cs.size) (hsz : cs.size = cap * k) (h3 : cap ≤ maxLen) (h4 : xs.length ≤ cap)
  (hget : cs.toList.take (xs.length * k) = xs.flatMap enc) (n : Nat) (os : Array Obj) (F : Array Value) (hF : F.size ≤ xs.length * k) (hy : F.toList ++ (xs.flatMap enc).drop F.size = ys.flatMap enc) :
  Ext g w g (grow (putRow id (Sort.ahead w n) c 0 F) os) ∧ HR g (h.set b (.row t k gen (ra e ys))) (grow (putRow id (Sort.ahead w n) c 0 F) os) := by
 have hlt : c < w.heap.size := heap_lt hc
 have hheap : (grow (putRow id (Sort.ahead w n) c 0 F) os).heap = w.heap.modify c (onCells (putCells id 0 F)) ++ os := rfl
 have hold : ∀ q, q < w.heap.size → q ≠ c → (grow (putRow id (Sort.ahead w n) c 0 F) os).heap[q]? = w.heap[q]? := fun q hq hne => by
  rw [hheap, Array.getElem?_append_left (by simpa using hq), Array.getElem?_modify, if_neg (fun h => hne h.symm)]
 have hat : (grow (putRow id (Sort.ahead w n) c 0 F) os).heap[c]? = some (.cells (putCells id 0 F cs) t fz) := by
  rw [hheap, Array.getElem?_append_left (by simpa using hlt), Array.getElem?_modify, if_pos rfl, hc]
  rfl
 have hcid : cid g b (.row t k gen (ra e xs)) = some c := by simp [cid, hh]
 have hne : ∀ q, g.Pr q → q ≠ c := fun q hp h => hhr.own b _ c hb hcid (h ▸ hp)
 have he2 : Ext g w g (grow (putRow id (Sort.ahead w n) c 0 F) os) := ⟨fun _ h => h, fun _ h => h, fun q hp => hold q (hhr.prs q hp) (hne q hp), Nat.le_refl _, fun _ h => h, fun _ _ => rfl, fun _ _ => Nat.le_refl _, fun _ _ _ _ => rfl, by rw [hheap]; simp, rfl, rfl, rfl, fun _ h => .inl h, rfl, Nat.le_add_right w.drawn n⟩
 refine ⟨he2, HR.upd hhr hb he2 rfl rfl rfl (fun _ _ => rfl) (fun q hq hnc => hold q hq (fun h => hnc (by rw [hcid, h]))) ?_ (fun q hq => .inl hq)⟩
 have hrl : ∀ (l : List α), (ra e l).length = l.length := fun l => by simp [ra]
 simp only [BR]
 refine ⟨hg, ?_, ?_⟩
 ·intro r hr
  simp only [ra, List.mem_map] at hr
  obtain ⟨s, _, rfl⟩ := hr
  rw [he, List.length_map, List.length_map, hk]
 ·rw [hh]
  simp only [RowR]
  refine ⟨_, fz, hat, ?_, ?_, h3, ?_, ?_⟩
  ·simpa [putCells] using hz
  ·simpa [putCells] using hsz
  ·rw [hrl, hl]; exact h4
  ·rw [hrl, hl, ra_flatK he]
   have hcl : xs.length * k ≤ cs.size := by rw [hsz]; exact Nat.mul_le_mul_right _ h4
   rw [put_take hF hcl, hget, hy]
   refine ⟨val_VRs _, ?_⟩
   intro v hv
   obtain ⟨x, _, hx⟩ := List.mem_flatMap.1 hv
   exact h1 x v hx
def srtK {α : Type} [Inhabited α] (cf : α → α → Int) (xs : List α) : List α := (pdq (ltOf cf) xs.toArray 0 xs.length (Lib.bitLen xs.length) true true).toList
theorem srtK_sorts {α : Type} [Inhabited α] {cf : α → α → Int} (hO : SWO (ltOf cf)) (xs : List α) : (srtK cf xs).Perm xs ∧ ∀ i j, i < j → j < xs.length → ltOf cf (srtK cf xs)[j]! (srtK cf xs)[i]! = false := by
 have h := pdq_sorts (ltOf cf) hO xs.toArray 0 xs.length (Lib.bitLen xs.length) true true (Nat.zero_le _) (by simp) (Or.inl rfl)
 have hsz : (pdq (ltOf cf) xs.toArray 0 xs.length (Lib.bitLen xs.length) true true).size = xs.length := by have := h.1.1; simpa using this
 constructor
 ·have h2 := h.1.2.2
  have key : ∀ (a : Array α), a.size = xs.length → a.extract 0 xs.length = a := fun a ha => by rw [← ha]; exact Array.extract_size
  have e1 := key _ hsz
  have e2 : xs.toArray.extract 0 xs.length = xs.toArray := by
   exact key _ (by simp)
  rw [e1, e2] at h2
  exact h2
 ·intro i j hi hj
  have := h.2 i j (Nat.zero_le _) hi hj
  rw [srtK, aget, aget]
  exact this
theorem srtK_len {α : Type} [Inhabited α] {cf : α → α → Int} (hO : SWO (ltOf cf)) (xs : List α) : (srtK cf xs).length = xs.length := (srtK_sorts hO xs).1.length_eq
theorem sortfunc_sound {P : Program} {gl : Nat → Option (List PV)} {ρ : Ren} (L : SlLaysF0.n6 P ρ) (hd : ∃ fd : Func, P.funcs[ρ.f 6]? = some fd ∧ fd.body.isNone = false ∧ (fd.name == "runtime.NumGoroutine") = false) {k : Nat}
  (aE : ∀ w, (isAgg (ρ.t 24)).run P w = .ok true w) (zE : ∀ w, (Go.sizeOf (ρ.t 24)).run P w = .ok k w) {α : Type} [Inhabited α] {enc : α → List Value} {e : α → List PV} (he : ∀ x, e x = (enc x).map PV.val) (hk : ∀ x, (enc x).length = k) (h1 : ∀ x, ∀ v ∈ enc x, v.oneCell' = true)
  {cf : α → α → Int} (hO : SWO (ltOf cf)) {g0 : Nat} (hcmp : ∀ x y, ∃ h', CallR P (Good P) gl g0 [.agg ((enc x).map fun s => .p (.val s)), .agg ((enc y).map fun s => .p (.val s))] [] (vi .i64 (cf x y)) h')
  {t : TypeId} {h : List AB} {b gen len : Nat} {xs : List α} (hb : h[b]? = some (.row t k gen (ra e xs))) (hl : len ≤ xs.length) (hs : xs.length < 4611686018427387904) :
  CallR P (Good P) gl (ρ.f 6) [.sl b gen k 0 len, .fn g0 []] h (.tup []) (h.set b (.row t k gen (ra e (srtK cf (xs.take len) ++ xs.drop len)))) := by
 refine ⟨hd, ?_⟩
 intro g w vals hcr hgr hhr hvs
 match vals, hvs with
 | [], hvs => simp [VRs] at hvs
 | [_], hvs => simp [VRs] at hvs
 | _ :: _ :: _ :: _, hvs => simp [VRs] at hvs
 | [v, fv], hvs =>
 simp only [VRs, VR, and_true] at hvs
 obtain ⟨⟨hD, hgen, hsl⟩, ⟨cb, rfl, hcb⟩⟩ := hvs
 have hcb0 : cb = #[] := by
  cases hcl : cb.toList with
  | nil => simpa using hcl
  | cons a l => rw [hcl] at hcb; simp [VRs] at hcb
 subst hcb0
 have hbr := hhr.br b _ hb
 simp only [BR] at hbr
 obtain ⟨hg, hrows, hrow⟩ := hbr
 have hlx : (xs.take len).length = len := by rw [List.length_take]; omega
 have hsl1 : (srtK cf (xs.take len) ++ xs.drop len).length = xs.length := by rw [List.length_append, srtK_len hO, hlx, List.length_drop]; omega
 cases hh : g.hd b gen with
 | none =>
  rw [hh] at hsl hrow
  simp only [SlR, RowR] at hsl hrow
  obtain ⟨rfl, _, rfl⟩ := hsl
  have hx : xs = [] := by
   cases xs with
   | nil => rfl
   | cons _ _ => simp [ra] at hrow
  subst hx
  refine (AnyF.slices_SortFunc_none L none 0 _ w).mono ?_
  rintro e' w' ⟨rfl, rfl⟩
  refine ⟨_, g, rfl, Ext.refl _ _, ?_, by simp [VR, VRs]⟩
  have hse : srtK cf (([] : List α).take 0) ++ ([] : List α).drop 0 = [] := List.length_eq_zero_iff.1 (by rw [hsl1]; rfl)
  have : h.set b (.row t k gen (ra e (srtK cf (([] : List α).take 0) ++ ([] : List α).drop 0))) = h := by
   rw [hse]
   apply List.ext_getElem?
   intro i
   rw [List.getElem?_set]
   split
   ·rename_i hi
    subst hi
    rw [if_pos (List.getElem?_eq_some_iff.1 hb).1, hb]
   ·rfl
  rw [this]
  exact hhr
 | some p =>
  obtain ⟨c, cap⟩ := p
  rw [hh] at hsl hrow
  simp only [SlR, RowR] at hsl hrow
  obtain ⟨h5, h2, A, rfl, hA⟩ := hsl
  have hA : A = some ⟨c, 0, none⟩ := by
   rcases hA with ⟨_, h⟩ | h
   ·omega
   ·rw [h, Nat.zero_mul]
  subst hA
  obtain ⟨cs, fz, hc, hz, hsz, h3, h4, h5⟩ := hrow
  have hlen : (ra e xs).length = xs.length := by simp [ra]
  rw [hlen] at h4 h5
  rw [ra_flatK he] at h5
  have hcells := VRs_val _ _ h5.1
  have hlt : c < w.heap.size := heap_lt hc
  have hcl : xs.length * k ≤ cs.size := by rw [hsz]; exact Nat.mul_le_mul_right _ h4
  obtain ⟨d, hd0⟩ : ∃ d : Array α, d = (xs.take len).toArray := ⟨_, rfl⟩
  have hdl : d.size = len := by rw [hd0]; simpa using hlx
  have hfl : ∀ d : Array α, (flatK enc k d).toList = d.toList.flatMap enc := flatK_list hk
  have htk : (flatK enc k d).toList = (xs.flatMap enc).take (len * k) := by
   rw [hfl, hd0]
   have : xs.flatMap enc = (xs.take len).flatMap enc ++ (xs.drop len).flatMap enc := by rw [← List.flatMap_append, List.take_append_drop]
   rw [this, List.take_left' (by rw [flatMap_len hk, hlx])]
  have hH : HoldsK enc k w c 0 d := by
   intro j hj
   rw [size_flatK, hdl] at hj
   have hjx : j < xs.length * k := Nat.lt_of_lt_of_le hj (Nat.mul_le_mul_right _ hl)
   constructor
   ·simp only [World.cell?, hc, Nat.zero_add]
    show cs[j]? = _
    have e1 : (flatK enc k d)[j]? = cs[j]? := by
     rw [← agtl, htk, ← hcells, List.take_take, List.getElem?_take, if_pos (by rw [Nat.min_eq_left (Nat.mul_le_mul_right _ hl)]; exact hj), agtl]
    rw [← e1, Array.getElem?_eq_getElem (by rw [size_flatK, hdl]; exact hj), getElem!_pos _ j (by rw [size_flatK, hdl]; exact hj)]
    rfl
   ·simp only [World.frozen?, hc, Nat.zero_add]
    have := hz j (by omega)
    obtain ⟨lo, hi⟩ := fz
    simp only at this ⊢
    rw [Bool.eq_false_iff]
    intro hh
    simp at hh
    exact this hh
  have hcid : cid g b (.row t k gen (ra e xs)) = some c := by simp [cid, hh]
  have hne : ∀ q, g.Pr q → q ≠ c := fun q hp h => hhr.own b _ c hb hcid (h ▸ hp)
  have hcm : CmpLays P g0 #[] enc k cf c 0 d.size w := by
   intro m os dk hdk x y
   obtain ⟨h', hxy⟩ := hcmp x y
   have hws : w.heap.size ≤ (sortWorldK enc k w c 0 m dk os).heap.size := by
    show _ ≤ (w.heap.modify c (onCells (putCells id 0 (flatK enc k dk))) ++ os).size
    simp
   have hsame : ∀ q, g.S q → (sortWorldK enc k w c 0 m dk os).heap[q]? = w.heap[q]? := by
    intro q hq
    have hqp := hhr.spr q hq
    show (w.heap.modify c (onCells (putCells id 0 (flatK enc k dk))) ++ os)[q]? = _
    rw [Array.getElem?_append_left (by simpa using hhr.prs q hqp), Array.getElem?_modify, if_neg (fun h => hne q hqp h.symm)]
   have hgq : GR (gAll (Good P) g.S (sortWorldK enc k w c 0 m dk os)) (sortWorldK enc k w c 0 m dk os) gl := fun n xs hx => ⟨(hgr n xs hx).1, PRs_mono (fun _ h => h) hsame n (hgr n xs hx).1 0 xs (hgr n xs hx).2⟩
   have := calls_grow (vals := [.agg (enc x).toArray, .agg (enc y).toArray]) (fun q hq => Nat.lt_of_lt_of_le (hhr.prs q (hhr.spr q hq)) hws) hgq hxy (by
    simp only [VRs, VR, and_true]
    exact ⟨⟨_, rfl, val_VRs _⟩, ⟨_, rfl, val_VRs _⟩⟩)
   refine Calls.mono this ?_
   rintro e' w' ⟨x', g', rfl, hx, q, os', hw⟩
   simp only [VR, PR] at hx
   exact ⟨by rw [hx], q, os', hw⟩
  obtain ⟨fd0, hf1, hf2, hf3⟩ := (hcmp default default).choose_spec.1
  have eg : ∀ args w, (callFunc g0 args).run P w = .ok (.enter g0 args) w := fun args w => by
   simp only [callFunc, Sem.run_bind, run_program, Result.andThen_ok, hf1, hf3, Bool.false_eq_true, if_false, hf2, Sem.run_pure]
  have hk2 := AnyQ.slices_SortFunc_eq L k aE zE enc hk h1 cf hO g0 #[] c 0 cap d w eg hcm hH hlt (by omega)
  rw [hdl] at hk2
  refine Calls.mono hk2 ?_
  rintro e' w' ⟨rfl, n, os, rfl⟩
  have hsr : pdq (ltOf cf) d 0 len (Lib.bitLen len) true true = (srtK cf (xs.take len)).toArray := by rw [srtK, hlx, hd0]
  have hy : (flatK enc k (pdq (ltOf cf) d 0 len (Lib.bitLen len) true true)).toList ++ (xs.flatMap enc).drop (flatK enc k (pdq (ltOf cf) d 0 len (Lib.bitLen len) true true)).size = (srtK cf (xs.take len) ++ xs.drop len).flatMap enc := by
   have hsz2 : (srtK cf (xs.take len)).toArray.size = len := by rw [List.size_toArray, srtK_len hO, hlx]
   rw [hsr, hfl, size_flatK, hsz2, List.flatMap_append]
   congr 1
   have : xs.flatMap enc = (xs.take len).flatMap enc ++ (xs.drop len).flatMap enc := by rw [← List.flatMap_append, List.take_append_drop]
   rw [this, List.drop_left' (by rw [flatMap_len hk, hlx])]
  obtain ⟨p1, p2⟩ := row_putF he hk h1 hb hsl1 hhr hg hh hc hz hsz h3 h4 hcells n os (flatK enc k (pdq (ltOf cf) d 0 len (Lib.bitLen len) true true)) (by
   rw [hsr, size_flatK, List.size_toArray, srtK_len hO, hlx]
   exact Nat.mul_le_mul_right _ hl) hy
  exact ⟨_, g, rfl, p1, p2, by simp [VR, VRs]⟩
end Go.Vs
