/- slices.Sort of texts, by the kit's contract, as a call of the machine. -/
import Derived.Test.YthlndaofdgpjfaaVE
import Derived.Shelf.Slices.In.SortNone
import Derived.Shelf.Sort.Plain
import Derived.Shelf.Spec.SlicesGrow
import Derived.Shelf.Slices.CompactS
import Derived.Lib.RowBridge
import Derived.Sort.Walk0
open List renaming getElem?_eq_some_iff → gei, getElem?_eq_getElem → geg, length_map → lmp, getElem?_map → gmp
namespace Go.Vs
set_option linter.unusedSimpArgs false
set_option linter.unusedVariables false
open Go Go.Proofs Go.RowKit Go.Shelf Go.Sort
abbrev toB (z : List UInt8) : ByteArray := ⟨z.toArray⟩
def srtB (l : List ByteArray) : List ByteArray := ((l.map fun s => s.data.toList).mergeSort fun x y => decide (x ≤ y)).map toB
theorem srtB_len (l : List ByteArray) : (srtB l).length = l.length := by simp [srtB, List.length_mergeSort]
theorem VRs_str {g : G} {w : World} : ∀ (xs : List ByteArray) (vs : List Value), VRs g w (xs.map fun s => AV.p (.val (.string s))) vs → vs = xs.map Value.string
 | [], [], _ => rfl
 | [], _ :: _, h => by simp [VRs] at h
 | _ :: _, [], h => by simp [VRs] at h
 | x :: xs, v :: vs, h => by
  simp only [List.map_cons, VRs, VR, PR] at h
  rw [h.1, VRs_str xs vs h.2]
  rfl
theorem str_VRs {g : G} {w : World} : ∀ (xs : List ByteArray), VRs g w (xs.map fun s => AV.p (.val (.string s))) (xs.map Value.string)
 | [] => by simp [VRs]
 | x :: xs => by simp only [List.map_cons, VRs, VR, PR]; exact ⟨trivial, str_VRs xs⟩
theorem ra_flat {e : ByteArray → List PV} (he : ∀ s, e s = [.val (.string s)]) (xs : List ByteArray) : (ra e xs).flatten = xs.map fun s => AV.p (.val (.string s)) := by
 induction xs with
 | nil => rfl
 | cons x xs ih =>
  simp only [ra, List.map_cons, List.flatten_cons] at ih ⊢
  rw [he, ih]
  rfl
theorem row_put {g : G} {w : World} {t : TypeId} {h : List AB} {b gen len : Nat} {xs : List ByteArray} {e : ByteArray → List PV} (he : ∀ s, e s = [.val (.string s)]) (hb : h[b]? = some (.row t 1 gen (ra e xs))) (hl : len ≤ xs.length) (hhr : HR g h w) (hg : g.gen b = gen)
  {c cap : Nat} (hh : g.hd b gen = some (c, cap)) {cs : Array Value} {fz : Nat × Nat} (hc : w.heap[c]? = some (.cells cs t fz)) (hz : unfz fz cs.size) (hsz : cs.size = cap) (h3 : cap ≤ maxLen) (h4 : xs.length ≤ cap)
  (hget : ∀ j, j < xs.length → cs[j]? = (xs[j]?).map Value.string) (n : Nat) (os : Array Obj) (d : List (List UInt8)) (hdl : d.length = len) :
  Ext g w g (grow (putRow encStr (Sort.ahead w n) c 0 d.toArray) os) ∧ HR g (h.set b (.row t 1 gen (ra e (d.map toB ++ xs.drop len)))) (grow (putRow encStr (Sort.ahead w n) c 0 d.toArray) os) := by
 have hlt : c < w.heap.size := heap_lt hc
 have hheap : (grow (putRow encStr (Sort.ahead w n) c 0 d.toArray) os).heap = w.heap.modify c (onCells (putCells encStr 0 d.toArray)) ++ os := rfl
 have hold : ∀ k, k < w.heap.size → k ≠ c → (grow (putRow encStr (Sort.ahead w n) c 0 d.toArray) os).heap[k]? = w.heap[k]? := fun k hk hne => by
  rw [hheap, Array.getElem?_append_left (by simpa using hk), Array.getElem?_modify, if_neg (fun h => hne h.symm)]
 have hat : (grow (putRow encStr (Sort.ahead w n) c 0 d.toArray) os).heap[c]? = some (.cells (putCells encStr 0 d.toArray cs) t fz) := by
  rw [hheap, Array.getElem?_append_left (by simpa using hlt), Array.getElem?_modify, if_pos rfl, hc]
  rfl
 have hcid : cid g b (.row t 1 gen (ra e xs)) = some c := by simp [cid, hh]
 have hne : ∀ k, g.Pr k → k ≠ c := fun k hp h => hhr.own b _ c hb hcid (h ▸ hp)
 have he2 : Ext g w g (grow (putRow encStr (Sort.ahead w n) c 0 d.toArray) os) := ⟨fun _ h => h, fun _ h => h, fun k hp => hold k (hhr.prs k hp) (hne k hp), Nat.le_refl _, fun _ h => h, fun _ _ => rfl, fun _ _ => Nat.le_refl _, fun _ _ _ _ => rfl, by rw [hheap]; simp, rfl, rfl, rfl, fun _ h => .inl h, rfl⟩
 have hnl : (d.map toB ++ xs.drop len).length = xs.length := by rw [List.length_append, lmp, hdl, List.length_drop]; omega
 refine ⟨he2, HR.upd hhr hb he2 rfl rfl rfl (fun _ _ => rfl) (fun k hk hnc => hold k hk (fun h => hnc (by rw [hcid, h]))) ?_ (fun k hk => .inl hk)⟩
 simp only [BR]
 refine ⟨hg, ?_, ?_⟩
 ·intro r hr
  simp only [ra, List.mem_map] at hr
  obtain ⟨s, _, rfl⟩ := hr
  rw [he]
  rfl
 ·rw [hh]
  simp only [RowR, Nat.mul_one]
  refine ⟨_, fz, hat, ?_, ?_, h3, ?_, ?_⟩
  ·simpa [putCells] using hz
  ·simpa [putCells] using hsz
  ·rw [show (ra e (d.map toB ++ xs.drop len)).length = xs.length from by rw [← hnl]; simp [ra]]
   exact h4
  ·rw [show (ra e (d.map toB ++ xs.drop len)).length = xs.length from by rw [← hnl]; simp [ra], ra_flat he]
   have hcs : (putCells encStr 0 d.toArray cs).toList.take xs.length = (d.map toB ++ xs.drop len).map Value.string := by
    apply List.ext_getElem?
    intro j
    rw [List.getElem?_take]
    by_cases hj : j < xs.length
    ·rw [if_pos hj, Array.getElem?_toList]
     simp only [putCells, Array.getElem?_mapIdx]
     rw [hget j hj, gmp]
     by_cases hjl : j < len
     ·rw [List.getElem?_append_left (by rw [lmp, hdl]; exact hjl), gmp]
      have hx : xs[j]? = some (xs[j]'hj) := geg _
      have hdj : d[j]? = some (d[j]'(by omega)) := geg _
      rw [hx, hdj]
      simp only [Option.map_some, Nat.zero_add, Nat.zero_le, true_and, Nat.sub_zero, List.size_toArray]
      rw [if_pos (by omega), getElem!_pos _ j (by simp; omega)]
      simp
     ·rw [List.getElem?_append_right (by rw [lmp, hdl]; omega), lmp, hdl, List.getElem?_drop, show len + (j - len) = j from by omega]
      have hx : xs[j]? = some (xs[j]'hj) := geg _
      rw [hx]
      simp only [Option.map_some, Nat.zero_add, Nat.zero_le, true_and, Nat.sub_zero, List.size_toArray]
      rw [if_neg (by omega)]
    ·rw [if_neg hj, List.getElem?_eq_none (by rw [lmp, hnl]; omega)]
   rw [hcs]
   refine ⟨str_VRs _, ?_⟩
   intro v hv
   obtain ⟨s, _, rfl⟩ := List.mem_map.1 hv
   rfl
theorem sort_sound {P : Program} {gl : Nat → Option (List PV)} {ρ : Ren} (L : Lays.n190 P ρ) (hd : ∃ fd : Func, P.funcs[ρ.f 190]? = some fd ∧ fd.body.isNone = false ∧ (fd.name == "runtime.NumGoroutine") = false)
  {t : TypeId} {h : List AB} {b gen len : Nat} {xs : List ByteArray} {e : ByteArray → List PV} (he : ∀ s, e s = [.val (.string s)]) (hb : h[b]? = some (.row t 1 gen (ra e xs))) (hl : len ≤ xs.length) (hs : xs.length < 4611686018427387904) :
  CallR P (Good P) gl (ρ.f 190) [.sl b gen 1 0 len] h (.tup []) (h.set b (.row t 1 gen (ra e (srtB (xs.take len) ++ xs.drop len)))) := by
 refine ⟨hd, ?_⟩
 intro g w vals hcr hgr hhr hvs
 match vals, hvs with
 | [], hvs => simp [VRs] at hvs
 | _ :: _ :: _, hvs => simp [VRs] at hvs
 | [v], hvs =>
 simp only [VRs, VR, and_true] at hvs
 obtain ⟨hD, hgen, hsl⟩ := hvs
 have hbr := hhr.br b _ hb
 simp only [BR] at hbr
 obtain ⟨hg, hrows, hrow⟩ := hbr
 have hlx : (xs.take len).length = len := by rw [List.length_take]; omega
 cases hh : g.hd b gen with
 | none =>
  rw [hh] at hsl hrow
  simp only [SlR, RowR] at hsl hrow
  obtain ⟨rfl, _, rfl⟩ := hsl
  have hx : xs = [] := by
   cases xs with
   | nil => rfl
   | cons _ _ => simp [ra] at hrow
  subst hx
  refine (Any.slices_Sort_string_none L none 0 w).mono ?_
  rintro e' w' ⟨rfl, rfl⟩
  refine ⟨_, g, rfl, Ext.refl _ _, ?_, by simp [VR, VRs]⟩
  have : h.set b (.row t 1 gen (ra e (srtB (([] : List ByteArray).take 0) ++ ([] : List ByteArray).drop 0))) = h := by
   rw [show srtB (([] : List ByteArray).take 0) ++ ([] : List ByteArray).drop 0 = [] from by simp [srtB]]
   apply List.ext_getElem?
   intro i
   rw [List.getElem?_set]
   split
   ·rename_i hi
    subst hi
    rw [if_pos (gei.1 hb).1, hb]
   ·rfl
  rw [this]
  exact hhr
 | some p =>
  obtain ⟨c, cap⟩ := p
  rw [hh] at hsl hrow
  simp only [SlR, RowR, Nat.mul_one, Nat.sub_zero, Nat.zero_add, Nat.lt_irrefl, and_false, false_or, Nat.zero_mul] at hsl hrow
  obtain ⟨h1, h2, A, rfl, rfl⟩ := hsl
  obtain ⟨cs, fz, hc, hz, hsz, h3, h4, h5⟩ := hrow
  have hlen : (ra e xs).length = xs.length := by simp [ra]
  rw [hlen] at h4 h5
  rw [ra_flat he] at h5
  have hcells := VRs_str _ _ h5.1
  have hlt : c < w.heap.size := heap_lt hc
  have hget : ∀ j, j < xs.length → cs[j]? = (xs[j]?).map Value.string := fun j hj => by
   have : (cs.toList.take xs.length)[j]? = (xs.map Value.string)[j]? := by rw [hcells]
   rw [List.getElem?_take, if_pos hj, Array.getElem?_toList, gmp] at this
   exact this
  have hH : Holds encStr w c 0 ((xs.take len).map fun s => s.data.toList).toArray := by
   intro j hj
   simp only [List.size_toArray, lmp, hlx] at hj
   have hx : xs[j]? = some (xs[j]'(by omega)) := geg _
   constructor
   ·simp only [World.cell?, hc, Nat.zero_add]
    show cs[j]? = _
    rw [hget j (by omega), hx]
    rw [getElem!_pos _ j (by simp; omega)]
    simp [encStr]
   ·simp only [World.frozen?, hc, Nat.zero_add]
    have := hz j (by omega)
    obtain ⟨lo, hi⟩ := fz
    simp only at this ⊢
    rw [Bool.eq_false_iff]
    intro hh
    simp at hh
    exact this hh
  obtain ⟨ss, hss⟩ : ∃ ss, ss = (xs.take len).map fun s => s.data.toList := ⟨_, rfl⟩
  rw [← hss] at hH
  have hsl : ss.length = len := by rw [hss, lmp, hlx]
  have hk := Any.slices_Sort_string L c 0 cap ss w hH hlt (by omega)
  rw [hsl] at hk
  refine Calls.mono hk ?_
  rintro e' w' ⟨rfl, n, os, rfl⟩
  obtain ⟨d, hdd⟩ : ∃ d, d = ss.mergeSort fun x y => decide (x ≤ y) := ⟨_, rfl⟩
  have hdl : d.length = len := by rw [hdd, List.length_mergeSort, hsl]
  have hsrt : srtB (xs.take len) = d.map toB := by rw [hdd, hss]; rfl
  rw [← hdd]
  obtain ⟨p1, p2⟩ := row_put he hb hl hhr hg hh hc hz hsz h3 h4 hget n os d hdl
  rw [← hsrt] at p2
  exact ⟨_, g, rfl, p1, p2, by simp [VR, VRs]⟩
open Go Go.Proofs Go.RowKit Go.Shelf
theorem grow_sound {P : Program} {gl : Nat → Option (List PV)} {ρ : Ren} (L : Lays8.n4 P ρ) (hd : ∃ fd : Func, P.funcs[ρ.f 4]? = some fd ∧ fd.body.isNone = false ∧ (fd.name == "runtime.NumGoroutine") = false)
  {i0 : TypeInfo} {z : Value} (hi0 : P.info? (ρ.t 25) = some i0) (hz0 : i0.zero = some z) {s : Nat} (hs : i0.size = s) (hs0 : 0 < s) (hz : z.cells.size = s) (hby : i0.bytes ≤ 1000) {n : Int} (hn0 : 0 ≤ n) (hn : n ≤ 1000000) (h : List AB) :
  CallR P (Good P) gl (ρ.f 4) [.p (.val (.slice none 0 0)), vi .i64 n] h (.sl h.length 0 s 0 0) (h ++ [.row (ρ.t 25) s 0 []]) := by
 refine ⟨hd, ?_⟩
 intro g w vals hcr hgr hhr hvs
 match vals, hvs with
 | [], hvs => simp [VRs] at hvs
 | [_], hvs => simp [VRs] at hvs
 | _ :: _ :: _ :: _, hvs => simp [VRs] at hvs
 | [v, u], hvs =>
 simp only [VRs, VR, PR, and_true] at hvs
 obtain ⟨rfl, rfl⟩ := hvs
 obtain ⟨k, rfl⟩ : ∃ k : Nat, n = (k : Int) := ⟨n.toNat, by omega⟩
 by_cases hk : k = 0
 ·subst hk
  refine Calls.mono (Any8.slices_Grow_room L none 0 0 0 w (by omega) (by omega) (by omega) (by omega)) ?_
  rintro e' w' ⟨rfl, rfl⟩
  obtain ⟨p1, p2, p3⟩ := push_nil hhr (ρ.t 25) s
  exact ⟨_, _, rfl, p1, p2, p3⟩
 ·have hb : (0 + k) * i0.bytes ≤ 140737488355328 := by
   have := Nat.mul_le_mul (show 0 + k ≤ 1000000 by omega) hby
   omega
  refine Calls.mono (Any8.slices_Grow_grow L i0 z hi0 hz0 (by omega) none 0 0 k [] w (by omega) (by omega) hb (by omega) (by simp) (fun _ => rfl) (fun a h => by cases h)) ?_
  rintro e' w' ⟨rfl, rfl⟩
  have hge := grownCap_ge w (0 + k) 0 (ρ.t 25)
  have hle := grownCap_le_maxLen w (0 + k) 0 (ρ.t 25) (by simp only [maxLen]; omega)
  generalize grownCap w (0 + k) 0 (ρ.t 25) = cap at hge hle
  obtain ⟨cs, hcs⟩ : ∃ cs : Array Value, cs = (([] : List Value).toArray ++ Builtin.zeroCells z.cells (0 + k - 0) ++ Builtin.zeroCells z.cells (cap - (0 + k))) := ⟨_, rfl⟩
  rw [← hcs]
  have hsz : cs.size = cap * s := by
   rw [hcs]
   simp only [Array.size_append, Builtin.zeroCells, Array.size_map, Array.size_range, hz, List.size_toArray, List.length_nil]
   have : (0 + k - 0) * s + (cap - (0 + k)) * s = cap * s := by rw [← Nat.add_mul]; congr 1; omega
   omega
  obtain ⟨p1, p2, p3⟩ := push_row (w' := w.drew.alloc (.cells cs (ρ.t 25))) hhr (rows := []) (cs := cs) (ρ.t 25) s cap (0, 0) (fun j hj => by simp) hsz hle (Nat.zero_le _) (by simp) ⟨by simp [VRs], by simp⟩ (fun c hc => by show (w.heap.push _)[c]? = _; rw [Array.getElem?_push, if_neg (by omega)]) (alloc_new' w.drew _) (by show _ ≤ (w.heap.push _).size; simp) rfl rfl rfl
  exact ⟨_, _, rfl, p1, p2, p3 0 (Nat.zero_le _)⟩
def growK (P : Program) (t : TypeId) (s : Nat) : Bool := match P.info? t with
 | some i => match i.zero with
  | some z => i.size == s && (z.cells.size == s && decide (i.bytes ≤ 1000))
  | none => false
 | none => false
theorem grow_soundK {P : Program} {gl : Nat → Option (List PV)} {ρ : Ren} (L : Lays8.n4 P ρ) (hd : ∃ fd : Func, P.funcs[ρ.f 4]? = some fd ∧ fd.body.isNone = false ∧ (fd.name == "runtime.NumGoroutine") = false)
  {s : Nat} (hk : growK P (ρ.t 25) s = true) (hs0 : 0 < s) {n : Int} (hn0 : 0 ≤ n) (hn : n ≤ 1000000) (h : List AB) :
  CallR P (Good P) gl (ρ.f 4) [.p (.val (.slice none 0 0)), vi .i64 n] h (.sl h.length 0 s 0 0) (h ++ [.row (ρ.t 25) s 0 []]) := by
 unfold growK at hk
 split at hk
 ·rename_i i hi
  split at hk
  ·rename_i z hz
   simp only [Bool.and_eq_true, beq_iff_eq, decide_eq_true_eq] at hk
   exact grow_sound L hd hi hz hk.1 hs0 hk.2.1 hk.2.2 hn0 hn h
  ·cases hk
 ·cases hk
def cmpB (l : List ByteArray) : List ByteArray := (Lib.compact (l.map fun s => s.data.toList)).map toB
theorem cmpB_le (l : List ByteArray) : (cmpB l).length ≤ l.length := by
 have := Lib.compact_length_le (l.map fun s => s.data.toList)
 simpa [cmpB] using this
theorem compact_sound {P : Program} {gl : Nat → Option (List PV)} {ρ : Ren} (L : Lays.n194 P ρ) (hd : ∃ fd : Func, P.funcs[ρ.f 194]? = some fd ∧ fd.body.isNone = false ∧ (fd.name == "runtime.NumGoroutine") = false)
  {t : TypeId} {h : List AB} {b gen len : Nat} {xs : List ByteArray} {e : ByteArray → List PV} (he : ∀ s, e s = [.val (.string s)]) (hb : h[b]? = some (.row t 1 gen (ra e xs))) (hl : len ≤ xs.length) (hs : xs.length < 4611686018427387904) :
  CallR P (Good P) gl (ρ.f 194) [.sl b gen 1 0 len] h (.sl b gen 1 0 (cmpB (xs.take len)).length) (h.set b (.row t 1 gen (ra e (cmpB (xs.take len) ++ List.replicate (len - (cmpB (xs.take len)).length) (toB []) ++ xs.drop len)))) := by
 refine ⟨hd, ?_⟩
 intro g w vals hcr hgr hhr hvs
 match vals, hvs with
 | [], hvs => simp [VRs] at hvs
 | _ :: _ :: _, hvs => simp [VRs] at hvs
 | [v], hvs =>
 simp only [VRs, VR, and_true] at hvs
 obtain ⟨hD, hgen, hsl⟩ := hvs
 have hbr := hhr.br b _ hb
 simp only [BR] at hbr
 obtain ⟨hg, hrows, hrow⟩ := hbr
 have hlx : (xs.take len).length = len := by rw [List.length_take]; omega
 cases hh : g.hd b gen with
 | none =>
  rw [hh] at hsl hrow
  simp only [SlR, RowR] at hsl hrow
  obtain ⟨rfl, _, rfl⟩ := hsl
  have hx : xs = [] := by
   cases xs with
   | nil => rfl
   | cons _ _ => simp [ra] at hrow
  subst hx
  have h0 : cmpB (([] : List ByteArray).take 0) = [] := List.length_eq_zero_iff.1 (by have := cmpB_le (([] : List ByteArray).take 0); simpa using this)
  refine (Any.slices_Compact_string_empty L none 0 w).mono ?_
  rintro e' w' ⟨rfl, rfl⟩
  have : h.set b (.row t 1 gen (ra e (cmpB (([] : List ByteArray).take 0) ++ List.replicate (0 - (cmpB (([] : List ByteArray).take 0)).length) (toB []) ++ ([] : List ByteArray).drop 0))) = h := by
   rw [h0]
   apply List.ext_getElem?
   intro i
   rw [List.getElem?_set]
   split
   ·rename_i hi
    subst hi
    rw [if_pos (gei.1 hb).1, hb]
    rfl
   ·rfl
  refine ⟨_, g, rfl, Ext.refl _ _, by rw [this]; exact hhr, ?_⟩
  rw [h0]
  simp only [VR, hh, SlR, List.length_nil, and_true]
  exact ⟨hD, hgen⟩
 | some p =>
  obtain ⟨c, cap⟩ := p
  rw [hh] at hsl hrow
  simp only [SlR, RowR, Nat.mul_one, Nat.sub_zero, Nat.zero_add, Nat.lt_irrefl, and_false, false_or, Nat.zero_mul] at hsl hrow
  obtain ⟨h1, h2, A, rfl, rfl⟩ := hsl
  obtain ⟨cs, fz, hc, hz, hsz, h3, h4, h5⟩ := hrow
  have hlen : (ra e xs).length = xs.length := by simp [ra]
  rw [hlen] at h4 h5
  rw [ra_flat he] at h5
  have hcells := VRs_str _ _ h5.1
  have hlt : c < w.heap.size := heap_lt hc
  have hget : ∀ j, j < xs.length → cs[j]? = (xs[j]?).map Value.string := fun j hj => by
   have : (cs.toList.take xs.length)[j]? = (xs.map Value.string)[j]? := by rw [hcells]
   rw [List.getElem?_take, if_pos hj, Array.getElem?_toList, gmp] at this
   exact this
  have hH : Holds encStr w c 0 ((xs.take len).map fun s => s.data.toList).toArray := by
   intro j hj
   simp only [List.size_toArray, lmp, hlx] at hj
   have hx : xs[j]? = some (xs[j]'(by omega)) := geg _
   constructor
   ·simp only [World.cell?, hc, Nat.zero_add]
    show cs[j]? = _
    rw [hget j (by omega), hx]
    rw [getElem!_pos _ j (by simp; omega)]
    simp [encStr]
   ·simp only [World.frozen?, hc, Nat.zero_add]
    have := hz j (by omega)
    obtain ⟨lo, hi⟩ := fz
    simp only at this ⊢
    rw [Bool.eq_false_iff]
    intro hh
    simp at hh
    exact this hh
  obtain ⟨ss, hss⟩ : ∃ ss, ss = (xs.take len).map fun s => s.data.toList := ⟨_, rfl⟩
  rw [← hss] at hH
  have hsl : ss.length = len := by rw [hss, lmp, hlx]
  have hk := Any.slices_Compact_string L c 0 cap ss w hH (by omega) (by omega)
  rw [hsl] at hk
  have hcmp : cmpB (xs.take len) = (Lib.compact ss).map toB := by rw [hss]; rfl
  have hle := Lib.compact_length_le ss
  refine Calls.mono hk ?_
  rintro e' w' ⟨rfl, n, rfl⟩
  obtain ⟨p1, p2⟩ := row_put he hb hl hhr hg hh hc hz hsz h3 h4 hget n #[] (Lib.compact ss ++ List.replicate (len - (Lib.compact ss).length) []) (by rw [List.length_append, List.length_replicate]; omega)
  have hgr0 : ∀ w : World, grow w #[] = w := fun w => by unfold grow; rw [Array.append_empty]
  rw [hgr0] at p1 p2
  rw [List.map_append, List.map_replicate, ← hcmp] at p2
  rw [hcmp, lmp]
  rw [hcmp] at p2
  refine ⟨_, g, rfl, p1, p2, ?_⟩
  simp only [VR, hh, SlR, Nat.zero_add, Nat.sub_zero, Nat.zero_mul]
  exact ⟨hD, hgen, by omega, h2, _, rfl, .inr rfl⟩
open Go Go.Proofs Go.Sort
theorem toB_data (s : ByteArray) : toB s.data.toList = s := by simp [toB]
theorem mem_srtB {l : List ByteArray} {x : ByteArray} : x ∈ srtB l ↔ x ∈ l := by
 unfold srtB
 simp only [List.mem_map, List.mem_mergeSort]
 constructor
 ·rintro ⟨z, ⟨s, hs, rfl⟩, rfl⟩
  rw [toB_data]
  exact hs
 ·intro h
  exact ⟨_, ⟨x, h, rfl⟩, toB_data x⟩
theorem compact_mem {zs : List (List UInt8)} {x : List UInt8} : x ∈ Lib.compact zs ↔ x ∈ zs := by
 unfold Lib.compact Lib.compactUpTo
 simp only [List.mem_map, List.mem_filter, List.mem_range]
 constructor
 ·rintro ⟨j, ⟨hj, _⟩, rfl⟩
  rw [getElem!_pos zs.toArray j (by simpa using hj)]
  simp
 ·intro h
  obtain ⟨j, hj, rfl⟩ := List.getElem_of_mem h
  have key : ∀ j (hj : j < zs.length), ∃ i, (i < zs.length ∧ Lib.keeps zs.toArray i = true) ∧ zs.toArray[i]! = zs[j] := by
   intro j
   induction j with
   | zero =>
    intro hj
    refine ⟨0, ⟨hj, by simp [Lib.keeps]⟩, ?_⟩
    rw [getElem!_pos zs.toArray 0 (by simpa using hj)]
    simp
   | succ j ih =>
    intro hj
    by_cases hk : Lib.keeps zs.toArray (j + 1) = true
    ·refine ⟨j + 1, ⟨hj, hk⟩, ?_⟩
     rw [getElem!_pos zs.toArray (j + 1) (by simpa using hj)]
     simp
    ·obtain ⟨i, h1, h2⟩ := ih (by omega)
     refine ⟨i, h1, ?_⟩
     rw [h2]
     unfold Lib.keeps at hk
     simp only [Nat.add_one_ne_zero, false_or, Nat.add_sub_cancel, ne_eq, decide_not, Bool.not_eq_true', decide_eq_false_iff_not, Decidable.not_not] at hk
     rw [getElem!_pos zs.toArray (j + 1) (by simpa using hj), getElem!_pos zs.toArray j (by simp; omega)] at hk
     simpa using hk.symm
  obtain ⟨i, h1, h2⟩ := key j hj
  exact ⟨i, h1, h2⟩
theorem le_ne_lt {x y : List UInt8} (h : x ≤ y) (hn : y ≠ x) : x < y := by
 rcases Decidable.em (x < y) with h1 | h1
 ·exact h1
 ·exact absurd (List.le_antisymm (List.not_lt.1 h1) h) hn
theorem compact_up {zs : List (List UInt8)} (h : zs.Pairwise (fun x y => x ≤ y)) : (Lib.compact zs).Pairwise (fun x y => x < y) := by
 unfold Lib.compact Lib.compactUpTo
 rw [List.pairwise_map]
 refine List.Pairwise.imp_of_mem (R := fun i j => i < j) ?_ (List.pairwise_lt_range.filter _)
 intro i j hi hj hij
 simp only [List.mem_filter, List.mem_range] at hi hj
 have hk := hj.2
 unfold Lib.keeps at hk
 simp only [decide_eq_true_eq] at hk
 have hne : zs.toArray[j]! ≠ zs.toArray[j - 1]! := by
  rcases hk with h0 | h0
  ·omega
  ·exact h0
 rw [getElem!_pos zs.toArray j (by simpa using hj.1), getElem!_pos zs.toArray (j - 1) (by simp; omega)] at hne
 rw [getElem!_pos zs.toArray j (by simpa using hj.1), getElem!_pos zs.toArray i (by simpa using hi.1)]
 simp only [List.getElem_toArray] at hne ⊢
 have h2 : zs[j - 1]'(by omega) ≤ zs[j]'hj.1 := List.pairwise_iff_getElem.1 h (j - 1) j (by omega) hj.1 (by omega)
 have h3 := le_ne_lt h2 hne
 by_cases e : i = j - 1
 ·subst e
  exact h3
 ·have h1 : zs[i]'hi.1 ≤ zs[j - 1]'(by omega) := List.pairwise_iff_getElem.1 h i (j - 1) hi.1 (by omega) (by omega)
  exact List.lt_of_le_of_lt h1 h3
def setB (l : List ByteArray) : List ByteArray := cmpB (srtB l)
theorem mem_setB {l : List ByteArray} {x : ByteArray} : x ∈ setB l ↔ x ∈ l := by
 unfold setB cmpB
 simp only [List.mem_map, compact_mem]
 constructor
 ·rintro ⟨z, ⟨s, hs, rfl⟩, rfl⟩
  rw [toB_data]
  exact mem_srtB.1 hs
 ·intro h
  exact ⟨_, ⟨x, mem_srtB.2 h, rfl⟩, toB_data x⟩
theorem srt_up (l : List ByteArray) : ((srtB l).map fun s => s.data.toList).Pairwise (fun x y => x ≤ y) := by
 have e : ((srtB l).map fun s => s.data.toList) = (l.map fun s => s.data.toList).mergeSort fun x y => decide (x ≤ y) := by
  unfold srtB
  rw [List.map_map]
  have : ((fun s : ByteArray => s.data.toList) ∘ toB) = id := by funext z; simp [toB]
  rw [this, List.map_id]
 rw [e]
 have := List.pairwise_mergeSort (le := fun x y : List UInt8 => decide (x ≤ y)) (fun a b c h1 h2 => by simp only [decide_eq_true_eq] at *; exact List.le_trans h1 h2) (fun a b => by simp only [Bool.or_eq_true, decide_eq_true_eq]; exact List.le_total a b) (l.map fun s => s.data.toList)
 exact this.imp (fun {a b} h => by simpa using h)
theorem setB_up (l : List ByteArray) {i : Nat} {x y : ByteArray} (hx : (setB l)[i]? = some x) (hy : (setB l)[i + 1]? = some y) : Op.bytesLess x.toList y.toList = true := by
 have h := compact_up (srt_up l)
 unfold setB cmpB at hx hy
 rw [gmp] at hx hy
 obtain ⟨a, ha, rfl⟩ := Option.map_eq_some_iff.1 hx
 obtain ⟨b, hb, rfl⟩ := Option.map_eq_some_iff.1 hy
 obtain ⟨h1, e1⟩ := gei.1 ha
 obtain ⟨h2, e2⟩ := gei.1 hb
 have := List.pairwise_iff_getElem.1 h i (i + 1) h1 h2 (by omega)
 rw [e1, e2] at this
 rw [bytesLess_eq, Lib.toList_data, Lib.toList_data]
 simpa [toB] using this
theorem setB_len (l : List ByteArray) : (setB l).length ≤ l.length := by
 unfold setB
 have := cmpB_le (srtB l)
 rw [srtB_len] at this
 exact this
end Go.Vs
