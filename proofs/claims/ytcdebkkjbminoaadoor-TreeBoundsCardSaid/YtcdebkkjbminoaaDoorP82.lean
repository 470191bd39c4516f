/- tree.Read: a tree is put behind the kids of the one on top: the region of that append, on a memory in which that row is the round's own. -/
import Derived.Test.YtcdebkkjbminoaaDoorH81
import Derived.Test.YtcdebkkjbminoaaDoorVE
import Derived.Test.YtcdebkkjbminoaaDoorVF
open Option renaming some.injEq → oiq, bind_some → bsm, bind_eq_some_iff → bei
open List renaming getElem?_eq_some_iff → gei, map_cons → mcs, getElem?_append_right → gar, length_cons → lcn
namespace Go.Proofs.Tryd
set_option linter.unusedSimpArgs false
set_option linter.unusedVariables false
set_option maxHeartbeats 4000000
open Go Go.Vs
theorem ap_raw {h : List AB} {b t s g len bytes : Nat} {rows news : List (List AV)} {y : AV} (hb : h[b]? = some (.row t s g rows)) (hy : rowsOf h s y = some news) (hk : rows.length = len) (hn : 0 < news.length) (ho : apOk len news.length len bytes = true) :
  appA h t s bytes (.sl b g s 0 len) y = some (.sl b (g + 1) s 0 (len + news.length), h.set b (.row t s (g + 1) (rows ++ news))) := by
 have ho := of_decide_eq_true ho
 subst hk
 simp only [appA, hy, bsm, appendA, hb]
 rw [if_pos ⟨trivial, trivial⟩, if_pos ⟨trivial, trivial, trivial, Nat.le_refl _, ho.2.1, ho.2.2⟩, if_neg (by omega), List.take_length]
theorem st_raw {h : List AB} {b t sz gen k off n : Nat} {rows : List (List AV)} {r cs : List AV} {V : AV} (hb : h[b]? = some (.row t sz gen rows)) (hx : rows[k]? = some r) (hc : cellsOf V = some cs) (hn : cs.length = n) (hl : off + cs.length ≤ r.length) :
  stA h n (.rp b gen sz k off) V = some (h.set b (.row t sz gen (rows.set k (splice r off cs)))) := by
 simp only [stA, hc, bsm]
 rw [if_pos hn]
 simp only [storeA, hb]
 rw [if_pos ⟨trivial, trivial⟩]
 simp only [hx]
 rw [if_pos hl]
theorem ld_raw {h : List AB} {b t sz gen k off n : Nat} {rows : List (List AV)} {r : List AV} {V : AV} {agg : Bool} (hb : h[b]? = some (.row t sz gen rows)) (hx : rows[k]? = some r) (hs : (sub r off n).bind (oneOr agg) = some V) : ldA h agg n (.rp b gen sz k off) = some V := by
 simp only [ldA, loadA, hb]
 rw [if_pos ⟨trivial, trivial⟩]
 simp only [hx, bsm]
 exact hs
def r23B_i : IC :=
 (.opsR 1 [(.mk ⟨(.some 120), (.mv (.t 17)), .none⟩ 0 0 [] 0), (.mk ⟨(.some 121), (.nilChk (.t 120)), .none⟩ 0 0 [] 0), (.mk ⟨(.some 122), (.fieldA 2 (.t 121)), .none⟩ 0 0 [] 0), (.mk ⟨(.some 123), (.load .false 1 (.t 122)), .none⟩ 0 0 [] 0), (.mk ⟨(.some 124), (.load .true 3 (.t 5)), .none⟩ 0 0 [3] 0), (.mk ⟨(.some 125), (.len (.t 123)), .none⟩ 0 0 [] 0), (.mk ⟨(.some 126), (.buildS 25 3 [(.val (.int .i64 0)), (.val (.int .u8 0)), (.val (.slice .none 0 0))] 1 [(0, (.c (.agg [(.p (.val (.int .i64 0))), (.p (.val (.int .u8 0))), (.p (.val (.slice .none 0 0)))])))]), .none⟩ 0 1 [3, 4] 0), (.mk ⟨(.some 127), (.append 25 3 40 [(.val (.int .i64 0)), (.val (.int .u8 0)), (.val (.slice .none 0 0))] (.t 123) (.t 126)), .none⟩ 1 0 [] 0), (.mk ⟨(.some 128), (.indexA .none 3 (.t 127) (.t 125)), .none⟩ 1 0 [] 0), (.mk ⟨.none, (.store 3 (.t 128) (.t 124)), .none⟩ 1 0 [] 0), (.mk ⟨(.some 129), (.nilChk (.t 120)), .none⟩ 1 0 [] 0), (.mk ⟨(.some 130), (.fieldA 2 (.t 129)), .none⟩ 1 0 [] 0), (.mk ⟨.none, (.store 1 (.t 130) (.t 127)), .none⟩ 1 0 [9] 0)])
theorem r23B_c : (compC prog (shOf sh []) r23B []).1 = r23B_i := by kernel_rfl
theorem r23B_n : noR r23B = true := by kernel_rfl
abbrev zt : AB := .cells 25 [i6 0, vi .u8 0, n0]
abbrev zr : List AV := [i6 0, vi .u8 0, n0]
abbrev bT (t : TreeD) : AB := .cells 25 ((cT t).map .p)
abbrev topR (e : En) (g m : Nat) : List AV := [i6 e.prod, vi .u8 e.byte, .sl 3 g 3 0 m]
abbrev r23L (gen n j : Nat) (b : Bool) (s : ByteArray) : List (Nat × AV) := [(2, .ptr 0 0), (3, i6 0), (4, .sl 1 gen 3 0 n), (5, .ptr 2 0), (6, vb b), (7, vs s)]
theorem r23_run {E : Er} {u : Nat → AV} {gen n j m : Nat} {xs : List En} {t : TreeD} {b : Bool} {s : ByteArray} {x : En} {ks : List TreeD} (hx : xs[j]? = some x) (hm : ks.length = m) (hap : apOk m 1 m 40 = true) :
  ∃ g, run (envOf (prgR E) (ev (prgR E))) (ev (prgR E)) r23B_i ⟨fr 147 u (r23L gen n j b s ++ [(17, .rp 1 gen 3 j 0)]), [zt, .row 25 3 gen ((ra eEn xs).set j (topR x 0 m)), bT t, .row 25 3 0 (ra cT ks)]⟩ =
   some (.norm, ⟨fr 147 g (r23L gen n j b s), [zt, .row 25 3 gen ((ra eEn xs).set j (topR x 1 (m + 1))), bT t, .row 25 3 1 (ra cT (ks ++ [t])), .row 25 3 0 [zr]]⟩) := by
 have hj : j < (ra eEn xs).length := by simpa [ra] using (gei.1 hx).1
 have hkl : (ra cT ks).length = m := by simpa [ra] using hm
 have q1 : ldA [zt, .row 25 3 gen ((ra eEn xs).set j (topR x 0 m)), bT t, .row 25 3 0 (ra cT ks), .hole] false 1 (.rp 1 gen 3 j 2) = some (.sl 3 0 3 0 m) :=
  ld_raw rfl (List.getElem?_set_self hj) rfl
 have q2 : appA [zt, .row 25 3 gen ((ra eEn xs).set j (topR x 0 m)), bT t, .row 25 3 0 (ra cT ks), .row 25 3 0 [zr]] 25 3 40 (.sl 3 0 3 0 m) (.sl 4 0 3 0 1) =
   some (.sl 3 1 3 0 (m + 1), [zt, .row 25 3 gen ((ra eEn xs).set j (topR x 0 m)), bT t, .row 25 3 1 (ra cT ks ++ [zr]), .row 25 3 0 [zr]]) :=
  ap_raw (news := [zr]) rfl rfl hkl (Nat.zero_lt_one) hap
 have q3 : idxA 3 (.sl 3 1 3 0 (m + 1)) (vi .i64 (m : Int)) = some (.rp 3 1 3 m 0) := by
  simp only [idxA, idx, bsm, Nat.zero_add, Int.toNat_natCast]
  rw [if_pos ⟨trivial, Int.natCast_nonneg m, by omega⟩]
 have hrow : (ra cT ks ++ [zr]).set m ((cT t).map .p) = ra cT (ks ++ [t]) := by
  rw [List.set_append_right _ _ (by omega), hkl, Nat.sub_self]
  simp [ra]
 have q4 : stA [zt, .row 25 3 gen ((ra eEn xs).set j (topR x 0 m)), bT t, .row 25 3 1 (ra cT ks ++ [zr]), .row 25 3 0 [zr]] 3 (.rp 3 1 3 m 0) (.agg ((cT t).map .p)) =
   some [zt, .row 25 3 gen ((ra eEn xs).set j (topR x 0 m)), bT t, .row 25 3 1 (ra cT (ks ++ [t])), .row 25 3 0 [zr]] := by
  rw [← hrow]
  have hz : (ra cT ks ++ [zr])[m]? = some zr := by rw [gar (by omega), hkl, Nat.sub_self]; rfl
  exact st_raw (r := zr) (cs := (cT t).map .p) rfl hz rfl rfl (by show 0 + 3 ≤ 3; omega)
 have hset : ((ra eEn xs).set j (topR x 0 m)).set j (topR x 1 (m + 1)) = (ra eEn xs).set j (topR x 1 (m + 1)) := List.set_set ..
 have q5 : stA [zt, .row 25 3 gen ((ra eEn xs).set j (topR x 0 m)), bT t, .row 25 3 1 (ra cT (ks ++ [t])), .row 25 3 0 [zr]] 1 (.rp 1 gen 3 j 2) (.sl 3 1 3 0 (m + 1)) =
   some [zt, .row 25 3 gen ((ra eEn xs).set j (topR x 1 (m + 1))), bT t, .row 25 3 1 (ra cT (ks ++ [t])), .row 25 3 0 [zr]] := by
  rw [← hset]
  exact st_raw (r := topR x 0 m) (cs := [.sl 3 1 3 0 (m + 1)]) rfl (List.getElem?_set_self hj) rfl rfl (by show 2 + 1 ≤ 3; omega)
 obtain ⟨g, hr⟩ := exitL_of (L := r23L gen n j b s) (r := runD (prgR E) 30 [(123, .v (.sl 3 0 3 0 m)),
   (127, .r (.sl 3 1 3 0 (m + 1)) [zt, .row 25 3 gen ((ra eEn xs).set j (topR x 0 m)), bT t, .row 25 3 1 (ra cT ks ++ [zr]), .row 25 3 0 [zr]]),
   (128, .v (.rp 3 1 3 m 0)),
   (1128, .r ud [zt, .row 25 3 gen ((ra eEn xs).set j (topR x 0 m)), bT t, .row 25 3 1 (ra cT (ks ++ [t])), .row 25 3 0 [zr]]),
   (1130, .r ud [zt, .row 25 3 gen ((ra eEn xs).set j (topR x 1 (m + 1))), bT t, .row 25 3 1 (ra cT (ks ++ [t])), .row 25 3 0 [zr]])]
  r23B_i ⟨fr 147 u (r23L gen n j b s ++ [(17, .rp 1 gen 3 j 0)]), [zt, .row 25 3 gen ((ra eEn xs).set j (topR x 0 m)), bT t, .row 25 3 0 (ra cT ks)]⟩) (o := .norm) (n := 147)
  (h := [zt, .row 25 3 gen ((ra eEn xs).set j (topR x 1 (m + 1))), bT t, .row 25 3 1 (ra cT (ks ++ [t])), .row 25 3 0 [zr]]) (by kernel_rfl)
 exact ⟨g, runD_ok hr (apc q1 (apc q2 (apc q3 (apc (And.intro q4 (rfl : (ud : AV) = ud)) (apc (And.intro q5 (rfl : (ud : AV) = ud)) apn)))))⟩
set_option maxHeartbeats 4000000
open Go Go.Vs Go.RowKit
structure OwnC (P0 : Nat → Prop) (g : G) (w : World) (e : En) (ks : List TreeD) (c : Nat) : Prop where
 ad : e.ad = some ⟨c, 0, none⟩
 ln : e.ln = ks.length
 pos : 0 < ks.length
 ex : ∃ cs fz, w.heap[c]? = some (.cells cs 25 fz) ∧ unfz fz cs.size ∧ cs.size = e.cp * 3
 rows : PRr g.S w c 0 3 (eTrees ks)
 cap : e.cp ≤ maxLen
 le : ks.length ≤ e.cp
 pr : g.Pr c
 ns : ¬ g.S c
 new : ¬ P0 c
def Own (P0 : Nat → Prop) (g : G) (w : World) (e : En) (ks : List TreeD) : Prop := (e.ad = none ∧ e.ln = 0 ∧ e.cp = 0 ∧ ks = []) ∨ ∃ c, OwnC P0 g w e ks c
theorem etr_len : ∀ ks : List TreeD, (eTrees ks).length = ks.length := fun ks => by rw [tr_map]; simp
theorem etr_three : ∀ ks : List TreeD, ∀ r ∈ eTrees ks, r.length = 3 := fun ks r hr => by
 rw [tr_map] at hr
 obtain ⟨t, _, rfl⟩ := List.mem_map.1 hr
 rfl
theorem ra_etr (ks : List TreeD) : ra cT ks = (eTrees ks).map (·.map AV.p) := by rw [tr_map]; simp [ra]
theorem OwnC.ext {P0 : Nat → Prop} {g g' : G} {w w' : World} {e : En} {ks : List TreeD} {c : Nat} (h : OwnC P0 g w e ks c) (he : Ext g w g' w') (hs : ∀ c, g.S c → g.Pr c) : OwnC P0 g' w' e ks c := by
 obtain ⟨cs, fz, k1, k2, k3⟩ := h.ex
 have k1' : w'.heap[c]? = some (.cells cs 25 fz) := (he.pr c h.pr).trans k1
 refine ⟨h.ad, h.ln, h.pos, ⟨cs, fz, k1', k2, k3⟩, ?_, h.cap, h.le, he.Pr c h.pr, fun q => ?_, h.new⟩
 ·exact PRr_of_VRc k1' (etr_three ks) (VRc_mono he hs (VRc_of_PRr (g := g) k1 h.rows))
 ·rcases he.Sn c q with q | q
  ·exact h.ns q
  ·exact q h.pr
theorem Own.ext {P0 : Nat → Prop} {g g' : G} {w w' : World} {e : En} {ks : List TreeD} (h : Own P0 g w e ks) (he : Ext g w g' w') (hs : ∀ c, g.S c → g.Pr c) : Own P0 g' w' e ks := by
 rcases h with h | ⟨c, h⟩
 ·exact .inl h
 ·exact .inr ⟨c, h.ext he hs⟩
theorem OwnC.pr' {P0 : Nat → Prop} {g g' : G} {w : World} {e : En} {ks : List TreeD} {c : Nat} (h : OwnC P0 g w e ks c) (hS : g'.S = g.S) (hp : g'.Pr c) : OwnC P0 g' w e ks c :=
 ⟨h.ad, h.ln, h.pos, h.ex, by rw [hS]; exact h.rows, h.cap, h.le, hp, by rw [hS]; exact h.ns, h.new⟩
def blkE (e : En) : Option Nat := e.ad.map (·.block)
structure Owns (P0 : Nat → Prop) (g : G) (w : World) (l : List (En × List TreeD)) : Prop where
 all : ∀ p ∈ l, Own P0 g w p.1 p.2
 nd : (l.filterMap fun p => blkE p.1).Nodup
theorem Owns.ext {P0 : Nat → Prop} {g g' : G} {w w' : World} {l : List (En × List TreeD)} (h : Owns P0 g w l) (he : Ext g w g' w') (hs : ∀ c, g.S c → g.Pr c) : Owns P0 g' w' l :=
 ⟨fun p hp => (h.all p hp).ext he hs, h.nd⟩
abbrev stH (gen : Nat) (xs : List En) (tc : List AV) : List AB := [zt, .row 25 3 gen (ra eEn xs), .cells 25 tc]
abbrev rdL (gen n : Nat) (b : Bool) (s : ByteArray) : List (Nat × AV) := [(2, .ptr 0 0), (3, i6 0), (4, .sl 1 gen 3 0 n), (5, .ptr 2 0), (6, vb b), (7, vs s)]
theorem code_step {E : Er} {pl : List Nat} {c : Code} {i : IC} (hi : (compC prog (shOf sh pl) c []).1 = i) (hno : noR c = true) {s s' : St} {o : Out} (h : run (envOf (prgR E) (ev (prgR E))) (ev (prgR E)) i s = some (o, s')) {rd : Option Nat} {en : Nat} {g : G} {a : Act} {w : World} (hs : SR prog (Go.Vs.Good prog) (gl14 E) en s g a w) {Q : Exit → Act → World → Prop}
  (hQ : ∀ e a' w' g', ExitR o e → Ext g w g' w' → SR prog (Go.Vs.Good prog) (gl14 E) en s' g' a' w' → Q e a' w') : c.wpIn (FW rd) 0 prog Q a w := by
 obtain ⟨n, hn⟩ := run_cont i s (o, s') h
 have hn : evalN (prgR E) (n + 1) i s = some (o, s') := hn
 rw [← hi] at hn
 exact (eval_sound (prgR_ok E) (n + 1)).1 (shOf sh pl) c [] s o s' hn rd en g g a w w (.inl hno) hs (Ext.refl g w) Q hQ
theorem fr_und {g : G} {w : World} {n : Nat} {u : Nat → AV} {L : List (Nat × AV)} {vs : List Value} (h : VRs g w (fr n u L) vs) : VRs g w (fr n ug L) vs := by
 have key : ∀ (f f' : Nat → AV) (n k : Nat) (vs : List Value), (∀ i, f' i = f i ∨ f' i = .und) → VRs g w (W f k n) vs → VRs g w (W f' k n) vs := by
  intro f f' n
  induction n with
  | zero => intro k vs _ h; exact h
  | succ n ih =>
   intro k vs hf h
   cases vs with
   | nil => simp [W, VRs] at h
   | cons v vs =>
    simp only [W, VRs] at h ⊢
    refine ⟨?_, ih (k + 1) vs hf h.2⟩
    rcases hf k with e | e
    ·rw [e]; exact h.1
    ·rw [e]; simp [VR]
 refine key _ _ n 0 vs (fun i => ?_) h
 clear h
 induction L with
 | nil => right; rfl
 | cons p L ih =>
  obtain ⟨j, x⟩ := p
  simp only [ovr]
  cases hb : j.beq i with
  | true => left; rfl
  | false => exact ih
set_option maxHeartbeats 4000000
theorem ext_mod {g0 g : G} {w0 w : World} {S' P' : Nat → Prop} (he : Ext g0 w0 g w) (hS : ∀ c, g.S c → S' c) (hP : ∀ c, g0.Pr c → P' c) (hSn : ∀ c, S' c → g.S c ∨ ¬ g0.Pr c) : Ext g0 w0 { g with S := S', Pr := P' } w :=
 ⟨fun c h => hS c (he.S c h), hP, he.pr, he.N, he.D, he.m, he.gen, he.hd, he.size, he.os, he.tape, he.output, fun c h => (hSn c h).elim (he.Sn c) .inr, he.cr, he.drawn⟩
theorem own_nodup {l : List (En × List TreeD)} {p : En × List TreeD} (h : ((l ++ [p]).filterMap fun p => blkE p.1).Nodup) {c : Nat} (hc : blkE p.1 = some c) : (l.filterMap fun p => blkE p.1).Nodup ∧ ∀ q ∈ l, blkE q.1 ≠ some c := by
 rw [List.filterMap_append, List.nodup_append] at h
 refine ⟨h.1, fun q hq e => ?_⟩
 exact h.2.2 c (List.mem_filterMap.2 ⟨q, hq, e⟩) c (List.mem_filterMap.2 ⟨p, by simp, hc⟩) rfl
theorem own_nodup' {l : List (En × List TreeD)} {p : En × List TreeD} (h : ((l ++ [p]).filterMap fun p => blkE p.1).Nodup) : (l.filterMap fun p => blkE p.1).Nodup := by
 rw [List.filterMap_append, List.nodup_append] at h
 exact h.1
section
variable {E : Er} {en : Nat} {g0 g : G} {w0 w : World} {f : List AV} {gen : Nat} {xs : List En} {a : Act} {l : List (En × List TreeD)} {x : En} {ks : List TreeD}
theorem freeze (hs : SR prog (Go.Vs.Good prog) (gl14 E) en ⟨f, stH gen xs ((eEn x).map .p)⟩ g a w) (he : Ext g0 w0 g w) (hl : Owns g0.Pr g w (l ++ [(x, ks)])) :
  ∃ g', SR prog (Go.Vs.Good prog) (gl14 E) en ⟨f, stH gen xs ((cT (TreeD.mk x.prod x.byte ks)).map .p)⟩ g' a w ∧ Ext g0 w0 g' w ∧ Owns g0.Pr g' w l := by
 have hr := hs.c.hr
 have hb2 : (stH gen xs ((eEn x).map .p))[2]? = some (.cells 25 ((eEn x).map .p)) := rfl
 rcases hl.all (x, ks) (by simp) with ⟨k1, k2, k3, k4⟩ | ⟨c, ho⟩
 ·refine ⟨g, ⟨⟨hs.c.gr, ?_, hs.c.fr⟩, hs.d, hs.nd, hs.sz, hs.cr⟩, he, ⟨fun p hp => hl.all p (by simp [hp]), own_nodup' hl.nd⟩⟩
  refine HR.retell hr hb2 (y := .cells 25 ((cT (TreeD.mk x.prod x.byte ks)).map .p)) ?_ rfl (by simp) (by simp)
  have hbr := hr.br 2 _ hb2
  simp only [BR] at hbr ⊢
  obtain ⟨cs, fz, q1, q2, q3, q4⟩ := hbr
  refine ⟨cs, fz, q1, q2, ?_, q4⟩
  have k1 : x.ad = none := k1
  have k2 : x.ln = 0 := k2
  have k3 : x.cp = 0 := k3
  have k4 : ks = [] := k4
  simp only [eEn, k1, k2, k3, mcs, List.map_nil] at q3
  match hcs : cs.toList, q3 with
  | [v1, v2, v3], q3 =>
   simp only [VRs, VR, PR] at q3
   simp only [cT, TreeD.prod, TreeD.byte, TreeD.kids, k4, eTrees, mcs, List.map_nil, VRs, VR, PR]
   exact ⟨q3.1, q3.2.1, ⟨none, 0, q3.2.2.1, Nat.le_refl _, Nat.zero_le _, .inl rfl⟩, trivial⟩
  | [], q3 => simp [VRs] at q3
  | [_], q3 => simp [VRs] at q3
  | [_, _], q3 => simp [VRs] at q3
  | _ :: _ :: _ :: _ :: _, q3 => simp [VRs] at q3
 ·have had : x.ad = some ⟨c, 0, none⟩ := ho.ad
  have hln : x.ln = ks.length := ho.ln
  have hblk : blkE x = some c := by simp [blkE, had]
  obtain ⟨hnd, hne⟩ := own_nodup (p := (x, ks)) hl.nd hblk
  have hclt : c < w.heap.size := hr.prs c ho.pr
  obtain ⟨gA, hgA⟩ : ∃ gA : G, gA = { g with Pr := fun k => g.Pr k ∧ k ≠ c } := ⟨_, rfl⟩
  have hrA : HR gA (stH gen xs ((eEn x).map .p)) w := by
   rw [hgA]
   exact hr.prQ (fun b y k hb hk q => hr.own b y k hb hk q.1) (fun k hk => ⟨hr.spr k hk, fun e => ho.ns (e ▸ hk)⟩) (fun k hk => hr.prs k hk.1)
  have hT1 : ∀ k, gA.S k → (g.S k ∨ k = c) := fun k hk => .inl (by rw [hgA] at hk; exact hk)
  have hT2 : ∀ k, (g.S k ∨ k = c) → gA.S k ∨ ¬ gA.Pr k := fun k hk => by
   rw [hgA]
   exact hk.imp_right (fun e q => q.2 e)
  have heAB : Ext gA w { gA with S := fun k => g.S k ∨ k = c, Pr := fun k => gA.Pr k ∨ (g.S k ∨ k = c) } w := extS hT1 hT2
  have hrB := hrA.stay (T := fun k => g.S k ∨ k = c) hT1 hT2 (fun k hk => hk.elim (fun q => hr.prs k (hr.spr k q)) (fun e => e ▸ hclt)) (fun b y k hb hk q => by
   have hk' : cid g b y = some k := by rw [hgA] at hk; cases y <;> exact hk
   rcases q with q | q
   ·exact hr.own b y k hb hk' (hr.spr k q)
   ·exact hr.own b y k hb hk' (q ▸ ho.pr))
  obtain ⟨gB, hgB⟩ : ∃ gB : G, gB = { gA with S := fun k => g.S k ∨ k = c, Pr := fun k => gA.Pr k ∨ (g.S k ∨ k = c) } := ⟨_, rfl⟩
  rw [← hgB] at heAB hrB
  have hSA : gA.S = g.S := by rw [hgA]
  have hSB : ∀ k, gB.S k ↔ g.S k ∨ k = c := fun k => by rw [hgB]
  have hPA : ∀ k, gA.Pr k ↔ g.Pr k ∧ k ≠ c := fun k => by rw [hgA]
  have hPB : ∀ k, gB.Pr k ↔ g.Pr k := fun k => by
   rw [hgB]
   show gA.Pr k ∨ (g.S k ∨ k = c) ↔ _
   rw [hPA]
   constructor
   ·rintro (q | q | q)
    ·exact q.1
    ·exact hr.spr k q
    ·exact q ▸ ho.pr
   ·intro q
    by_cases e : k = c
    ·exact .inr (.inr e)
    ·exact .inl ⟨q, e⟩
  have hspA : ∀ k, gA.S k → gA.Pr k := hrA.spr
  have hvA : ∀ (ys : List AV) (vs : List Value), VRs g w ys vs → VRs gB w ys vs := fun ys vs h => VRs_mono heAB hspA ys vs (by rw [hgA]; exact VRs_pr ys vs h)
  have hgrA : GR gA w (gl14 E) := by rw [hgA]; exact hs.c.gr
  have hbr := hr.br 2 _ hb2
  have hrC : HR gB (stH gen xs ((cT (TreeD.mk x.prod x.byte ks)).map .p)) w := by
   refine HR.retell hrB hb2 (y := .cells 25 ((cT (TreeD.mk x.prod x.byte ks)).map .p)) ?_ rfl (by simp) (by simp)
   simp only [BR] at hbr ⊢
   obtain ⟨cs, fz, q1, q2, q3, q4⟩ := hbr
   refine ⟨cs, fz, by rw [hgB, hgA]; exact q1, q2, ?_, q4⟩
   simp only [eEn, had, hln, mcs, List.map_nil] at q3
   match hcs : cs.toList, q3 with
   | [v1, v2, v3], q3 =>
    simp only [VRs, VR, PR] at q3
    simp only [cT, TreeD.prod, TreeD.byte, TreeD.kids, mcs, List.map_nil, VRs, VR, PR]
    refine ⟨q3.1, q3.2.1, ⟨some ⟨c, 0, none⟩, x.cp, by rw [q3.2.2.1, etr_len], by rw [etr_len]; exact ho.le, ho.cap, .inr ⟨c, 0, rfl, (hSB c).2 (.inr rfl), ?_⟩⟩, trivial⟩
    obtain ⟨cs', fz', r1, r2, r3⟩ := ho.ex
    have h1 := VRc_of_PRr (g := g) r1 ho.rows
    exact PRr_of_VRc (g := gB) r1 (etr_three ks) ⟨hvA _ _ h1.1, h1.2⟩
   | [], q3 => simp [VRs] at q3
   | [_], q3 => simp [VRs] at q3
   | [_, _], q3 => simp [VRs] at q3
   | _ :: _ :: _ :: _ :: _, q3 => simp [VRs] at q3
  refine ⟨gB, ⟨⟨GR_mono heAB hspA hgrA, hrC, hvA _ _ hs.c.fr⟩, fun d hd => ?_, hs.nd, hs.sz, by rw [hgB, hgA]; exact hs.cr⟩, ?_, ⟨fun p hp => ?_, hnd⟩⟩
  ·obtain ⟨D, e1, e2, e3, e4, e5⟩ := hs.d d hd
   refine ⟨D, e1, e2, (hPB D).2 e3, fun q => ?_, e5⟩
   rcases (hSB D).1 q with q | q
   ·exact e4 q
   ·subst q
    obtain ⟨cs', fz', r1, _⟩ := ho.ex
    rw [r1] at e5
    cases e5
  ·have := ext_mod (S' := gB.S) (P' := gB.Pr) he (fun k hk => (hSB k).2 (.inl hk)) (fun k hk => (hPB k).2 (he.Pr k hk)) (fun k hk => ((hSB k).1 hk).imp_right (fun (e : k = c) (q : g0.Pr k) => ho.new (by rw [← e]; exact q)))
   have e : ({ g with S := gB.S, Pr := gB.Pr } : G) = gB := by rw [hgB, hgA]
   rwa [e] at this
  ·rcases hl.all p (by simp [hp]) with q | ⟨c', q⟩
   ·exact .inl q
   ·have hcc : c' ≠ c := fun e => hne p hp (by simp [blkE, q.ad, e])
    exact .inr ⟨c', (q.pr' (g' := gA) hSA ((hPA c').2 ⟨q.pr, hcc⟩)).ext heAB hspA⟩
end
set_option maxHeartbeats 4000000
theorem VRs_app {g : G} {w : World} : ∀ (xs ys : List AV) (vs : List Value), VRs g w (xs ++ ys) vs → ∃ us ws, vs = us ++ ws ∧ VRs g w xs us ∧ VRs g w ys ws
 | [], ys, vs, h => ⟨[], vs, rfl, by simp [VRs], h⟩
 | x :: xs, ys, v :: vs, h => by
  simp only [List.cons_append, VRs] at h
  obtain ⟨us, ws, rfl, h1, h2⟩ := VRs_app xs ys vs h.2
  exact ⟨v :: us, ws, rfl, by simp only [VRs]; exact ⟨h.1, h1⟩, h2⟩
 | _ :: _, _, [], h => by simp [VRs] at h
theorem VRs_set {g : G} {w : World} {r r' : List AV} (hrr : ∀ us, VRs g w r us → VRs g w r' us) : ∀ (rows : List (List AV)) (j : Nat) (vs : List Value), rows[j]? = some r → VRs g w rows.flatten vs → VRs g w (rows.set j r').flatten vs
 | [], j, vs, hj, _ => by simp at hj
 | q :: rows, 0, vs, hj, h => by
  simp only [List.getElem?_cons_zero, oiq] at hj
  subst hj
  rw [List.flatten_cons] at h
  obtain ⟨us, ws, rfl, h1, h2⟩ := VRs_app _ _ _ h
  rw [List.set_cons_zero, List.flatten_cons]
  exact (hrr us h1).append h2
 | q :: rows, j + 1, vs, hj, h => by
  rw [List.flatten_cons] at h
  obtain ⟨us, ws, rfl, h1, h2⟩ := VRs_app _ _ _ h
  rw [List.set_cons_succ, List.flatten_cons]
  exact h1.append (VRs_set hrr rows j ws (by simpa using hj) h2)
theorem BR_set {g : G} {w : World} {b : Nat} {t : TypeId} {size gen j : Nat} {rows : List (List AV)} {r r' : List AV} (hr : BR g w b (.row t size gen rows)) (hj : rows[j]? = some r) (hl : r'.length = size) (hrr : ∀ us, VRs g w r us → VRs g w r' us) : BR g w b (.row t size gen (rows.set j r')) := by
 simp only [BR] at hr ⊢
 refine ⟨hr.1, fun q hq => ?_, ?_⟩
 ·rcases List.mem_or_eq_of_mem_set hq with q1 | q1
  ·exact hr.2.1 q q1
  ·rw [q1]; exact hl
 ·have h := hr.2.2
  cases hd : g.hd b gen with
  | none =>
   rw [hd] at h
   simp only [RowR] at h
   rw [h] at hj
   cases hj
  | some p =>
   obtain ⟨c, cap⟩ := p
   rw [hd] at h
   simp only [RowR, List.length_set] at h ⊢
   obtain ⟨cs, fz, k1, k2, k3, k4, k5, k6⟩ := h
   exact ⟨cs, fz, k1, k2, k3, k4, k5, VRs_set hrr rows j _ hj k6.1, k6.2⟩
theorem set_ra {j : Nat} {e : En} (xs : List En) : (ra eEn xs).set j ((eEn e).map .p) = ra eEn (xs.set j e) := by simp only [ra, List.map_set]
section
variable {E : Er} {en : Nat} {g0 g : G} {w0 w : World} {gen j : Nat} {xs : List En} {a : Act} {l : List (En × List TreeD)} {x : En} {ks : List TreeD} {t : TreeD} {u : Nat → AV} {L : List (Nat × AV)}
theorem unpin (hs : SR prog (Go.Vs.Good prog) (gl14 E) en ⟨fr 147 u L, stH gen xs ((cT t).map .p)⟩ g a w) (he : Ext g0 w0 g w) (hl : Owns g0.Pr g w (l ++ [(x, ks)])) (hx : xs[j]? = some x) :
  ∃ g', SR prog (Go.Vs.Good prog) (gl14 E) en ⟨fr 147 u L, [zt, .row 25 3 gen ((ra eEn xs).set j (topR x 0 ks.length)), bT t, .row 25 3 0 (ra cT ks)]⟩ g' a w ∧ Ext g0 w0 g' w ∧ Owns g0.Pr g' w l := by
 have hr := hs.c.hr
 have hrow : (ra eEn xs)[j]? = some ((eEn x).map .p) := by simp only [ra, List.getElem?_map, hx, Option.map_some]
 have hz3 : ∀ r ∈ ra cT ks, r.length = 3 := by
  intro r hr
  simp only [ra, List.mem_map] at hr
  obtain ⟨k, _, rfl⟩ := hr
  rfl
 have key : ∀ (gA : G) (o : Option (Nat × Nat)), HR gA (stH gen xs ((cT t).map .p)) w → Ext g0 w0 gA w → gA.S = g.S → gA.N = g.N → GR gA w (gl14 E) → VRs gA w (fr 147 u L) a.tmps.toList → (∀ d ∈ a.defers, MarkR en gA w d) → gA.cr = Go.Vs.Good prog →
   RowR gA w 25 3 (ra cT ks) o → (∀ c cap, o = some (c, cap) → ¬ gA.Pr c ∧ ∀ b x, (stH gen xs ((cT t).map .p))[b]? = some x → cid gA b x ≠ some c) → (∀ us, us = Value.slice x.ad x.ln x.cp → SlR 3 0 ks.length us o) → Owns g0.Pr gA w l →
   ∃ g', SR prog (Go.Vs.Good prog) (gl14 E) en ⟨fr 147 u L, [zt, .row 25 3 gen ((ra eEn xs).set j (topR x 0 ks.length)), bT t, .row 25 3 0 (ra cT ks)]⟩ g' a w ∧ Ext g0 w0 g' w ∧ Owns g0.Pr g' w l := by
  intro gA o hrA heA hSA hNA hgA hfA hdA hcA hro hoo hsl hlA
  have hN3 : gA.N = 3 := hrA.n
  have eR := extRow (g := gA) (w := w) o
  have hrR := hrA.take (t := 25) (size := 3) (rows := ra cT ks) (o := o) hz3 hro hoo
  have hb1 : (stH gen xs ((cT t).map .p) ++ [AB.row 25 3 0 (ra cT ks)])[1]? = some (.row 25 3 gen (ra eEn xs)) := rfl
  have hbr := hrR.br 1 _ hb1
  have hD3 : (gRow gA o).D 3 := by
   have := D_row hrA o
   rwa [hN3] at this
  refine ⟨gRow gA o, ⟨⟨GR_mono eR hrA.spr hgA, ?_, VRs_mono eR hrA.spr _ _ hfA⟩, fun d hd => (hdA d hd).ext eR hrA.prs, hs.nd, hs.sz, hcA⟩, heA.trans eR, hlA.ext eR hrA.spr⟩
  refine HR.retell hrR hb1 (y := .row 25 3 gen ((ra eEn xs).set j (topR x 0 ks.length))) ?_ rfl (by simp) (by simp)
  refine BR_set hbr hrow rfl (fun us hus => ?_)
  match us, hus with
  | [v1, v2, v3], hus =>
   simp only [eEn, mcs, List.map_nil, VRs, VR, PR] at hus
   simp only [VRs, VR, PR]
   refine ⟨hus.1, hus.2.1, ⟨hD3, Nat.zero_le _, ?_⟩, trivial⟩
   have : (gRow gA o).hd 3 0 = o := by simp [gRow, hN3]
   rw [this]
   exact hsl _ hus.2.2.1
  | [], hus => simp [eEn, VRs] at hus
  | [_], hus => simp [eEn, VRs] at hus
  | [_, _], hus => simp [eEn, VRs] at hus
  | _ :: _ :: _ :: _ :: _, hus => simp [eEn, VRs] at hus
 rcases hl.all (x, ks) (by simp) with ⟨k1, k2, k3, k4⟩ | ⟨c, ho⟩
 ·have k1 : x.ad = none := k1
  have k2 : x.ln = 0 := k2
  have k3 : x.cp = 0 := k3
  have k4 : ks = [] := k4
  refine key g none hr he rfl rfl hs.c.gr hs.c.fr hs.d hs.cr (by rw [k4]; rfl) (fun c cap h => by cases h) (fun us hus => ?_) ⟨fun p hp => hl.all p (by simp [hp]), own_nodup' hl.nd⟩
  rw [hus, k1, k2, k3, k4]
  exact ⟨rfl, rfl, rfl⟩
 ·have had : x.ad = some ⟨c, 0, none⟩ := ho.ad
  have hln : x.ln = ks.length := ho.ln
  have hblk : blkE x = some c := by simp [blkE, had]
  obtain ⟨hnd, hne⟩ := own_nodup (p := (x, ks)) hl.nd hblk
  obtain ⟨gA, hgA⟩ : ∃ gA : G, gA = { g with Pr := fun k => g.Pr k ∧ k ≠ c } := ⟨_, rfl⟩
  have hrA : HR gA (stH gen xs ((cT t).map .p)) w := by
   rw [hgA]
   exact hr.prQ (fun b y k hb hk q => hr.own b y k hb hk q.1) (fun k hk => ⟨hr.spr k hk, fun e => ho.ns (e ▸ hk)⟩) (fun k hk => hr.prs k hk.1)
  obtain ⟨cs, fz, r1, r2, r3⟩ := ho.ex
  have heA : Ext g0 w0 gA w := by
   have := ext_mod (S' := g.S) (P' := fun k => g.Pr k ∧ k ≠ c) he (fun _ h => h) (fun k hk => ⟨he.Pr k hk, fun e => ho.new (e ▸ hk)⟩) (fun k hk => .inl hk)
   rw [hgA]
   exact this
  refine key gA (some (c, x.cp)) hrA heA (by rw [hgA]) (by rw [hgA]) (by rw [hgA]; exact hs.c.gr) (by rw [hgA]; exact VRs_pr _ _ hs.c.fr) (fun d hd => ?_) (by rw [hgA]; exact hs.cr) ?_ ?_ (fun us hus => ?_) ⟨fun p hp => ?_, hnd⟩
  ·obtain ⟨D, e1, e2, e3, e4, e5⟩ := hs.d d hd
   refine ⟨D, e1, e2, ?_, by rw [hgA]; exact e4, e5⟩
   rw [hgA]
   refine ⟨e3, fun e => ?_⟩
   rw [e, r1] at e5
   cases e5
  ·simp only [RowR]
   refine ⟨cs, fz, r1, r2, by omega, ho.cap, by simpa [ra] using ho.le, ?_⟩
   have h1 := VRc_of_PRr (g := gA) r1 (show PRr gA.S w c 0 3 (eTrees ks) by rw [hgA]; exact ho.rows)
   rw [ra_etr]
   simpa using h1
  ·intro c' cap h
   simp only [oiq, Prod.mk.injEq] at h
   obtain ⟨rfl, rfl⟩ := h
   refine ⟨by rw [hgA]; exact fun q => q.2 rfl, fun b y hb hk => hr.own b y c hb ?_ ho.pr⟩
   rw [hgA] at hk
   cases y <;> exact hk
  ·rw [hus, had, hln]
   have hle : ks.length ≤ x.cp := ho.le
   refine ⟨by omega, ho.cap, _, rfl, .inr (by simp)⟩
  ·rcases hl.all p (by simp [hp]) with q | ⟨c', q⟩
   ·exact .inl q
   ·have hcc : c' ≠ c := fun e => hne p hp (by simp [blkE, q.ad, e])
    exact .inr ⟨c', q.pr' (by rw [hgA]) (by rw [hgA]; exact ⟨q.pr, hcc⟩)⟩
theorem pin {m1 : Nat} (hs : SR prog (Go.Vs.Good prog) (gl14 E) en ⟨fr 147 u L, [zt, .row 25 3 gen ((ra eEn xs).set j (topR x 1 m1)), bT t, .row 25 3 1 (ra cT ks), .row 25 3 0 [zr]]⟩ g a w) (he : Ext g0 w0 g w) (hl : Owns g0.Pr g w l) (hx : xs[j]? = some x) (hm : ks.length = m1) (h0 : 0 < m1) (hL : belows 3 (fr 147 ug L) = true) (hN0 : g0.N ≤ 3) :
  ∃ g' x', x'.prod = x.prod ∧ x'.byte = x.byte ∧ SR prog (Go.Vs.Good prog) (gl14 E) en ⟨fr 147 ug L, stH gen (xs.set j x') ((cT t).map .p)⟩ g' a w ∧ Ext g0 w0 g' w ∧ Owns g0.Pr g' w (l ++ [(x', ks)]) := by
 have hr := hs.c.hr
 have hj : j < (ra eEn xs).length := by simpa [ra] using (gei.1 hx).1
 have hb1 : [zt, .row 25 3 gen ((ra eEn xs).set j (topR x 1 m1)), bT t, .row 25 3 1 (ra cT ks), AB.row 25 3 0 [zr]][1]? = some (.row 25 3 gen ((ra eEn xs).set j (topR x 1 m1))) := rfl
 have hb3 : [zt, .row 25 3 gen ((ra eEn xs).set j (topR x 1 m1)), bT t, .row 25 3 1 (ra cT ks), AB.row 25 3 0 [zr]][3]? = some (.row 25 3 1 (ra cT ks)) := rfl
 have hbr1 := hr.br 1 _ hb1
 have hbr3 := hr.br 3 _ hb3
 have hkl : (ra cT ks).length = m1 := by simpa [ra] using hm
 have hr3 := hbr3
 simp only [BR] at hr3
 obtain ⟨hg3, _, hr3⟩ := hr3
 cases hd : g.hd 3 1 with
 | none =>
  rw [hd] at hr3
  simp only [RowR] at hr3
  rw [hr3] at hkl
  simp at hkl
  omega
 | some p =>
  obtain ⟨c, cap⟩ := p
  rw [hd] at hr3
  simp only [RowR] at hr3
  obtain ⟨cs, fz, r1, r2, r3, r4, r5, r6⟩ := hr3
  rw [hkl] at r5 r6
  have hcid3 : cid g 3 (.row 25 3 1 (ra cT ks)) = some c := by simp [cid, hd]
  have hcP : ¬ g.Pr c := hr.own 3 _ c hb3 hcid3
  have hclt : c < w.heap.size := heap_lt r1
  obtain ⟨x', hx'⟩ : ∃ x' : En, x' = ⟨x.prod, x.byte, some ⟨c, 0, none⟩, m1, cap⟩ := ⟨_, rfl⟩
  have hrow : ((ra eEn xs).set j (topR x 1 m1))[j]? = some (topR x 1 m1) := List.getElem?_set_self hj
  have hset : ((ra eEn xs).set j (topR x 1 m1)).set j ((eEn x').map .p) = ra eEn (xs.set j x') := by rw [List.set_set, set_ra]
  have hr1 : HR g [zt, .row 25 3 gen (ra eEn (xs.set j x')), bT t, .row 25 3 1 (ra cT ks), .row 25 3 0 [zr]] w := by
   rw [← hset]
   refine HR.retell hr hb1 (y := .row 25 3 gen (((ra eEn xs).set j (topR x 1 m1)).set j ((eEn x').map .p))) ?_ rfl (by simp) (by simp)
   refine BR_set hbr1 hrow rfl (fun us hus => ?_)
   match us, hus with
   | [v1, v2, v3], hus =>
    simp only [VRs, VR, PR] at hus
    simp only [eEn, hx', mcs, List.map_nil, VRs, VR, PR]
    refine ⟨hus.1, hus.2.1, ?_, trivial⟩
    have h3 := hus.2.2.1.2.2
    rw [hd] at h3
    simp only [SlR] at h3
    obtain ⟨_, _, A, q1, q2⟩ := h3
    rcases q2 with ⟨_, q⟩ | q
    ·omega
    ·rw [q1, q]; simp
   | [], hus => simp [VRs] at hus
   | [_], hus => simp [VRs] at hus
   | [_, _], hus => simp [VRs] at hus
   | _ :: _ :: _ :: _ :: _, hus => simp [VRs] at hus
  have hpr : ∀ n : Nat, ∀ ys : List En, (ra eEn ys).all (belows n) = true := by
   intro n ys
   simp only [ra, List.all_map, List.all_eq_true]
   intro y _
   rfl
  have hr2 : HR (g.cut 3) (stH gen (xs.set j x') ((cT t).map .p)) w := by
   refine HR.drop (h := stH gen (xs.set j x') ((cT t).map .p)) (hs := [.row 25 3 1 (ra cT ks), .row 25 3 0 [zr]]) hr1 (fun y hy => ?_)
   simp only [List.mem_cons, List.not_mem_nil, or_false] at hy
   rcases hy with rfl | rfl | rfl
   ·rfl
   ·exact hpr 3 _
   ·rfl
  obtain ⟨gB, hgB⟩ : ∃ gB : G, gB = { g.cut 3 with Pr := fun k => g.Pr k ∨ k = c } := ⟨_, rfl⟩
  have hrB : HR gB (stH gen (xs.set j x') ((cT t).map .p)) w := by
   rw [hgB]
   refine hr2.prQ (fun b y k hb hk q => ?_) (fun k hk => .inl (hr.spr k hk)) (fun k hk => hk.elim (hr.prs k) (fun e => e ▸ hclt))
   have hb' : ([zt, .row 25 3 gen (ra eEn (xs.set j x')), bT t, .row 25 3 1 (ra cT ks), AB.row 25 3 0 [zr]] : List AB)[b]? = some y := by
    have := (gei.1 hb).1
    rw [show ([zt, .row 25 3 gen (ra eEn (xs.set j x')), bT t, .row 25 3 1 (ra cT ks), AB.row 25 3 0 [zr]] : List AB) = stH gen (xs.set j x') ((cT t).map .p) ++ [.row 25 3 1 (ra cT ks), AB.row 25 3 0 [zr]] from rfl, List.getElem?_append_left this]
    exact hb
   have hk' : cid g b y = some k := by cases y <;> exact hk
   rcases q with q | q
   ·exact hr1.own b y k hb' hk' q
   ·subst q
    have := hr1.dis b 3 y _ k hb' hb3 hk' hcid3
    have hlt := (gei.1 hb).1
    simp only [lcn, List.length_nil] at hlt
    omega
  have hv : VRs gB w (fr 147 ug L) a.tmps.toList := by
   rw [hgB]
   exact VRs_pr _ _ (VRs_trim _ _ hL (fr_und hs.c.fr))
  have hPB : ∀ k, gB.Pr k ↔ g.Pr k ∨ k = c := fun k => by rw [hgB]
  have hSB : gB.S = g.S := by rw [hgB]; rfl
  have hN : 3 ≤ g.N := by rw [hr.n]; simp
  have hn0 : ¬ g0.Pr c := fun q => hcP (he.Pr c q)
  refine ⟨gB, x', by rw [hx'], by rw [hx'], ⟨⟨?_, hrB, hv⟩, fun d hd' => ?_, hs.nd, hs.sz, by rw [hgB]; exact hs.cr⟩, ?_, ⟨fun p hp => ?_, ?_⟩⟩
  ·rw [hgB]; exact hs.c.gr
  ·obtain ⟨D, e1, e2, e3, e4, e5⟩ := hs.d d hd'
   exact ⟨D, e1, e2, (hPB D).2 (.inl e3), by rw [hSB]; exact e4, e5⟩
  ·rw [hgB]
   exact ⟨he.S, fun k hk => .inl (he.Pr k hk), he.pr, hN0, fun b hb => ⟨by show b < 3; have := hb.1; omega, fun q => (he.D b hb).2 q.1⟩, he.m, he.gen, he.hd, he.size, he.os, he.tape, he.output, he.Sn, he.cr, he.drawn⟩
  ·rcases List.mem_append.1 hp with hp | hp
   ·rcases hl.all p hp with q | ⟨c', q⟩
    ·exact .inl q
    ·exact .inr ⟨c', q.pr' hSB ((hPB c').2 (.inl q.pr))⟩
   ·simp only [List.mem_cons, List.not_mem_nil, or_false] at hp
    subst hp
    refine .inr ⟨c, by rw [hx'], by rw [hx']; exact hm.symm, by show 0 < ks.length; omega, ⟨cs, fz, r1, r2, by rw [hx']; exact r3⟩, ?_, by rw [hx']; exact r4, by rw [hx']; show ks.length ≤ cap; omega, (hPB c).2 (.inr rfl), fun q => ?_, hn0⟩
    ·rw [hSB]
     refine PRr_of_VRc (g := g) r1 (etr_three ks) ?_
     rw [etr_len, hm, ← ra_etr]
     exact r6
    ·rw [hSB] at q
     exact hcP (hr.spr c q)
  ·rw [List.filterMap_append, List.nodup_append]
   refine ⟨hl.nd, by simp [blkE, hx'], fun k hk k' hk' e => ?_⟩
   have hk' : k' = c := by simpa [blkE, hx'] using hk'
   obtain ⟨p, hp, hbk⟩ := List.mem_filterMap.1 hk
   rcases hl.all p hp with q | ⟨c', q⟩
   ·simp [blkE, q.1] at hbk
   ·have : c' = k := by simpa [blkE, q.ad] using hbk
    have hq := q.pr
    rw [this, e, hk'] at hq
    exact hcP hq
end
set_option maxHeartbeats 4000000
def zT : TreeD := .mk 0 0 []
noncomputable def hexB (a c : Int) : Int := IntKind.wrap .u8 (w6 ((BitVec.ofInt (IntKind.bits .i64) (w6 (a * 2 ^ (min (Int.toNat 4) (IntKind.bits .i64)))) ||| BitVec.ofInt (IntKind.bits .i64) c).toNat : Int))
noncomputable def rd (E : Er) : Nat → Nat → List TreeD → TreeD → Bool → ByteArray → Option (TreeD × Int)
 | 0, _, _, _, _, _ => none
 | k + 1, lab, st, t, b, s => match lab, st with
  | 0, _ => some (zT, 240)
  | 1, [] => bif !(s.toList == b0.toList) then rd E k 0 [] t b s else bif b then some (zT, 3) else some (t, 0)
  | 1, x :: st' => (F43_3 s).bind fun sp => bif sp then (bif sl_ok 1 (s.size : Int) s.size then rd E k 2 (.mk x.prod x.byte (x.kids ++ [t]) :: st') t b (s.extract (Int.toNat 1) (Int.toNat (s.size : Int))) else none)
    else (F43_2 s).bind fun cl => rd E k (match cl with | true => 3 | false => 0) (.mk x.prod x.byte (x.kids ++ [t]) :: st') t b s
  | 2, st => (F38_2 s).bind fun r => match r with
   | .k0 x ok => bif ok && decide ((x.size : Int) ≥ 2) then
     (getI x.data.toList 0).bind fun c0 => (F39_2 (c0.toNat : Int)).bind fun a0 => (getI x.data.toList 1).bind fun c1 => (F39_2 (c1.toNat : Int)).bind fun a1 =>
      bif decide (a0 < 0) || decide (a1 < 0) then rd E k 0 st t b s else
      bif sl_ok 2 (x.size : Int) x.size && decide (x.size ≤ s.size) then rd E k 1 st (.mk (-1) (hexB a0 a1) []) (b || decide ((st.length : Int) ≥ 16384)) (x.extract (Int.toNat 2) (Int.toNat (x.size : Int))) else none
    else (F40_2 s).bind fun r => match r with
     | .k0 d q ok2 => bif ok2 then (F41 E d).bind fun v => match v with
       | .k0 v => (F42 v).bind fun y => bif !(y.toList == d.toList) || decide (v < 0) then rd E k 0 st t b s else
         bif decide (q.size < s.size) then (F43_2 q).bind fun cl => rd E k (match cl with | true => 3 | false => 2) (.mk v 0 [] :: st) t (b || decide (((st.length + 1 : Nat) : Int) > 16384)) q else none
       | .k1 _ => rd E k 0 st t b s
      else rd E k 0 st t b s
  | 3, x :: st' => bif sl_ok 1 (s.size : Int) s.size then rd E k 1 st' x b (s.extract (Int.toNat 1) (Int.toNat (s.size : Int))) else none
  | _, _ => none
theorem fl0 : findLabel scB 0 = some (.seq .skip x0B) := by kernel_rfl
theorem fl1 : findLabel scB 1 = some (.seq .skip x1B) := by kernel_rfl
theorem fl2 : findLabel scB 2 = some (.seq .skip x2B) := by kernel_rfl
theorem fl3 : findLabel scB 3 = some (.seq .skip x3B) := by kernel_rfl
noncomputable def y2B : Code := match x2B with | .seq _ (.seq _ (.seq _ a)) => a | _ => .skip
noncomputable def y1B : Code := match x1B with | .seq _ (.seq _ (.seq _ a)) => a | _ => .skip
theorem x2_eq : x2B = .seq a2B (.seq b2B (.seq (.goto 0) y2B)) := by kernel_rfl
theorem x3_eq : x3B = .seq r20B (.seq (.label 1) x1B) := by kernel_rfl
theorem x1_eq : x1B = .seq (.seq r21B (.cond (.tmp 114) d1B .skip)) (.seq b1B (.seq r30B y1B)) := by kernel_rfl
theorem d1_eq : d1B = .seq r22B (.seq r23B (.seq e1B (.goto 0))) := by kernel_rfl
def RS (E : Er) (en : Nat) (g0 : G) (w0 : World) (st : List TreeD) (t : TreeD) (b : Bool) (s : ByteArray) (a : Act) (w : World) : Prop :=
 ∃ l u gen xs g, SR prog (Go.Vs.Good prog) (gl14 E) en ⟨fr 147 u (rdL gen l.length b s), stH gen xs ((cT t).map .p)⟩ g a w ∧ Ext g0 w0 g w ∧ xs.take l.length = l.map (·.1) ∧ Owns g0.Pr g w l ∧ st = (l.map fun p => TreeD.mk p.1.prod p.1.byte p.2).reverse
def Fin (E : Er) (en : Nat) (g0 : G) (w0 : World) (r : TreeD × Int) (a : Act) (w : World) : Prop :=
 ∃ u h g, SR prog (Go.Vs.Good prog) (gl14 E) en ⟨fr 147 u [(2, .ptr 0 0), (3, i6 r.2)], .cells 25 ((cT r.1).map .p) :: h⟩ g a w ∧ Ext g0 w0 g w
theorem BR_nil {g : G} {w : World} {b : Nat} {p q : Int} (h : BR g w b (.cells 25 [i6 p, vi .u8 q, n0])) : BR g w b (.cells 25 ((cT (.mk p q [])).map .p)) := by
 simp only [BR] at h ⊢
 obtain ⟨cs, fz, q1, q2, q3, q4⟩ := h
 refine ⟨cs, fz, q1, q2, ?_, q4⟩
 match hcs : cs.toList, q3 with
 | [v1, v2, v3], q3 =>
  simp only [VRs, VR, PR] at q3
  simp only [cT, TreeD.prod, TreeD.byte, TreeD.kids, eTrees, mcs, List.map_nil, VRs, VR, PR]
  exact ⟨q3.1, q3.2.1, ⟨none, 0, q3.2.2.1, Nat.le_refl _, Nat.zero_le _, .inl rfl⟩, trivial⟩
 | [], q3 => simp [VRs] at q3
 | [_], q3 => simp [VRs] at q3
 | [_, _], q3 => simp [VRs] at q3
 | _ :: _ :: _ :: _ :: _, q3 => simp [VRs] at q3
section
variable {E : Er} {en : Nat} {g0 g : G} {w0 w : World} {gen : Nat} {xs : List En} {a : Act} {l : List (En × List TreeD)} {u : Nat → AV} {L : List (Nat × AV)}
theorem nil_t {f : List AV} {p q : Int} (hs : SR prog (Go.Vs.Good prog) (gl14 E) en ⟨f, stH gen xs [i6 p, vi .u8 q, n0]⟩ g a w) : SR prog (Go.Vs.Good prog) (gl14 E) en ⟨f, stH gen xs ((cT (.mk p q [])).map .p)⟩ g a w :=
 ⟨⟨hs.c.gr, HR.retell hs.c.hr (b := 2) (x := .cells 25 [i6 p, vi .u8 q, n0]) (y := .cells 25 ((cT (.mk p q [])).map .p)) rfl (BR_nil (hs.c.hr.br 2 _ rfl)) rfl (by simp) (by simp), hs.c.fr⟩, hs.d, hs.nd, hs.sz, hs.cr⟩
theorem nil_r {f : List AV} {h : List AB} (hs : SR prog (Go.Vs.Good prog) (gl14 E) en ⟨f, zt :: h⟩ g a w) : SR prog (Go.Vs.Good prog) (gl14 E) en ⟨f, .cells 25 ((cT zT).map .p) :: h⟩ g a w :=
 ⟨⟨hs.c.gr, HR.retell hs.c.hr (b := 0) (x := zt) (y := .cells 25 ((cT zT).map .p)) rfl (BR_nil (hs.c.hr.br 0 _ rfl)) rfl (by simp) (by simp), hs.c.fr⟩, hs.d, hs.nd, hs.sz, hs.cr⟩
theorem drop3 {hs' : List AB} {t : TreeD} (hs : SR prog (Go.Vs.Good prog) (gl14 E) en ⟨fr 147 u L, stH gen xs ((cT t).map .p) ++ hs'⟩ g a w) (he : Ext g0 w0 g w) (hl : Owns g0.Pr g w l) (hL : belows 3 (fr 147 ug L) = true) (hN0 : g0.N ≤ 3) :
  ∃ g', SR prog (Go.Vs.Good prog) (gl14 E) en ⟨fr 147 ug L, stH gen xs ((cT t).map .p)⟩ g' a w ∧ Ext g0 w0 g' w ∧ Owns g0.Pr g' w l := by
 have hr := hs.c.hr
 have hr2 : HR (g.cut 3) (stH gen xs ((cT t).map .p)) w := by
  refine HR.drop (h := stH gen xs ((cT t).map .p)) (hs := hs') hr (fun y hy => ?_)
  simp only [List.mem_cons, List.not_mem_nil, or_false] at hy
  rcases hy with rfl | rfl | rfl
  ·rfl
  ·show (ra eEn xs).all (belows 3) = true
   simp only [ra, List.all_map, List.all_eq_true]
   intro y _
   rfl
  ·rfl
 refine ⟨g.cut 3, ⟨⟨hs.c.gr, hr2, VRs_trim _ _ hL (fr_und hs.c.fr)⟩, hs.d, hs.nd, hs.sz, hs.cr⟩, ?_, ⟨fun p hp => ?_, hl.nd⟩⟩
 ·exact ⟨he.S, he.Pr, he.pr, hN0, fun b hb => ⟨by show b < 3; have := hb.1; omega, fun q => (he.D b hb).2 q.1⟩, he.m, he.gen, he.hd, he.size, he.os, he.tape, he.output, he.Sn, he.cr, he.drawn⟩
 ·rcases hl.all p hp with q | ⟨c', q⟩
  ·exact .inl q
  ·exact .inr ⟨c', q.pr' rfl q.pr⟩
end
theorem gotoR {l : Nat} {e : Exit} (h : ExitR (.brk (1000000 + l)) e) (hl : l < 1000000) : e = .goto l := by
 rcases exitR_brk h with ⟨_, h2⟩ | ⟨l', rfl, h2, _⟩
 ·omega
 ·have : l' = l := by omega
  rw [this]
set_option maxHeartbeats 4000000
theorem wd {n : Nat} (h : n < 4611686018427387904) : IntKind.wrap .i64 (((n + 1 : Nat) : Int) - 1) = (n : Int) := by rw [w_id (by omega)]; omega
theorem ix_self (n : Nat) : ixN (n + 1) (n : Int) = some n := by
 unfold ixN
 rw [if_pos ⟨Int.natCast_nonneg _, by omega⟩, Int.toNat_natCast]
theorem jumpS_mono {c : Code} {J J' : Nat → Act → World → Prop} {Q : Exit → Act → World → Prop} (h : ∀ l a w, J l a w → J' l a w) : ∀ e a w, Exit.jumpS c J Q e a w → Exit.jumpS c J' Q e a w := by
 intro e a w hq
 cases e with
 | goto l =>
  simp only [Exit.jumpS] at hq ⊢
  split at hq
  ·rename_i hl; rw [if_pos hl]; exact h _ _ _ hq
  ·rename_i hl; rw [if_neg hl]; exact hq
 | normal => exact hq
 | exit id => exact hq
 | ret => exact hq
 | panic ch => exact hq
 | outgrown => exact hq
theorem JRs_succ {F : Fence} {P : Program} {c : Code} {Q : Exit → Act → World → Prop} : ∀ (m l : Nat) (a : Act) (w : World), JRs F P c Q m l a w → JRs F P c Q (m + 1) l a w
 | 0, l, a, w, h => h.elim
 | m + 1, l, a, w, h => by
  obtain ⟨rest, hf, h⟩ := h
  exact ⟨rest, hf, wpIn_mono h (jumpS_mono (JRs_succ m))⟩
theorem jq {c : Code} {J : Nat → Act → World → Prop} {Q : Exit → Act → World → Prop} {l : Nat} {x : Code} {a : Act} {w : World} (hl : findLabel c l = some x) (h : J l a w) : Exit.jumpS c J Q (.goto l) a w := by
 simp only [Exit.jumpS, hl, Option.isSome_some, if_true]
 exact h
def Bd (lab : Nat) (st : List TreeD) (s : ByteArray) : Prop := st.length + s.size ≤ 1048576 ∧ ∀ x ∈ st, x.kids.length + s.size + (if lab = 1 then 1 else 0) ≤ 1048576
theorem ex_size (s : ByteArray) (a : Nat) (h : a ≤ s.size) : (s.extract (Int.toNat (a : Int)) (Int.toNat (s.size : Int))).size = s.size - a := by
 rw [Int.toNat_natCast, Int.toNat_natCast, ByteArray.size_extract, Nat.min_self]
section
variable {E : Er} {en : Nat} {g0 : G} {w0 : World} {rdd : Option Nat} {J : Nat → Act → World → Prop} {Q : Exit → Act → World → Prop} {r : TreeD × Int} {st : List TreeD} {t : TreeD} {b : Bool} {s : ByteArray} {a : Act} {w : World}
theorem go0 (hQ : ∀ a' w', Fin E en g0 w0 (zT, 240) a' w' → Q .ret a' w') (hs : RS E en g0 w0 st t b s a w) : x0B.wpIn (FW rdd) 0 prog (Exit.jumpS scB J Q) a w := by
 obtain ⟨l, u, gen, xs, g, hs, he, h1, h2, h3⟩ := hs
 obtain ⟨gg, hr⟩ := x0_0 (E := E) u gen l.length xs t b s
 refine code_step x0B_c x0B_n hr hs (fun e a' w' g' hx hE hS => ?_)
 rw [exitR_ret hx]
 exact hQ a' w' ⟨gg, _, g', nil_r hS, he.trans hE⟩
theorem rev_cons {l : List (En × List TreeD)} {x : TreeD} {st : List TreeD} (h : x :: st = (l.map fun p => TreeD.mk p.1.prod p.1.byte p.2).reverse) : ∃ l' p, l = l' ++ [p] ∧ x = .mk p.1.prod p.1.byte p.2 ∧ st = (l'.map fun p => TreeD.mk p.1.prod p.1.byte p.2).reverse := by
 rcases List.eq_nil_or_concat l with rfl | ⟨l', p, rfl⟩
 ·simp at h
 ·rw [List.concat_eq_append] at h ⊢
  simp only [List.map_append, mcs, List.map_nil, List.reverse_append, List.reverse_cons, List.reverse_nil, List.nil_append, List.cons_append, List.cons.injEq] at h
  exact ⟨l', p, rfl, h.1, h.2⟩
theorem take_get {xs : List En} {l' : List (En × List TreeD)} {p : En × List TreeD} (h : xs.take (l' ++ [p]).length = (l' ++ [p]).map (·.1)) : xs[l'.length]? = some p.1 ∧ xs.take l'.length = l'.map (·.1) ∧ l'.length + 1 ≤ xs.length := by
 have hl := congrArg List.length h
 simp only [List.length_take, List.length_map, List.length_append, lcn, List.length_nil] at hl
 have hlen : l'.length + 1 ≤ xs.length := by omega
 refine ⟨?_, ?_, hlen⟩
 ·have : (xs.take (l' ++ [p]).length)[l'.length]? = ((l' ++ [p]).map (·.1))[l'.length]? := by rw [h]
  rw [List.getElem?_take, if_pos (by simp)] at this
  rw [this]
  simp
 ·have := congrArg (List.take l'.length) h
  rw [List.take_take] at this
  rw [show min l'.length (l' ++ [p]).length = l'.length by simp] at this
  rw [this]
  simp
theorem go3 (hJ : ∀ a' w', RS E en g0 w0 st t b (s.extract (Int.toNat 1) (Int.toNat (s.size : Int))) a' w' → x1B.wpIn (FW rdd) 0 prog (Exit.jumpS scB J Q) a' w') {t0 : TreeD} (hb : Bd 3 (t :: st) s) (h4 : sl_ok 1 (s.size : Int) s.size = true) (hs : RS E en g0 w0 (t :: st) t0 b s a w) :
  x3B.wpIn (FW rdd) 0 prog (Exit.jumpS scB J Q) a w := by
 obtain ⟨l, u, gen, xs, g, hs, he, h1, h2, h3⟩ := hs
 obtain ⟨l', p, rfl, rfl, h5⟩ := rev_cons h3
 obtain ⟨q1, q2, q3⟩ := take_get h1
 have hlen : (l' ++ [p]).length = l'.length + 1 := by simp
 have hst : l'.length ≤ 1048576 := by
  have := hb.1
  rw [h3, List.length_reverse, List.length_map, hlen] at this
  omega
 rw [hlen] at hs
 have hw : w6 (((l'.length + 1 : Nat) : Int) - 1) = (l'.length : Int) := wd (by omega)
 obtain ⟨gg, hr⟩ := p3_0 (E := E) u gen (l'.length + 1) xs t0 b s (x1 := l'.length) (x2 := p.1) (by rw [hw]; exact ix_self _) q1 (by rw [hw]; exact decide_eq_true ⟨Int.natCast_nonneg _, by omega, q3⟩) h4
 rw [x3_eq]
 refine wpIn_seq (code_step r20B_c r20B_n hr hs (fun e a' w' g' hx hE hS => ?_))
 rw [exitR_norm hx]
 show Code.wpIn _ _ _ _ _ _ _
 refine wpIn_seq (wpIn_label ?_)
 show Code.wpIn _ _ _ _ _ _ _
 have hS : SR prog (Go.Vs.Good prog) (gl14 E) en ⟨fr 147 gg (rdL gen (Int.toNat (w6 (((l'.length + 1 : Nat) : Int) - 1))) b (s.extract (Int.toNat 1) (Int.toNat (s.size : Int)))), stH gen xs ((eEn p.1).map .p)⟩ g' a' w' := hS
 rw [hw, Int.toNat_natCast] at hS
 obtain ⟨g2, f1, f2, f3⟩ := freeze (x := p.1) (ks := p.2) hS (he.trans hE) (h2.ext hE hs.c.hr.spr)
 exact hJ a' w' ⟨l', gg, gen, xs, g2, f1, f2, q2, f3, h5⟩
end
set_option maxHeartbeats 4000000
theorem ap40 {n k : Nat} (h : n ≤ 1048576) (hk : n ≤ k) : apOk n 1 k 40 = true := decide_eq_true ⟨hk, by unfold limit47; omega, by unfold limit47; omega⟩
theorem slot_b {E : Er} {en : Nat} {g : G} {a : Act} {w : World} {f : List AV} {h : List AB} {i : Nat} {c : Bool} (hs : SR prog (Go.Vs.Good prog) (gl14 E) en ⟨f, h⟩ g a w) (hf : getT f i = vb c) : a.eval (.tmp i) = .bool c := by
 have := hs.c.opd (.tmp i)
 have e : (Vs.opd (.tmp i)).ev f (gl14 E) = vb c := hf
 rw [e] at this
 simpa only [VR, PR] using this
section
variable {E : Er} {en : Nat} {g0 : G} {w0 : World} {rdd : Option Nat} {J : Nat → Act → World → Prop} {Q : Exit → Act → World → Prop} {r : TreeD × Int} {st : List TreeD} {t : TreeD} {b : Bool} {s : ByteArray} {a : Act} {w : World}
theorem go1_nil (hQ : ∀ r a' w', r = (if (s.toList == b0.toList) = true then (if b = true then (zT, (3 : Int)) else (t, 0)) else (zT, 240)) → Fin E en g0 w0 r a' w' → Q .ret a' w') (hJ : (s.toList == b0.toList) = false → ∀ a' w', RS E en g0 w0 [] t b s a' w' → J 0 a' w') (hs : RS E en g0 w0 [] t b s a w) : x1B.wpIn (FW rdd) 0 prog (Exit.jumpS scB J Q) a w := by
 obtain ⟨l, u, gen, xs, g, hs, he, h1, h2, h3⟩ := hs
 have hl : l = [] := by
  cases l with
  | nil => rfl
  | cons p l => simp at h3
 subst hl
 rw [x1_eq]
 obtain ⟨gg, hr⟩ := p21_0 (E := E) u gen 0 xs t b s
 refine wpIn_seq (wpIn_seq (code_step r21B_c r21B_n hr hs (fun e a' w' g' hx hE hS => ?_)))
 rw [exitR_norm hx]
 show Code.wpIn _ _ _ _ _ _ _
 refine wpIn_cond_false (slot_b (c := false) hS rfl) (wpIn_skip ?_)
 show Code.wpIn _ _ _ _ _ _ _
 have hS : SR prog (Go.Vs.Good prog) (gl14 E) en ⟨fr 147 (ovr gg [(114, vb false)]) (rdL gen 0 b s), stH gen xs ((cT t).map .p)⟩ g' a' w' := hS
 cases hc : (s.toList == b0.toList) with
 | false =>
  obtain ⟨g2, hr2⟩ := b1_0 (E := E) (ovr gg [(114, vb false)]) gen 0 xs t b s (by rw [hc]; rfl)
  refine wpIn_seq (code_step b1B_c b1B_n hr2 hS (fun e a2 w2 gg2 hx2 hE2 hS2 => ?_))
  rw [gotoR (l := 0) hx2 (by omega)]
  show Exit.jumpS scB J Q (.goto 0) a2 w2
  exact jq (Q := Q) fl0 (hJ hc a2 w2 ⟨[], g2, gen, xs, gg2, hS2, (he.trans hE).trans hE2, h1, (h2.ext hE hs.c.hr.spr).ext hE2 hS.c.hr.spr, rfl⟩)
 | true =>
  cases hb : b with
  | true =>
   subst hb
   obtain ⟨g2, hr2⟩ := b1_1 (E := E) (ovr gg [(114, vb false)]) gen 0 xs t true s (by rw [hc]; rfl) rfl
   refine wpIn_seq (code_step b1B_c b1B_n hr2 hS (fun e a2 w2 gg2 hx2 hE2 hS2 => ?_))
   rw [exitR_ret hx2]
   refine hQ (zT, 3) a2 w2 (by rw [hc]; rfl) ⟨ovr g2 [(4, .sl 1 gen 3 0 0), (5, .ptr 2 0), (6, vb true), (7, vs s)], _, gg2, nil_r hS2, (he.trans hE).trans hE2⟩
  | false =>
   subst hb
   obtain ⟨g2, hr2⟩ := b1_2 (E := E) (ovr gg [(114, vb false)]) gen 0 xs t false s (by rw [hc]; rfl) rfl
   refine wpIn_seq (code_step b1B_c b1B_n hr2 hS (fun e a2 w2 gg2 hx2 hE2 hS2 => ?_))
   rw [exitR_norm hx2]
   show Code.wpIn _ _ _ _ _ _ _
   obtain ⟨g3, hr3⟩ := p30_0 (E := E) g2 gen 0 xs t false s
   refine wpIn_seq (code_step r30B_c r30B_n hr3 hS2 (fun e a3 w3 gg3 hx3 hE3 hS3 => ?_))
   rw [exitR_ret hx3]
   exact hQ (t, 0) a3 w3 (by rw [hc]; rfl) ⟨g3, _, gg3, hS3, ((he.trans hE).trans hE2).trans hE3⟩
theorem go1_cons {x : TreeD} (hN0 : g0.N = 0) (hb : Bd 1 (x :: st) s)
  (h2J : F43_3 s = some true → sl_ok 1 (s.size : Int) s.size = true → ∀ a' w', RS E en g0 w0 (.mk x.prod x.byte (x.kids ++ [t]) :: st) t b (s.extract (Int.toNat 1) (Int.toNat (s.size : Int))) a' w' → J 2 a' w')
  (h3J : F43_3 s = some false → F43_2 s = some true → ∀ a' w', RS E en g0 w0 (.mk x.prod x.byte (x.kids ++ [t]) :: st) t b s a' w' → J 3 a' w')
  (h0J : F43_3 s = some false → F43_2 s = some false → ∀ a' w', RS E en g0 w0 (.mk x.prod x.byte (x.kids ++ [t]) :: st) t b s a' w' → J 0 a' w')
  (hk : ∃ sp, F43_3 s = some sp ∧ (sp = true → sl_ok 1 (s.size : Int) s.size = true) ∧ (sp = false → ∃ cl, F43_2 s = some cl)) (hs : RS E en g0 w0 (x :: st) t b s a w) : x1B.wpIn (FW rdd) 0 prog (Exit.jumpS scB J Q) a w := by
 obtain ⟨l, u, gen, xs, g, hs, he, h1, h2, h3⟩ := hs
 obtain ⟨l', p, rfl, rfl, h5⟩ := rev_cons h3
 obtain ⟨q1, q2, q3⟩ := take_get h1
 have hlen : (l' ++ [p]).length = l'.length + 1 := by simp
 have hst : l'.length ≤ 1048576 := by
  have := hb.1
  rw [h3, List.length_reverse, List.length_map, hlen] at this
  omega
 have hkn : p.2.length ≤ 1048575 := by
  have := hb.2 _ (List.mem_cons_self ..)
  simp only [TreeD.kids, if_true] at this
  omega
 rw [hlen] at hs
 have hw : w6 (((l'.length + 1 : Nat) : Int) - 1) = (l'.length : Int) := wd (by omega)
 rw [x1_eq]
 obtain ⟨gg, hr⟩ := p21_0 (E := E) u gen (l'.length + 1) xs t b s
 refine wpIn_seq (wpIn_seq (code_step r21B_c r21B_n hr hs (fun e a' w' g' hx hE hS => ?_)))
 rw [exitR_norm hx]
 show Code.wpIn _ _ _ _ _ _ _
 have h114 : decide (((l'.length + 1 : Nat) : Int) > 0) = true := decide_eq_true (by omega)
 rw [h114] at hS
 refine wpIn_cond_true (slot_b (c := true) hS rfl) ?_
 have hS : SR prog (Go.Vs.Good prog) (gl14 E) en ⟨fr 147 (ovr gg [(114, vb true)]) (rdL gen (l'.length + 1) b s), stH gen xs ((cT t).map .p)⟩ g' a' w' := hS
 rw [d1_eq]
 obtain ⟨g2, hr2⟩ := p22_0 (E := E) (ovr gg [(114, vb true)]) gen (l'.length + 1) xs t b s (x1 := l'.length) (by rw [hw]; exact ix_self _)
 refine wpIn_seq (code_step r22B_c r22B_n hr2 hS (fun e a2 w2 gg2 hx2 hE2 hS2 => ?_))
 rw [exitR_norm hx2]
 show Code.wpIn _ _ _ _ _ _ _
 have hO2 := (h2.ext hE hs.c.hr.spr).ext hE2 hS.c.hr.spr
 obtain ⟨g3, s3, e3, o3⟩ := unpin (j := l'.length) (x := p.1) (ks := p.2) hS2 ((he.trans hE).trans hE2) hO2 q1
 obtain ⟨g4, hr4⟩ := r23_run (E := E) (u := g2) (gen := gen) (n := l'.length + 1) (j := l'.length) (m := p.2.length) (xs := xs) (t := t) (b := b) (s := s) (x := p.1) (ks := p.2) q1 rfl (ap40 (by omega) (Nat.le_refl _))
 refine wpIn_seq (code_step r23B_c r23B_n hr4 s3 (fun e a5 w5 gg5 hx5 hE5 hS5 => ?_))
 rw [exitR_norm hx5]
 show Code.wpIn _ _ _ _ _ _ _
 obtain ⟨g6, x', ep, eb, s6, e6, o6⟩ := pin (m1 := p.2.length + 1) (x := p.1) (ks := p.2 ++ [t]) (l := l') hS5 (e3.trans hE5) (o3.ext hE5 s3.c.hr.spr) q1 (by simp) (by omega) rfl (by omega)
 have htk : (xs.set l'.length x').take (l' ++ [(x', p.2 ++ [t])]).length = (l' ++ [(x', p.2 ++ [t])]).map (·.1) := by
  simp only [List.length_append, lcn, List.length_nil, List.map_append, mcs, List.map_nil]
  rw [← q2]
  apply List.ext_getElem?
  intro i
  rw [List.getElem?_take]
  by_cases hi : i < l'.length
  ·rw [if_pos (by omega), List.getElem?_set_ne (by omega), List.getElem?_append_left (by rw [List.length_take]; omega), List.getElem?_take, if_pos hi]
  ·by_cases hi2 : i = l'.length
   ·subst hi2
    rw [if_pos (by omega), List.getElem?_set_self (by omega), gar (by rw [List.length_take]; omega), List.length_take, Nat.min_eq_left (by omega), Nat.sub_self]
    rfl
   ·rw [if_neg (by omega), List.getElem?_eq_none (by simp [List.length_take]; omega)]
 have hst2 : (TreeD.mk p.1.prod p.1.byte (p.2 ++ [t]) :: st) = ((l' ++ [(x', p.2 ++ [t])]).map fun p => TreeD.mk p.1.prod p.1.byte p.2).reverse := by
  rw [h5]
  simp [ep, eb]
 have hl2 : l'.length + 1 = (l' ++ [(x', p.2 ++ [t])]).length := by simp
 obtain ⟨sp, k1, k2, k3⟩ := hk
 have fin : ∀ {lab : Nat} {s' : ByteArray} {g7 : Nat → AV} {a8 : Act} {w8 : World} {g8 : G}, Ext g6 w5 g8 w8 → SR prog (Go.Vs.Good prog) (gl14 E) en ⟨fr 147 g7 (rdL gen (l'.length + 1) b s'), stH gen (xs.set l'.length x') ((cT t).map .p)⟩ g8 a8 w8 → RS E en g0 w0 (TreeD.mk p.1.prod p.1.byte (p.2 ++ [t]) :: st) t b s' a8 w8 := by
  intro lab s' g7 a8 w8 g8 hE8 hS8
  refine ⟨l' ++ [(x', p.2 ++ [t])], g7, gen, xs.set l'.length x', g8, ?_, e6.trans hE8, htk, o6.ext hE8 s6.c.hr.spr, hst2⟩
  rw [← hl2]
  exact hS8
 cases sp with
 | true =>
  obtain ⟨g7, hr7⟩ := e1_0 (E := E) ug gen (l'.length + 1) (xs.set l'.length x') t b s k1 rfl (k2 rfl)
  refine wpIn_seq (code_step e1B_c e1B_n hr7 s6 (fun e a8 w8 g8 hx8 hE8 hS8 => ?_))
  rw [gotoR (l := 2) hx8 (by omega)]
  show Exit.jumpS scB J Q (.goto 2) a8 w8
  exact jq (Q := Q) fl2 (h2J k1 (k2 rfl) a8 w8 (fin (lab := 2) hE8 hS8))
 | false =>
  obtain ⟨cl, k4⟩ := k3 rfl
  cases cl with
  | true =>
   obtain ⟨g7, hr7⟩ := e1_2 (E := E) ug gen (l'.length + 1) (xs.set l'.length x') t b s k1 rfl k4 rfl
   refine wpIn_seq (code_step e1B_c e1B_n hr7 s6 (fun e a8 w8 g8 hx8 hE8 hS8 => ?_))
   rw [gotoR (l := 3) hx8 (by omega)]
   show Exit.jumpS scB J Q (.goto 3) a8 w8
   exact jq (Q := Q) fl3 (h3J k1 k4 a8 w8 (fin (lab := 3) hE8 hS8))
  | false =>
   obtain ⟨g7, hr7⟩ := e1_3 (E := E) ug gen (l'.length + 1) (xs.set l'.length x') t b s k1 rfl k4 rfl
   refine wpIn_seq (code_step e1B_c e1B_n hr7 s6 (fun e a8 w8 g8 hx8 hE8 hS8 => ?_))
   rw [exitR_norm hx8]
   show Code.wpIn _ _ _ _ _ _ _
   refine wpIn_goto ?_
   show Exit.jumpS scB J Q (.goto 0) a8 w8
   exact jq (Q := Q) fl0 (h0J k1 k4 a8 w8 (fin (lab := 0) hE8 hS8))
end
set_option maxHeartbeats 4000000
section
variable {E : Er} {en : Nat} {g0 : G} {w0 : World} {rdd : Option Nat} {J : Nat → Act → World → Prop} {Q : Exit → Act → World → Prop} {r : TreeD × Int} {st : List TreeD} {t : TreeD} {b : Bool} {s : ByteArray} {a : Act} {w : World} {k : Nat}
theorem splice_take {α : Type} (xs : List α) (n : Nat) (e : α) (h : n ≤ xs.length) : (splice xs n [e]).take (n + 1) = xs.take n ++ [e] := by
 have hl : (xs.take n ++ [e]).length = n + 1 := by simp; omega
 simp only [splice]
 rw [← hl, List.take_left]
theorem push_own {P0 : Nat → Prop} {g : G} {w : World} {l : List (En × List TreeD)} {v : Int} (h : Owns P0 g w l) : Owns P0 g w (l ++ [(enOf v 0 (.val (.slice none 0 0)), [])]) := by
 refine ⟨fun p hp => ?_, ?_⟩
 ·rcases List.mem_append.1 hp with hp | hp
  ·exact h.all p hp
  ·simp only [List.mem_cons, List.not_mem_nil, or_false] at hp
   subst hp
   exact .inl ⟨rfl, rfl, rfl, rfl⟩
 ·rw [List.filterMap_append]
  have : [(enOf v 0 (.val (.slice none 0 0)), ([] : List TreeD))].filterMap (fun p => blkE p.1) = [] := rfl
  rw [this, List.append_nil]
  exact h.nd
theorem go2 (hN0 : g0.N = 0) (hJ : ∀ lab st t b s a' w', rd E k lab st t b s = some r → Bd lab st s → RS E en g0 w0 st t b s a' w' → J lab a' w') (hr : rd E (k + 1) 2 st t b s = some r) (hb : Bd 2 st s) (hs : RS E en g0 w0 st t b s a w) :
  x2B.wpIn (FW rdd) 0 prog (Exit.jumpS scB J Q) a w := by
 have hs' := hs
 obtain ⟨l, u, gen, xs, g, hs, he, h1, h2, h3⟩ := hs
 have hstl : st.length = l.length := by rw [h3]; simp
 have hnl : l.length ≤ xs.length := by
  have := congrArg List.length h1
  rw [List.length_take, List.length_map] at this
  omega
 have hst : l.length ≤ 1048576 := by have := hb.1; omega
 have hb0 : ∀ t' : TreeD, Bd 0 st s := fun _ => ⟨hb.1, fun x hx => by have := hb.2 x hx; simpa using this⟩
 simp only [rd] at hr
 obtain ⟨r1, e1, hr⟩ := bei.1 hr
 obtain ⟨x, ok⟩ := r1
 simp only at hr
 rw [x2_eq]
 cases hok : ok && decide ((x.size : Int) ≥ 2) with
 | true =>
  rw [hok] at hr
  simp only [cond_true] at hr
  simp only [Bool.and_eq_true] at hok
  obtain ⟨c0, e2, hr⟩ := bei.1 hr
  obtain ⟨a0, e3, hr⟩ := bei.1 hr
  obtain ⟨c1, e4, hr⟩ := bei.1 hr
  obtain ⟨a1, e5, hr⟩ := bei.1 hr
  have leave0 : ∀ (p : decide (a0 < 0) = true ∨ (decide (a0 < 0) = false ∧ decide (a1 < 0) = true)), rd E k 0 st t b s = some r → (Code.seq a2B (.seq b2B (.seq (.goto 0) y2B))).wpIn (FW rdd) 0 prog (Exit.jumpS scB J Q) a w := by
   intro p hr
   have q : ∃ g, run (envOf (prgR E) (ev (prgR E))) (ev (prgR E)) a2B_i ⟨fr 147 u (rdL gen l.length b s), stH gen xs ((cT t).map .p)⟩ = some ((.brk 1000000), ⟨fr 147 g (rdL gen l.length b s), stH gen xs ((cT t).map .p)⟩) := by
    rcases p with p | ⟨p1, p2⟩
    ·exact a2_0 (E := E) u gen l.length xs t b s e1 hok.1 hok.2 e2 e3 e4 e5 p
    ·exact a2_1 (E := E) u gen l.length xs t b s e1 hok.1 hok.2 e2 e3 e4 e5 p1 p2
   obtain ⟨gg, hr2⟩ := q
   refine wpIn_seq (code_step a2B_c a2B_n hr2 hs (fun e a' w' g' hx hE hS => ?_))
   rw [gotoR (l := 0) hx (by omega)]
   show Exit.jumpS scB J Q (.goto 0) a' w'
   exact jq (Q := Q) fl0 (hJ 0 st t b s a' w' hr (hb0 t) ⟨l, gg, gen, xs, g', hS, he.trans hE, h1, h2.ext hE hs.c.hr.spr, h3⟩)
  cases p0 : decide (a0 < 0) with
  | true =>
   rw [p0] at hr
   exact leave0 (.inl p0) hr
  | false =>
   cases p1 : decide (a1 < 0) with
   | true =>
    rw [p0, p1] at hr
    exact leave0 (.inr ⟨p0, p1⟩) hr
   | false =>
    rw [p0, p1] at hr
    simp only [Bool.or_false, cond_false] at hr
    cases hsl : sl_ok 2 (x.size : Int) x.size && decide (x.size ≤ s.size) with
    | false => rw [hsl] at hr; cases hr
    | true =>
     rw [hsl] at hr
     simp only [cond_true] at hr
     simp only [Bool.and_eq_true] at hsl
     have hx2 : 2 ≤ x.size := by have := of_decide_eq_true hok.2; omega
     have hxs := of_decide_eq_true hsl.2
     have hex : (x.extract (Int.toNat 2) (Int.toNat (x.size : Int))).size = x.size - 2 := ex_size x 2 hx2
     have q : ∃ g, run (envOf (prgR E) (ev (prgR E))) (ev (prgR E)) a2B_i ⟨fr 147 u (rdL gen l.length b s), stH gen xs ((cT t).map .p)⟩ = some ((.brk 1000001), ⟨fr 147 g (rdL gen l.length (b || decide ((l.length : Int) ≥ 16384)) (x.extract (Int.toNat 2) (Int.toNat (x.size : Int)))), stH gen xs [i6 (-1), vi .u8 (hexB a0 a1), n0]⟩) := by
      cases hb' : b with
      | true => exact a2_2 (E := E) u gen l.length xs t true s e1 hok.1 hok.2 e2 e3 e4 e5 p0 p1 hsl.1 rfl
      | false =>
       cases hd : decide ((l.length : Int) ≥ 16384) with
       | true => exact a2_3 (E := E) u gen l.length xs t false s e1 hok.1 hok.2 e2 e3 e4 e5 p0 p1 hsl.1 rfl hd
       | false => exact a2_4 (E := E) u gen l.length xs t false s e1 hok.1 hok.2 e2 e3 e4 e5 p0 p1 hsl.1 rfl hd
     obtain ⟨gg, hr2⟩ := q
     refine wpIn_seq (code_step a2B_c a2B_n hr2 hs (fun e a' w' g' hx hE hS => ?_))
     rw [gotoR (l := 1) hx (by omega)]
     show Exit.jumpS scB J Q (.goto 1) a' w'
     rw [hstl] at hr
     refine jq (Q := Q) fl1 (hJ 1 st _ _ _ a' w' hr ⟨by rw [hex]; have := hb.1; omega, fun y hy => ?_⟩ ⟨l, gg, gen, xs, g', nil_t hS, he.trans hE, h1, h2.ext hE hs.c.hr.spr, h3⟩)
     have := hb.2 y hy
     rw [hex]
     simp only [if_true, show ¬ (2 = 1) by omega, if_false] at this ⊢
     omega
 | false =>
  rw [hok] at hr
  simp only [cond_false] at hr
  obtain ⟨r2, e2, hr⟩ := bei.1 hr
  obtain ⟨d, q, ok2⟩ := r2
  simp only at hr
  have qa : ∃ g, run (envOf (prgR E) (ev (prgR E))) (ev (prgR E)) a2B_i ⟨fr 147 u (rdL gen l.length b s), stH gen xs ((cT t).map .p)⟩ = some (.norm, ⟨fr 147 g (rdL gen l.length b s), stH gen xs ((cT t).map .p)⟩) := by
   cases hk : ok with
   | false => subst hk; exact a2_7 (E := E) u gen l.length xs t b s e1 rfl
   | true =>
    subst hk
    exact a2_6 (E := E) u gen l.length xs t b s e1 rfl (by simpa using hok)
  obtain ⟨gg, hra⟩ := qa
  refine wpIn_seq (code_step a2B_c a2B_n hra hs (fun e a' w' g' hx hE hS => ?_))
  rw [exitR_norm hx]
  show Code.wpIn _ _ _ _ _ _ _
  have hO := h2.ext hE hs.c.hr.spr
  have leave0 : (∃ g, run (envOf (prgR E) (ev (prgR E))) (ev (prgR E)) b2B_i ⟨fr 147 gg (rdL gen l.length b s), stH gen xs ((cT t).map .p)⟩ = some ((.brk 1000000), ⟨fr 147 g (rdL gen l.length b s), stH gen xs ((cT t).map .p)⟩)) → rd E k 0 st t b s = some r → (Code.seq b2B (.seq (.goto 0) y2B)).wpIn (FW rdd) 0 prog (Exit.jumpS scB J Q) a' w' := by
   rintro ⟨g3, hr3⟩ hr
   refine wpIn_seq (code_step b2B_c b2B_n hr3 hS (fun e a2 w2 g2 hx2 hE2 hS2 => ?_))
   rw [gotoR (l := 0) hx2 (by omega)]
   show Exit.jumpS scB J Q (.goto 0) a2 w2
   exact jq (Q := Q) fl0 (hJ 0 st t b s a2 w2 hr (hb0 t) ⟨l, g3, gen, xs, g2, hS2, (he.trans hE).trans hE2, h1, hO.ext hE2 hS.c.hr.spr, h3⟩)
  cases hk2 : ok2 with
  | false =>
   subst hk2
   simp only [cond_false] at hr
   obtain ⟨g3, hr3⟩ := b2_16 (E := E) gg gen l.length xs t b s e2 rfl
   refine wpIn_seq (code_step b2B_c b2B_n hr3 hS (fun e a2 w2 g2 hx2 hE2 hS2 => ?_))
   rw [exitR_norm hx2]
   show Code.wpIn _ _ _ _ _ _ _
   refine wpIn_seq (wpIn_goto ?_)
   show Exit.jumpS scB J Q (.goto 0) a2 w2
   exact jq (Q := Q) fl0 (hJ 0 st t b s a2 w2 hr (hb0 t) ⟨l, g3, gen, xs, g2, hS2, (he.trans hE).trans hE2, h1, hO.ext hE2 hS.c.hr.spr, h3⟩)
  | true =>
   subst hk2
   simp only [cond_true] at hr
   obtain ⟨v, e3, hr⟩ := bei.1 hr
   cases v with
   | k1 v =>
    exact leave0 (b2_15 (E := E) gg gen l.length xs t b s e2 rfl e3) hr
   | k0 v =>
    simp only at hr
    obtain ⟨y, e4, hr⟩ := bei.1 hr
    cases p0 : !(y.toList == d.toList) with
    | true =>
     rw [p0] at hr
     exact leave0 (b2_0 (E := E) gg gen l.length xs t b s e2 rfl e3 e4 p0) hr
    | false =>
     cases p1 : decide (v < 0) with
     | true =>
      rw [p0, p1] at hr
      exact leave0 (b2_1 (E := E) gg gen l.length xs t b s e2 rfl e3 e4 p0 p1) hr
     | false =>
      rw [p0, p1] at hr
      simp only [Bool.or_false, cond_false] at hr
      cases hsz : decide (q.size < s.size) with
      | false => rw [hsz] at hr; cases hr
      | true =>
       rw [hsz] at hr
       simp only [cond_true] at hr
       have hsz := of_decide_eq_true hsz
       obtain ⟨cl, e5, hr⟩ := bei.1 hr
       have hap := ap40 hst hnl
       obtain ⟨b', hb'⟩ : ∃ b', b' = (b || decide (((l.length + 1 : Nat) : Int) > 16384)) := ⟨_, rfl⟩
       rw [hstl, ← hb'] at hr
       have qb : ∃ g gen' xs' hh, xs'.take (l.length + 1) = xs.take l.length ++ [enOf v 0 (.val (.slice none 0 0))] ∧ run (envOf (prgR E) (ev (prgR E))) (ev (prgR E)) b2B_i ⟨fr 147 gg (rdL gen l.length b s), stH gen xs ((cT t).map .p)⟩ =
         some ((.brk (1000000 + (match cl with | true => 3 | false => 2))), ⟨fr 147 g (rdL gen' (l.length + 1) b' q), stH gen' xs' ((cT t).map .p) ++ hh⟩) := by
        cases hin : decide (l.length + 1 ≤ xs.length) with
        | true =>
         have htk := splice_take xs l.length (enOf v 0 (.val (.slice none 0 0))) hnl
         rw [hb']
         cases hbb : b with
         | true =>
          cases cl with
          | true => obtain ⟨g3, q3⟩ := b2_2 (E := E) gg gen l.length xs t true s e2 rfl e3 e4 p0 p1 hap hin rfl e5 rfl; exact ⟨g3, _, _, _, htk, q3⟩
          | false => obtain ⟨g3, q3⟩ := b2_3 (E := E) gg gen l.length xs t true s e2 rfl e3 e4 p0 p1 hap hin rfl e5 rfl; exact ⟨g3, _, _, _, htk, q3⟩
         | false =>
          cases hd : decide (((l.length + 1 : Nat) : Int) > 16384) with
          | true =>
           cases cl with
           | true => obtain ⟨g3, q3⟩ := b2_4 (E := E) gg gen l.length xs t false s e2 rfl e3 e4 p0 p1 hap hin rfl hd e5 rfl; exact ⟨g3, _, _, _, htk, q3⟩
           | false => obtain ⟨g3, q3⟩ := b2_5 (E := E) gg gen l.length xs t false s e2 rfl e3 e4 p0 p1 hap hin rfl hd e5 rfl; exact ⟨g3, _, _, _, htk, q3⟩
          | false =>
           cases cl with
           | true => obtain ⟨g3, q3⟩ := b2_6 (E := E) gg gen l.length xs t false s e2 rfl e3 e4 p0 p1 hap hin rfl hd e5 rfl; exact ⟨g3, _, _, _, htk, q3⟩
           | false => obtain ⟨g3, q3⟩ := b2_7 (E := E) gg gen l.length xs t false s e2 rfl e3 e4 p0 p1 hap hin rfl hd e5 rfl; exact ⟨g3, _, _, _, htk, q3⟩
        | false =>
         have htk : (xs.take l.length ++ [enOf v 0 (.val (.slice none 0 0))]).take (l.length + 1) = xs.take l.length ++ [enOf v 0 (.val (.slice none 0 0))] := List.take_of_length_le (by simp; omega)
         rw [hb']
         cases hbb : b with
         | true =>
          cases cl with
          | true => obtain ⟨g3, q3⟩ := b2_8 (E := E) gg gen l.length xs t true s e2 rfl e3 e4 p0 p1 hap hin rfl e5 rfl; exact ⟨g3, _, _, _, htk, q3⟩
          | false => obtain ⟨g3, q3⟩ := b2_9 (E := E) gg gen l.length xs t true s e2 rfl e3 e4 p0 p1 hap hin rfl e5 rfl; exact ⟨g3, _, _, _, htk, q3⟩
         | false =>
          cases hd : decide (((l.length + 1 : Nat) : Int) > 16384) with
          | true =>
           cases cl with
           | true => obtain ⟨g3, q3⟩ := b2_10 (E := E) gg gen l.length xs t false s e2 rfl e3 e4 p0 p1 hap hin rfl hd e5 rfl; exact ⟨g3, _, _, _, htk, q3⟩
           | false => obtain ⟨g3, q3⟩ := b2_11 (E := E) gg gen l.length xs t false s e2 rfl e3 e4 p0 p1 hap hin rfl hd e5 rfl; exact ⟨g3, _, _, _, htk, q3⟩
          | false =>
           cases cl with
           | true => obtain ⟨g3, q3⟩ := b2_12 (E := E) gg gen l.length xs t false s e2 rfl e3 e4 p0 p1 hap hin rfl hd e5 rfl; exact ⟨g3, _, _, _, htk, q3⟩
           | false => obtain ⟨g3, q3⟩ := b2_13 (E := E) gg gen l.length xs t false s e2 rfl e3 e4 p0 p1 hap hin rfl hd e5 rfl; exact ⟨g3, _, _, _, htk, q3⟩
       obtain ⟨g3, gen', xs', hh, htk, hr3⟩ := qb
       refine wpIn_seq (code_step b2B_c b2B_n hr3 hS (fun e a2 w2 g2 hx2 hE2 hS2 => ?_))
       obtain ⟨g4, s4, e4', o4⟩ := drop3 hS2 ((he.trans hE).trans hE2) (push_own (v := v) (hO.ext hE2 hS.c.hr.spr)) rfl (by omega)
       have hbd : ∀ lab, (lab = 2 ∨ lab = 3) → Bd lab (.mk v 0 [] :: st) q := by
        intro lab hl
        refine ⟨by have := hb.1; simp only [lcn]; omega, fun y hy => ?_⟩
        have hne : ¬ lab = 1 := by omega
        rw [if_neg hne]
        rcases List.mem_cons.1 hy with rfl | hy
        ·simp only [TreeD.kids, List.length_nil]; have := hb.1; omega
        ·have := hb.2 y hy
         rw [if_neg (by omega)] at this
         omega
       have hRS : RS E en g0 w0 (.mk v 0 [] :: st) t b' q a2 w2 := by
        refine ⟨l ++ [(enOf v 0 (.val (.slice none 0 0)), [])], ug, gen', xs', g4, ?_, e4', ?_, o4, ?_⟩
        ·rw [show (l ++ [(enOf v 0 (.val (.slice none 0 0)), ([] : List TreeD))]).length = l.length + 1 by simp]
         exact s4
        ·rw [show (l ++ [(enOf v 0 (.val (.slice none 0 0)), ([] : List TreeD))]).length = l.length + 1 by simp, htk, h1]
         simp
        ·rw [h3]
         simp [enOf]
       cases cl with
       | true =>
        rw [gotoR (l := 3) hx2 (by omega)]
        show Exit.jumpS scB J Q (.goto 3) a2 w2
        exact jq (Q := Q) fl3 (hJ 3 _ t b' q a2 w2 hr (hbd 3 (.inr rfl)) hRS)
       | false =>
        rw [gotoR (l := 2) hx2 (by omega)]
        show Exit.jumpS scB J Q (.goto 2) a2 w2
        exact jq (Q := Q) fl2 (hJ 2 _ t b' q a2 w2 hr (hbd 2 (.inl rfl)) hRS)
theorem rd_ok (hN0 : g0.N = 0) (hQ : ∀ a' w', Fin E en g0 w0 r a' w' → Q .ret a' w') : ∀ (k lab : Nat) (st : List TreeD) (t : TreeD) (b : Bool) (s : ByteArray) (a : Act) (w : World), rd E k lab st t b s = some r → Bd lab st s → RS E en g0 w0 st t b s a w → JRs (FW rdd) prog scB Q k lab a w
 | 0, lab, st, t, b, s, a, w, h, _, _ => by simp [rd] at h
 | k + 1, lab, st, t, b, s, a, w, h, hb, hs => by
  have ih := rd_ok hN0 hQ k
  match lab, st, h, hb, hs with
  | 0, st, h, hb, hs =>
   simp only [rd, oiq] at h
   subst h
   exact ⟨x0B, fl0, go0 hQ hs⟩
  | 1, [], h, hb, hs =>
   simp only [rd] at h
   refine ⟨x1B, fl1, go1_nil (fun r' a' w' hr' hf => ?_) (fun hc a' w' hR => ?_) hs⟩
   ·refine hQ a' w' ?_
    have : r' = r := by
     rw [hr']
     cases hc : (s.toList == b0.toList) with
     | false =>
      rw [hc] at h
      simp only [Bool.not_false, cond_true] at h
      cases k with
      | zero => simp [rd] at h
      | succ k => simp only [rd, oiq] at h; rw [← h]; simp
     | true =>
      rw [hc] at h
      simp only [Bool.not_true, cond_false] at h
      cases b <;> simp only [cond_true, cond_false, oiq] at h <;> rw [← h] <;> simp
    rw [← this]
    exact hf
   ·rw [hc] at h
    exact ih 0 [] t b s a' w' h ⟨hb.1, fun x hx => by simp at hx⟩ hR
  | 1, x :: st, h, hb, hs =>
   simp only [rd] at h
   obtain ⟨sp, e1, h⟩ := bei.1 h
   have hbk : ∀ lab s', ¬ lab = 1 → s'.size ≤ s.size → Bd lab (.mk x.prod x.byte (x.kids ++ [t]) :: st) s' := by
    intro lab s' hl hsz
    refine ⟨by have := hb.1; simp only [lcn] at this ⊢; omega, fun y hy => ?_⟩
    rw [if_neg hl]
    rcases List.mem_cons.1 hy with rfl | hy
    ·have := hb.2 x (List.mem_cons_self ..)
     simp only [if_true] at this
     have e : (TreeD.mk x.prod x.byte (x.kids ++ [t])).kids.length = x.kids.length + 1 := by simp [TreeD.kids]
     rw [e]
     omega
    ·have := hb.2 y (List.mem_cons_of_mem _ hy)
     simp only [if_true] at this
     omega
   refine ⟨x1B, fl1, go1_cons hN0 hb (fun k1 k2 a' w' hR => ?_) (fun k1 k2 a' w' hR => ?_) (fun k1 k2 a' w' hR => ?_) ⟨sp, e1, fun e => ?_, fun e => ?_⟩ hs⟩
   ·rw [k1] at e1
    simp only [oiq] at e1
    rw [← e1, k2] at h
    simp only [cond_true] at h
    exact ih 2 _ t b _ a' w' h (hbk 2 _ (by omega) (by rw [show Int.toNat 1 = Int.toNat ((1 : Nat) : Int) from rfl, ex_size s 1 (by have := of_decide_eq_true k2; omega)]; omega)) hR
   ·rw [k1] at e1
    simp only [oiq] at e1
    rw [← e1, k2] at h
    exact ih 3 _ t b s a' w' h (hbk 3 s (by omega) (Nat.le_refl _)) hR
   ·rw [k1] at e1
    simp only [oiq] at e1
    rw [← e1, k2] at h
    exact ih 0 _ t b s a' w' h (hbk 0 s (by omega) (Nat.le_refl _)) hR
   ·rw [e] at h
    simp only [cond_true] at h
    cases hs1 : sl_ok 1 (s.size : Int) s.size with
    | true => rfl
    | false => rw [hs1] at h; cases h
   ·rw [e] at h
    simp only [cond_false] at h
    obtain ⟨cl, e2, _⟩ := bei.1 h
    exact ⟨cl, e2⟩
  | 2, st, h, hb, hs => exact ⟨x2B, fl2, go2 hN0 ih h hb hs⟩
  | 3, x :: st, h, hb, hs =>
   simp only [rd] at h
   cases h4 : sl_ok 1 (s.size : Int) s.size with
   | false => rw [h4] at h; cases h
   | true =>
    rw [h4] at h
    simp only [cond_true] at h
    refine ⟨x3B, fl3, go3 (t0 := t) (fun a' w' hR => ?_) hb h4 hs⟩
    have hsz : (s.extract (Int.toNat 1) (Int.toNat (s.size : Int))).size = s.size - 1 := ex_size s 1 (by have := of_decide_eq_true h4; omega)
    have h1s : 1 ≤ s.size := by have := of_decide_eq_true h4; omega
    have hj := ih 1 st x b _ a' w' h ⟨by rw [hsz]; have := hb.1; simp only [lcn] at this; omega, fun y hy => by
     rw [hsz, if_pos rfl]
     have := hb.2 y (List.mem_cons_of_mem _ hy)
     rw [if_neg (by omega)] at this
     omega⟩ hR
    cases k with
    | zero => exact hj.elim
    | succ k =>
     obtain ⟨rest, hf, hj⟩ := hj
     rw [fl1] at hf
     simp only [oiq, Code.seq.injEq, true_and] at hf
     subst hf
     exact wpIn_mono hj (jumpS_mono (JRs_succ k))
  | 3, [], h, hb, hs => simp [rd] at h
  | n + 4, st, h, hb, hs => simp [rd] at h
end
set_option maxHeartbeats 4000000
def r0B_i : IC :=
 (.ops [⟨(.some 2), (.alloc 25 [(.z (.val (.int .i64 0))), (.z (.val (.int .u8 0))), (.z (.val (.slice .none 0 0)))]), .none⟩, ⟨(.some 3), (.mv (.c (.p (.val (.int .i64 0))))), .none⟩])
theorem r0B_c : (compC prog (shOf sh [2, 5]) r0B []).1 = r0B_i := by kernel_rfl
theorem r0B_n : noR r0B = true := by kernel_rfl
def c1B_i : IC :=
 (.seq (.ops [⟨(.some 18), (.mv (.t 0)), .none⟩, ⟨(.some 19), (.lenS (.t 18)), .none⟩, ⟨(.some 20), (.bin .gtr (.t 19) (.c (.p (.val (.int .i64 1048576))))), .none⟩]) (.cond (.t 20) (.seq (.ops [⟨(.some 21), (.build [(.val (.int .i64 0)), (.val (.int .u8 0)), (.val (.slice .none 0 0))] []), .none⟩, ⟨.none, (.store 3 (.t 2) (.t 21)), .none⟩, ⟨(.some 3), (.mv (.c (.p (.val (.int .i64 3))))), .none⟩]) .ret) .skip))
theorem c1B_c : (compC prog (shOf sh [2, 5]) c1B []).1 = c1B_i := by kernel_rfl
theorem c1B_n : noR c1B = true := by kernel_rfl
def r3B_i : IC :=
 (.ops [⟨(.some 4), (.nilrow 25 3), .none⟩])
theorem r3B_c : (compC prog (shOf sh [2, 5]) r3B []).1 = r3B_i := by kernel_rfl
theorem r3B_n : noR r3B = true := by kernel_rfl
def r4B_i : IC :=
 (.ops [⟨(.some 5), (.alloc 25 [(.z (.val (.int .i64 0))), (.z (.val (.int .u8 0))), (.z (.val (.slice .none 0 0)))]), .none⟩])
theorem r4B_c : (compC prog (shOf sh [2, 5]) r4B []).1 = r4B_i := by kernel_rfl
theorem r4B_n : noR r4B = true := by kernel_rfl
def r5B_i : IC :=
 (.ops [⟨(.some 6), (.mv (.c (.p (.val (.bool .false))))), .none⟩])
theorem r5B_c : (compC prog (shOf sh [2, 5]) r5B []).1 = r5B_i := by kernel_rfl
theorem r5B_n : noR r5B = true := by kernel_rfl
def r6B_i : IC :=
 (.ops [⟨(.some 22), (.mv (.t 0)), .none⟩, ⟨(.some 7), (.mv (.t 22)), .none⟩])
theorem r6B_c : (compC prog (shOf sh [2, 5]) r6B []).1 = r6B_i := by kernel_rfl
theorem r6B_n : noR r6B = true := by kernel_rfl
theorem f12_eq : f12.body = some (.seq r0B (.scope scB)) := by kernel_rfl
theorem sc_eq : scB = .seq c1B (.seq r3B (.seq r4B (.seq r5B (.seq r6B (.seq (.label 2) x2B))))) := by kernel_rfl
theorem f12_res : compRes prog f12.results.toList = some [.cell 2 true 3, .tmp 3] := by kernel_rfl
noncomputable def readF (E : Er) (s : ByteArray) : Option (TreeD × Int) := bif decide ((s.size : Int) > 1048576) then some (zT, 3) else rd E (4 * s.size + 8) 2 [] zT false s
section
variable {E : Er} {s : ByteArray}
theorem r0_run : ∃ g, run (envOf (prgR E) (ev (prgR E))) (ev (prgR E)) r0B_i ⟨[vs s] ++ List.replicate 146 ud, []⟩ = some (.norm, ⟨fr 147 g [(0, vs s), (2, .ptr 0 0), (3, i6 0)], [zt]⟩) := by
 exact exP (n := 30) [] apn (by kernel_rfl)
theorem c1_ret {u : Nat → AV} (h : decide ((s.size : Int) > 1048576) = true) : ∃ g, run (envOf (prgR E) (ev (prgR E))) (ev (prgR E)) c1B_i ⟨fr 147 u [(0, vs s), (2, .ptr 0 0), (3, i6 0)], [zt]⟩ = some (.ret, ⟨fr 147 g [(2, .ptr 0 0), (3, i6 3)], [zt]⟩) := by
 exact exP (n := 30) [(20, .d true)] (apc (cv h) apn) (by kernel_rfl)
theorem c1_go {u : Nat → AV} (h : decide ((s.size : Int) > 1048576) = false) : ∃ g, run (envOf (prgR E) (ev (prgR E))) (ev (prgR E)) c1B_i ⟨fr 147 u [(0, vs s), (2, .ptr 0 0), (3, i6 0)], [zt]⟩ = some (.norm, ⟨fr 147 g [(0, vs s), (2, .ptr 0 0), (3, i6 0)], [zt]⟩) := by
 exact exP (n := 30) [(20, .d false)] (apc (cv h) apn) (by kernel_rfl)
theorem r3_run {u : Nat → AV} : ∃ g, run (envOf (prgR E) (ev (prgR E))) (ev (prgR E)) r3B_i ⟨fr 147 u [(0, vs s), (2, .ptr 0 0), (3, i6 0)], [zt]⟩ = some (.norm, ⟨fr 147 g [(0, vs s), (2, .ptr 0 0), (3, i6 0), (4, .sl 1 0 3 0 0)], [zt, .row 25 3 0 []]⟩) := by
 exact exP (n := 30) [] apn (by kernel_rfl)
theorem r4_run {u : Nat → AV} : ∃ g, run (envOf (prgR E) (ev (prgR E))) (ev (prgR E)) r4B_i ⟨fr 147 u [(0, vs s), (2, .ptr 0 0), (3, i6 0), (4, .sl 1 0 3 0 0)], [zt, .row 25 3 0 []]⟩ = some (.norm, ⟨fr 147 g [(0, vs s), (2, .ptr 0 0), (3, i6 0), (4, .sl 1 0 3 0 0), (5, .ptr 2 0)], [zt, .row 25 3 0 [], zt]⟩) := by
 exact exP (n := 30) [] apn (by kernel_rfl)
theorem r5_run {u : Nat → AV} : ∃ g, run (envOf (prgR E) (ev (prgR E))) (ev (prgR E)) r5B_i ⟨fr 147 u [(0, vs s), (2, .ptr 0 0), (3, i6 0), (4, .sl 1 0 3 0 0), (5, .ptr 2 0)], [zt, .row 25 3 0 [], zt]⟩ = some (.norm, ⟨fr 147 g [(0, vs s), (2, .ptr 0 0), (3, i6 0), (4, .sl 1 0 3 0 0), (5, .ptr 2 0), (6, vb false)], [zt, .row 25 3 0 [], zt]⟩) := by
 exact exP (n := 30) [] apn (by kernel_rfl)
theorem r6_run {u : Nat → AV} : ∃ g, run (envOf (prgR E) (ev (prgR E))) (ev (prgR E)) r6B_i ⟨fr 147 u [(0, vs s), (2, .ptr 0 0), (3, i6 0), (4, .sl 1 0 3 0 0), (5, .ptr 2 0), (6, vb false)], [zt, .row 25 3 0 [], zt]⟩ = some (.norm, ⟨fr 147 g (rdL 0 0 false s), [zt, .row 25 3 0 [], zt]⟩) := by
 exact exP (n := 30) [] apn (by kernel_rfl)
theorem read_call {r : TreeD × Int} (h : readF E s = some r) : CallR prog (Go.Vs.Good prog) (gl14 E) 12 [vs s] [] (.tup [.agg ((cT r.1).map .p), i6 r.2]) [] := by
 refine callR_end (fd := f12) (c := .seq r0B (.scope scB)) (rs := [.cell 2 true 3, .tmp 3]) (vs := [.agg ((cT r.1).map .p), i6 r.2]) func12 f12_eq (by kernel_rfl) f12_res rfl ?_
 intro g a w hN hs Q hQ
 have hfin : ∀ {g0 : G} {w0 : World} (e0 : Ext g w g0 w0), ∀ (a' : Act) (w' : World), Fin E w.heap.size g0 w0 r a' w' → Q .ret a' w' := by
  rintro g0 w0 e0 a' w' ⟨u, h, g', hs', he'⟩
  exact hQ a' w' g' _ rfl (e0.trans he') hs'
 have hs : SR prog (Go.Vs.Good prog) (gl14 E) w.heap.size ⟨[vs s] ++ List.replicate 146 ud, []⟩ g a w := hs
 obtain ⟨u1, q1⟩ := r0_run (E := E) (s := s)
 refine wpIn_seq (code_step r0B_c r0B_n q1 hs (fun e1 a1 w1 g1 x1 he1 hs1 => ?_))
 rw [exitR_norm x1]
 show Code.wpIn _ _ _ _ _ _ _
 unfold readF at h
 cases hc : decide ((s.size : Int) > 1048576) with
 | true =>
  rw [hc] at h
  simp only [cond_true, oiq] at h
  subst h
  refine wpIn_scope_labs (m := 0) ?_
  rw [sc_eq]
  obtain ⟨u2, q2⟩ := c1_ret (E := E) (u := u1) hc
  refine wpIn_seq (code_step c1B_c c1B_n q2 hs1 (fun e2 a2 w2 g2 x2 he2 hs2 => ?_))
  rw [exitR_ret x2]
  exact hfin (Ext.refl g w) a2 w2 ⟨u2, _, g2, nil_r hs2, he1.trans he2⟩
 | false =>
  rw [hc] at h
  simp only [cond_false] at h
  refine wpIn_scope_labs (m := 4 * s.size + 8) ?_
  have hsz : s.size ≤ 1048576 := by have := of_decide_eq_false hc; omega
  have key : ∀ J : Nat → Act → World → Prop, (∀ a' w' , RS E w.heap.size g w [] zT false s a' w' → x2B.wpIn (FW none) 0 prog (Exit.jumpS scB J Q) a' w') → scB.wpIn (FW none) 0 prog (Exit.jumpS scB J Q) a1 w1 := by
   intro J hJ
   conv => arg 4; rw [sc_eq]
   obtain ⟨u2, q2⟩ := c1_go (E := E) (u := u1) hc
   refine wpIn_seq (code_step c1B_c c1B_n q2 hs1 (fun e2 a2 w2 g2 x2 he2 hs2 => ?_))
   rw [exitR_norm x2]
   show Code.wpIn _ _ _ _ _ _ _
   obtain ⟨u3, q3⟩ := r3_run (E := E) (s := s) (u := u2)
   refine wpIn_seq (code_step r3B_c r3B_n q3 hs2 (fun e3 a3 w3 g3 x3 he3 hs3 => ?_))
   rw [exitR_norm x3]
   show Code.wpIn _ _ _ _ _ _ _
   obtain ⟨u4, q4⟩ := r4_run (E := E) (s := s) (u := u3)
   refine wpIn_seq (code_step r4B_c r4B_n q4 hs3 (fun e4 a4 w4 g4 x4 he4 hs4 => ?_))
   rw [exitR_norm x4]
   show Code.wpIn _ _ _ _ _ _ _
   obtain ⟨u5, q5⟩ := r5_run (E := E) (s := s) (u := u4)
   refine wpIn_seq (code_step r5B_c r5B_n q5 hs4 (fun e5 a5 w5 g5 x5 he5 hs5 => ?_))
   rw [exitR_norm x5]
   show Code.wpIn _ _ _ _ _ _ _
   obtain ⟨u6, q6⟩ := r6_run (E := E) (s := s) (u := u5)
   refine wpIn_seq (code_step r6B_c r6B_n q6 hs5 (fun e6 a6 w6 g6 x6 he6 hs6 => ?_))
   rw [exitR_norm x6]
   show Code.wpIn _ _ _ _ _ _ _
   refine wpIn_seq (wpIn_label ?_)
   show Code.wpIn _ _ _ _ _ _ _
   have hs6 : SR prog (Go.Vs.Good prog) (gl14 E) w.heap.size ⟨fr 147 u6 (rdL 0 ([] : List (En × List TreeD)).length false s), stH 0 [] [i6 0, vi .u8 0, n0]⟩ g6 a6 w6 := hs6
   exact hJ a6 w6 ⟨[], u6, 0, [], g6, nil_t hs6, (((((he1.trans he2).trans he3).trans he4).trans he5).trans he6), rfl, ⟨fun p hp => (List.not_mem_nil hp).elim, List.nodup_nil⟩, rfl⟩
  refine key _ (fun a' w' hR => ?_)
  have hj := rd_ok (Q := Q) (rdd := none) hN (fun a' w' hf => hfin (Ext.refl g w) a' w' hf) (4 * s.size + 8) 2 [] zT false s a' w' h ⟨by simpa using hsz, fun x hx => (List.not_mem_nil hx).elim⟩ hR
  obtain ⟨rest, hf, hj⟩ := hj
  rw [fl2] at hf
  simp only [oiq, Code.seq.injEq, true_and] at hf
  subst hf
  exact wpIn_mono hj (jumpS_mono (JRs_succ (4 * s.size + 7)))
end
set_option maxHeartbeats 4000000
noncomputable def k0B : Code := match f53.body with | some (.seq a _) => a | _ => .skip
noncomputable def k1B : Code := match f53.body with | some (.seq _ (.seq a _)) => a | _ => .skip
noncomputable def k2B : Code := match f53.body with | some (.seq _ (.seq _ (.seq a _))) => a | _ => .skip
noncomputable def k3B : Code := match f53.body with | some (.seq _ (.seq _ (.seq _ (.seq a _)))) => a | _ => .skip
theorem f53_eq : f53.body = some (.seq k0B (.seq k1B (.seq k2B (.seq k3B .ret)))) := by kernel_rfl
theorem f53_res : compRes prog f53.results.toList = some [.cell 4 false 1] := by kernel_rfl
noncomputable def opsOf : Code → Array Oper
 | .region _ o _ => o
 | _ => #[]
theorem k1_eq : k1B = .region 1 (opsOf k1B) false := by kernel_rfl
theorem k2_eq : k2B = .region 2 (opsOf k2B) false := by kernel_rfl
theorem k3_eq : k3B = .region 3 (opsOf k3B) false := by kernel_rfl
def k0I : List IOp := [⟨(.some 2), (.box 25 (.t 0)), .none⟩, ⟨(.some 4), (.alloc 26 [(.z (.val (.int .i64 0)))]), .none⟩]
def k2I : List IOp := [⟨(.some 6), (.load .true 3 (.t 2)), .none⟩, ⟨(.some 7), (.mv (.t 1)), .none⟩, ⟨(.some 8), (.call .true (.c (.fn 72 [])) [(.t 6), (.c (.p (.val (.int .i64 16384)))), (.t 7)]), .none⟩]
def k3I : List IOp := [⟨.none, (.store 1 (.t 4) (.c (.p (.val (.int .i64 0))))), .none⟩]
theorem k0_c : (compC prog (shOf sh []) k0B []).1 = .ops k0I := by kernel_rfl
theorem k0_n : noR k0B = true := by kernel_rfl
theorem k2_c : compOps prog (shOf sh []) (opsOf k2B) (opsOf k2B).toList = some k2I := by kernel_rfl
theorem k3_c : compOps prog (shOf sh []) (opsOf k3B) (opsOf k3B).toList = some k3I := by kernel_rfl
theorem k1_0 : ∃ o0 o1, opsOf k1B = #[o0, o1] ∧ o0.op = .makeFunc (.func 71) #[] #[.tmp 4] ∧ o0.dst = some 5 ∧ o0.guard = none ∧ o1.op = .defer ⟨.value (.tmp 5), #[], #[]⟩ ∧ o1.dst = none ∧ o1.guard = none := ⟨_, _, rfl, rfl, rfl, rfl, rfl, rfl, rfl⟩
noncomputable def m0B : Code := match f71.body with | some (.seq a _) => a | _ => .skip
noncomputable def m3B : Code := match f71.body with | some (.seq _ (.block _ (.seq a _))) => a | _ => .skip
noncomputable def m4B : Code := match f71.body with | some (.seq _ (.block _ (.seq _ (.cond _ a _)))) => a | _ => .skip
noncomputable def m5B : Code := match f71.body with | some (.seq _ (.block _ (.seq _ (.cond _ _ a)))) => a | _ => .skip
theorem f71_eq : f71.body = some (.seq m0B (.block 0 (.seq m3B (.cond (.tmp 6) m4B m5B)))) := by kernel_rfl
theorem m0_eq : m0B = .region 0 (opsOf m0B) false := by kernel_rfl
theorem m3_eq : m3B = .region 3 (opsOf m3B) false := by kernel_rfl
theorem m4_eq : m4B = .region 4 (opsOf m4B) false := by kernel_rfl
theorem m0_0 : ∃ o0, opsOf m0B = #[o0] ∧ o0.op = .call ⟨.builtin .recover, #[], #[]⟩ ∧ o0.dst = some 4 ∧ o0.guard = none := ⟨_, rfl, rfl, rfl, rfl⟩
theorem m3_0 : ∃ o0, opsOf m3B = #[o0] ∧ o0.op = .binOp .eql 20 (.tmp 4) (.const .nilIface) 20 ∧ o0.dst = some 6 ∧ o0.guard = none := ⟨_, rfl, rfl, rfl, rfl⟩
theorem m4_0 : ∃ o0, opsOf m4B = #[o0] ∧ o0.op = .assign (.tmp 4) ∧ o0.dst = some 1 ∧ o0.guard = none := ⟨_, rfl, rfl, rfl, rfl⟩
theorem f71_tmps : f71.ntmps = 10 ∧ f71.results = #[] := ⟨rfl, rfl⟩
theorem dfr71 (x : Value) (w : World) : CallsDIn (FW none) 0 prog 71 #[x] .returning w fun e u' w' => e = .returned (.tuple #[]) ∧ u' = .returning ∧ w' = w := by
 refine callsDIn_of_wpSIn (F := FW none) func71 f71_eq trivial (fun c₀ cs hu => ?_)
 rw [f71_tmps.1]
 have hrec : recoverD (c₀ :: cs) = none := by simp [recoverD, hu]
 obtain ⟨o0, e0, e1, e2, e3⟩ := m0_0
 refine wpSIn_seq ?_
 rw [m0_eq]
 refine wpSIn_region ?_
 have hr : (execOp (Act.eval { tmps := #[x] ++ Array.replicate (10 - (#[x] : Array Value).size) undef, defers := [] }) o0).run prog w = .ok .recover w := by
  simp [execOp, e1, resolve, invoke, builtin]
 have h0 : (opsOf m0B)[0]? = some o0 := by rw [e0]; rfl
 have hsz : (opsOf m0B).size = 1 := by rw [e0]; rfl
 rw [hsz]
 show wpOpsSIn (FW none) 0 prog (opsOf m0B) _ [0] _ _ _
 simp only [wpOpsSIn, h0]
 refine ⟨fun _ _ => trivial, ?_⟩
 rw [if_pos (by simp [Region.wanted, e3]), hr]
 simp only [hrec]
 rw [e2]
 show Code.wpSIn _ _ _ _ _ _ _ _
 refine wpSIn_of_wpIn rfl (wpIn_block (wpIn_seq ?_))
 obtain ⟨p0, q0, q1, q2, q3⟩ := m3_0
 rw [m3_eq]
 refine wpIn_region ?_
 have hp : (opsOf m3B)[0]? = some p0 := by rw [q0]; rfl
 have hpz : (opsOf m3B).size = 1 := by rw [q0]; rfl
 rw [hpz]
 show wpOpsIn (FW none) 0 prog (opsOf m3B) _ [0] _ _
 simp only [wpOpsIn, hp]
 rw [if_pos (by simp [Region.wanted, q3])]
 refine ⟨fun _ _ => trivial, ?_⟩
 obtain ⟨A, hA⟩ : ∃ A : Act, A = Act.put { tmps := #[x] ++ Array.replicate (10 - (#[x] : Array Value).size) undef, defers := [] } (some 4) .nilIface := ⟨_, rfl⟩
 rw [← hA]
 have hA4 : A.eval (.tmp 4) = .nilIface := by rw [hA]; rfl
 have hrun : (execOp A.eval p0).run prog w = .ok (.value (.bool true)) w := by
  have hq : (Op.equal 20 .nilIface .nilIface).run prog w = .ok true w := by
   show (Op.equalIn (9999 + 1) 20 .nilIface .nilIface).run prog w = _
   rw [Op.equalIn]
   simp [run_underlying underlying20]
  have hg : (eqGuard .eql 20 (.tmp 4) (.const .nilIface) .nilIface .nilIface).run prog w = .ok () w := by unfold eqGuard; simp
  have hb : (binOp .eql 20 .nilIface .nilIface).run prog w = .ok (.bool true) w := by
   have e : binOp .eql 20 .nilIface .nilIface = (do pure (.bool (← Op.equal 20 .nilIface .nilIface))) := rfl
   rw [e]
   simp only [Sem.run_bind, hq, Result.andThen_ok, Sem.run_pure]
  have he : A.eval (.const .nilIface) = .nilIface := rfl
  simp only [execOp, q1, Sem.run_bind, he, hA4, hg, Result.andThen_ok, hb, Sem.run_pure]
 rw [Oper.semAt_eq _ _ _ (by rw [q1]; simp), hrun, Oper.uponIn_value, q2]
 show Code.wpIn _ _ _ _ _ _ _
 refine wpIn_cond_true (by rw [hA]; rfl) ?_
 obtain ⟨r0, s0, s1, s2, s3⟩ := m4_0
 rw [m4_eq]
 refine wpIn_region ?_
 have hs : (opsOf m4B)[0]? = some r0 := by rw [s0]; rfl
 have hsz' : (opsOf m4B).size = 1 := by rw [s0]; rfl
 rw [hsz']
 show wpOpsIn (FW none) 0 prog (opsOf m4B) _ [0] _ _
 simp only [wpOpsIn, hs]
 rw [if_pos (by simp [Region.wanted, s3])]
 refine ⟨fun _ _ => trivial, ?_⟩
 rw [Oper.semAt_eq _ _ _ (by rw [s1]; simp)]
 have hrun2 : ∀ B : Act, (execOp B.eval r0).run prog w = .ok (.value (B.eval (.tmp 4))) w := by
  intro B
  simp [execOp, s1]
 rw [hrun2, Oper.uponIn_value, s2]
 refine ⟨by rw [hA]; rfl, .returning, ?_, .tuple #[], ?_, rfl, rfl, rfl⟩
 ·rw [← hu]
 ·simp [results, f71_tmps.2]
section
variable {E : Er} {tn tb : Int} {tk : List (List PV)} {f : AV} {h h1 : List AB} {v : AV}
abbrev cT3 (n b : Int) (k : List (List PV)) : List AV := [.p (.val (.int .i64 n)), .p (.val (.int .u8 b)), .p (.lst 3 k)]
abbrev aT3 (n b : Int) (k : List (List PV)) : AV := .agg (cT3 n b k)
abbrev bT3 (n b : Int) (k : List (List PV)) : AB := .cells 25 (cT3 n b k)
theorem k0_run : ∃ g, run (envOf (prgR E) (ev (prgR E))) (ev (prgR E)) (.ops k0I) ⟨[aT3 tn tb tk, f] ++ List.replicate 7 ud, h⟩ = some (.norm, ⟨fr 9 g [(1, f), (2, .ptr h.length 0), (4, .ptr (h ++ [bT3 tn tb tk]).length 0)], (h ++ [bT3 tn tb tk]) ++ [.cells 26 [i6 0]]⟩) := by
 obtain ⟨g, hr⟩ := exitL_of (L := [(1, f), (2, .ptr h.length 0), (4, .ptr (h ++ [bT3 tn tb tk]).length 0)]) (r := runD (prgR E) 30 [] (.ops k0I) ⟨[aT3 tn tb tk, f] ++ List.replicate 7 ud, h⟩) (o := .norm) (n := 9) (h := ((h ++ [bT3 tn tb tk]) ++ []) ++ [AB.cells 26 [i6 0]]) (by kernel_rfl)
 rw [List.append_nil] at hr
 exact ⟨g, runD_ok hr apn⟩
theorem k2_run {u : Nat → AV} {x : AV} (hc : CS (prgR E) 72 [aT3 tn tb tk, i6 16384, f] ((h ++ [bT3 tn tb tk]) ++ [.cells 26 [i6 0]]) = some (v, (h1 ++ [bT3 tn tb tk]) ++ [.cells 26 [i6 0]])) : ∃ g, run (envOf (prgR E) (ev (prgR E))) (ev (prgR E)) (.ops k2I) ⟨fr 9 u [(1, f), (2, .ptr h.length 0), (4, x)], (h ++ [bT3 tn tb tk]) ++ [.cells 26 [i6 0]]⟩ = some (.norm, ⟨fr 9 g [(4, x)], (h1 ++ [bT3 tn tb tk]) ++ [.cells 26 [i6 0]]⟩) := by
 have q1 : ldA ((h ++ [bT3 tn tb tk]) ++ [.cells 26 [i6 0]]) true 3 (.ptr h.length 0) = some (aT3 tn tb tk) := by
  have hb : ((h ++ [bT3 tn tb tk]) ++ [AB.cells 26 [i6 0]])[h.length]? = some (bT3 tn tb tk) := by
   rw [List.append_assoc, gar (Nat.le_refl _), Nat.sub_self]; rfl
  simp only [ldA, loadA, hb]
  rfl
 exact exP (n := 30) [(6, .v (aT3 tn tb tk)), (8, .r v ((h1 ++ [bT3 tn tb tk]) ++ [.cells 26 [i6 0]]))] (apc q1 (apc hc apn)) (by kernel_rfl)
theorem k3_run {u : Nat → AV} (hl : h1.length = h.length) : ∃ g, run (envOf (prgR E) (ev (prgR E))) (ev (prgR E)) (.ops k3I) ⟨fr 9 u [(4, .ptr (h ++ [bT3 tn tb tk]).length 0)], (h1 ++ [bT3 tn tb tk]) ++ [.cells 26 [i6 0]]⟩ = some (.norm, ⟨fr 9 g [(4, .ptr (h ++ [bT3 tn tb tk]).length 0)], (h1 ++ [bT3 tn tb tk]) ++ [.cells 26 [i6 0]]⟩) := by
 have hb : ((h1 ++ [bT3 tn tb tk]) ++ [AB.cells 26 [i6 0]])[(h ++ [bT3 tn tb tk]).length]? = some (.cells 26 [i6 0]) := by
  rw [gar (by simp [hl])]
  simp [hl]
 have q1 : stA ((h1 ++ [bT3 tn tb tk]) ++ [AB.cells 26 [i6 0]]) 1 (.ptr (h ++ [bT3 tn tb tk]).length 0) (i6 0) = some ((h1 ++ [bT3 tn tb tk]) ++ [.cells 26 [i6 0]]) := by
  have e : stA ((h1 ++ [bT3 tn tb tk]) ++ [AB.cells 26 [i6 0]]) 1 (.ptr (h ++ [bT3 tn tb tk]).length 0) (i6 0) = some (((h1 ++ [bT3 tn tb tk]) ++ [AB.cells 26 [i6 0]]).set (h ++ [bT3 tn tb tk]).length (.cells 26 [i6 0])) := by
   simp only [stA, cellsOf, AV.one, isOne, if_true, bsm, lcn, List.length_nil, Nat.zero_add, storeA, hb]
   rfl
  rw [e]
  congr 1
  apply List.ext_getElem?
  intro i
  rw [List.getElem?_set]
  split
  ·rename_i hi
   subst hi
   rw [if_pos (gei.1 hb).1, hb]
  ·rfl
 exact exP (n := 30) [(1004, .r ud ((h1 ++ [bT3 tn tb tk]) ++ [.cells 26 [i6 0]]))] (apc (And.intro q1 (rfl : (ud : AV) = ud)) apn) (by kernel_rfl)
theorem asked_call (hc : CS (prgR E) 72 [aT3 tn tb tk, i6 16384, f] h = some (v, h1)) : CallR prog (Go.Vs.Good prog) (gl14 E) 53 [aT3 tn tb tk, f] h (i6 0) h1 := by
 obtain ⟨F72, hF⟩ : ∃ F, (prgR E).fn 72 = some F := ⟨_, rfl⟩
 obtain ⟨hcX, hl⟩ := cs_frame hF rfl hc ([bT3 tn tb tk] ++ [.cells 26 [i6 0]])
 rw [← List.append_assoc, ← List.append_assoc] at hcX
 refine ⟨⟨f53, func53, by kernel_rfl, by kernel_rfl⟩, ?_⟩
 intro g w vals hcr hgr hhr hvs
 match vals, hvs with
 | [], hvs => simp [VRs] at hvs
 | [_], hvs => simp [VRs] at hvs
 | _ :: _ :: _ :: _, hvs => simp [VRs] at hvs
 | [tv, fv], hvs =>
 have hblw : ∀ x ∈ h1, x.blw h1.length = true := by
  have hv3 : VRs g w [aT3 tn tb tk, i6 16384, f] [tv, .int .i64 16384, fv] := by
   simp only [VRs] at hvs ⊢
   exact ⟨hvs.1, by simp [VR, PR], hvs.2.1, trivial⟩
  obtain ⟨e, w', fr', ⟨x, g', _, _, hr', _⟩, _⟩ := (CS_sound (prgR_ok E) hc).2 g w _ hcr hgr hhr hv3 []
  intro x hx
  obtain ⟨b, hb⟩ := List.getElem?_of_mem hx
  have := BR_blw (hr'.br b x hb)
  rwa [hr'.n] at this
 have hfr : VRs g w ([aT3 tn tb tk, f] ++ List.replicate 7 ud) (#[tv, fv] ++ Array.replicate (9 - 2) undef).toList := by
  simp only [Array.toList_append, Array.toList_replicate]
  exact hvs.append (VRs.replicate _ VR_ud)
 have hsr : SR prog (Go.Vs.Good prog) (gl14 E) w.heap.size ⟨[aT3 tn tb tk, f] ++ List.replicate 7 ud, h⟩ g { tmps := #[tv, fv] ++ Array.replicate (9 - 2) undef, defers := [] } w :=
  ⟨⟨hgr, hhr, hfr⟩, by simp, by simp, Nat.le_refl _, hcr⟩
 refine (callsIn_wide (n := 0)).1 (callsIn_of_wp_marks (F := FW none) func53 f53_eq trivial ?_ rfl)
 obtain ⟨u0, q0⟩ := k0_run (E := E) (tn := tn) (tb := tb) (tk := tk) (f := f) (h := h)
 refine wpIn_seq (code_step k0_c k0_n q0 hsr (fun e1 a1 w1 g1 x1 he1 hs1 => ?_))
 rw [exitR_norm x1]
 show Code.wpIn _ _ _ _ _ _ _
 obtain ⟨o0, o1, p0, p1, p2, p3, p4, p5, p6⟩ := k1_0
 refine wpIn_seq ?_
 rw [k1_eq]
 refine wpIn_region ?_
 have ho0 : (opsOf k1B)[0]? = some o0 := by rw [p0]; rfl
 have ho1 : (opsOf k1B)[1]? = some o1 := by rw [p0]; rfl
 have hosz : (opsOf k1B).size = 2 := by rw [p0]; rfl
 rw [hosz]
 show wpOpsIn (FW none) 0 prog (opsOf k1B) _ [0, 1] _ _
 obtain ⟨fv71, hfv⟩ : ∃ fv71 : Value, fv71 = .func (.func 71) #[] #[a1.eval (.tmp 4)] := ⟨_, rfl⟩
 obtain ⟨D, hD⟩ : ∃ D : Deferred, D = { target := .fn (.func 71) #[a1.eval (.tmp 4)], args := #[] } := ⟨_, rfl⟩
 simp only [wpOpsIn, ho0, ho1]
 rw [if_pos (by simp [Region.wanted, p3])]
 refine ⟨fun _ _ => trivial, ?_⟩
 have hrun0 : (execOp a1.eval o0).run prog w1 = .ok (.value fv71) w1 := by
  rw [hfv]
  simp [execOp, p1, Instr.makeFunc]
 rw [Oper.semAt_eq _ _ _ (by rw [p1]; simp), hrun0, Oper.uponIn_value, p2]
 rw [if_pos (by simp [Region.wanted, p6])]
 refine ⟨fun _ _ => trivial, ?_⟩
 obtain ⟨a2, ha2⟩ : ∃ a2 : Act, a2 = a1.put (some 5) fv71 := ⟨_, rfl⟩
 rw [← ha2]
 have hlt5 : 5 < a1.tmps.size := by
  have := hs1.c.fr.len
  simp only [Array.length_toList] at this
  rw [← this]
  show 5 < 9
  omega
 have ha25 : a2.eval (.tmp 5) = fv71 := by
  rw [ha2]
  simp [Act.eval, Act.put, Array.getD, hlt5]
 have hrun1 : (execOp a2.eval o1).run prog w1 = .ok (.defer D) w1 := by
  rw [hD]
  simp [execOp, p4, resolve, ha25, hfv, Deferred.ofValue]
 rw [show (FW none).round = none from rfl, Oper.semAt_none, hrun1, Oper.uponIn_defer, p5]
 have hs2 : SR prog (Go.Vs.Good prog) (gl14 E) w.heap.size ⟨putA (fr 9 u0 [(1, f), (2, .ptr h.length 0), (4, .ptr (h ++ [bT3 tn tb tk]).length 0)]) (some 5) (.fn 71 [.ptr (h ++ [bT3 tn tb tk]).length 0]), (h ++ [bT3 tn tb tk]) ++ [.cells 26 [i6 0]]⟩ g1 a2 w1 := by
  rw [ha2]
  refine SR.put (E := envOf (prgR E) (ev (prgR E))) hs1 (Ext.refl g1 w1) hs1.c.hr ?_ (some 5)
  simp only [VR]
  refine ⟨#[a1.eval (.tmp 4)], hfv, ?_⟩
  have := hs1.c.opd (.tmp 4)
  simp only [VRs]
  exact ⟨this, trivial⟩
 have hins : (Act.put { a2 with defers := D :: a2.defers } none undef) = a2.ins a2.defers.length D := by
  simp [Act.ins, insD, Act.put]
 rw [hins]
 show Code.wpIn _ _ _ _ _ _ _
 have hs2' : SR prog (Go.Vs.Good prog) (gl14 E) w.heap.size ⟨fr 9 (ovr u0 [(5, .fn 71 [.ptr (h ++ [bT3 tn tb tk]).length 0])]) [(1, f), (2, .ptr h.length 0), (4, .ptr (h ++ [bT3 tn tb tk]).length 0)], (h ++ [bT3 tn tb tk]) ++ [.cells 26 [i6 0]]⟩ g1 a2 w1 := hs2
 obtain ⟨u2, q2⟩ := k2_run (E := E) (tn := tn) (tb := tb) (tk := tk) (f := f) (h := h) (h1 := h1) (v := v) (u := ovr u0 [(5, .fn 71 [.ptr (h ++ [bT3 tn tb tk]).length 0])]) (x := .ptr (h ++ [bT3 tn tb tk]).length 0) hcX
 refine wpIn_seq ?_
 rw [k2_eq]
 refine region_ins (prgR_ok E) k2_c q2 hs2' (Nat.le_refl _) (fun a3 w3 g3 hk3 he3 hs3 => ?_)
 show Code.wpIn _ _ _ _ _ _ _
 obtain ⟨u3, q3⟩ := k3_run (E := E) (tn := tn) (tb := tb) (tk := tk) (h := h) (h1 := h1) (u := u2) hl
 refine wpIn_seq ?_
 rw [k3_eq]
 refine region_ins (prgR_ok E) k3_c q3 hs3 hk3 (fun a4 w4 g4 hk4 he4 hs4 => ?_)
 show Code.wpIn _ _ _ _ _ _ _
 refine wpIn_ret ?_
 show LeavesInM (FW none) 0 prog f53 a4.tmps _ (insD a2.defers.length D a4.defers) .returning w4
 have heA : Ext g w g4 w4 := (he1.trans he3).trans he4
 have hres : resOf ⟨fr 9 u3 [(4, .ptr (h ++ [bT3 tn tb tk]).length 0)], (h1 ++ [bT3 tn tb tk]) ++ [.cells 26 [i6 0]]⟩ [.cell 4 false 1] = some [i6 0] := by
  have hb : ((h1 ++ [bT3 tn tb tk]) ++ [AB.cells 26 [i6 0]])[(h ++ [bT3 tn tb tk]).length]? = some (.cells 26 [i6 0]) := by
   rw [gar (by simp [hl])]
   simp [hl]
  have e4 : getT (fr 9 u3 [(4, .ptr (h ++ [bT3 tn tb tk]).length 0)]) 4 = .ptr (h ++ [bT3 tn tb tk]).length 0 := rfl
  simp only [resOf, e4, loadA, hb]
  rfl
 have hlast : ∀ (bs : List Deferred) (g2 : G) (w2 : World) (a : Act), a.tmps = a4.tmps → Ext g w g2 w2 → Ctx prog (gl14 E) a (fr 9 u3 [(4, .ptr (h ++ [bT3 tn tb tk]).length 0)]) g2 ((h1 ++ [bT3 tn tb tk]) ++ [.cells 26 [i6 0]]) w2 → (∀ d ∈ bs, MarkR w.heap.size g2 w2 d) → bs.Nodup →
   LeavesInM (FW none) 0 prog f53 a4.tmps (fun e w' => ∃ x g', e = .returned x ∧ Ext g w g' w' ∧ HR g' h1 w' ∧ VR g' w' (i6 0) x) bs .returning w2 := by
  intro bs g2 w2 a ha e2 hx hm hn
  have := marks_leave (en := w.heap.size) hhr.prs (s := ⟨fr 9 u3 [(4, .ptr (h ++ [bT3 tn tb tk]).length 0)], (h1 ++ [bT3 tn tb tk]) ++ [.cells 26 [i6 0]]⟩) f53_res hres bs g2 w2 a ha e2 hx hm hn
  refine leavesM_mono ?_ _ _ _ this
  rintro e w5 ⟨x, g5, rfl, e5, r5, v5⟩
  have r5' : HR g5 (h1 ++ ([bT3 tn tb tk] ++ [AB.cells 26 [i6 0]])) w5 := by rw [← List.append_assoc]; exact r5
  refine ⟨x, g5.cut h1.length, rfl, ?_, HR.drop r5' hblw, VR_trim _ _ rfl v5⟩
  have hgN : g.N = h.length := hhr.n
  exact ⟨e5.S, e5.Pr, e5.pr, by show g.N ≤ h1.length; omega, fun b hb => ⟨by show b < h1.length; have := hb.1; omega, fun q => (e5.D b hb).2 q.1⟩, e5.m, e5.gen, e5.hd, e5.size, e5.os, e5.tape, e5.output, e5.Sn, e5.cr, e5.drawn⟩
 have hall : a4.defers.take (a4.defers.length - a2.defers.length) ++ a4.defers.drop (a4.defers.length - a2.defers.length) = a4.defers := List.take_append_drop ..
 refine marks_pre (s := ⟨fr 9 u3 [(4, .ptr (h ++ [bT3 tn tb tk]).length 0)], (h1 ++ [bT3 tn tb tk]) ++ [.cells 26 [i6 0]]⟩) (bs := a4.defers.drop (a4.defers.length - a2.defers.length)) (fd := f53) (g := g) (w := w) (en := w.heap.size) hhr.prs ?_ (a4.defers.take (a4.defers.length - a2.defers.length)) g4 w4 a4 rfl heA hs4.c (by rw [hall]; exact hs4.d) (by rw [hall]; exact hs4.nd)
 intro g5 w5 a5 ha5 he5 hx5 hm5
 refine ⟨by simp, .inr ⟨fun h => absurd h (by simp [FW, Fence.wide]), .func 71, #[a1.eval (.tmp 4)], 71, #[a1.eval (.tmp 4)], by rw [hD], ?_, fun _ _ => trivial, ?_⟩⟩
 ·rw [hD]
  have hname : (f71.name == "runtime.NumGoroutine") = false := by kernel_rfl
  have hbody : f71.body.isNone = false := by kernel_rfl
  have hname' : ¬ (f71.name = "runtime.NumGoroutine") := by intro e; rw [e] at hname; simp at hname
  have hbody' : ¬ (f71.body = none) := by intro e; rw [e] at hbody; simp at hbody
  simp [invoke, callFunc, run_program, func71, hname', hbody']
 ·refine (dfr71 _ w5).mono ?_
  rintro e u' w' ⟨rfl, rfl, rfl⟩
  exact hlast _ g5 _ a5 ha5 he5 hx5 hm5 ((List.nodup_append.1 (by rw [hall]; exact hs4.nd)).2.1)
end
open Go Go.Vs Go.Shelf
def askA (ask : List AV → List AB → Option (AV × List AB)) (args : List AV) (h : List AB) : Option (AV × List AB) := match args with
 | [.agg [.p (.val (.int .i64 n)), .p (.val (.int .u8 b)), .p (.lst 3 k)], f] => match ask [aT3 n b k, i6 16384, f] h with
  | some (_, h1) => some (i6 0, h1)
  | none => none
 | _ => none
noncomputable def readA (E : Er) (args : List AV) (h : List AB) : Option (AV × List AB) := match args, h with
 | [.p (.val (.string s))], [] => match readF E s with
  | some r => some (.tup [.agg ((cT r.1).map .p), i6 r.2], [])
  | none => none
 | _, _ => none
theorem readA_sound {E : Er} {args : List AV} {h h' : List AB} {v : AV} (hc : readA E args h = some (v, h')) : CallR prog (Go.Vs.Good prog) (gl14 E) 12 args h v h' := by
 unfold readA at hc
 split at hc
 ·split at hc
  ·rename_i r hr
   cases hc
   exact read_call hr
  ·cases hc
 ·cases hc
theorem askA_sound {E : Er} {ask : List AV → List AB → Option (AV × List AB)} (ha : ∀ args h v h1, ask args h = some (v, h1) → CS (prgR E) 72 args h = some (v, h1)) {args : List AV} {h h' : List AB} {v : AV} (hc : askA ask args h = some (v, h')) : CallR prog (Go.Vs.Good prog) (gl14 E) 53 args h v h' := by
 unfold askA at hc
 split at hc
 ·split at hc
  ·rename_i hr
   cases hc
   exact asked_call (ha _ _ _ _ hr)
  ·cases hc
 ·cases hc
def fns0 (n : Nat) : Option IFun := match n.beq 12 with | true => none | false => fnsR n
theorem fns0_ok : ∀ f F, fns0 f = some F → ∃ shf fd ann, prog.funcs[f]? = some fd ∧ compFn prog shf ann fd = some F := fun f F h => by
 unfold fns0 at h
 split at h
 ·cases h
 ·exact fnsR_ok f F h
def primA (E : Er) (rd ask : List AV → List AB → Option (AV × List AB)) (n : Nat) (args : List AV) (h : List AB) : Option (AV × List AB) := match n.beq 12, n.beq 53 with
 | true, _ => rd args h
 | false, true => askA ask args h
 | false, false => primR E n args h
theorem primA_ok {E : Er} {rd ask : List AV → List AB → Option (AV × List AB)} (hr : ∀ args h v h1, rd args h = some (v, h1) → CallR prog (Go.Vs.Good prog) (gl14 E) 12 args h v h1) (ha : ∀ args h v h1, ask args h = some (v, h1) → CS (prgR E) 72 args h = some (v, h1)) {f : Nat} {args : List AV} {h : List AB} {v : AV} {h' : List AB} (hc : primA E rd ask f args h = some (v, h')) : CallR prog (Go.Vs.Good prog) (gl14 E) f args h v h' := by
 unfold primA at hc
 split at hc
 ·rename_i e
  obtain rfl := Nat.eq_of_beq_eq_true e
  exact hr _ _ _ _ hc
 ·rename_i e1 e
  obtain rfl := Nat.eq_of_beq_eq_true e
  exact askA_sound ha hc
 ·exact primR_ok E hc
noncomputable def prg0 (E : Er) : Prg := ⟨fns0, gl14 E, primA E (readA E) (callS (prgR E) (evalN (prgR E) 40) 72), frs⟩
theorem prg0_ok (E : Er) : PrgOk prog (prg0 E) := ⟨fns0_ok, fun f args h v h' hc => primA_ok (fun _ _ _ _ => readA_sound) (fun args h v h1 hc => callS_mono (evalN_ev _ _) hc) hc⟩
end Go.Proofs.Tryd
