/- What TreeBounds stands on. -/
import Derived.Test.YtcdebkkjbminoaaDoorL8
import Derived.Test.YtcdebkkjbminoaaDoorQ8
import Derived.Test.YtcdebkkjbminoaaDoorVE
open List renaming length_replicate → lrp, length_cons → lcn
namespace Go.Proofs.Tryd
set_option linter.unusedSimpArgs false
set_option linter.unusedVariables false
open Go Go.Vs
def nlP : PV → PV
 | .val (.slice none 0 0) => .lst 3 []
 | x => x
def nlR (rows : List (List PV)) : List (List PV) := rows.map (·.map nlP)
def nlG : AV → AV
 | .agg [x, y, .p (.lst s rows)] => .agg [x, y, .p (.lst s (nlR rows))]
 | x => x
theorem nlP_rel {S : Nat → Prop} {w : World} {x : PV} {v : Value} (h : PR S w x v) : PR S w (nlP x) v := by
 unfold nlP
 split
 ·simp only [PR] at h ⊢
  subst h
  exact ⟨none, 0, rfl, Nat.le_refl _, Nat.zero_le _, .inl rfl⟩
 ·exact h
theorem nlPs_rel {S : Nat → Prop} {w : World} {b : Nat} : ∀ (xs : List PV) (off : Nat), PRs S w b off xs → PRs S w b off (xs.map nlP)
 | [], _, h => h
 | x :: xs, off, h => by
  simp only [PRs, List.map_cons] at h ⊢
  obtain ⟨⟨u, h1, h2, h3⟩, h4⟩ := h
  exact ⟨⟨u, h1, h2, nlP_rel h3⟩, nlPs_rel xs (off + 1) h4⟩
theorem nlR_rel {S : Nat → Prop} {w : World} {b size : Nat} : ∀ (rows : List (List PV)) (off : Nat), PRr S w b off size rows → PRr S w b off size (nlR rows)
 | [], _, h => h
 | r :: rs, off, h => by
  simp only [PRr, nlR, List.map_cons] at h ⊢
  exact ⟨by rw [List.length_map]; exact h.1, nlPs_rel r off h.2.1, nlR_rel rs (off + size) h.2.2⟩
theorem nlG_rel {g : G} {w : World} {x : AV} {v : Value} (h : VR g w x v) : VR g w (nlG x) v := by
 unfold nlG
 split
 ·rename_i x y s rows
  simp only [VR] at h ⊢
  obtain ⟨cs, rfl, h⟩ := h
  refine ⟨cs, rfl, ?_⟩
  generalize cs.toList = l at h ⊢
  match l, h with
  | [a, b, c], h =>
   simp only [VRs, VR, PR] at h ⊢
   obtain ⟨h1, h2, ⟨A, cap, e1, e2, e3, e4⟩, h4⟩ := h
   have hl : (nlR rows).length = rows.length := List.length_map _
   rw [hl]
   exact ⟨h1, h2, ⟨A, cap, e1, e2, e3, e4.imp_right fun ⟨b, off, m1, m2, m3⟩ => ⟨b, off, m1, m2, nlR_rel rows off m3⟩⟩, h4⟩
  | [], h => simp [VRs] at h
  | [_], h => simp [VRs] at h
  | [_, _], h => simp [VRs] at h
  | _ :: _ :: _ :: _ :: _, h => simp [VRs] at h
 ·exact h
theorem nlGs_rel {g : G} {w : World} : ∀ {xs : List AV} {vs : List Value}, VRs g w xs vs → VRs g w (xs.map nlG) vs
 | [], vs, h => h
 | x :: xs, [], h => by simp [VRs] at h
 | x :: xs, v :: vs, h => by simp only [VRs, List.map_cons] at h ⊢; exact ⟨nlG_rel h.1, nlGs_rel h.2⟩
noncomputable def primZ (E : Er) (n : Nat) (args : List AV) (h : List AB) : Option (AV × List AB) := match n.beq 33, n.beq 20, n.beq 23 && tooD args with
 | true, _, _ => CS (prgP E) n args h
 | false, true, _ => CS (prg E) n (args.map nlG) h
 | false, false, true => deepA E n args h
 | false, false, false => CS (prg E) n args h
noncomputable def prgZ (E : Er) : Prg := ⟨fnsZ, gl14 E, primZ E, fun _ => false⟩
theorem prgZ_ok (E : Er) : PrgOk prog (prgZ E) := ⟨fnsZ_ok, fun f args h v h' hc => by
 replace hc : primZ E f args h = some (v, h') := hc
 unfold primZ at hc
 split at hc
 ·exact CS_sound (prgP_ok E) hc
 ·have := CS_sound (prg_ok E) hc
  exact ⟨this.1, fun g w vals hcr hgr hhr hvs => this.2 g w vals hcr hgr hhr (nlGs_rel hvs)⟩
 ·exact deepA_ok hc
 ·exact CS_sound (prg_ok E) hc⟩
section
variable {E : Er}
theorem csZ {f : Nat} {args : List AV} {h : List AB} (hf : fnsZ f = none) : CS (prgZ E) f args h = primZ E f args h := by
 unfold CS callS
 rw [show (prgZ E).fn f = none from hf]
 rfl
theorem lowZ {f : Nat} {args : List AV} {x : AV} (h : PR1 (prg E) f args x) (hf : fnsZ f = none) (hq : ∀ h, primZ E f args h = CS (prg E) f args h) : PR1 (prgZ E) f args x := by
 obtain ⟨v, h', hc, hx⟩ := h
 exact ⟨v, h', by rw [csZ hf, hq]; exact hc, hx⟩
theorem z33 {args : List AV} {x : AV} (h : PR1 (prgP E) 33 args x) : PR1 (prgZ E) 33 args x := by
 obtain ⟨v, h', hc, hx⟩ := h
 exact ⟨v, h', by rw [csZ rfl]; exact hc, hx⟩
theorem z23 {t : TreeD} (h : PR1 (prg E) 23 [.agg ((cT t).map .p)] (i6 0)) (hd : dep t ≤ 16384) : PR1 (prgZ E) 23 [.agg ((cT t).map .p)] (i6 0) := by
 refine lowZ h rfl (fun h => ?_)
 unfold primZ
 rw [tooD_T, decide_eq_false (by omega)]
 rfl
theorem z23d {n : Nat} (hn : 16384 ≤ n) : PR1 (prgZ E) 23 [.agg ((cT (nst n)).map .p)] (i6 3) := by
 refine ⟨i6 3, [], ?_, rfl⟩
 rw [csZ rfl]
 unfold primZ
 rw [tooD_T, nst_dep, decide_eq_true (by omega)]
 show deepA E 23 _ _ = _
 unfold deepA
 exact if_pos (check_deep hn)
abbrev lfR : List PV := [.val (.int .i64 (-1)), .val (.int .u8 0), .val (.slice none 0 0)]
abbrev lfA : List AV := [i6 (-1), vi .u8 0, .p (.val (.slice none 0 0))]
abbrev zrA : List AV := [i6 0, vi .u8 0, .p (.val (.slice none 0 0))]
theorem wd_rows : ∀ n, nlR (List.replicate n lfR) = eTrees (List.replicate n (.mk (-1) 0 []))
 | 0 => rfl
 | n + 1 => by
  rw [List.replicate_succ, List.replicate_succ]
  show lfR.map nlP :: nlR (List.replicate n lfR) = eTree _ :: eTrees _
  rw [wd_rows n]
  rfl
theorem lf_map (n : Nat) : List.replicate n lfA = (List.replicate n lfR).map (·.map .p) := by rw [List.map_replicate]; rfl
theorem purA_rows' {h : List AB} {b t s g n : Nat} {R : List (List PV)} (hb : h[b]? = some (.row t s g (R.map (·.map .p)))) (hl : n ≤ R.length) : purA h (.sl b g s 0 n) = some (.p (.lst s (R.take n))) := by
 have := purA_sl (e := (id : List PV → List PV)) (xs := R) (len := n) hb (decide_eq_true hl)
 rwa [List.map_id] at this
theorem z20 {n b g : Nat} {v : AV} {h : List AB} (hb : h[b]? = some (.row 25 3 g (List.replicate n lfA))) (hq : PR1 (prg E) 20 [.agg ((cT (wdT n)).map .p)] v) (hf : flat v = true) :
  CP (prgZ E) 20 [.agg [i6 0, vi .u8 0, .sl b g 3 0 n]] h = some v := by
 rw [lf_map] at hb
 have hp : purA h (.sl b g 3 0 n) = some (.p (.lst 3 (List.replicate n lfR))) := by
  have := purA_rows' hb (n := n) (by rw [lrp]; exact Nat.le_refl _)
  rwa [List.take_of_length_le (by rw [lrp]; exact Nat.le_refl _)] at this
 refine PR1.own (args' := [.agg [i6 0, vi .u8 0, .p (.lst 3 (List.replicate n lfR))]]) ?_ rfl (purAs_cons (purA_agg (purAs_cons rfl (purAs_cons rfl (purAs_cons hp purAs_nil)))) purAs_nil) hf
 obtain ⟨v', h', hc, hx⟩ := hq
 refine ⟨v', h', ?_, hx⟩
 rw [csZ rfl]
 show CS (prg E) 20 [.agg [i6 0, vi .u8 0, .p (.lst 3 (nlR (List.replicate n lfR)))]] [] = _
 rw [wd_rows]
 exact hc
end
theorem str_add {a b : ByteArray} (h : a.size + b.size ≤ 9223372036854775807) : binA .add (vs a) (vs b) = some (vs (a ++ b)) := by
 show (if a.size + b.size ≤ 9223372036854775807 then some (Value.string (a ++ b)) else none).map _ = _
 rw [if_pos h]
 rfl
theorem bs_app (a b : List UInt8) : bs a ++ bs b = bs (a ++ b) := by
 apply ByteArray.ext
 rw [ByteArray.data_append]
 simp
abbrev bL (l : List UInt8) : ByteArray := ⟨l.toArray⟩
abbrev lv80 : List Nat := [1, 2, 3, 2000000]
abbrev lv81 : List Nat := [1, 2, 4, 2000000]
abbrev lv82 : List Nat := [1, 5, 8, 9, 10, 12, 14, 15, 16, 2000000]
abbrev L80e (s : ByteArray) : List (Nat × AV) := [(1, .ptr 0 0), (2, vs s)]
abbrev L80 (s : ByteArray) (i : Int) : List (Nat × AV) := [(1, .ptr 0 0), (2, vs s), (3, i6 i)]
abbrev L81 (s : ByteArray) (i : Int) : List (Nat × AV) := [(1, .ptr 0 0), (2, vs s), (4, i6 i)]
theorem keep80 {u : Nat → AV} {s : ByteArray} {i : Int} : ∃ v, keepA lv80 0 (fr 164 u (L80 s i)) = fr 164 v (L80 s i) := by
 refine ⟨_, fr_eq (by rfl) (fun x hx => ?_)⟩
 simp only [L80, List.mem_cons, List.not_mem_nil, or_false] at hx
 rcases hx with rfl | rfl | rfl <;> rfl
theorem keep81 {u : Nat → AV} {s : ByteArray} {i : Int} : ∃ v, keepA lv81 0 (fr 164 u (L81 s i)) = fr 164 v (L81 s i) := by
 refine ⟨_, fr_eq (by rfl) (fun x hx => ?_)⟩
 simp only [L81, List.mem_cons, List.not_mem_nil, or_false] at hx
 rcases hx with rfl | rfl | rfl <;> rfl
section
variable {E : Er}
set_option maxRecDepth 100000 in
theorem rnd80 {mm : Nat} {p b : Int} {ks : List TreeD} {s s2 : ByteArray} {i : Int} {u : Nat → AV} (h1 : i < 16384) (hs : binA .add (vs s) (vs (bL [48, 40])) = some (vs s2)) :
  ∃ v, evH (prgZ E) mm lv80 ir8Z_l2 ⟨fr 164 u (L80 s i), [bx (.mk p b ks)]⟩ = evH (prgZ E) mm lv80 ir8Z_l2 ⟨fr 164 v (L80 s2 (w6 (i + 1))), [bx (.mk 0 0 [.mk p b ks])]⟩ := by
 obtain ⟨g', hr⟩ := exitL_of (L := L80 s2 (w6 (i + 1))) (r := runD (prgZ E) 30 [(26, .d true), (33, .v (vs s2))] ir8Z_l2 ⟨fr 164 u (L80 s i), [bx (.mk p b ks)]⟩) (o := .norm) (n := 164) (h := [bx (.mk 0 0 [.mk p b ks])]) (by kernel_rfl)
 have hrun := runD_ok hr (apc (cv (decide_eq_true h1) : vb (decide (i < 16384)) = vb true) (apc hs apn))
 obtain ⟨v', hv'⟩ := keep80 (u := g') (s := s2) (i := w6 (i + 1))
 exact ⟨v', by rw [ev_round rfl hrun, hv']⟩
set_option maxRecDepth 100000 in
theorem end80 {mm : Nat} {t : TreeD} {s : ByteArray} {i : Int} {u : Nat → AV} (h1 : ¬ i < 16384) : ∃ g, evH (prgZ E) mm lv80 ir8Z_l2 ⟨fr 164 u (L80 s i), [bx t]⟩ = some (.brk 0, ⟨fr 164 g (L80e s), [bx t]⟩) :=
 xbrk (p := prgZ E) (m := mm) (live := lv80) (b := ir8Z_l2) (s := ⟨fr 164 u (L80 s i), [bx t]⟩) (L := L80e s) (id := 0) (N := 164) (h := [bx t]) [(26, .d false)]
  (apc (cv (decide_eq_false h1) : vb (decide (i < 16384)) = vb false) apn) (by kernel_rfl)
theorem lp80 {mm N : Nat} (hN : N = 16383) : ∀ (m j : Nat) (u : Nat → AV), j + m = N → ∃ g, evH (prgZ E) mm lv80 ir8Z_l2 ⟨fr 164 u (L80 (bs (opn j)) ((j + 1 : Nat) : Int)), [bx (nst j)]⟩ = some (.brk 0, ⟨fr 164 g (L80e (bs (opn N))), [bx (nst N)]⟩)
 | 0, j, u, hj => by
  obtain rfl : j = N := by omega
  exact end80 (by omega)
 | m + 1, j, u, hj => by
  have hl := opn_len j
  have hn : nst j = .mk (nst j).prod (nst j).byte (nst j).kids := (tmk _).symm
  obtain ⟨v, hv⟩ := rnd80 (E := E) (mm := mm) (p := (nst j).prod) (b := (nst j).byte) (ks := (nst j).kids) (s := bs (opn j)) (s2 := bs (opn (j + 1))) (i := ((j + 1 : Nat) : Int)) (u := u) (by omega) (by
   rw [str_add (by rw [bs_size, bs_size, hl]; simp only [lcn, List.length_nil]; omega), bs_app]
   rfl)
  rw [← hn] at hv
  obtain ⟨g, hg⟩ := lp80 (mm := mm) hN m (j + 1) v (by omega)
  refine ⟨g, ?_⟩
  rw [hv, show w6 (((j + 1 : Nat) : Int) + 1) = ((j + 1 + 1 : Nat) : Int) from w_S (by omega)]
  exact hg
set_option maxRecDepth 100000 in
theorem rnd81 {mm : Nat} {t : TreeD} {s s2 : ByteArray} {i : Int} {u : Nat → AV} (h1 : i < 16384) (hs : binA .add (vs s) (vs (bL [41])) = some (vs s2)) :
  ∃ v, evH (prgZ E) mm lv81 ir8Z_l1 ⟨fr 164 u (L81 s i), [bx t]⟩ = evH (prgZ E) mm lv81 ir8Z_l1 ⟨fr 164 v (L81 s2 (w6 (i + 1))), [bx t]⟩ := by
 obtain ⟨g', hr⟩ := exitL_of (L := L81 s2 (w6 (i + 1))) (r := runD (prgZ E) 30 [(37, .d true), (41, .v (vs s2))] ir8Z_l1 ⟨fr 164 u (L81 s i), [bx t]⟩) (o := .norm) (n := 164) (h := [bx t]) (by kernel_rfl)
 have hrun := runD_ok hr (apc (cv (decide_eq_true h1) : vb (decide (i < 16384)) = vb true) (apc hs apn))
 obtain ⟨v', hv'⟩ := keep81 (u := g') (s := s2) (i := w6 (i + 1))
 exact ⟨v', by rw [ev_round rfl hrun, hv']⟩
set_option maxRecDepth 100000 in
theorem end81 {mm : Nat} {t : TreeD} {s : ByteArray} {i : Int} {u : Nat → AV} (h1 : ¬ i < 16384) : ∃ g, evH (prgZ E) mm lv81 ir8Z_l1 ⟨fr 164 u (L81 s i), [bx t]⟩ = some (.brk 2, ⟨fr 164 g (L80e s), [bx t]⟩) :=
 xbrk (p := prgZ E) (m := mm) (live := lv81) (b := ir8Z_l1) (s := ⟨fr 164 u (L81 s i), [bx t]⟩) (L := L80e s) (id := 2) (N := 164) (h := [bx t]) [(37, .d false)]
  (apc (cv (decide_eq_false h1) : vb (decide (i < 16384)) = vb false) apn) (by kernel_rfl)
theorem lp81 {mm N : Nat} {t : TreeD} {l : List UInt8} (hN : N = 16383) (hl : l.length ≤ 100000) : ∀ (m j : Nat) (u : Nat → AV), j + m = N → ∃ g, evH (prgZ E) mm lv81 ir8Z_l1 ⟨fr 164 u (L81 (bs (l ++ cls j)) ((j + 1 : Nat) : Int)), [bx t]⟩ = some (.brk 2, ⟨fr 164 g (L80e (bs (l ++ cls N))), [bx t]⟩)
 | 0, j, u, hj => by
  obtain rfl : j = N := by omega
  exact end81 (by omega)
 | m + 1, j, u, hj => by
  have hc := cls_len j
  obtain ⟨v, hv⟩ := rnd81 (E := E) (mm := mm) (t := t) (s := bs (l ++ cls j)) (s2 := bs (l ++ cls (j + 1))) (i := ((j + 1 : Nat) : Int)) (u := u) (by omega) (by
   rw [str_add (by rw [bs_size, bs_size, List.length_append, hc]; simp only [lcn, List.length_nil]; omega), bs_app, List.append_assoc]
   rfl)
  obtain ⟨g, hg⟩ := lp81 (mm := mm) hN hl m (j + 1) v (by omega)
  refine ⟨g, ?_⟩
  rw [hv, show w6 (((j + 1 : Nat) : Int) + 1) = ((j + 1 + 1 : Nat) : Int) from w_S (by omega)]
  exact hg
end
abbrev L82e : List (Nat × AV) := [(1, .ptr 0 0), (5, .ptr 1 0), (8, i6 16384), (9, .ptr 2 0), (10, i6 0), (12, i6 3), (14, i6 3), (15, .ptr 6 0)]
abbrev L82 (i : Int) : List (Nat × AV) := [(1, .ptr 0 0), (5, .ptr 1 0), (8, i6 16384), (9, .ptr 2 0), (10, i6 0), (12, i6 3), (14, i6 3), (15, .ptr 6 0), (16, i6 i)]
abbrev hB5 (t z : TreeD) : List AB := [bx t, bx (.mk 0 0 [t]), bx t, bx z, bx z]
abbrev wC (g n : Nat) : AB := .cells 25 [i6 0, vi .u8 0, .sl 5 g 3 0 n]
abbrev hB (t z : TreeD) (R : List (List AV)) : List AB := hB5 t z ++ [.row 25 3 0 R, wC 0 262143]
theorem keep82 {u : Nat → AV} {i : Int} : ∃ v, keepA lv82 0 (fr 164 u (L82 i)) = fr 164 v (L82 i) := by
 refine ⟨_, fr_eq (by rfl) (fun x hx => ?_)⟩
 simp only [L82, List.mem_cons, List.not_mem_nil, or_false] at hx
 rcases hx with rfl | rfl | rfl | rfl | rfl | rfl | rfl | rfl | rfl <;> rfl
theorem st_rpZ {h : List AB} {b g i : Nat} {v : Int} {R : List (List AV)} {r1 r2 r3 : AV} (hb : h[b]? = some (.row 25 3 g R)) (hr : R[i]? = some [r1, r2, r3]) : stA h 1 (.rp b g 3 i 0) (i6 v) = some (h.set b (.row 25 3 g (R.set i [i6 v, r2, r3]))) := by
 simp only [stA, cellsOf, Option.bind_some, List.length_singleton, if_true, storeA, hb, hr]
 rfl
section
variable {E : Er}
set_option maxRecDepth 100000 in
theorem rnd82 {mm i : Nat} {t z : TreeD} {R : List (List AV)} {u : Nat → AV} {r1 r2 r3 : AV} (h1 : i < 262143) (hx : R[i]? = some [r1, r2, r3]) :
  ∃ v, evH (prgZ E) mm lv82 ir8Z_l0 ⟨fr 164 u (L82 (i : Int)), hB t z R⟩ = evH (prgZ E) mm lv82 ir8Z_l0 ⟨fr 164 v (L82 (w6 ((i : Int) + 1))), hB t z (R.set i [i6 (-1), r2, r3])⟩ := by
 obtain ⟨g', hr⟩ := exitL_of (L := L82 (w6 ((i : Int) + 1))) (r := runD (prgZ E) 30 [(76, .d true), (82, .v (.rp 5 0 3 i 0)), (1083, .r ud (hB t z (R.set i [i6 (-1), r2, r3])))] ir8Z_l0 ⟨fr 164 u (L82 (i : Int)), hB t z R⟩) (o := .norm) (n := 164) (h := hB t z (R.set i [i6 (-1), r2, r3])) (by kernel_rfl)
 have hrun := runD_ok hr
  (apc (cv (decide_eq_true (by omega)) : vb (decide ((i : Int) < ((262143 : Nat) : Int))) = vb true)
  (apc (idx_sl (by rw [ixN_nat, if_pos (by omega)]) : idxA 3 (.sl 5 0 3 0 262143) (i6 (i : Int)) = some (.rp 5 0 3 i 0))
  (apc (⟨st_rpZ (h := hB t z R) (b := 5) (v := -1) rfl hx, rfl⟩ : stA (hB t z R) 1 (.rp 5 0 3 i 0) (i6 (-1)) = some (hB t z (R.set i [i6 (-1), r2, r3])) ∧ ud = ud) apn)))
 obtain ⟨v', hv'⟩ := keep82 (u := g') (i := w6 ((i : Int) + 1))
 exact ⟨v', by rw [ev_round rfl hrun, hv']⟩
set_option maxRecDepth 100000 in
theorem end82 {mm i : Nat} {t z : TreeD} {R : List (List AV)} {u : Nat → AV} (h1 : ¬ i < 262143) : ∃ g, evH (prgZ E) mm lv82 ir8Z_l0 ⟨fr 164 u (L82 (i : Int)), hB t z R⟩ = some (.brk 4, ⟨fr 164 g L82e, hB t z R⟩) :=
 xbrk (p := prgZ E) (m := mm) (live := lv82) (b := ir8Z_l0) (s := ⟨fr 164 u (L82 (i : Int)), hB t z R⟩) (L := L82e) (id := 4) (N := 164) (h := hB t z R) [(76, .d false)]
  (apc (cv (decide_eq_false (by omega)) : vb (decide ((i : Int) < ((262143 : Nat) : Int))) = vb false) apn) (by kernel_rfl)
theorem rep_set {α : Type} {a b : α} {i m : Nat} : (List.replicate i a ++ List.replicate (m + 1) b).set i a = List.replicate (i + 1) a ++ List.replicate m b := by
 induction i with
 | zero => rfl
 | succ i ih =>
  rw [List.replicate_succ, List.cons_append, List.set_cons_succ, ih, List.replicate_succ (n := i + 1)]
  rfl
theorem lp82 {mm : Nat} {t z : TreeD} : ∀ (m i : Nat) (u : Nat → AV), i + m = 262143 → ∃ g, evH (prgZ E) mm lv82 ir8Z_l0 ⟨fr 164 u (L82 (i : Int)), hB t z (List.replicate i lfA ++ List.replicate m zrA)⟩ = some (.brk 4, ⟨fr 164 g L82e, hB t z (List.replicate 262143 lfA)⟩)
 | 0, i, u, hi => by
  rw [show List.replicate 0 zrA = [] from rfl, List.append_nil]
  obtain rfl : i = 262143 := by omega
  exact end82 (by omega)
 | m + 1, i, u, hi => by
  obtain ⟨v, hv⟩ := rnd82 (E := E) (mm := mm) (t := t) (z := z) (R := List.replicate i lfA ++ List.replicate (m + 1) zrA) (i := i) (u := u) (by omega) (r1 := i6 0) (r2 := vi .u8 0) (r3 := .p (.val (.slice none 0 0))) (by
   rw [List.getElem?_append_right (by rw [lrp]; exact Nat.le_refl _), lrp, Nat.sub_self, List.replicate_succ]
   rfl)
  obtain ⟨g, hg⟩ := lp82 (mm := mm) (t := t) (z := z) m (i + 1) v (by omega)
  refine ⟨g, ?_⟩
  rw [hv, show w6 ((i : Int) + 1) = ((i + 1 : Nat) : Int) from w_S (by omega)]
  rw [show (List.replicate i lfA ++ List.replicate (m + 1) zrA).set i [i6 (-1), vi .u8 0, .p (.val (.slice none 0 0))] = List.replicate (i + 1) lfA ++ List.replicate m zrA from rep_set]
  exact hg
end
set_option maxHeartbeats 4000000
def sqZ : List IC → IC → IC
 | [], r => r
 | a :: l, r => .seq a (sqZ l r)
theorem run_sqZ {E : Env} {L : Ev} : ∀ (l : List IC) {r : IC} {s s1 : St}, run E L (sqZ l .skip) s = some (.norm, s1) → run E L (sqZ l r) s = run E L r s1
 | [], r, s, s1, h => by
  have h : some (Out.norm, s) = some (Out.norm, s1) := h
  simp only [Option.some.injEq, Prod.mk.injEq, true_and] at h
  rw [h]
  rfl
 | a :: l, r, s, s1, h => by
  simp only [sqZ, run_seq] at h ⊢
  match hx : run E L a s, h with
  | some (.norm, s2), h =>
   rw [seqK_norm] at h ⊢
   exact run_sqZ l h
  | some (.brk i, s2), h => rw [seqK_brk] at h; cases h
  | some (.ret, s2), h => rw [seqK_ret] at h; cases h
  | none, h => rw [seqK_none] at h; cases h
def nxZ : Nat → IC → IC
 | 0, c => c
 | n + 1, c => nxZ n (nxI c)
def l8A : List IC := [hdI (nxZ 0 ir8Z.code), hdI (nxZ 1 ir8Z.code), hdI (nxZ 2 ir8Z.code)]
def p8M : IC := hdI (hdI (nxZ 3 ir8Z.code))
def p8Q : IC := hdI (nxZ 4 ir8Z.code)
def p8N : IC := hdI (hdI (nxZ 5 ir8Z.code))
def l8B : List IC := [hdI (nxZ 6 ir8Z.code), hdI (nxZ 7 ir8Z.code), hdI (nxZ 8 ir8Z.code), hdI (nxZ 9 ir8Z.code), hdI (nxZ 10 ir8Z.code), hdI (nxZ 11 ir8Z.code)]
def p8O : IC := hdI (hdI (nxZ 12 ir8Z.code))
def p8P : IC := nxZ 13 ir8Z.code
theorem c8Z : ir8Z.code = sqZ l8A (.seq (.seq p8M (.block 0 (.loop lv80 ir8Z_l2))) (.seq p8Q (.seq (.seq p8N (.block 2 (.loop lv81 ir8Z_l1))) (sqZ l8B (.seq (.seq p8O (.block 4 (.loop lv82 ir8Z_l0))) p8P))))) := by kernel_rfl
abbrev hC8 (t z : TreeD) (R : List (List AV)) : List AB := hB5 t z ++ [.row 25 3 0 R, wC 0 262143, .row 25 3 0 [lfA]]
abbrev hD8 (t z : TreeD) (R : List (List AV)) : List AB := hB5 t z ++ [.row 25 3 1 R, wC 0 262143, .row 25 3 0 [lfA]]
abbrev hE8 (t z : TreeD) (R : List (List AV)) : List AB := hB5 t z ++ [.row 25 3 1 R, wC 1 262144, .row 25 3 0 [lfA]]
abbrev hF8 (t z : TreeD) (R B : List (List AV)) : List AB := hE8 t z R ++ [.row 5 1 0 B]
abbrev hG8 (t z : TreeD) (R B : List (List AV)) : List AB := hE8 t z R ++ [.row 5 1 0 B, bx z]
section
variable {E : Er}
set_option maxRecDepth 100000 in
theorem run8A : ∃ u, run (envOf (prgZ E) (ev (prgZ E))) (ev (prgZ E)) (sqZ l8A .skip) ⟨List.replicate 164 ud, []⟩ = some (.norm, ⟨fr 164 u (L80e (bL [])), [bx (.mk 0 0 [])]⟩) := by
 exact exP (n := 5) [] apn (by kernel_rfl)
set_option maxRecDepth 100000 in
theorem run8M {u : Nat → AV} {s : ByteArray} {H : List AB} : ∃ u', run (envOf (prgZ E) (ev (prgZ E))) (ev (prgZ E)) p8M ⟨fr 164 u (L80e s), H⟩ = some (.norm, ⟨fr 164 u' (L80 s 1), H⟩) := by
 exact exP (n := 5) [] apn (by kernel_rfl)
set_option maxRecDepth 100000 in
theorem run8Q {u : Nat → AV} {s s2 : ByteArray} {H : List AB} (hs : binA .add (vs s) (vs (bL [48, 40, 41])) = some (vs s2)) : ∃ u', run (envOf (prgZ E) (ev (prgZ E))) (ev (prgZ E)) p8Q ⟨fr 164 u (L80e s), H⟩ = some (.norm, ⟨fr 164 u' (L80e s2), H⟩) := by
 exact exP (n := 5) [(35, .v (vs s2))] (apc hs apn) (by kernel_rfl)
set_option maxRecDepth 100000 in
theorem run8N {u : Nat → AV} {s : ByteArray} {H : List AB} : ∃ u', run (envOf (prgZ E) (ev (prgZ E))) (ev (prgZ E)) p8N ⟨fr 164 u (L80e s), H⟩ = some (.norm, ⟨fr 164 u' (L81 s 1), H⟩) := by
 exact exP (n := 5) [] apn (by kernel_rfl)
set_option maxRecDepth 100000 in
theorem run8B {p b a1 a2 : Int} {ks : List TreeD} {z : TreeD} {u : Nat → AV} {s s2 s3 : ByteArray} {R : List (List AV)}
  (c19 : PR1 (prgZ E) 19 [.agg ((cT (.mk p b ks)).map .p)] (.tup [i6 a1, i6 a2, i6 16384]))
  (c12 : PR1 (prgZ E) 12 [vs s] (.tup [.agg ((cT (.mk p b ks)).map .p), i6 0]))
  (hs2 : binA .add (vs (bL [48, 40])) (vs s) = some (vs s2)) (hs3 : binA .add (vs s2) (vs (bL [41])) = some (vs s3))
  (c12b : PR1 (prgZ E) 12 [vs s3] (.tup [.agg ((cT z).map .p), i6 3]))
  (c33 : PR1 (prgZ E) 33 [.agg ((cT (.mk p b ks)).map .p), .agg ((cT (.mk p b ks)).map .p), ls 1 eI64 [0, 0]] (.tup [.agg ((cT z).map .p), i6 3]))
  (hm : mkA 25 3 40 [.val (.int .i64 0), .val (.int .u8 0), .val (.slice none 0 0)] (i6 262143) (i6 262143) 5 = some (.sl 5 0 3 0 262143, .row 25 3 0 R)) :
  ∃ u', run (envOf (prgZ E) (ev (prgZ E))) (ev (prgZ E)) (sqZ l8B .skip) ⟨fr 164 u (L80e s), [bx (.mk p b ks)]⟩ = some (.norm, ⟨fr 164 u' L82e, hB (.mk p b ks) z R⟩) := by
 obtain ⟨u', hr⟩ := exitL_of (L := L82e) (r := runD (prgZ E) 30 [(47, .v (.tup [i6 a1, i6 a2, i6 16384])), (53, .v (.tup [.agg ((cT (.mk p b ks)).map .p), i6 0])), (58, .v (vs s2)), (59, .v (vs s3)), (60, .v (.tup [.agg ((cT z).map .p), i6 3])),
  (67, .v (.tup [.agg ((cT z).map .p), i6 3])), (70, .r (.sl 5 0 3 0 262143) (hB5 (.mk p b ks) z ++ [.row 25 3 0 R]))] (sqZ l8B .skip) ⟨fr 164 u (L80e s), [bx (.mk p b ks)]⟩) (o := .norm) (n := 164) (h := hB (.mk p b ks) z R) (by kernel_rfl)
 have hm' : (mkA 25 3 40 [.val (.int .i64 0), .val (.int .u8 0), .val (.slice none 0 0)] (i6 262143) (i6 262143) 5).map (fun x => (x.1, hB5 (.mk p b ks) z ++ [x.2])) = some (.sl 5 0 3 0 262143, hB5 (.mk p b ks) z ++ [.row 25 3 0 R]) := by rw [hm]; rfl
 exact ⟨u', runD_ok hr (apc (c19.cp rfl [bx (.mk p b ks), bx (.mk 0 0 [.mk p b ks])]) (apc (c12.cp rfl [bx (.mk p b ks), bx (.mk 0 0 [.mk p b ks])]) (apc hs2 (apc hs3 (apc (c12b.cp rfl [bx (.mk p b ks), bx (.mk 0 0 [.mk p b ks]), bx (.mk p b ks)]) (apc (c33.cp rfl [bx (.mk p b ks), bx (.mk 0 0 [.mk p b ks]), bx (.mk p b ks), bx z]) (apc hm' apn)))))))⟩
set_option maxRecDepth 100000 in
theorem run8O {u : Nat → AV} {H : List AB} : ∃ u', run (envOf (prgZ E) (ev (prgZ E))) (ev (prgZ E)) p8O ⟨fr 164 u L82e, H⟩ = some (.norm, ⟨fr 164 u' (L82 0), H⟩) := by
 exact exP (n := 5) [] apn (by kernel_rfl)
set_option maxRecDepth 100000 in
theorem run8P {t z : TreeD} {u : Nat → AV} {S S2 lg : ByteArray} {R R2 B : List (List AV)}
  (c20 : CP (prgZ E) 20 [.agg [i6 0, vi .u8 0, .sl 5 0 3 0 262143]] (hB t z R) = some (.tup [vs S, i6 0])) (hS : (S.size : Int) = 1048574)
  (ap : appA (hC8 t z R) 25 3 40 (.sl 5 0 3 0 262143) (.sl 7 0 3 0 1) = some (.sl 5 1 3 0 262144, hD8 t z R2))
  (c20b : CP (prgZ E) 20 [.agg [i6 0, vi .u8 0, .sl 5 1 3 0 262144]] (hE8 t z R2) = some (.tup [vs S2, i6 3]))
  (hm : mkA 5 1 1 [.val (.int .u8 0)] (i6 1048577) (i6 1048577) 8 = some (.sl 8 0 1 0 1048577, .row 5 1 0 B))
  (hcv : cvB (hF8 t z R2 B) (.sl 8 0 1 0 1048577) = some (vs lg))
  (c12 : PR1 (prgZ E) 12 [vs lg] (.tup [.agg ((cT z).map .p), i6 3]))
  (c23 : PR1 (prgZ E) 23 [.agg ((cT t).map .p)] (i6 0)) (c23b : PR1 (prgZ E) 23 [.agg ((cT (.mk 0 0 [t])).map .p)] (i6 3))
  (n0 : PR1 (prgZ E) 15 [i6 0] (i6 0)) (n3 : PR1 (prgZ E) 15 [i6 3] (i6 3)) (c14 : PR1 (prgZ E) 14 [.agg ((cT t).map .p), .agg ((cT t).map .p)] (vb true)) (c11 : PR1 (prgZ E) 11 [] (vb true)) :
  ∃ u', run (envOf (prgZ E) (ev (prgZ E))) (ev (prgZ E)) p8P ⟨fr 164 u L82e, hB t z R⟩ = some (.ret, ⟨fr 164 u' [(0, vb true)], hG8 t z R2 B⟩) := by
 obtain ⟨u', hr⟩ := exitL_of (L := [(0, vb true)]) (r := runD (prgZ E) 30 [(86, .v (.tup [vs S, i6 0])), (93, .r (.sl 5 1 3 0 262144) (hD8 t z R2)), (97, .v (.tup [vs S2, i6 3])), (100, .r (.sl 8 0 1 0 1048577) (hF8 t z R2 B)), (103, .v (vs lg)),
  (104, .v (.tup [.agg ((cT z).map .p), i6 3])), (108, .v (i6 0)), (109, .v (i6 0)), (113, .v (i6 3)), (114, .v (i6 3)), (123, .v (i6 0)), (129, .v (vb true)), (133, .v (i6 3)), (138, .v (i6 3)), (143, .v (i6 0)), (149, .d true), (153, .v (i6 3)), (158, .v (i6 3)), (162, .v (vb true))]
  p8P ⟨fr 164 u L82e, hB t z R⟩) (o := .ret) (n := 164) (h := hG8 t z R2 B) (by kernel_rfl)
 have hm' : (mkA 5 1 1 [.val (.int .u8 0)] (i6 1048577) (i6 1048577) 8).map (fun x => (x.1, hE8 t z R2 ++ [x.2])) = some (.sl 8 0 1 0 1048577, hF8 t z R2 B) := by rw [hm]; rfl
 exact ⟨u', runD_ok hr (apc c20 (apc ap (apc c20b (apc hm' (apc hcv (apc (c12.cp rfl (hF8 t z R2 B)) (apc (c23.cp rfl (hG8 t z R2 B)) (apc (n0.cp rfl (hG8 t z R2 B)) (apc (c23b.cp rfl (hG8 t z R2 B)) (apc (n3.cp rfl (hG8 t z R2 B)) (apc (n0.cp rfl (hG8 t z R2 B)) (apc (c14.cp rfl (hG8 t z R2 B)) (apc (n3.cp rfl (hG8 t z R2 B)) (apc (n3.cp rfl (hG8 t z R2 B)) (apc (n0.cp rfl (hG8 t z R2 B))
  (apc (cv (by rw [hS]; rfl) : vb ((S.size : Int) == 1048574) = vb true) (apc (n3.cp rfl (hG8 t z R2 B)) (apc (n3.cp rfl (hG8 t z R2 B)) (apc (c11.cp rfl (hG8 t z R2 B)) apn)))))))))))))))))))⟩
end
set_option maxHeartbeats 4000000
theorem mk_A {t size bytes r n : Nat} {zero : List PV} (h1 : n * bytes ≤ limit47) (h2 : n ≤ limit47) : mkA t size bytes zero (i6 (n : Int)) (i6 (n : Int)) r = some (.sl r 0 size 0 n, .row t size 0 (List.replicate n (zero.map .p))) := by
 show (if 0 ≤ (n : Int) ∧ (n : Int) = (n : Int) ∧ (n : Int) * (bytes : Int) ≤ (limit47 : Int) ∧ (n : Int) ≤ (limit47 : Int) then some (AV.sl r 0 size 0 (n : Int).toNat, AB.row t size 0 (List.replicate (n : Int).toNat (zero.map .p))) else none) = _
 rw [if_pos ⟨by omega, rfl, by exact_mod_cast h1, by omega⟩, Int.toNat_natCast]
theorem rep_ra (n : Nat) : List.replicate n lfA = ra (id : List PV → List PV) (List.replicate n lfR) := by
 show _ = (List.replicate n lfR).map _
 rw [List.map_replicate]
 rfl
theorem app_lf {n : Nat} {h : List AB} (hb : h[5]? = some (.row 25 3 0 (List.replicate n lfA))) (h7 : h[7]? = some (.row 25 3 0 [lfA])) (hn : n ≤ 10000000) :
  appA h 25 3 40 (.sl 5 0 3 0 n) (.sl 7 0 3 0 1) = some (.sl 5 1 3 0 (n + 1), h.set 5 (.row 25 3 1 (List.replicate (n + 1) lfA))) := by
 rw [rep_ra] at hb
 have := ap_out (bytes := 40) (e := (id : List PV → List PV)) (xs := List.replicate n lfR) (news := [lfR]) (len := n) (k := 1) (y := .sl 7 0 3 0 1) hb (rows_x (e := (id : List PV → List PV)) (xs := [lfR]) h7) rfl
  (decide_eq_true ⟨by rw [lrp]; exact Nat.le_refl _, by unfold limit47; omega, by unfold limit47; omega⟩) (decide_eq_false (by rw [lrp]; omega))
 rw [List.take_of_length_le (by rw [lrp]; exact Nat.le_refl _), ← List.replicate_succ', ← rep_ra] at this
 exact this
theorem cv_long {n : Nat} {h : List AB} (hb : h[8]? = some (.row 5 1 0 (List.replicate n [vi .u8 0]))) : ∃ lg, cvB h (.sl 8 0 1 0 n) = some (vs lg) ∧ lg.size = n := by
 have e : List.replicate n [vi .u8 0] = ra eU8 (List.replicate n 0) := by
  show _ = (List.replicate n (0 : Int)).map _
  rw [List.map_replicate]
  rfl
 rw [e] at hb
 refine ⟨_, cv_own (e := eU8) (len := n) hb (decide_eq_true (by rw [lrp]; exact Nat.le_refl _)), ?_⟩
 unfold bstr
 show (List.toArray _).size = _
 rw [List.size_toArray, List.length_map, List.length_take, lrp, Nat.min_self]
theorem nst_s (n : Nat) : nst (n + 1) = .mk 0 0 [nst n] := rfl
theorem putN2 (m n : Nat) : putT (nst (m + 2)) (nst n) [0, 0] = nst (n + 2) := rfl
section
variable {e : (TypeId × Value) × (TypeId × Value)}
theorem put_nst {m : Nat} (h : m + 3 ≤ 16384) (h2 : 16384 ≤ m + 2 + 2) : PR1 (prgP (some e)) 33 [.agg ((cT (nst (m + 2))).map .p), .agg ((cT (nst (m + 2))).map .p), ls 1 eI64 [0, 0]] (.tup [.agg ((cT (.mk 0 0 [])).map .p), i6 3]) := by
 have hq := ask_deep (E := some e) (fa := 58) (caps := []) (h := []) (n := m + 2 + 2) h2 (fun m H => at58 m H)
 rw [← putN2 m (m + 2)] at hq
 have h56 : PR1 (prg (some e)) 56 [.agg ((cT (nst (m + 2))).map .p), ls 1 eI64 [0, 0]] (.tup [.agg ((cT (nst m)).map .p), i6 0, i6 0]) := @F56_ok (erL (some e)) 20000 (nst (m + 2)) [0, 0] _ (nst_56 (by omega))
 refine put_pan (w := nst m) (f := 0) (by rw [nst_tc]; omega) (by rw [nst_tc]; omega) (by decide) hq (by rw [putN2, nst_dep]; omega) (nst_23 (by omega)) (nst_23 (by omega)) h56 ?_
 rfl
theorem run8X {N : Nat} (hN : N = 16383) (X : IC) : ∃ u, run (envOf (prgZ (some e)) (ev (prgZ (some e)))) (ev (prgZ (some e))) (sqZ l8A (.seq (.seq p8M (.block 0 (.loop lv80 ir8Z_l2))) (.seq p8Q (.seq (.seq p8N (.block 2 (.loop lv81 ir8Z_l1))) X)))) ⟨List.replicate 164 ud, []⟩ =
  run (envOf (prgZ (some e)) (ev (prgZ (some e)))) (ev (prgZ (some e))) X ⟨fr 164 u (L80e (bs (tbt (nst N)))), [bx (nst N)]⟩ := by
 obtain ⟨u1, r1⟩ := run8A (E := some e)
 obtain ⟨u2, r2⟩ := run8M (E := some e) (u := u1) (s := bL []) (H := [bx (.mk 0 0 [])])
 obtain ⟨v2, k2⟩ := keep80 (u := u2) (s := bL []) (i := 1)
 obtain ⟨u3, l3⟩ := lp80 (E := some e) (mm := 1) hN N 0 v2 (by omega)
 have r3 : run (envOf (prgZ (some e)) (ev (prgZ (some e)))) (ev (prgZ (some e))) (.block 0 (.loop lv80 ir8Z_l2)) ⟨fr 164 u2 (L80 (bL []) 1), [bx (.mk 0 0 [])]⟩ = some (.norm, ⟨fr 164 u3 (L80e (bs (opn N))), [bx (nst N)]⟩) := by
  rw [run_block, run_loop]
  show blockK 0 (evH (prgZ (some e)) 1 lv80 ir8Z_l2 (trim _ lv80 _)) = _
  rw [trim_noT rfl, k2]
  exact (congrArg (blockK 0) l3).trans rfl
 have hol := opn_len N
 have hoc : bs ((opn N ++ [48, 40, 41]) ++ cls N) = bs (tbt (nst N)) := by rw [nst_oc]
 obtain ⟨u4, r4⟩ := run8Q (E := some e) (u := u3) (s := bs (opn N)) (s2 := bs ((opn N ++ [48, 40, 41]) ++ cls 0)) (H := [bx (nst N)]) (by
  rw [str_add (by rw [bs_size, bs_size, hol]; simp only [lcn, List.length_nil]; omega), bs_app]
  rw [show cls 0 = [] from rfl, List.append_nil])
 obtain ⟨u5, r5⟩ := run8N (E := some e) (u := u4) (s := bs ((opn N ++ [48, 40, 41]) ++ cls 0)) (H := [bx (nst N)])
 obtain ⟨v5, k5⟩ := keep81 (u := u5) (s := bs ((opn N ++ [48, 40, 41]) ++ cls 0)) (i := 1)
 obtain ⟨u6, l6⟩ := lp81 (E := some e) (mm := 1) (t := nst N) (l := opn N ++ [48, 40, 41]) hN (by rw [List.length_append, hol]; simp only [lcn, List.length_nil]; omega) N 0 v5 (by omega)
 rw [hoc] at l6
 have r6 : run (envOf (prgZ (some e)) (ev (prgZ (some e)))) (ev (prgZ (some e))) (.block 2 (.loop lv81 ir8Z_l1)) ⟨fr 164 u5 (L81 (bs ((opn N ++ [48, 40, 41]) ++ cls 0)) 1), [bx (nst N)]⟩ = some (.norm, ⟨fr 164 u6 (L80e (bs (tbt (nst N)))), [bx (nst N)]⟩) := by
  rw [run_block, run_loop]
  show blockK 2 (evH (prgZ (some e)) 1 lv81 ir8Z_l1 (trim _ lv81 _)) = _
  rw [trim_noT rfl, k5]
  exact (congrArg (blockK 2) l6).trans rfl
 refine ⟨u6, ?_⟩
 rw [run_sqZ l8A r1]
 simp only [run_seq, r2, seqK_norm, r3, r4, r5, r6]
theorem run8Y {p b a1 a2 : Int} {ks : List TreeD} {z : TreeD} {u : Nat → AV} {s s2 s3 S1 : ByteArray}
  (c19 : PR1 (prgZ (some e)) 19 [.agg ((cT (.mk p b ks)).map .p)] (.tup [i6 a1, i6 a2, i6 16384]))
  (c12 : PR1 (prgZ (some e)) 12 [vs s] (.tup [.agg ((cT (.mk p b ks)).map .p), i6 0]))
  (hs2 : binA .add (vs (bL [48, 40])) (vs s) = some (vs s2)) (hs3 : binA .add (vs s2) (vs (bL [41])) = some (vs s3))
  (c12b : PR1 (prgZ (some e)) 12 [vs s3] (.tup [.agg ((cT z).map .p), i6 3]))
  (c33 : PR1 (prgZ (some e)) 33 [.agg ((cT (.mk p b ks)).map .p), .agg ((cT (.mk p b ks)).map .p), ls 1 eI64 [0, 0]] (.tup [.agg ((cT z).map .p), i6 3]))
  (q20a : ∀ {b g : Nat} {h : List AB}, h[b]? = some (.row 25 3 g (List.replicate 262143 lfA)) → CP (prgZ (some e)) 20 [.agg [i6 0, vi .u8 0, .sl b g 3 0 262143]] h = some (.tup [vs S1, i6 0]))
  (q20b : ∀ {b g : Nat} {h : List AB}, h[b]? = some (.row 25 3 g (List.replicate 262144 lfA)) → CP (prgZ (some e)) 20 [.agg [i6 0, vi .u8 0, .sl b g 3 0 262144]] h = some (.tup [vs b0, i6 3]))
  (hS : (S1.size : Int) = 1048574) (hz : ∀ lg : ByteArray, lg.size = 1048577 → PR1 (prgZ (some e)) 12 [vs lg] (.tup [.agg ((cT z).map .p), i6 3]))
  (c23 : PR1 (prgZ (some e)) 23 [.agg ((cT (.mk p b ks)).map .p)] (i6 0)) (c23b : PR1 (prgZ (some e)) 23 [.agg ((cT (.mk 0 0 [.mk p b ks])).map .p)] (i6 3))
  (n0 : PR1 (prgZ (some e)) 15 [i6 0] (i6 0)) (n3 : PR1 (prgZ (some e)) 15 [i6 3] (i6 3)) (c14 : PR1 (prgZ (some e)) 14 [.agg ((cT (.mk p b ks)).map .p), .agg ((cT (.mk p b ks)).map .p)] (vb true)) (c11 : PR1 (prgZ (some e)) 11 [] (vb true)) :
  ∃ u' H, run (envOf (prgZ (some e)) (ev (prgZ (some e)))) (ev (prgZ (some e))) (sqZ l8B (.seq (.seq p8O (.block 4 (.loop lv82 ir8Z_l0))) p8P)) ⟨fr 164 u (L80e s), [bx (.mk p b ks)]⟩ = some (.ret, ⟨fr 164 u' [(0, vb true)], H⟩) := by
 have hm := mk_A (t := 25) (size := 3) (bytes := 40) (r := 5) (n := 262143) (zero := [.val (.int .i64 0), .val (.int .u8 0), .val (.slice none 0 0)]) (by unfold limit47; omega) (by unfold limit47; omega)
 have hm2 := mk_A (t := 5) (size := 1) (bytes := 1) (r := 8) (n := 1048577) (zero := [.val (.int .u8 0)]) (by unfold limit47; omega) (by unfold limit47; omega)
 obtain ⟨u7, r7⟩ := run8B (E := some e) (u := u) (z := z) (R := List.replicate 262143 zrA) c19 c12 hs2 hs3 c12b c33 hm
 obtain ⟨u8, r8⟩ := run8O (E := some e) (u := u7) (H := hB (.mk p b ks) z (List.replicate 262143 zrA))
 obtain ⟨v8, k8⟩ := keep82 (u := u8) (i := 0)
 obtain ⟨u9, l9⟩ := lp82 (E := some e) (mm := 7) (t := .mk p b ks) (z := z) 262143 0 v8 (by omega)
 rw [show List.replicate 0 lfA = [] from rfl, List.nil_append] at l9
 have r9 : run (envOf (prgZ (some e)) (ev (prgZ (some e)))) (ev (prgZ (some e))) (.block 4 (.loop lv82 ir8Z_l0)) ⟨fr 164 u8 (L82 0), hB (.mk p b ks) z (List.replicate 262143 zrA)⟩ = some (.norm, ⟨fr 164 u9 L82e, hB (.mk p b ks) z (List.replicate 262143 lfA)⟩) := by
  rw [run_block, run_loop]
  show blockK 4 (evH (prgZ (some e)) 7 lv82 ir8Z_l0 (trim _ lv82 _)) = _
  rw [trim_noT rfl, k8]
  exact (congrArg (blockK 4) l9).trans rfl
 have ap := app_lf (n := 262143) (h := hC8 (.mk p b ks) z (List.replicate 262143 lfA)) rfl rfl (by omega)
 have q1 := q20a (b := 5) (g := 0) (h := hB (.mk p b ks) z (List.replicate 262143 lfA)) rfl
 have q2 := q20b (b := 5) (g := 1) (h := hE8 (.mk p b ks) z (List.replicate 262144 lfA)) rfl
 obtain ⟨lg, g1, g2⟩ := cv_long (n := 1048577) (h := hF8 (.mk p b ks) z (List.replicate 262144 lfA) (List.replicate 1048577 [vi .u8 0])) rfl
 generalize List.replicate 262143 lfA = R1 at *
 have hmz : List.map AV.p [PV.val (.int .u8 0)] = [vi .u8 0] := rfl
 rw [hmz] at hm2
 rw [show (262143 + 1 : Nat) = 262144 from rfl] at ap
 generalize List.replicate 262144 lfA = R2 at *
 generalize List.replicate 1048577 [vi .u8 0] = B at *
 obtain ⟨u10, r10⟩ := run8P (E := some e) (t := .mk p b ks) (z := z) (u := u9) (S := S1) (S2 := b0) (lg := lg) (R := R1) (R2 := R2) (B := B) q1 hS ap q2 hm2 g1 (hz lg g2) c23 c23b n0 n3 c14 c11
 refine ⟨u10, hG8 (.mk p b ks) z R2 B, ?_⟩
 rw [run_sqZ l8B r7]
 simp only [run_seq, r8, seqK_norm, r9, r10]
end
section
variable {e : (TypeId × Value) × (TypeId × Value)}
theorem w20a {n : Nat} (hn : n = 262143) {b g : Nat} {h : List AB} (hb : h[b]? = some (.row 25 3 g (List.replicate n lfA))) : CP (prgZ (some e)) 20 [.agg [i6 0, vi .u8 0, .sl b g 3 0 n]] h = some (.tup [vs (bs (tbt (wdT n))), i6 0]) := by
 have q : PR1 (prg (some e)) 20 [.agg ((cT (wdT n)).map .p)] (.tup [vs (bs (tbt (wdT n))), i6 0]) := @F20_ok (erL (some e)) (n + 2) (wdT n) _ (wd_20a (by omega) (by omega))
 exact z20 hb q rfl
theorem w20b {n : Nat} (hn : n = 262144) {b g : Nat} {h : List AB} (hb : h[b]? = some (.row 25 3 g (List.replicate n lfA))) : CP (prgZ (some e)) 20 [.agg [i6 0, vi .u8 0, .sl b g 3 0 n]] h = some (.tup [vs b0, i6 3]) := by
 have q : PR1 (prg (some e)) 20 [.agg ((cT (wdT n)).map .p)] (.tup [vs b0, i6 3]) := @F20_ok (erL (some e)) (n + 2) (wdT n) _ (wd_20b (by omega) (by omega))
 exact z20 hb q rfl
theorem bounds {m : Nat} (hm : m = 16381) : PR1 (prgZ (some e)) 8 [] (vb true) := by
 have n0 : PR1 (prgZ (some e)) 15 [i6 0] (i6 0) := lowZ (@F15_ok (erL (some e)) 0 0 rfl) rfl (fun _ => rfl)
 have n3 : PR1 (prgZ (some e)) 15 [i6 3] (i6 3) := lowZ (@F15_ok (erL (some e)) 3 3 rfl) rfl (fun _ => rfl)
 have c11 : PR1 (prgZ (some e)) 11 [] (vb true) := lowZ works rfl (fun _ => rfl)
 have c19 : PR1 (prgZ (some e)) 19 [.agg ((cT (nst (m + 2))).map .p)] (.tup [i6 ((m + 2 + 1 : Nat) : Int), i6 0, i6 ((m + 2 + 1 : Nat) : Int)]) := lowZ (@F19_ok (erL (some e)) 20000 (nst (m + 2)) _ (nst_19 (by omega) (by omega))) rfl (fun _ => rfl)
 rw [show ((m + 2 + 1 : Nat) : Int) = 16384 by omega] at c19
 have c14 : PR1 (prgZ (some e)) 14 [.agg ((cT (nst (m + 2))).map .p), .agg ((cT (nst (m + 2))).map .p)] (vb true) := lowZ (@F14_ok (erL (some e)) 20000 (nst (m + 2)) (nst (m + 2)) true (q14 20000 (nst (m + 2)) (by rw [nst_tc]; omega) (by rw [nst_tc]; omega))) rfl (fun _ => rfl)
 have c23 : PR1 (prgZ (some e)) 23 [.agg ((cT (nst (m + 2))).map .p)] (i6 0) := z23 (@F23_ok (erL (some e)) (nst (m + 2)) _ (nst_23 (by omega))) (by rw [nst_dep]; omega)
 have c23b : PR1 (prgZ (some e)) 23 [.agg ((cT (nst (m + 2 + 1))).map .p)] (i6 3) := z23d (by omega)
 have c12 : PR1 (prgZ (some e)) 12 [vs (bs (tbt (nst (m + 2))))] (.tup [.agg ((cT (nst (m + 2))).map .p), i6 0]) := by
  have h := read_nst (e := e) (n := m + 2) (by omega)
  rw [decide_eq_false (by omega), cond_false] at h
  exact lowZ (read_pr h) rfl (fun _ => rfl)
 have c12b : PR1 (prgZ (some e)) 12 [vs (bs (tbt (nst (m + 2 + 1))))] (.tup [.agg ((cT zT).map .p), i6 3]) := by
  have h := read_nst (e := e) (n := m + 2 + 1) (by omega)
  rw [decide_eq_true (by omega), cond_true] at h
  exact lowZ (read_pr h) rfl (fun _ => rfl)
 have hz : zT = .mk 0 0 [] := rfl
 have c33 : PR1 (prgZ (some e)) 33 [.agg ((cT (nst (m + 2))).map .p), .agg ((cT (nst (m + 2))).map .p), ls 1 eI64 [0, 0]] (.tup [.agg ((cT zT).map .p), i6 3]) := by
  rw [hz]
  exact z33 (put_nst (e := e) (m := m) (by omega) (by omega))
 have hl := nst_len (m + 2)
 have hs2 : binA .add (vs (bL [48, 40])) (vs (bs (tbt (nst (m + 2))))) = some (vs (bs ([48, 40] ++ tbt (nst (m + 2))))) := by
  rw [str_add (by rw [bs_size, bs_size, hl]; simp only [lcn, List.length_nil]; omega), bs_app]
 have hs3 : binA .add (vs (bs ([48, 40] ++ tbt (nst (m + 2))))) (vs (bL [41])) = some (vs (bs (tbt (nst (m + 2 + 1))))) := by
  rw [str_add (by rw [bs_size, bs_size, List.length_append, hl]; simp only [lcn, List.length_nil]; omega), bs_app, nst_tb (m + 2)]
  rfl
 have hS : ∀ n : Nat, n = 262143 → ((bs (tbt (wdT n))).size : Int) = 1048574 := fun n hn => by rw [bs_size, wd_len (by omega)]; omega
 rw [nst_s] at c23b
 obtain ⟨u6, r6⟩ := run8X (e := e) (N := m + 2) (by omega) (sqZ l8B (.seq (.seq p8O (.block 4 (.loop lv82 ir8Z_l0))) p8P))
 generalize nst (m + 2) = T at *
 obtain ⟨p, b, ks, rfl⟩ : ∃ p b ks, T = .mk p b ks := ⟨_, _, _, (tmk T).symm⟩
 obtain ⟨u', H, r7⟩ := run8Y (e := e) (u := u6) c19 c12 hs2 hs3 c12b c33 (S1 := bs (tbt (wdT 262143))) (w20a rfl) (w20b rfl) (hS 262143 rfl) (fun lg hlg => lowZ (read_pr (read_long (e := e) (by omega))) rfl (fun _ => rfl)) c23 c23b n0 n3 c14 c11
 refine ⟨vb true, H, ?_, rfl⟩
 rw [CS_in (F := ir8Z) rfl rfl, CB_in, c8Z]
 have e0 : (([] : List AV) ++ List.replicate (ir8Z.ntmps - ([] : List AV).length) ud) = List.replicate 164 ud := rfl
 rw [e0, r6, r7, after_ret]
 rfl
theorem boundsC : CP (prgZ (some e)) 8 [] [] = some (vb true) := (bounds (m := 16381) rfl).cp rfl []
end
end Go.Proofs.Tryd
