/- tree.own, on a caller's memory: a tree in blocks of its own. -/
import Derived.Test.YtcdebkkjbminoaaDoorK8
import Derived.Test.YtcdebkkjbminoaaDoorU8
import Derived.Test.YtcdebkkjbminoaaDoorH82
open Option renaming bind_some → bsm
open List renaming getElem?_eq_some_iff → gei, getElem?_append_right → gar, getElem?_append_left → gal
namespace Go.Proofs.Tryd
set_option linter.unusedSimpArgs false
set_option linter.unusedVariables false
open Go Go.Vs
def fnsQ (n : Nat) : Option IFun := match n.beq 57, n.beq 33, n.beq 31 with
 | true, _, _ => some ir57U
 | false, true, _ => some ir33U
 | false, false, true => some ir31U
 | false, false, false => none
theorem fnsQ_ok : ∀ f F, fnsQ f = some F → ∃ shf fd ann, prog.funcs[f]? = some fd ∧ compFn prog shf ann fd = some F := fun f F h => by
 unfold fnsQ at h
 split at h
 ·rename_i e
  obtain rfl := Nat.eq_of_beq_eq_true e
  cases h
  exact fnsU_ok 57 _ rfl
 ·rename_i e1 e
  obtain rfl := Nat.eq_of_beq_eq_true e
  cases h
  exact fnsU_ok 33 _ rfl
 ·rename_i e1 e2 e
  obtain rfl := Nat.eq_of_beq_eq_true e
  cases h
  exact fnsU_ok 31 _ rfl
 ·cases h
mutual
def pd : PV → Nat
 | .val _ => 0
 | .lst _ rows => pdr rows
 | .lsx _ rows _ => pdr rows
def pds : List PV → Nat
 | [] => 0
 | x :: xs => max (pd x) (pds xs)
def pdr : List (List PV) → Nat
 | [] => 0
 | r :: rs => max (pds r + 1) (pdr rs)
end
mutual
theorem pd_T : ∀ t : TreeD, pds (eTree t) + 1 = dep t
 | .mk p b ks => by simp only [eTree, pds, pd, dep, pd_Ts ks]; omega
theorem pd_Ts : ∀ ts : List TreeD, pdr (eTrees ts) = deps ts
 | [] => rfl
 | t :: ts => by simp only [eTrees, pdr, deps, pd_T t, pd_Ts ts]
end
def tooD : List AV → Bool
 | .agg [_, _, .p x] :: _ => decide (16384 < pd x + 1)
 | _ => false
theorem tooD_T (t : TreeD) (l : List AV) : tooD (.agg ((cT t).map .p) :: l) = decide (16384 < dep t) := by
 show decide (16384 < pdr (eTrees t.kids) + 1) = _
 rw [pd_Ts, dep_eq]
open Classical in
noncomputable def deepA (E : Er) (n : Nat) (args : List AV) (h : List AB) : Option (AV × List AB) := if CallR prog (Go.Vs.Good prog) (gl14 E) n args h (i6 3) h then some (i6 3, h) else none
noncomputable def askP (E : Er) (args : List AV) (h : List AB) : Option (AV × List AB) := match tooD args with
 | true => deepA E 53 args h
 | false => CS (prg E) 53 args h
theorem deepA_ok {E : Er} {n : Nat} {args : List AV} {h h' : List AB} {v : AV} (hc : deepA E n args h = some (v, h')) : CallR prog (Go.Vs.Good prog) (gl14 E) n args h v h' := by
 unfold deepA at hc
 split at hc
 ·rename_i hk
  cases hc
  exact hk
 ·cases hc
noncomputable def primP (E : Er) (n : Nat) (args : List AV) (h : List AB) : Option (AV × List AB) := match n.beq 53 with
 | false => CS (prg E) n args h
 | true => askP E args h
noncomputable def prgP (E : Er) : Prg := ⟨fnsQ, gl14 E, primP E, fun _ => false⟩
theorem prgP_ok (E : Er) : PrgOk prog (prgP E) := ⟨fnsQ_ok, fun f args h v h' hc => by
 replace hc : primP E f args h = some (v, h') := hc
 unfold primP at hc
 split at hc
 ·exact CS_sound (prg_ok E) hc
 ·rename_i e
  obtain rfl := Nat.eq_of_beq_eq_true e
  unfold askP at hc
  split at hc
  ·exact deepA_ok hc
  ·exact CS_sound (prg_ok E) hc⟩
abbrev lv57 : List Nat := [1, 2, 10, 11, 2000000]
def c57A : IC := match ir57U.code with | .seq a _ => a | _ => .skip
def c57B : IC := match ir57U.code with | .seq _ (.seq b _) => b | _ => .skip
def c57C : IC := match ir57U.code with | .seq _ (.seq _ (.seq (.seq c _) _)) => c | _ => .skip
def c57D : IC := match ir57U.code with | .seq _ (.seq _ (.seq _ (.seq d _))) => d | _ => .skip
theorem c57 : ir57U.code = .seq c57A (.seq c57B (.seq (.seq c57C (.block 0 (.loop lv57 ir57U_l0))) (.seq c57D .ret))) := by kernel_rfl
section
variable {E : Er}
theorem keep57 {u : Nat → AV} {a b c d : AV} : ∃ v, keepA lv57 0 (fr 26 u [(1, a), (2, b), (10, c), (11, d)]) = fr 26 v [(1, a), (2, b), (10, c), (11, d)] := by
 refine ⟨_, fr_eq (by rfl) (fun x hx => ?_)⟩
 simp only [List.mem_cons, List.not_mem_nil, or_false] at hx
 rcases hx with rfl | rfl | rfl | rfl <;> rfl
theorem ev_round {p : Prg} {m : Nat} {live : List Nat} {b : IC} {s s1 : St} (hn : noT live = true) (h : run (envOf p (ev p)) (ev p) b s = some (.norm, s1)) : evH p m live b s = evH p m live b ⟨keepA live 0 s1.f, s1.h⟩ := by
 conv => lhs; unfold evH
 rw [h, loopK_norm, evH_at, trim_noT hn]
set_option maxRecDepth 100000 in
theorem own_round {mm m m2 n i blk g : Nat} {u : Nat → AV} {k : TreeD} {xs : List AV} {nb Hc H2 : List AB} (hi : i < n) (hn : n < 100000)
  (hIH : CS (prgP E) 57 [.agg ((cT k).map .p)] [] = some (.agg xs, nb))
  (q15 : ldA Hc false 1 (.ptr m 2) = some (.sl blk g 3 0 n))
  (q21 : ldA Hc true 3 (.rp blk g 3 i 0) = some (.agg ((cT k).map .p)))
  (qst : stA (Hc ++ nb.map (AB.ren (· + Hc.length))) 3 (.rp blk g 3 i 0) (.agg (rens (· + Hc.length) xs)) = some H2) :
  ∃ u', evH (prgP E) mm lv57 ir57U_l0 ⟨fr 26 u [(1, .ptr m 0), (2, .ptr m2 0), (10, i6 (n : Int)), (11, i6 (i : Int))], Hc⟩ = evH (prgP E) mm lv57 ir57U_l0 ⟨fr 26 u' [(1, .ptr m 0), (2, .ptr m2 0), (10, i6 (n : Int)), (11, i6 ((i + 1 : Nat) : Int))], H2⟩ := by
 obtain ⟨g', hr⟩ := exitL_of (L := [(1, .ptr m 0), (2, .ptr m2 0), (10, i6 (n : Int)), (11, i6 (w6 ((i : Int) + 1)))])
  (r := runD (prgP E) 5 [(12, .d true), (15, .v (.sl blk g 3 0 n)), (18, .v (.sl blk g 3 0 n)), (20, .v (.rp blk g 3 i 0)), (21, .v (.agg ((cT k).map .p))), (22, .r (.agg (rens (· + Hc.length) xs)) (nb.map (AB.ren (· + Hc.length)))), (23, .v (.rp blk g 3 i 0)), (1023, .r ud H2)] ir57U_l0
   ⟨fr 26 u [(1, .ptr m 0), (2, .ptr m2 0), (10, i6 (n : Int)), (11, i6 (i : Int))], Hc⟩) (o := .norm) (n := 26) (h := H2) (by kernel_rfl)
 have e0 : Hc ++ List.replicate 0 AB.hole = Hc := List.append_nil _
 have hx : ixN n (i : Int) = some i := by rw [ixN_nat, if_pos hi]
 have hz : ∀ r, zP (prgP E) 4 r 0 57 [.agg ((cT k).map .p)] Hc (.agg (rens (· + Hc.length) xs)) (Hc ++ nb.map (AB.ren (· + Hc.length))) := fun r => by
  refine ⟨(.agg xs, nb), ?_, rfl⟩
  rw [show topB [AV.agg ((cT k).map .p)] = 0 from rfl, List.take_zero]
  exact hIH
 have hrun := runD_ok hr (apc (cv (decide_eq_true (by omega)) : vb (decide ((i : Int) < (n : Int))) = vb true)
  (apc ((by rw [e0]; exact q15) : ldA (Hc ++ List.replicate 0 AB.hole) false 1 (.ptr m 2) = some (.sl blk g 3 0 n))
  (apc ((by rw [e0]; exact q15) : ldA (Hc ++ List.replicate 0 AB.hole) false 1 (.ptr m 2) = some (.sl blk g 3 0 n))
  (apc (idx_sl hx : idxA 3 (.sl blk g 3 0 n) (i6 (i : Int)) = some (.rp blk g 3 i 0))
  (apc ((by rw [e0]; exact q21) : ldA (Hc ++ List.replicate 0 AB.hole) true 3 (.rp blk g 3 i 0) = some (.agg ((cT k).map .p)))
  (apc ((by rw [e0]; exact hz _) : zP (prgP E) 4 (Hc.length + 0) 0 57 [.agg ((cT k).map .p)] (Hc ++ List.replicate 0 AB.hole) (.agg (rens (· + Hc.length) xs)) ((Hc ++ List.replicate 0 AB.hole) ++ nb.map (AB.ren (· + Hc.length))))
  (apc (idx_sl hx : idxA 3 (.sl blk g 3 0 n) (i6 (i : Int)) = some (.rp blk g 3 i 0))
  (apc ((by rw [e0]; exact ⟨qst, rfl⟩) : stA ((Hc ++ List.replicate 0 AB.hole) ++ nb.map (AB.ren (· + Hc.length))) 3 (.rp blk g 3 i 0) (.agg (rens (· + Hc.length) xs)) = some H2 ∧ ud = ud) apn))))))))
 rw [ev_round rfl hrun]
 obtain ⟨v, hv⟩ := keep57 (u := g') (a := .ptr m 0) (b := .ptr m2 0) (c := i6 (n : Int)) (d := i6 (w6 ((i : Int) + 1)))
 refine ⟨v, ?_⟩
 rw [hv, show w6 ((i : Int) + 1) = ((i + 1 : Nat) : Int) from w_S (by omega)]
theorem cells3 {k : TreeD} : ∀ {h : List AB} {lo hi : Nat} {xs : List AV}, RepT h k lo hi xs → ∃ a b c, xs = [a, b, c] ∧ a.one = true ∧ b.one = true ∧ c.one = true := by
 intro h lo hi xs hr
 cases k
 obtain ⟨_, _, _, e, _⟩ := hr
 exact ⟨_, _, _, e, rfl, rfl, rfl⟩
theorem st_rp {h : List AB} {blk g j : Nat} {rows : List (List AV)} {r : List AV} {a b c : AV} (hb : h[blk]? = some (.row 25 3 g rows)) (hr : rows[j]? = some r) (hl : r.length = 3) (h1 : a.one = true) (h2 : b.one = true) (h3 : c.one = true) :
  stA h 3 (.rp blk g 3 j 0) (.agg [a, b, c]) = some (h.set blk (.row 25 3 g (rows.set j [a, b, c]))) := by
 match r, hl with
 | [_, _, _], _ =>
  simp only [stA, cellsOf, List.all_cons, List.all_nil, h1, h2, h3, Bool.and_self, if_true, bsm, List.length_cons, List.length_nil, storeA, hb, hr]
  rfl
theorem ra_get {α : Type} {e : α → List PV} {dn : List (List AV)} {x : α} {xs : List α} : (dn ++ ra e (x :: xs))[dn.length]? = some ((e x).map .p) := by
 rw [gar (Nat.le_refl _), Nat.sub_self]
 rfl
theorem own_loop {ks : List TreeD} {p b : Int} {mm m m2 blk g : Nat} (hks : ks.length < 100000)
  (IH : ∀ k ∈ ks, ∃ xs nb, CS (prgP E) 57 [.agg ((cT k).map .p)] [] = some (.agg xs, nb) ∧ RepT nb k 0 nb.length xs) (hm : m ≠ blk) :
  ∀ (rest dk : List TreeD) (dn : List (List AV)) (Hc : List AB) (u : Nat → AV), ks = dk ++ rest → dn.length = dk.length → Hc[m]? = some (.cells 25 [i6 p, vi .u8 b, .sl blk g 3 0 ks.length]) → Hc[blk]? = some (.row 25 3 g (dn ++ ra cT rest)) → RepK Hc dk (blk + 1) Hc.length dn →
   ∃ u' Hf rows, evH (prgP E) mm lv57 ir57U_l0 ⟨fr 26 u [(1, .ptr m 0), (2, .ptr m2 0), (10, i6 (ks.length : Int)), (11, i6 (dk.length : Int))], Hc⟩ = some (.brk 0, ⟨fr 26 u' [(1, .ptr m 0), (2, .ptr m2 0)], Hf⟩) ∧
    Hc.length ≤ Hf.length ∧ (∀ c, c < Hc.length → c ≠ blk → Hf[c]? = Hc[c]?) ∧ Hf[blk]? = some (.row 25 3 g rows) ∧ RepK Hf ks (blk + 1) Hf.length rows
 | [], dk, dn, Hc, u, hk, hl, hcm, hcb, hR => by
  rw [List.append_nil] at hk
  subst hk
  obtain ⟨u', hx⟩ := xbrk (p := prgP E) (m := mm) (live := lv57) (b := ir57U_l0) (s := ⟨fr 26 u [(1, .ptr m 0), (2, .ptr m2 0), (10, i6 (ks.length : Int)), (11, i6 (ks.length : Int))], Hc⟩) (L := [(1, .ptr m 0), (2, .ptr m2 0)]) (id := 0) (N := 26) (h := Hc) [(12, .d false)]
   (apc (cv (decide_eq_false (by omega)) : vb (decide ((ks.length : Int) < (ks.length : Int))) = vb false) apn) (by kernel_rfl)
  exact ⟨u', Hc, dn, hx, Nat.le_refl _, fun _ _ _ => rfl, by rw [hcb]; simp [ra], hR⟩
 | k :: rest, dk, dn, Hc, u, hk, hl, hcm, hcb, hR => by
  obtain ⟨xs, nb, hc, hr⟩ := IH k (by rw [hk]; simp)
  have hmem : blk < Hc.length := (gei.1 hcb).1
  have hlt : dk.length < ks.length := by rw [hk]; simp
  have hr2 := repT_ren (h := Hc) k hr
  rw [Nat.zero_add] at hr2
  obtain ⟨a, b', c, e, o1, o2, o3⟩ := cells3 hr2
  have e3 : (rens (· + Hc.length) xs) = [a, b', c] := e
  have hb2 : (Hc ++ nb.map (AB.ren (· + Hc.length)))[blk]? = some (.row 25 3 g (dn ++ ra cT (k :: rest))) := by rw [gal hmem]; exact hcb
  have hrow : (dn ++ ra cT (k :: rest))[dk.length]? = some ((cT k).map .p) := by rw [← hl]; exact ra_get
  have hst := st_rp (a := a) (b := b') (c := c) hb2 hrow rfl o1 o2 o3
  rw [← e3] at hst
  obtain ⟨u1, hround⟩ := own_round (E := E) (mm := mm) (m2 := m2) (u := u) hlt hks hc
   (show ldA Hc false 1 (.ptr m 2) = some (.sl blk g 3 0 ks.length) by simp only [ldA, loadA, hcm]; rfl)
   (show ldA Hc true 3 (.rp blk g 3 dk.length 0) = some (.agg ((cT k).map .p)) by simp only [ldA, loadA, hcb, hrow]; rfl) hst
  have hset : (dn ++ ra cT (k :: rest)).set dk.length [a, b', c] = (dn ++ [[a, b', c]]) ++ ra cT rest := by
   rw [← hl, List.set_append_right _ _ (Nat.le_refl _), Nat.sub_self, List.append_assoc]
   rfl
  rw [e3, hset] at hst
  have hset2 : (Hc ++ nb.map (AB.ren (· + Hc.length))).set blk (.row 25 3 g ((dn ++ ra cT (k :: rest)).set dk.length (rens (· + Hc.length) xs))) = (Hc ++ nb.map (AB.ren (· + Hc.length))).set blk (.row 25 3 g ((dn ++ [[a, b', c]]) ++ ra cT rest)) := by rw [e3, hset]
  rw [hset2] at hround
  generalize hH : (Hc ++ nb.map (AB.ren (· + Hc.length))).set blk (.row 25 3 g ((dn ++ [[a, b', c]]) ++ ra cT rest)) = H2 at hround
  have hlen : H2.length = Hc.length + nb.length := by rw [← hH]; simp
  have hne : ∀ c, c ≠ blk → H2[c]? = (Hc ++ nb.map (AB.ren (· + Hc.length)))[c]? := fun c hcb => by rw [← hH, List.getElem?_set_ne (by omega)]
  have hold : ∀ c, c < Hc.length → c ≠ blk → H2[c]? = Hc[c]? := fun c h1 h2 => by rw [hne c h2, gal h1]
  have hbk : H2[blk]? = some (.row 25 3 g ((dn ++ [[a, b', c]]) ++ ra cT rest)) := by rw [← hH, List.getElem?_set_self (by simp; omega)]
  have hR2 : RepK H2 (dk ++ [k]) (blk + 1) H2.length (dn ++ [[a, b', c]]) := by
   refine repK_snoc dk (repK_frame dk (fun c h1 h2 => hold c h2 (by omega)) hR) ?_
   rw [← e3]
   refine repT_wide k (repT_frame k (fun c h1 h2 => hne c (by omega)) hr2) (Nat.le_refl _) (by omega)
  obtain ⟨u', Hf, rows, k1, k2, k3, k4, k5⟩ := own_loop hks IH hm rest (dk ++ [k]) (dn ++ [[a, b', c]]) H2 u1 (by rw [hk]; simp) (by simp [hl]) ((hold m (gei.1 hcm).1 hm).trans hcm) hbk hR2
  refine ⟨u', Hf, rows, ?_, by omega, fun c h1 h2 => (k3 c (by omega) h2).trans (hold c h1 h2), k4, k5⟩
  rw [hround, ← k1]
  rw [List.length_append, List.length_singleton]
end
section
variable {E : Er}
theorem app_get {H : List AB} {x : AB} {r : List AB} : (H ++ x :: r)[H.length]? = some x := by
 rw [gar (Nat.le_refl _), Nat.sub_self]
 rfl
abbrev zCl : AB := .cells 25 [i6 0, vi .u8 0, n0]
theorem st_cells {h : List AB} {b t : Nat} {x y z v : AV} (hb : h[b]? = some (.cells t [x, y, z])) (hv : v.one = true) (hna : ∀ xs, v ≠ .agg xs) : stA h 1 (.ptr b 2) v = some (h.set b (.cells t [x, y, v])) := by
 have hc : cellsOf v = some [v] := by
  cases v <;> first | (exact absurd rfl (hna _)) | (simp only [cellsOf, hv, if_true])
 simp only [stA, hc, bsm, List.length_singleton, if_true, storeA, hb]
 rfl
theorem st_cells3 {h : List AB} {b t : Nat} {x y z a d c : AV} (hb : h[b]? = some (.cells t [x, y, z])) (h1 : a.one = true) (h2 : d.one = true) (h3 : c.one = true) : stA h 3 (.ptr b 0) (.agg [a, d, c]) = some (h.set b (.cells t [a, d, c])) := by
 simp only [stA, cellsOf, List.all_cons, List.all_nil, h1, h2, h3, Bool.and_self, if_true, bsm, List.length_cons, List.length_nil, storeA, hb]
 rfl
theorem ld_cells3 {h : List AB} {b t : Nat} {x y z : AV} (hb : h[b]? = some (.cells t [x, y, z])) : ldA h true 3 (.ptr b 0) = some (.agg [x, y, z]) := by
 simp only [ldA, loadA, hb]
 rfl
theorem ld_cells1 {h : List AB} {b t : Nat} {x y z : AV} (hb : h[b]? = some (.cells t [x, y, z])) : ldA h false 1 (.ptr b 2) = some z := by
 simp only [ldA, loadA, hb]
 rfl
set_option maxRecDepth 100000 in
theorem own_A (t : TreeD) (H : List AB) : ∃ u, run (envOf (prgP E) (ev (prgP E))) (ev (prgP E)) c57A ⟨[.agg ((cT t).map .p)] ++ List.replicate (ir57U.ntmps - [AV.agg ((cT t).map .p)].length) ud, H⟩ = some (.norm, ⟨fr 26 u [(1, .ptr H.length 0), (2, .ptr (H.length + 1) 0)], H ++ [.cells 25 ((cT t).map .p), zCl]⟩) := by
 obtain ⟨g, hr⟩ := exitL_of (L := [(1, .ptr H.length 0), (2, .ptr (H ++ [AB.cells 25 ((cT t).map .p)]).length 0)]) (r := runD (prgP E) 5 [] c57A ⟨[.agg ((cT t).map .p)] ++ List.replicate (ir57U.ntmps - [AV.agg ((cT t).map .p)].length) ud, H⟩) (o := .norm) (n := 26) (h := ((H ++ [AB.cells 25 ((cT t).map .p)]) ++ []) ++ [zCl]) (by kernel_rfl)
 have := runD_ok hr apn
 rw [List.append_nil, List.append_assoc, List.length_append, List.length_singleton] at this
 exact ⟨g, this⟩
set_option maxRecDepth 100000 in
theorem own_B {u : Nat → AV} {m m2 : Nat} {x sl : AV} {H2 H3 H4 : List AB} (q5 : ldA H2 false 1 (.ptr m 2) = some x) (q6 : CS (prgP E) 73 [x] H2 = some (sl, H3)) (q7 : stA H3 1 (.ptr m 2) sl = some H4) :
  ∃ u', run (envOf (prgP E) (ev (prgP E))) (ev (prgP E)) c57B ⟨fr 26 u [(1, .ptr m 0), (2, .ptr m2 0)], H2⟩ = some (.norm, ⟨fr 26 u' [(1, .ptr m 0), (2, .ptr m2 0)], H4⟩) := by
 exact exP (n := 5) [(5, .v x), (6, .r sl H3), (1007, .r ud H4)] (apc q5 (apc q6 (apc (⟨q7, rfl⟩ : stA H3 1 (.ptr m 2) sl = some H4 ∧ ud = ud) apn))) (by kernel_rfl)
set_option maxRecDepth 100000 in
theorem own_C {u : Nat → AV} {m m2 blk g n : Nat} {H4 : List AB} (q9 : ldA H4 false 1 (.ptr m 2) = some (.sl blk g 3 0 n)) :
  ∃ u', run (envOf (prgP E) (ev (prgP E))) (ev (prgP E)) c57C ⟨fr 26 u [(1, .ptr m 0), (2, .ptr m2 0)], H4⟩ = some (.norm, ⟨fr 26 u' [(1, .ptr m 0), (2, .ptr m2 0), (10, i6 (n : Int)), (11, i6 0)], H4⟩) := by
 exact exP (n := 5) [(9, .v (.sl blk g 3 0 n))] (apc q9 apn) (by kernel_rfl)
set_option maxRecDepth 100000 in
theorem own_D {u : Nat → AV} {m m2 : Nat} {x : AV} {Hf H5 : List AB} (q25 : ldA Hf true 3 (.ptr m 0) = some x) (q2 : stA Hf 3 (.ptr m2 0) x = some H5) :
  ∃ u', run (envOf (prgP E) (ev (prgP E))) (ev (prgP E)) c57D ⟨fr 26 u [(1, .ptr m 0), (2, .ptr m2 0)], Hf⟩ = some (.norm, ⟨fr 26 u' [(2, .ptr m2 0)], H5⟩) := by
 exact exP (n := 5) [(25, .v x), (1002, .r ud H5)] (apc q25 (apc (⟨q2, rfl⟩ : stA Hf 3 (.ptr m2 0) x = some H5 ∧ ud = ud) apn)) (by kernel_rfl)
theorem own_cs : ∀ (N : Nat) (t : TreeD), tc t ≤ N → tc t ≤ 20000 → ∀ H : List AB, ∃ xs ex, CS (prgP E) 57 [.agg ((cT t).map .p)] H = some (.agg xs, H ++ ex) ∧ RepT (H ++ ex) t H.length (H.length + ex.length) xs
 | 0, t, h, _, _ => by have := tc_pos t; omega
 | N + 1, t, hN, h4, H => by
  have htc := tc_eq t
  have hln := tcs_len t.kids
  obtain ⟨u1, r1⟩ := own_A (E := E) t H
  generalize hH2 : H ++ [AB.cells 25 ((cT t).map .p), zCl] = H2 at r1
  have g2 : H2.length = H.length + 2 := by rw [← hH2]; simp
  have b2m : H2[H.length]? = some (.cells 25 ((cT t).map .p)) := by rw [← hH2]; exact app_get
  have b2o : ∀ c, c < H.length → H2[c]? = H[c]? := fun c hc => by rw [← hH2, gal hc]
  have q6 : CS (prgP E) 73 [.p (.lst 3 (eTrees t.kids))] H2 = some (.sl (H2.length + 1) (gnz t.kids) 3 0 t.kids.length, H2 ++ [.row 25 3 0 (ra cT []), .row 25 3 (gnz t.kids) (ra cT t.kids)]) :=
   cs_clr (p := prgP E) tr_map rfl (fun _ _ => rfl) (clN (by omega)) H2
  have b2z : H2[H.length + 1]? = some zCl := by
   rw [← hH2, gar (by omega), show H.length + 1 - H.length = 1 by omega]; rfl
  generalize hH3 : H2 ++ [AB.row 25 3 0 (ra cT []), .row 25 3 (gnz t.kids) (ra cT t.kids)] = H3 at q6
  have g3 : H3.length = H.length + 4 := by rw [← hH3]; simp [g2]
  have b3o : ∀ c, c < H2.length → H3[c]? = H2[c]? := fun c hc => by rw [← hH3, gal hc]
  have b3b : H3[H2.length + 1]? = some (.row 25 3 (gnz t.kids) (ra cT t.kids)) := by
   rw [← hH3, gar (by omega), show H2.length + 1 - H2.length = 1 by omega]; rfl
  have q7 := st_cells (h := H3) (b := H.length) (v := .sl (H2.length + 1) (gnz t.kids) 3 0 t.kids.length) ((b3o _ (by omega)).trans b2m) rfl (by intro xs e; cases e)
  generalize hH4 : H3.set H.length (.cells 25 [i6 t.prod, vi .u8 t.byte, .sl (H2.length + 1) (gnz t.kids) 3 0 t.kids.length]) = H4 at q7
  have q7 : stA H3 1 (.ptr H.length 2) (.sl (H2.length + 1) (gnz t.kids) 3 0 t.kids.length) = some H4 := by
   rw [← hH4]
   exact st_cells (h := H3) (b := H.length) (v := .sl (H2.length + 1) (gnz t.kids) 3 0 t.kids.length) ((b3o _ (by omega)).trans b2m) rfl (by intro xs e; cases e)
  obtain ⟨u2, r2⟩ := own_B (E := E) (u := u1) (m2 := H.length + 1) (show ldA H2 false 1 (.ptr H.length 2) = some (.p (.lst 3 (eTrees t.kids))) from ld_cells1 b2m) q6 q7
  have g4 : H4.length = H.length + 4 := by rw [← hH4]; simp [g3]
  have b4n : ∀ c, c ≠ H.length → H4[c]? = H3[c]? := fun c hc => by rw [← hH4, List.getElem?_set_ne (by omega)]
  have b4m : H4[H.length]? = some (.cells 25 [i6 t.prod, vi .u8 t.byte, .sl (H2.length + 1) (gnz t.kids) 3 0 t.kids.length]) := by rw [← hH4, List.getElem?_set_self (by omega)]
  obtain ⟨u3, r3⟩ := own_C (E := E) (u := u2) (m2 := H.length + 1) (ld_cells1 b4m)
  obtain ⟨u4, Hf, rows, k1, k2, k3, k4, k5⟩ := own_loop (E := E) (ks := t.kids) (p := t.prod) (b := t.byte) (mm := H4.length) (m := H.length) (m2 := H.length + 1) (blk := H2.length + 1) (g := gnz t.kids) (by omega)
   (fun k hk => by
    have hm := tcs_mem hk
    obtain ⟨xs, ex, e1, e2⟩ := own_cs N k (by omega) (by omega) []
    simp only [List.nil_append, List.length_nil, Nat.zero_add] at e1 e2
    exact ⟨xs, ex, e1, e2⟩) (by omega) t.kids [] [] H4 (Classical.choose (keep57 (u := u3) (a := .ptr H.length 0) (b := .ptr (H.length + 1) 0) (c := i6 (t.kids.length : Int)) (d := i6 0))) rfl rfl b4m
   (by rw [b4n _ (by omega), b3b]; rfl) ⟨rfl, by omega⟩
  have hkp := Classical.choose_spec (keep57 (u := u3) (a := .ptr H.length 0) (b := .ptr (H.length + 1) 0) (c := i6 (t.kids.length : Int)) (d := i6 0))
  have rl : run (envOf (prgP E) (ev (prgP E))) (ev (prgP E)) (.block 0 (.loop lv57 ir57U_l0)) ⟨fr 26 u3 [(1, .ptr H.length 0), (2, .ptr (H.length + 1) 0), (10, i6 (t.kids.length : Int)), (11, i6 0)], H4⟩ = some (.norm, ⟨fr 26 u4 [(1, .ptr H.length 0), (2, .ptr (H.length + 1) 0)], Hf⟩) := by
   rw [run_block, run_loop]
   show blockK 0 (evH (prgP E) H4.length lv57 ir57U_l0 (trim H4.length lv57 _)) = _
   rw [trim_noT rfl, hkp]
   exact (congrArg (blockK 0) k1).trans rfl
  have hf4 : H4.length ≤ Hf.length := k2
  have bfm : Hf[H.length]? = some (.cells 25 [i6 t.prod, vi .u8 t.byte, .sl (H2.length + 1) (gnz t.kids) 3 0 t.kids.length]) := (k3 _ (by omega) (by omega)).trans b4m
  have bfz : Hf[H.length + 1]? = some zCl := (k3 _ (by omega) (by omega)).trans ((b4n _ (by omega)).trans ((b3o _ (by omega)).trans b2z))
  have q2 := st_cells3 (a := i6 t.prod) (d := vi .u8 t.byte) (c := .sl (H2.length + 1) (gnz t.kids) 3 0 t.kids.length) bfz rfl rfl rfl
  obtain ⟨u5, r4⟩ := own_D (E := E) (u := u4) (ld_cells3 bfm) q2
  generalize hH5 : Hf.set (H.length + 1) (.cells 25 [i6 t.prod, vi .u8 t.byte, .sl (H2.length + 1) (gnz t.kids) 3 0 t.kids.length]) = H5 at r4
  have g5 : H5.length = Hf.length := by rw [← hH5]; simp
  have b5n : ∀ c, c ≠ H.length + 1 → H5[c]? = Hf[c]? := fun c hc => by rw [← hH5, List.getElem?_set_ne (by omega)]
  have b5m : H5[H.length + 1]? = some (.cells 25 [i6 t.prod, vi .u8 t.byte, .sl (H2.length + 1) (gnz t.kids) 3 0 t.kids.length]) := by rw [← hH5, List.getElem?_set_self (by omega)]
  have hpre : H5.take H.length = H := by
   apply List.ext_getElem?
   intro c
   rw [List.getElem?_take]
   split
   ·rename_i hc
    rw [b5n c (by omega), k3 c (by omega) (by omega), b4n c (by omega), b3o c (by omega), b2o c hc]
   ·rw [List.getElem?_eq_none (by omega)]
  have hex : H ++ H5.drop H.length = H5 := by
   conv => lhs; arg 1; rw [← hpre]
   exact List.take_append_drop ..
  refine ⟨[i6 t.prod, vi .u8 t.byte, .sl (H2.length + 1) (gnz t.kids) 3 0 t.kids.length], H5.drop H.length, ?_, ?_⟩
  ·rw [hex, CS_in (F := ir57U) rfl rfl, CB_in, c57]
   simp only [run_seq, r1, seqK_norm, r2, r3, rl, r4, run_ret, after_ret]
   have hres : resOf ⟨fr 26 u5 [(2, .ptr (H.length + 1) 0)], H5⟩ ir57U.results = some [.agg [i6 t.prod, vi .u8 t.byte, .sl (H2.length + 1) (gnz t.kids) 3 0 t.kids.length]] := by
    have e4 : getT (fr 26 u5 [(2, .ptr (H.length + 1) 0)]) 2 = .ptr (H.length + 1) 0 := rfl
    show resOf _ [.cell 2 true 3] = _
    simp only [resOf, e4, loadA, b5m]
    rfl
   rw [hres]
   rfl
  ·rw [hex, List.length_drop, show H.length + (H5.length - H.length) = H5.length by omega]
   cases ht : t with
   | mk p b ks =>
    subst ht
    exact ⟨H2.length + 1, gnz ks, rows, rfl, by omega, (b5n _ (by omega)).trans k4, by
     rw [g5]
     exact repK_frame ks (fun c h1 h2 => b5n c (by omega)) k5⟩
end
abbrev erL (E : Er) : ErC := ⟨E, noPut⟩
section
variable {E : Er}
theorem cp_low {f : Nat} {args : List AV} {x : AV} (h : PR1 (prg E) f args x) (hf : fnsQ f = none) (hp : AV.pure.pures args = true) (h0 : List AB) (h53 : f.beq 53 = false := by rfl) : CP (prgP E) f args h0 = some x := by
 obtain ⟨v, h', hc, hx⟩ := h
 refine CP_pure (h' := h') (v := v) hp ?_ hx h0
 unfold CS callS
 rw [show (prgP E).fn f = none from hf]
 show (match f.beq 53 with | false => CS (prg E) f args [] | true => askP E args []) = _
 rw [h53]
 exact hc
theorem purAs_of {h : List AB} : ∀ {xs : List AV} {ys : List PV}, (∀ x ∈ xs, (∃ y, x = .p y) ∨ ∃ b g s o l, x = .sl b g s o l) → mapO (purP h 20000) xs = some ys → purAs h xs = some (ys.map .p)
 | [], ys, _, e => by simp only [mapO, Option.some.injEq] at e; subst e; rfl
 | x :: xs, ys, hx, e => by
  simp only [mapO] at e
  split at e
  ·rename_i y zs e1 e2
   cases e
   have ht := purAs_of (fun y hy => hx y (List.mem_cons_of_mem _ hy)) e2
   have hh : purA h x = some (.p y) := by
    rcases hx x (by simp) with ⟨z, rfl⟩ | ⟨b, g, s, o, l, rfl⟩
    ·have : purP h 20000 (.p z) = some z := rfl
     rw [this] at e1
     cases e1
     rfl
    ·simp only [purA, e1, Option.map_some]
   simp only [purAs, hh, ht, List.map_cons]
  ·cases e
def hdI : IC → IC | .seq a _ => a | _ => .skip
def nxI : IC → IC | .seq _ b => b | _ => .skip
abbrev lv33 : List Nat := [4, 6, 13, 14, 42, 43, 44, 2000000]
def p33A : IC := hdI ir33U.code
def p33B : IC := hdI (nxI ir33U.code)
def p33C : IC := hdI (nxI (nxI ir33U.code))
def p33D : IC := hdI (nxI (nxI (nxI ir33U.code)))
def p33O : IC := hdI (nxI (nxI (nxI (nxI ir33U.code))))
def p33M : IC := hdI (nxI (nxI (nxI (nxI (nxI ir33U.code)))))
def p33L : IC := hdI (hdI (nxI (nxI (nxI (nxI (nxI (nxI ir33U.code)))))))
def p33S : IC := hdI (nxI (nxI (nxI (nxI (nxI (nxI (nxI ir33U.code)))))))
def p33T : IC := hdI (nxI (nxI (nxI (nxI (nxI (nxI (nxI (nxI ir33U.code))))))))
def p33Z : IC := nxI (nxI (nxI (nxI (nxI (nxI (nxI (nxI (nxI ir33U.code))))))))
theorem c33 : ir33U.code = .seq p33A (.seq p33B (.seq p33C (.seq p33D (.seq p33O (.seq p33M (.seq (.seq p33L (.block 0 (.loop lv33 ir33U_l0))) (.seq p33S (.seq p33T p33Z)))))))) := by kernel_rfl
section
variable (t x w : TreeD) (p : List Int) (f : Int)
abbrev hA : List AB := [.cells 25 ((cT t).map .p), .cells 25 ((cT x).map .p), zCl]
abbrev hD : List AB := [.cells 25 ((cT t).map .p), .cells 25 ((cT x).map .p), zCl, .cells 25 ((cT w).map .p)]
abbrev lA : List (Nat × AV) := [(2, ls 1 eI64 p), (3, .ptr 0 0), (4, .ptr 1 0), (6, .ptr 2 0)]
set_option maxRecDepth 100000 in
theorem put_A : ∃ u, run (envOf (prgP E) (ev (prgP E))) (ev (prgP E)) p33A ⟨[.agg ((cT t).map .p), .agg ((cT x).map .p), ls 1 eI64 p] ++ List.replicate (ir33U.ntmps - 3) ud, []⟩ = some (.norm, ⟨fr 64 u (lA p), hA t x⟩) := by
 exact exP (n := 5) [] apn (by kernel_rfl)
set_option maxRecDepth 100000 in
theorem put_B {u : Nat → AV} (h : CP (prgP E) 23 [.agg ((cT t).map .p)] (hA t x) = some (i6 0)) : ∃ u', run (envOf (prgP E) (ev (prgP E))) (ev (prgP E)) p33B ⟨fr 64 u (lA p), hA t x⟩ = some (.norm, ⟨fr 64 u' (lA p), hA t x⟩) := by
 exact exP (n := 5) [(18, .v (i6 0))] (apc h apn) (by kernel_rfl)
set_option maxRecDepth 100000 in
theorem put_C {u : Nat → AV} (h : CP (prgP E) 23 [.agg ((cT x).map .p)] (hA t x) = some (i6 0)) : ∃ u', run (envOf (prgP E) (ev (prgP E))) (ev (prgP E)) p33C ⟨fr 64 u (lA p), hA t x⟩ = some (.norm, ⟨fr 64 u' (lA p), hA t x⟩) := by
 exact exP (n := 5) [(24, .v (i6 0))] (apc h apn) (by kernel_rfl)
set_option maxRecDepth 100000 in
theorem put_D {u : Nat → AV} (h : CP (prgP E) 56 [.agg ((cT t).map .p), ls 1 eI64 p] (hA t x) = some (.tup [.agg ((cT w).map .p), i6 f, i6 0])) : ∃ u', run (envOf (prgP E) (ev (prgP E))) (ev (prgP E)) p33D ⟨fr 64 u (lA p), hA t x⟩ = some (.norm, ⟨fr 64 u' (lA p), hD t x w⟩) := by
 exact exP (n := 5) [(32, .v (.tup [.agg ((cT w).map .p), i6 f, i6 0]))] (apc h apn) (by kernel_rfl)
abbrev lO (b : Nat) : List (Nat × AV) := [(2, ls 1 eI64 p), (4, .ptr 1 0), (6, .ptr 2 0), (13, .ptr b 0)]
set_option maxRecDepth 100000 in
theorem put_O {u : Nat → AV} {xs : List AV} {ex H6 : List AB} (h : CS (prgP E) 57 [.agg ((cT t).map .p)] (hD t x w) = some (.agg xs, hD t x w ++ ex)) (q : stA ((hD t x w ++ ex) ++ [zCl]) 3 (.ptr (hD t x w ++ ex).length 0) (.agg xs) = some H6) :
  ∃ u', run (envOf (prgP E) (ev (prgP E))) (ev (prgP E)) p33O ⟨fr 64 u (lA p), hD t x w⟩ = some (.norm, ⟨fr 64 u' (lO p (hD t x w ++ ex).length), H6⟩) := by
 exact exP (n := 5) [(41, .r (.agg xs) (hD t x w ++ ex)), (1013, .r ud H6)] (apc h (apc ((by rw [List.append_nil]; exact ⟨q, rfl⟩) : stA (((hD t x w ++ ex) ++ []) ++ [zCl]) 3 (.ptr (hD t x w ++ ex).length 0) (.agg xs) = some H6 ∧ ud = ud) apn)) (by kernel_rfl)
abbrev lM (b : Nat) : List (Nat × AV) := [(2, ls 1 eI64 p), (4, .ptr 1 0), (6, .ptr 2 0), (13, .ptr b 0), (14, .ptr b 0)]
set_option maxRecDepth 100000 in
theorem put_M {u : Nat → AV} {b : Nat} {H6 : List AB} : ∃ u', run (envOf (prgP E) (ev (prgP E))) (ev (prgP E)) p33M ⟨fr 64 u (lO p b), H6⟩ = some (.norm, ⟨fr 64 u' (lM p b), H6⟩) := by
 exact exP (n := 5) [] apn (by kernel_rfl)
abbrev lL (b : Nat) (P : AV) (j : Int) : List (Nat × AV) := [(4, .ptr 1 0), (6, .ptr 2 0), (13, .ptr b 0), (14, P), (42, ls 1 eI64 p), (43, i6 (p.length : Int)), (44, i6 j)]
set_option maxRecDepth 100000 in
theorem put_L {u : Nat → AV} {b : Nat} {H6 : List AB} : ∃ u', run (envOf (prgP E) (ev (prgP E))) (ev (prgP E)) p33L ⟨fr 64 u (lM p b), H6⟩ = some (.norm, ⟨fr 64 u' (lL p b (.ptr b 0) 0), H6⟩) := by
 exact exP (n := 5) [(43, .v (i6 (p.length : Int)))] (apc (lg p eI64 1) apn) (by kernel_rfl)
theorem keep33 {u : Nat → AV} {b : Nat} {P : AV} {j : Int} : ∃ v, keepA lv33 0 (fr 64 u (lL p b P j)) = fr 64 v (lL p b P j) := by
 refine ⟨_, fr_eq (by rfl) (fun x hx => ?_)⟩
 simp only [lL, List.mem_cons, List.not_mem_nil, or_false] at hx
 rcases hx with rfl | rfl | rfl | rfl | rfl | rfl | rfl <;> rfl
end
end
section
variable {E : Er}
set_option maxRecDepth 100000 in
theorem put_round1 {mm b j n blk g : Nat} {u : Nat → AV} {p : List Int} {v : Int} {H : List AB} (hp : p.length < 100000) (hj : p[j]? = some v) (q : ldA H false 1 (.ptr b 2) = some (.sl blk g 3 0 n)) (hv : 0 ≤ v ∧ v < n) :
  ∃ u', evH (prgP E) mm lv33 ir33U_l0 ⟨fr 64 u (lL p b (.ptr b 0) (j : Int)), H⟩ = evH (prgP E) mm lv33 ir33U_l0 ⟨fr 64 u' (lL p b (.rp blk g 3 v.toNat 0) ((j + 1 : Nat) : Int)), H⟩ := by
 have hlt : j < p.length := (gei.1 hj).1
 obtain ⟨g', hr⟩ := exitL_of (L := lL p b (.rp blk g 3 v.toNat 0) (w6 ((j : Int) + 1)))
  (r := runD (prgP E) 5 [(45, .d true), (46, .v (.ro (eI64 v))), (51, .v (.sl blk g 3 0 n)), (53, .v (.rp blk g 3 v.toNat 0))] ir33U_l0 ⟨fr 64 u (lL p b (.ptr b 0) (j : Int)), H⟩) (o := .norm) (n := 64) (h := H) (by kernel_rfl)
 have hrun := runD_ok hr (apc (cv (decide_eq_true (by omega)) : vb (decide ((j : Int) < (p.length : Int))) = vb true)
  (apc (ig eI64 1 .i64 (by rw [getI_nat]; exact hj) : idxA 1 (ls 1 eI64 p) (i6 (j : Int)) = some (.ro (eI64 v)))
  (apc q (apc (idx_sl (by unfold ixN; rw [if_pos hv]) : idxA 3 (.sl blk g 3 0 n) (i6 v) = some (.rp blk g 3 v.toNat 0)) apn))))
 rw [ev_round rfl hrun]
 obtain ⟨v', hv'⟩ := keep33 (u := g') (p := p) (b := b) (P := .rp blk g 3 v.toNat 0) (j := w6 ((j : Int) + 1))
 refine ⟨v', ?_⟩
 rw [hv', show w6 ((j : Int) + 1) = ((j + 1 : Nat) : Int) from w_S (by omega)]
set_option maxRecDepth 100000 in
theorem put_round2 {mm b j n blk g b1 g1 k1 : Nat} {u : Nat → AV} {p : List Int} {v : Int} {H : List AB} (hp : p.length < 100000) (hj : p[j]? = some v) (q : ldA H false 1 (.rp b1 g1 3 k1 2) = some (.sl blk g 3 0 n)) (hv : 0 ≤ v ∧ v < n) :
  ∃ u', evH (prgP E) mm lv33 ir33U_l0 ⟨fr 64 u (lL p b (.rp b1 g1 3 k1 0) (j : Int)), H⟩ = evH (prgP E) mm lv33 ir33U_l0 ⟨fr 64 u' (lL p b (.rp blk g 3 v.toNat 0) ((j + 1 : Nat) : Int)), H⟩ := by
 have hlt : j < p.length := (gei.1 hj).1
 obtain ⟨g', hr⟩ := exitL_of (L := lL p b (.rp blk g 3 v.toNat 0) (w6 ((j : Int) + 1)))
  (r := runD (prgP E) 5 [(45, .d true), (46, .v (.ro (eI64 v))), (51, .v (.sl blk g 3 0 n)), (53, .v (.rp blk g 3 v.toNat 0))] ir33U_l0 ⟨fr 64 u (lL p b (.rp b1 g1 3 k1 0) (j : Int)), H⟩) (o := .norm) (n := 64) (h := H) (by kernel_rfl)
 have hrun := runD_ok hr (apc (cv (decide_eq_true (by omega)) : vb (decide ((j : Int) < (p.length : Int))) = vb true)
  (apc (ig eI64 1 .i64 (by rw [getI_nat]; exact hj) : idxA 1 (ls 1 eI64 p) (i6 (j : Int)) = some (.ro (eI64 v)))
  (apc q (apc (idx_sl (by unfold ixN; rw [if_pos hv]) : idxA 3 (.sl blk g 3 0 n) (i6 v) = some (.rp blk g 3 v.toNat 0)) apn))))
 rw [ev_round rfl hrun]
 obtain ⟨v', hv'⟩ := keep33 (u := g') (p := p) (b := b) (P := .rp blk g 3 v.toNat 0) (j := w6 ((j : Int) + 1))
 refine ⟨v', ?_⟩
 rw [hv', show w6 ((j : Int) + 1) = ((j + 1 : Nat) : Int) from w_S (by omega)]
theorem drop_S {α : Type} {l : List α} {j : Nat} {v : α} {q : List α} (h : l.drop j = v :: q) : l[j]? = some v ∧ l.drop (j + 1) = q := by
 have h0 : (l.drop j)[0]? = some v := by rw [h]; rfl
 rw [List.getElem?_drop, Nat.add_zero] at h0
 refine ⟨h0, ?_⟩
 have : (l.drop j).drop 1 = q := by rw [h]; rfl
 rwa [List.drop_drop] at this
theorem put_loop {mm b : Nat} {p : List Int} {H : List AB} (hp : p.length < 100000) : ∀ (q : List Int) (j : Nat) (P P' : AV) (u : Nat → AV), p.drop j = q → j ≤ p.length → (P = .ptr b 0 ∨ ∃ b1 g1 k1, P = .rp b1 g1 3 k1 0) → tgt H P q = some P' →
  ∃ u', evH (prgP E) mm lv33 ir33U_l0 ⟨fr 64 u (lL p b P (j : Int)), H⟩ = some (.brk 0, ⟨fr 64 u' [(4, .ptr 1 0), (6, .ptr 2 0), (13, .ptr b 0), (14, P')], H⟩)
 | [], j, P, P', u, hd, hj, hP, ht => by
  have hlen : j = p.length := by
   have := congrArg List.length hd
   rw [List.length_drop] at this
   simp only [List.length_nil] at this
   omega
  simp only [tgt, Option.some.injEq] at ht
  subst ht
  subst hlen
  exact xbrk (p := prgP E) (m := mm) (live := lv33) (b := ir33U_l0) (s := ⟨fr 64 u (lL p b P (p.length : Int)), H⟩) (L := [(4, .ptr 1 0), (6, .ptr 2 0), (13, .ptr b 0), (14, P)]) (id := 0) (N := 64) (h := H) [(45, .d false)]
   (apc (cv (decide_eq_false (by omega)) : vb (decide ((p.length : Int) < (p.length : Int))) = vb false) apn) (by kernel_rfl)
 | v :: q, j, P, P', u, hd, hj, hP, ht => by
  obtain ⟨hv, hq⟩ := drop_S hd
  have hlt : j < p.length := (gei.1 hv).1
  simp only [tgt] at ht
  split at ht
  ·rename_i blk g n hl
   split at ht
   ·rename_i hb
    have step : ∃ u', evH (prgP E) mm lv33 ir33U_l0 ⟨fr 64 u (lL p b P (j : Int)), H⟩ = evH (prgP E) mm lv33 ir33U_l0 ⟨fr 64 u' (lL p b (.rp blk g 3 v.toNat 0) ((j + 1 : Nat) : Int)), H⟩ := by
     rcases hP with rfl | ⟨b1, g1, k1, rfl⟩
     ·simp only [ptrAdd, bsm, Nat.zero_add] at hl
      exact put_round1 hp hv (by simp only [ldA, hl]; rfl) hb
     ·simp only [ptrAdd, bsm, Nat.zero_add] at hl
      exact put_round2 hp hv (by simp only [ldA, hl]; rfl) hb
    obtain ⟨u1, e1⟩ := step
    obtain ⟨u2, e2⟩ := put_loop hp q (j + 1) _ P' u1 hq (by omega) (.inr ⟨_, _, _, rfl⟩) ht
    exact ⟨u2, e1.trans e2⟩
   ·cases ht
  ·cases ht
abbrev lS (b : Nat) (P : AV) : List (Nat × AV) := [(4, .ptr 1 0), (6, .ptr 2 0), (13, .ptr b 0), (14, P)]
abbrev lT (b : Nat) : List (Nat × AV) := [(6, .ptr 2 0), (13, .ptr b 0)]
set_option maxRecDepth 100000 in
theorem put_S1 {u : Nat → AV} {b b1 : Nat} {x : TreeD} {c : List AV} {H6 H7 H8 : List AB} (h1 : ldA H6 true 3 (.ptr 1 0) = some (.agg ((cT x).map .p))) (h2 : CS (prgP E) 57 [.agg ((cT x).map .p)] H6 = some (.agg c, H7)) (h3 : stA H7 3 (.ptr b1 0) (.agg c) = some H8) :
  ∃ u', run (envOf (prgP E) (ev (prgP E))) (ev (prgP E)) p33S ⟨fr 64 u (lS b (.ptr b1 0)), H6⟩ = some (.norm, ⟨fr 64 u' (lT b), H8⟩) := by
 exact exP (n := 5) [(56, .v (.agg ((cT x).map .p))), (57, .r (.agg c) H7), (1058, .r ud H8)] (apc h1 (apc h2 (apc (⟨h3, rfl⟩ : stA H7 3 (.ptr b1 0) (.agg c) = some H8 ∧ ud = ud) apn))) (by kernel_rfl)
set_option maxRecDepth 100000 in
theorem put_S2 {u : Nat → AV} {b b1 g1 k1 : Nat} {x : TreeD} {c : List AV} {H6 H7 H8 : List AB} (h1 : ldA H6 true 3 (.ptr 1 0) = some (.agg ((cT x).map .p))) (h2 : CS (prgP E) 57 [.agg ((cT x).map .p)] H6 = some (.agg c, H7)) (h3 : stA H7 3 (.rp b1 g1 3 k1 0) (.agg c) = some H8) :
  ∃ u', run (envOf (prgP E) (ev (prgP E))) (ev (prgP E)) p33S ⟨fr 64 u (lS b (.rp b1 g1 3 k1 0)), H6⟩ = some (.norm, ⟨fr 64 u' (lT b), H8⟩) := by
 exact exP (n := 5) [(56, .v (.agg ((cT x).map .p))), (57, .r (.agg c) H7), (1058, .r ud H8)] (apc h1 (apc h2 (apc (⟨h3, rfl⟩ : stA H7 3 (.rp b1 g1 3 k1 0) (.agg c) = some H8 ∧ ud = ud) apn))) (by kernel_rfl)
set_option maxRecDepth 100000 in
set_option maxRecDepth 100000 in
end
mutual
def RepG (h : List AB) : TreeD → List AV → Prop
 | .mk p b ks, xs => ∃ blk g rows, xs = [i6 p, vi .u8 b, .sl blk g 3 0 ks.length] ∧ h[blk]? = some (.row 25 3 g rows) ∧ RepGK h ks rows
def RepGK (h : List AB) : List TreeD → List (List AV) → Prop
 | [], rows => rows = []
 | k :: ks, rows => ∃ r rs, rows = r :: rs ∧ RepG h k r ∧ RepGK h ks rs
end
mutual
theorem repG_of {h : List AB} : ∀ (t : TreeD) {lo hi : Nat} {xs : List AV}, RepT h t lo hi xs → RepG h t xs
 | .mk p b ks, lo, hi, xs, ⟨blk, g, rows, e, h1, hb, h2⟩ => ⟨blk, g, rows, e, hb, repGK_of ks h2⟩
theorem repGK_of {h : List AB} : ∀ (ks : List TreeD) {lo hi : Nat} {rows : List (List AV)}, RepK h ks lo hi rows → RepGK h ks rows
 | [], lo, hi, rows, ⟨e, h1⟩ => e
 | k :: ks, lo, hi, rows, ⟨r, rs, mid, e, h1, h2⟩ => ⟨r, rs, e, repG_of k h1, repGK_of ks h2⟩
end
theorem repGK_len {h : List AB} : ∀ (ks : List TreeD) {rows : List (List AV)}, RepGK h ks rows → rows.length = ks.length
 | [], rows, e => by rw [show rows = [] from e]; rfl
 | k :: ks, rows, ⟨r, rs, e, h1, h2⟩ => by rw [e, List.length_cons, List.length_cons, repGK_len ks h2]
mutual
theorem repG_frame {h h' : List AB} (hf : ∀ (b : Nat) t s g rows, h[b]? = some (AB.row t s g rows) → h'[b]? = h[b]?) : ∀ (t : TreeD) {xs : List AV}, RepG h t xs → RepG h' t xs
 | .mk p b ks, xs, ⟨blk, g, rows, e, hb, h2⟩ => ⟨blk, g, rows, e, (hf _ _ _ _ _ hb).trans hb, repGK_frame hf ks h2⟩
theorem repGK_frame {h h' : List AB} (hf : ∀ (b : Nat) t s g rows, h[b]? = some (AB.row t s g rows) → h'[b]? = h[b]?) : ∀ (ks : List TreeD) {rows : List (List AV)}, RepGK h ks rows → RepGK h' ks rows
 | [], rows, e => e
 | k :: ks, rows, ⟨r, rs, e, h1, h2⟩ => ⟨r, rs, e, repG_frame hf k h1, repGK_frame hf ks h2⟩
end
mutual
theorem repG_read {h : List AB} : ∀ (t : TreeD) {n : Nat} {xs : List AV}, RepG h t xs → dep t ≤ n → mapO (purP h n) xs = some (cT t)
 | .mk p b ks, n, xs, ⟨blk, g, rows, e, hb, h2⟩, hn => by
  subst e
  simp only [dep] at hn
  obtain ⟨n, rfl⟩ : ∃ m, n = m + 1 := ⟨n - 1, by omega⟩
  have hl := repGK_len ks h2
  have hk := repGK_read ks h2 (n := n) (by omega)
  have e1 : (rows.drop 0).take ks.length = rows := by rw [List.drop_zero, ← hl, List.take_length]
  simp only [mapO, purP, vi, hb, e1, hk]
  rw [if_pos ⟨trivial, trivial, by omega⟩]
  rfl
theorem repGK_read {h : List AB} : ∀ (ks : List TreeD) {n : Nat} {rows : List (List AV)}, RepGK h ks rows → deps ks ≤ n → mapO (mapO (purP h n)) rows = some (eTrees ks)
 | [], n, rows, e, hn => by rw [show rows = [] from e]; rfl
 | k :: ks, n, rows, ⟨r, rs, e, h1, h2⟩, hn => by
  subst e
  simp only [deps] at hn
  simp only [mapO, repG_read k h1 (n := n) (by omega), repGK_read ks h2 (n := n) (by omega), eTrees, eTree_c]
end
theorem repG_form {h : List AB} : ∀ {k : TreeD} {xs : List AV}, RepG h k xs → (∀ y ∈ xs, (∃ z, y = AV.p z) ∨ ∃ b g s o l, y = AV.sl b g s o l) ∧ ∃ a b c, xs = [a, b, c] ∧ a.one = true ∧ b.one = true ∧ c.one = true := by
 intro k xs hr
 cases k
 obtain ⟨blk, g, rows, e, _⟩ := hr
 subst e
 refine ⟨?_, _, _, _, rfl, rfl, rfl, rfl⟩
 intro y hy
 simp only [List.mem_cons, List.not_mem_nil, or_false] at hy
 rcases hy with rfl | rfl | rfl
 ·exact .inl ⟨_, rfl⟩
 ·exact .inl ⟨_, rfl⟩
 ·exact .inr ⟨_, _, _, _, _, rfl⟩
theorem repK_setG {h : List AB} : ∀ (ks : List TreeD) (i : Nat) {k : TreeD} {lo hi : Nat} {rows : List (List AV)}, RepK h ks lo hi rows → ks[i]? = some k →
  ∃ r m1 m2, rows[i]? = some r ∧ lo ≤ m1 ∧ m2 ≤ hi ∧ RepT h k m1 m2 r ∧
   ∀ (h2 : List AB) (r' : List AV) (k' : TreeD), (∀ b, lo ≤ b → b < hi → ¬ (m1 ≤ b ∧ b < m2) → h2[b]? = h[b]?) → RepG h2 k' r' → RepGK h2 (ks.set i k') (rows.set i r')
 | [], i, k, lo, hi, rows, _, hx => by simp at hx
 | a :: ks, 0, k, lo, hi, rows, ⟨r, rs, mid, e, h1, h2⟩, hx => by
  simp only [List.getElem?_cons_zero, Option.some.injEq] at hx
  subst hx
  subst e
  have l1 := repT_lt a h1
  have l2 := repK_le ks h2
  refine ⟨r, lo, mid, rfl, Nat.le_refl _, l2, h1, fun g r' k' hf hr => ?_⟩
  exact ⟨r', rs, rfl, hr, repGK_of ks (repK_frame ks (fun b h3 h4 => hf b (by omega) h4 (by omega)) h2)⟩
 | a :: ks, i + 1, k, lo, hi, rows, ⟨r, rs, mid, e, h1, h2⟩, hx => by
  simp only [List.getElem?_cons_succ] at hx
  subst e
  have l1 := repT_lt a h1
  have l2 := repK_le ks h2
  obtain ⟨q, m1, m2, a1, a2, a3, a4, a5⟩ := repK_setG ks i h2 hx
  refine ⟨q, m1, m2, by simpa using a1, by omega, a3, a4, fun g r' k' hf hr => ?_⟩
  exact ⟨r, _, rfl, repG_of a (repT_frame a (fun b h3 h4 => hf b h3 (by omega) (by omega)) h1), a5 g r' k' (fun b h3 h4 h5 => hf b (by omega) h4 h5) hr⟩
theorem repT_putG {h : List AB} : ∀ (q : List Int) (i : Int) {t : TreeD} {lo hi : Nat} {xs : List AV} {P : AV}, RepT h t lo hi xs → (ptrAdd 2 P).bind (loadA h 1) = (xs[2]?).map (fun x => [x]) → (fol t (i :: q)).isSome = true →
  ∃ blk g j rows r, lo ≤ blk ∧ blk < hi ∧ tgt h P (i :: q) = some (.rp blk g 3 j 0) ∧ h[blk]? = some (.row 25 3 g rows) ∧ rows[j]? = some r ∧ r.length = 3 ∧
   ∀ (h2 : List AB) (x : TreeD) (c : List AV), (∀ b, lo ≤ b → b < hi → b ≠ blk → h2[b]? = h[b]?) → h2[blk]? = some (.row 25 3 g (rows.set j c)) → RepG h2 x c → RepG h2 (putT t x (i :: q)) xs
 | q, i, .mk p b ks, lo, hi, xs, P, ⟨blk, g, rows, e, h1, hb, h2⟩, hP, hf => by
  subst e
  simp only [List.getElem?_cons_succ, List.getElem?_cons_zero, Option.map_some] at hP
  have hl := repK_len ks h2
  have hle := repK_le ks h2
  have hf : (if 0 ≤ i ∧ i < ((ks.length : Nat) : Int) then (ks[i.toNat]?).bind fun k => (fol k q).map fun r => (r.1, byts (ks.take i.toNat) + r.2) else none).isSome = true := by
   rw [fol] at hf
   exact hf
  by_cases hi2 : 0 ≤ i ∧ i < ((ks.length : Nat) : Int)
  ·rw [if_pos hi2] at hf
   have hx : ks[i.toNat]? = some ks[i.toNat] := List.getElem?_eq_getElem (by omega)
   generalize ks[i.toNat] = k at hx
   rw [hx] at hf
   obtain ⟨r, m1, m2, a1, a2, a3, a4, a5⟩ := repK_setG ks i.toNat h2 hx
   have et : ∀ q, tgt h P (i :: q) = tgt h (.rp blk g 3 i.toNat 0) q := fun q => by
    simp only [tgt, hP]
    rw [if_pos hi2]
   have r3 : r.length = 3 := by
    cases k
    obtain ⟨_, _, _, e, _⟩ := a4
    rw [e]
    rfl
   have ep : ∀ (x : TreeD) (q : List Int), putT (.mk p b ks) x (i :: q) = .mk p b (ks.set i.toNat (putT k x q)) := fun x q => by
    simp only [putT, TreeD.kids, hx, TreeD.prod, TreeD.byte]
   cases q with
   | nil =>
    refine ⟨blk, g, i.toNat, rows, r, h1, by omega, et [], hb, a1, r3, fun h3 x c hfr hc hr => ?_⟩
    rw [ep]
    exact ⟨blk, g, _, by rw [List.length_set], hc, a5 h3 c x (fun b h4 h5 _ => hfr b (by omega) h5 (by omega)) hr⟩
   | cons i' q =>
    have hP' : (ptrAdd 2 (.rp blk g 3 i.toNat 0)).bind (loadA h 1) = (r[2]?).map (fun x => [x]) := by
     simp only [ptrAdd, bsm, loadA, hb, a1]
     match r, r3 with
     | [_, _, _], _ => rfl
    have hf' : (fol k (i' :: q)).isSome = true := by
     simp only [bsm] at hf
     rw [Option.isSome_map] at hf
     exact hf
    obtain ⟨bl, g2, j, rw2, r2, b1, b2, b3, b4, b5, b6, b7⟩ := repT_putG q i' a4 hP' hf'
    refine ⟨bl, g2, j, rw2, r2, by omega, by omega, (et _).trans b3, b4, b5, b6, fun h3 x c hfr hc hr => ?_⟩
    rw [ep]
    have hk := b7 h3 x c (fun b h4 h5 h6 => hfr b (by omega) (by omega) h6) hc hr
    have hs : rows.set i.toNat r = rows := set_same a1
    have := a5 h3 r (putT k x (i' :: q)) (fun b h4 h5 h6 => hfr b (by omega) h5 (fun e => h6 (by subst e; exact ⟨b1, b2⟩))) hk
    rw [hs] at this
    exact ⟨blk, g, rows, by rw [List.length_set], (hfr blk h1 (by omega) (by omega)).trans hb, this⟩
  ·rw [if_neg hi2] at hf
   cases hf
section
variable {E : Er}
theorem put_midG {t x : TreeD} {p : List Int} {H6 : List AB} {xs : List AV} {b : Nat} (hb : H6.length = b + 1) (h4 : 4 ≤ b) (hbx : H6[b]? = some (.cells 25 xs)) (hr6 : RepT H6 t 4 b xs) (hx : tc x ≤ 20000) (hf : (fol t p).isSome = true) :
  ∃ P c H7 H8 ys, tgt H6 (.ptr b 0) p = some P ∧ (P = .ptr b 0 ∨ ∃ b1 g1 k1, P = .rp b1 g1 3 k1 0) ∧ CS (prgP E) 57 [.agg ((cT x).map .p)] H6 = some (.agg c, H7) ∧ stA H7 3 P (.agg c) = some H8 ∧ ldA H8 true 3 (.ptr b 0) = some (.agg ys) ∧
   (∀ k, k < 4 → H8[k]? = H6[k]?) ∧ RepG H8 (putT t x p) ys := by
 obtain ⟨c, ex2, hc2, hr2⟩ := own_cs (E := E) (tc x) x (Nat.le_refl _) (by omega) H6
 obtain ⟨c1, c2, c3, rfl, o1, o2, o3⟩ := cells3 hr2
 obtain ⟨x1, x2, x3, rfl, w1, w2, w3⟩ := cells3 hr6
 have e7 : ∀ k, k < H6.length → (H6 ++ ex2)[k]? = H6[k]? := fun k hk => gal hk
 have hl7 : (H6 ++ ex2).length = H6.length + ex2.length := List.length_append
 cases p with
 | nil =>
  have hst := st_cells3 (a := c1) (d := c2) (c := c3) ((e7 b (by omega)).trans hbx) o1 o2 o3
  have hne : ∀ k, k ≠ b → ((H6 ++ ex2).set b (.cells 25 [c1, c2, c3]))[k]? = (H6 ++ ex2)[k]? := fun k hk => List.getElem?_set_ne (by omega)
  refine ⟨_, _, _, _, [c1, c2, c3], rfl, .inl rfl, hc2, hst, ld_cells3 (List.getElem?_set_self (by omega)), fun k hk => (hne k (by omega)).trans (e7 k (by omega)), ?_⟩
  refine repG_frame (fun k t s g rows hk => hne k ?_) x (repG_of x hr2)
  rintro rfl
  rw [e7 _ (by omega), hbx] at hk
  cases hk
 | cons i q =>
  obtain ⟨blk, g, j, rows, r, a1, a2, a3, a4, a5, a6, a7⟩ := repT_putG (P := .ptr b 0) q i hr6 (by simp only [ptrAdd, bsm, loadA, hbx]; rfl) hf
  have hst := st_rp (a := c1) (b := c2) (c := c3) ((e7 blk (by omega)).trans a4) a5 a6 o1 o2 o3
  have hne : ∀ k, k ≠ blk → ((H6 ++ ex2).set blk (.row 25 3 g (rows.set j [c1, c2, c3])))[k]? = (H6 ++ ex2)[k]? := fun k hk => List.getElem?_set_ne (by omega)
  refine ⟨_, _, _, _, [x1, x2, x3], a3, .inr ⟨_, _, _, rfl⟩, hc2, hst, ld_cells3 ((hne b (by omega)).trans ((e7 b (by omega)).trans hbx)), fun k hk => (hne k (by omega)).trans (e7 k (by omega)), ?_⟩
  refine a7 _ x [c1, c2, c3] (fun k h1 h2 h3 => (hne k h3).trans (e7 k (by omega))) (List.getElem?_set_self (by omega)) ?_
  exact repG_of x (repT_frame x (fun k h1 h2 => hne k (by omega)) hr2)
end
end Go.Proofs.Tryd
