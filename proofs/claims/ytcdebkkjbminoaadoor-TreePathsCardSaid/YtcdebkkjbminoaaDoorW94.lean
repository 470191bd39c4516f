/- What TreePaths stands on: copies in its own memory; At, Place, Put, Find called of what it owns. -/
import Derived.Test.YtcdebkkjbminoaaDoorW93
import Derived.Test.YtcdebkkjbminoaaDoorH95
import Derived.Test.YtcdebkkjbminoaaDoorQ9
import Derived.Test.YtcdebkkjbminoaaDoorVF
open List renaming getElem?_eq_getElem → geg
namespace Go.Proofs.Tryd
set_option linter.unusedSimpArgs false
set_option linter.unusedVariables false
open Go Go.Vs
section
variable [ErC]
abbrev cpC (t : TreeD) (g : Nat) : List AV := [i6 t.prod, vi .u8 t.byte, .sl 2 (g + 1) 3 0 t.kids.length]
abbrev cpR (t : TreeD) : List (List AV) := ra cX t.kids ++ [[i6 (-77), vi .u8 0, n0]]
abbrev cpH (t : TreeD) (g : Nat) : List AB := [.cells 25 (cpC t g), .cells 25 (cpC t g), .row 25 3 (g + 1) (cpR t), .row 25 3 0 [[i6 (-77), vi .u8 0, n0]]]
abbrev cpM (t : TreeD) (g : Nat) : List AB := [.cells 25 ((cT t).map .p), .cells 25 [i6 0, vi .u8 0, n0], .row 25 3 (g + 1) (cpR t), .row 25 3 0 [[i6 (-77), vi .u8 0, n0]]]
theorem F17_own {Nf : Nat} {t : TreeD} {g : Nat} (h1 : runL (fun s => L17_0 (F17 Nf) t s.1 s.2.1 s.2.2.1 s.2.2.2) (0, 0, 0, []) = some (.k0 g t.kids.length t.kids)) (h2 : apOk t.kids.length 1 t.kids.length 40 = true) (h4 : slOk (t.kids.length : Int) (t.kids.length + 1) (t.kids.length + 1) = true) :
  CB pg ir17V [.agg ((cT t).map .p)] [] = some (.agg (cpC t g), cpH t g) := by
 obtain ⟨g1, e1⟩ := L17_0_run (F17 Nf) (F17_ok Nf) t (0, 0, 0, []) _ h1
 have q1 := (e1 : L17_0_e t 0 0 0 ([]) = some ((.brk 0), F17_d0 g1 g t.kids.length t t.kids))
 have q0 := ((lgr tr_map) : lnA (.p (.lst 3 (eTrees t.kids))) = some (i6 (t.kids.length : Int)))
 have q3 := ((ap_sent (e := cX) (xs := t.kids) rfl rfl h2 (decide_eq_true rfl)) : appA [.cells 25 ((cT t).map .p), .cells 25 [i6 0, vi .u8 0, n0], .row 25 3 g (ra cX t.kids), .row 25 3 0 [[(i6 (-77)), vi .u8 0, n0]]] 25 3 40 (.sl 2 g 3 0 t.kids.length) (.sl 3 0 3 0 1) = some ((.sl 2 (g + 1) 3 0 (t.kids.length + 1)), cpM t g))
 have q5 : slA (cpM t g) 3 (.sl 2 (g + 1) 3 0 (t.kids.length + 1)) (some 0) (some (t.kids.length : Int)) = some (.sl 2 (g + 1) 3 0 t.kids.length) := (sl_sent (e := cX) (xs := t.kids) rfl h4)
 exact CB_D (n := 5) (H := [(2000, .l (.brk 0) (F17_d0 g1 g t.kids.length t t.kids)), (24, .r (.sl 2 (g + 1) 3 0 (t.kids.length + 1)) (cpM t g)), (27, .v (i6 (t.kids.length : Int))), (28, .v (.sl 2 (g + 1) 3 0 t.kids.length)), (6000, .d true)])
  (by kernel_rfl) (apc (L17_0_k t 0 0 0 ([])) (apc q1 (apc q3 (apc q0 (apc q5 apn)))))
end
def fnsY (n : Nat) : Option IFun := match n.beq 9 with
 | true => some ir9V
 | false => none
theorem fnsY_ok : ∀ f F, fnsY f = some F → ∃ shf fd ann, prog.funcs[f]? = some fd ∧ compFn prog shf ann fd = some F := fun f F h => by
 unfold fnsY at h
 split at h
 ·rename_i e
  obtain rfl := Nat.eq_of_beq_eq_true e
  cases h
  exact fnsV_ok 9 _ rfl
 ·cases h
def flatR (h : List AB) : Option (AV × List AB) → Option (AV × List AB)
 | some (.p (.val x), _) => some (.p (.val x), h)
 | _ => none
noncomputable def keptA (E : Er) (args : List AV) (h : List AB) : Option (AV × List AB) := match args with
 | [.agg [.p x1, .p x2, .sl b ge s 0 n], .agg zs] => match h[b]? with
  | some (.row _ s' ge' rows) => match pvr rows with
   | some ys => if s' = s ∧ ge' = ge ∧ n < rows.length ∧ AV.pure.pures zs = true then flatR h (CS (prg E) 22 [.agg [.p x1, .p x2, .p (.lsx s (ys.take n) (ys.drop n))], .agg zs] []) else none
   | none => none
  | _ => none
 | _ => none
theorem flatR_some {h : List AB} {r : Option (AV × List AB)} {v : AV} {h' : List AB} (e : flatR h r = some (v, h')) : h' = h ∧ ∃ x h0, v = .p (.val x) ∧ r = some (.p (.val x), h0) := by
 unfold flatR at e
 split at e
 ·cases e
  exact ⟨rfl, _, _, rfl, rfl⟩
 ·cases e
theorem keptA_ok {E : Er} {args : List AV} {h : List AB} {v : AV} {h' : List AB} (hc : keptA E args h = some (v, h')) : CallR prog (Go.Vs.Good prog) (gl14 E) 22 args h v h' := by
 unfold keptA at hc
 split at hc
 ·split at hc
  ·rename_i hb
   split at hc
   ·rename_i hp
    split at hc
    ·rename_i hk
     obtain ⟨rfl, rfl, hl, hz⟩ := hk
     obtain ⟨rfl, x, h0, rfl, hr⟩ := flatR_some hc
     exact callR_own (Rd.sx hb hp hl (by simpa [AV.pure.pures, AV.pure] using hz)) (CS_sound (prg_ok E) hr) rfl rfl
    ·cases hc
   ·cases hc
  ·cases hc
 ·cases hc
def fgG : AV → AV
 | .agg xs => .agg (xs.map (fgA true))
 | x => fgA true x
theorem fgG_rel {g : G} {w : World} : ∀ {xs : List AV} {vs : List Value}, VRs g w xs vs → VRs g w (xs.map fgG) vs
 | [], [], _ => by simp [VRs]
 | [], _ :: _, h => by simp [VRs] at h
 | _ :: _, [], h => by simp [VRs] at h
 | x :: xs, v :: vs, h => by
  simp only [VRs, List.map_cons] at h ⊢
  refine ⟨?_, fgG_rel h.2⟩
  cases x with
  | agg ys =>
   have h1 := h.1
   simp only [fgG, VR] at h1 ⊢
   obtain ⟨cs, rfl, h1⟩ := h1
   exact ⟨cs, rfl, fgAs_rel h1⟩
  | _ => exact fgA_rel (deep := true) h.1
noncomputable def primY (E : Er) (n : Nat) (args : List AV) (h : List AB) : Option (AV × List AB) := match n.beq 17, n.beq 22, n.beq 31 || n.beq 33, n.beq 32 || n.beq 34 with
 | true, _, _, _ => CB (prg E) ir17V args h
 | false, true, _, _ => keptA E args h
 | false, false, true, _ => CS (prgP E) n (args.map fgG) h
 | false, false, false, true => CS (prg E) n (args.map fgG) h
 | false, false, false, false => CS (prg E) n args h
theorem callR_fg {C : IC → Code → Prop} {gl : Nat → Option (List PV)} {fn : Nat} {args : List AV} {h h' : List AB} {v : AV} (hc : CallR prog C gl fn (args.map fgG) h v h') : CallR prog C gl fn args h v h' :=
 ⟨hc.1, fun g w vals hcr hgr hhr hvs => hc.2 g w vals hcr hgr hhr (fgG_rel hvs)⟩
noncomputable def prgY (E : Er) : Prg := ⟨fnsY, gl14 E, primY E, fun _ => false⟩
theorem prgY_ok (E : Er) : PrgOk prog (prgY E) := ⟨fnsY_ok, fun f args h v h' hc => by
 replace hc : primY E f args h = some (v, h') := hc
 unfold primY at hc
 split at hc
 ·rename_i e
  obtain rfl := Nat.eq_of_beq_eq_true e
  exact CB_sound (prg_ok E) (fnsV_ok 17 _ rfl) hc
 ·rename_i _ e
  obtain rfl := Nat.eq_of_beq_eq_true e
  exact keptA_ok hc
 ·exact callR_fg (CS_sound (prgP_ok E) hc)
 ·exact callR_fg (CS_sound (prg_ok E) hc)
 ·exact CS_sound (prg_ok E) hc⟩
theorem ren_p (q : Nat → Nat) : ∀ r : List PV, rens q (r.map .p) = r.map .p
 | [] => rfl
 | x :: r => by simp only [List.map_cons, rens, AV.ren, ren_p q r]
theorem ren_rows (q : Nat → Nat) : ∀ R : List (List PV), (R.map (·.map .p)).map (rens q) = R.map (·.map .p)
 | [] => rfl
 | r :: R => by simp only [List.map_cons, ren_p, ren_rows q R]
theorem cpR_eq (t : TreeD) : cpR t = (t.kids.map cX ++ [moreT]).map (·.map .p) := by
 rw [List.map_append, ← ra_map]
 rfl
theorem fgPr_I : ∀ p : List Int, fgPr (p.map eI64) = p.map eI64
 | [] => rfl
 | x :: p => by simp only [List.map_cons, fgPr, fgPr_I p]; rfl
theorem purA_rows {h : List AB} {b t s g n : Nat} {R : List (List PV)} (hb : h[b]? = some (.row t s g (R.map (·.map .p)))) (hl : n ≤ R.length) : purA h (.sl b g s 0 n) = some (.p (.lst s (R.take n))) := by
 have := purA_sl (e := (id : List PV → List PV)) (xs := R) (len := n) hb (decide_eq_true hl)
 rwa [List.map_id] at this
abbrev mC (t : TreeD) (g b : Nat) : List AV := [i6 t.prod, vi .u8 t.byte, .sl b (g + 1) 3 0 t.kids.length]
abbrev mR (t : TreeD) : AV := .agg [i6 t.prod, vi .u8 t.byte, .p (.lst 3 (t.kids.map cX))]
theorem pur_m {h : List AB} {t : TreeD} {g b : Nat} (hb : h[b]? = some (.row 25 3 (g + 1) (cpR t))) : purA h (.agg (mC t g b)) = some (mR t) := by
 rw [cpR_eq] at hb
 have := purA_rows (n := t.kids.length) hb (by simp)
 rw [show (t.kids.map cX ++ [moreT]).take t.kids.length = t.kids.map cX by rw [← List.length_map (f := cX), List.take_left]] at this
 exact purA_agg (purAs_cons rfl (purAs_cons rfl (purAs_cons this purAs_nil)))
theorem pur_path {h : List AB} {p : List Int} {g b : Nat} (hb : h[b]? = some (.row 3 1 g (ra eI64 (p ++ [77])))) : purA h (.sl b g 1 0 p.length) = some (ls 1 eI64 p) := by
 have := purA_sl (e := eI64) (xs := p ++ [77]) (len := p.length) hb (decide_eq_true (by simp))
 rwa [List.take_left] at this
theorem fg_m (t : TreeD) : fgG (mR t) = .agg ((cT t).map .p) := by
 show AV.agg [i6 t.prod, vi .u8 t.byte, .p (.lst 3 (fgPr (t.kids.map cX)))] = _
 rw [← trX_map, fgX]
 rfl
theorem fg_p (p : List Int) : fgG (ls 1 eI64 p) = ls 1 eI64 p := by
 show AV.p (.lst 1 (fgPr (p.map eI64))) = _
 rw [fgPr_I]
section
variable {E : Er}
theorem csY {f : Nat} {args : List AV} {h : List AB} (hf : fnsY f = none) : CS (prgY E) f args h = primY E f args h := by
 unfold CS callS
 rw [show (prgY E).fn f = none from hf]
 rfl
theorem lowY {f : Nat} {args : List AV} {x : AV} (h : PR1 (prg E) f args x) (hf : fnsY f = none) (hq : ∀ h, primY E f args h = CS (prg E) f args h) : PR1 (prgY E) f args x := by
 obtain ⟨v, h', hc, hx⟩ := h
 exact ⟨v, h', by rw [csY hf, hq]; exact hc, hx⟩
theorem y31 {t w : TreeD} {p : List Int} {e : Int} {h : List AB} {g b g2 b2 : Nat} (hq : PR2 (prgP E) 31 [.agg ((cT t).map .p), ls 1 eI64 p] (.tup [.agg ((cT w).map .p), i6 e])) (hb : h[b]? = some (.row 25 3 (g + 1) (cpR t))) (hb2 : h[b2]? = some (.row 3 1 g2 (ra eI64 (p ++ [77])))) :
  CP (prgY E) 31 [.agg (mC t g b), .sl b2 g2 1 0 p.length] h = some (.tup [.agg ((cT w).map .p), i6 e]) := by
 refine PR2.own (args' := [mR t, ls 1 eI64 p]) ?_ rfl (purAs_cons (pur_m hb) (purAs_cons (pur_path hb2) purAs_nil))
 obtain ⟨v, h', h1, h2⟩ := hq
 refine ⟨v, h', ?_, h2⟩
 rw [csY rfl]
 show CS (prgP E) 31 [fgG (mR t), fgG (ls 1 eI64 p)] [] = _
 rw [fg_m, fg_p, h1]
theorem y33 {t x w : TreeD} {p : List Int} {e : Int} {h : List AB} {g b g3 b3 g2 b2 : Nat} (hq : PR2 (prgP E) 33 [.agg ((cT t).map .p), .agg ((cT x).map .p), ls 1 eI64 p] (.tup [.agg ((cT w).map .p), i6 e])) (hb : h[b]? = some (.row 25 3 (g + 1) (cpR t))) (hb3 : h[b3]? = some (.row 25 3 (g3 + 1) (cpR x))) (hb2 : h[b2]? = some (.row 3 1 g2 (ra eI64 (p ++ [77])))) :
  CP (prgY E) 33 [.agg (mC t g b), .agg (mC x g3 b3), .sl b2 g2 1 0 p.length] h = some (.tup [.agg ((cT w).map .p), i6 e]) := by
 refine PR2.own (args' := [mR t, mR x, ls 1 eI64 p]) ?_ rfl (purAs_cons (pur_m hb) (purAs_cons (pur_m hb3) (purAs_cons (pur_path hb2) purAs_nil)))
 obtain ⟨v, h', h1, h2⟩ := hq
 refine ⟨v, h', ?_, h2⟩
 rw [csY rfl]
 show CS (prgP E) 33 [fgG (mR t), fgG (mR x), fgG (ls 1 eI64 p)] [] = _
 rw [fg_m, fg_m, fg_p, h1]
theorem y32 {t : TreeD} {p : List Int} {a b' e : Int} {h : List AB} {g b g2 b2 : Nat} (hq : PR1 (prg E) 32 [.agg ((cT t).map .p), ls 1 eI64 p] (.tup [i6 a, i6 b', i6 e])) (hb : h[b]? = some (.row 25 3 (g + 1) (cpR t))) (hb2 : h[b2]? = some (.row 3 1 g2 (ra eI64 (p ++ [77])))) :
  CP (prgY E) 32 [.agg (mC t g b), .sl b2 g2 1 0 p.length] h = some (.tup [i6 a, i6 b', i6 e]) := by
 refine PR1.own (args' := [mR t, ls 1 eI64 p]) ?_ rfl (purAs_cons (pur_m hb) (purAs_cons (pur_path hb2) purAs_nil)) rfl
 obtain ⟨v, h', h1, h2⟩ := hq
 refine ⟨v, h', ?_, h2⟩
 rw [csY rfl]
 show CS (prg E) 32 [fgG (mR t), fgG (ls 1 eI64 p)] [] = _
 rw [fg_m, fg_p, h1]
theorem y34 {t : TreeD} {n e : Int} {l : List Int} {h : List AB} {g b : Nat} (hq : PR2 (prg E) 34 [.agg ((cT t).map .p), i6 n] (.tup [ls 1 eI64 l, i6 e])) (hb : h[b]? = some (.row 25 3 (g + 1) (cpR t))) :
  CP (prgY E) 34 [.agg (mC t g b), i6 n] h = some (.tup [ls 1 eI64 l, i6 e]) := by
 refine PR2.own (args' := [mR t, i6 n]) ?_ rfl (purAs_cons (pur_m hb) (purAs_cons rfl purAs_nil))
 obtain ⟨v, h', h1, h2⟩ := hq
 refine ⟨v, h', ?_, h2⟩
 rw [csY rfl]
 show CS (prg E) 34 [fgG (mR t), i6 n] [] = _
 rw [fg_m, h1]
theorem y22 {t : TreeD} {h : List AB} {g b : Nat} (hq : PR1 (prg E) 22 [.agg ((cX t).map .p), .agg ((cT t).map .p)] (vb true)) (hb : h[b]? = some (.row 25 3 (g + 1) (cpR t))) :
  CS (prgY E) 22 [.agg (mC t g b), .agg ((cT t).map .p)] h = some (vb true, h) := by
 obtain ⟨v, h', h1, h2⟩ := hq
 obtain ⟨_, rfl⟩ := purA_flat v (vb true) h2 rfl
 rw [csY rfl]
 show keptA E [.agg [.p _, .p _, .sl b (g + 1) 3 0 t.kids.length], .agg ((cT t).map .p)] h = _
 rw [cpR_eq] at hb
 have hl : t.kids.length < ((t.kids.map cX ++ [moreT]).map (·.map AV.p)).length := by simp
 simp only [keptA, hb, pvr_p]
 rw [if_pos ⟨trivial, trivial, hl, rfl⟩]
 have e1 : (t.kids.map cX ++ [moreT]).take t.kids.length = eTreesX t.kids := by rw [← List.length_map (f := cX), List.take_left, trX_map]
 have e2 : (t.kids.map cX ++ [moreT]).drop t.kids.length = [moreT] := by rw [← List.length_map (f := cX), List.drop_left]
 rw [e1, e2]
 have h3 : CS (prg E) 22 [.agg [.p (.val (.int .i64 t.prod)), .p (.val (.int .u8 t.byte)), .p (.lsx 3 (eTreesX t.kids) [moreT])], .agg ((cT t).map .p)] [] = some (vb true, h') := h1
 rw [h3]
 rfl
end
abbrev r77 : List (List AV) := [[i6 (-77), vi .u8 0, n0]]
abbrev h4 (t x : TreeD) (p : List Int) (k : Int) : List AB := [.cells 25 ((cT t).map .p), .cells 25 ((cT x).map .p), .cells 61 [ls 1 eI64 p, i6 k], .row 25 3 0 [(cT t).map .p, (cT x).map .p]]
abbrev nC (t : TreeD) (g b : Nat) (R : List (List AV)) : List AB := [.cells 25 (mC t g b), .cells 25 (mC t g b), .row 25 3 (g + 1) R, .row 25 3 0 r77]
abbrev h14 (t x : TreeD) (p : List Int) (k : Int) (g g2 : Nat) (R S : List (List AV)) : List AB := h4 t x p k ++ ([.cells 25 (mC t g 8), .cells 25 (mC x g2 12)] ++ (nC t g 8 R ++ nC x g2 12 S))
abbrev h16 (t x : TreeD) (p : List Int) (k : Int) (g g2 ga : Nat) (R S : List (List AV)) : List AB := h14 t x p k g g2 R S ++ [.row 3 1 (ga + 1) (ra eI64 (p ++ [77])), .row 3 1 0 [[i6 77]]]
abbrev hF (t x w q : TreeD) (p : List Int) (k : Int) (g g2 ga : Nat) (R S : List (List AV)) : List AB := h16 t x p k g g2 ga R S ++ [.cells 25 ((cT w).map .p), .cells 25 ((cT q).map .p), .cells 25 ((cT w).map .p), .cells 25 ((cT q).map .p)]
theorem app_path {h : List AB} {b : Nat} {p : List Int} (hb : h[b]? = some (.row 3 1 0 [])) (hp : p.length ≤ 2000) : ∃ ga, appA h 3 1 8 (.sl b 0 1 0 0) (ls 1 eI64 p) = some (.sl b ga 1 0 p.length, h.set b (.row 3 1 ga (ra eI64 p))) := by
 have ho : apOk 0 p.length ([] : List Int).length 8 = true := decide_eq_true ⟨Nat.le_refl _, by unfold limit47; omega, by unfold limit47; omega⟩
 cases p with
 | nil => exact ⟨0, ap_in (e := eI64) (xs := []) (news := []) hb rfl rfl ho rfl⟩
 | cons i p =>
  have := ap_out (e := eI64) (xs := []) (news := i :: p) (len := 0) (k := (i :: p).length) hb rows_l rfl ho (decide_eq_false (by simp))
  rw [show 0 + (i :: p).length = (i :: p).length from Nat.zero_add _, List.take_nil, List.nil_append] at this
  exact ⟨1, this⟩
theorem app_77 {h : List AB} {b b2 ga : Nat} {p : List Int} (hb : h[b]? = some (.row 3 1 ga (ra eI64 p))) (hb2 : h[b2]? = some (.row 3 1 0 [[i6 77]])) (hp : p.length ≤ 2000) : appA h 3 1 8 (.sl b ga 1 0 p.length) (.sl b2 0 1 0 1) = some (.sl b (ga + 1) 1 0 (p.length + 1), h.set b (.row 3 1 (ga + 1) (ra eI64 (p ++ [77])))) := by
 have := ap_out (bytes := 8) (e := eI64) (xs := p) (news := [77]) (len := p.length) (k := 1) (y := .sl b2 0 1 0 1) hb (rows_x (e := eI64) (xs := [77]) hb2) rfl (decide_eq_true ⟨Nat.le_refl _, by unfold limit47; omega, by unfold limit47; omega⟩) (decide_eq_false (by omega))
 rwa [List.take_length] at this
theorem st_rp1 {h : List AB} {b g i : Nat} {v : Int} {R : List (List AV)} {r1 r2 r3 : AV} (hb : h[b]? = some (.row 25 3 g R)) (hr : R[i]? = some [r1, r2, r3]) : stA h 1 (.rp b g 3 i 0) (i6 v) = some (h.set b (.row 25 3 g (R.set i [i6 v, r2, r3]))) := by
 simp only [stA, cellsOf, Option.bind_some, List.length_singleton, if_true, storeA, hb, hr]
 rfl
section
variable {E : Er}
theorem z17 {t : TreeD} {g m r : Nat} {h : List AB} (hq : CB (prg E) ir17V [.agg ((cT t).map .p)] [] = some (.agg (cpC t g), cpH t g)) (hm : h.length = m) : zP (prgY E) 4 r 0 17 [.agg ((cT t).map .p)] h (.agg (mC t g (2 + m))) (h ++ nC t g (2 + m) (cpR t)) := by
 subst hm
 refine ⟨(.agg (cpC t g), cpH t g), ?_, ?_⟩
 ·rw [show topB [AV.agg ((cT t).map .p)] = 0 from rfl, List.take_zero, csY rfl]
  exact hq
 ·show some (AV.agg (mC t g (2 + h.length)), h ++ [.cells 25 (mC t g (2 + h.length)), .cells 25 (mC t g (2 + h.length)), .row 25 3 (g + 1) ((cpR t).map (rens (· + h.length))), .row 25 3 0 r77]) = _
  have : (cpR t).map (rens (· + h.length)) = cpR t := by
   rw [cpR_eq]
   exact ren_rows _ _
  rw [this]
abbrev lv90 : List Nat := [7, 8, 10, 15, 17, 19, 23, 25, 27, 2000000]
abbrev lv91 : List Nat := [7, 8, 10, 15, 19, 23, 28, 2000000]
abbrev lv92 : List Nat := [8, 10, 15, 19, 23, 29, 2000000]
abbrev L90 (l : List Int) (i : Int) : List (Nat × AV) := [(7, .ptr 4 0), (8, .ptr 5 0), (10, .ptr 16 0), (15, .ptr 17 0), (17, ls 1 eI64 l), (19, .ptr 18 0), (23, .ptr 19 0), (25, ls 1 eI64 l), (27, i6 i)]
abbrev L91 (i : Int) : List (Nat × AV) := [(7, .ptr 4 0), (8, .ptr 5 0), (10, .ptr 16 0), (15, .ptr 17 0), (19, .ptr 18 0), (23, .ptr 19 0), (28, i6 i)]
abbrev L92 (i : Int) : List (Nat × AV) := [(8, .ptr 5 0), (10, .ptr 16 0), (15, .ptr 17 0), (19, .ptr 18 0), (23, .ptr 19 0), (29, i6 i)]
abbrev L91e : List (Nat × AV) := [(7, .ptr 4 0), (8, .ptr 5 0), (10, .ptr 16 0), (15, .ptr 17 0), (19, .ptr 18 0), (23, .ptr 19 0)]
abbrev L92e : List (Nat × AV) := [(8, .ptr 5 0), (10, .ptr 16 0), (15, .ptr 17 0), (19, .ptr 18 0), (23, .ptr 19 0)]
abbrev L93e : List (Nat × AV) := [(10, .ptr 16 0), (15, .ptr 17 0), (19, .ptr 18 0), (23, .ptr 19 0)]
theorem keep90 {u : Nat → AV} {l : List Int} {i : Int} : ∃ v, keepA lv90 0 (fr 234 u (L90 l i)) = fr 234 v (L90 l i) := by
 refine ⟨_, fr_eq (by rfl) (fun x hx => ?_)⟩
 simp only [L90, List.mem_cons, List.not_mem_nil, or_false] at hx
 rcases hx with rfl | rfl | rfl | rfl | rfl | rfl | rfl | rfl | rfl <;> rfl
theorem keep91 {u : Nat → AV} {i : Int} : ∃ v, keepA lv91 0 (fr 234 u (L91 i)) = fr 234 v (L91 i) := by
 refine ⟨_, fr_eq (by rfl) (fun x hx => ?_)⟩
 simp only [L91, List.mem_cons, List.not_mem_nil, or_false] at hx
 rcases hx with rfl | rfl | rfl | rfl | rfl | rfl | rfl <;> rfl
theorem keep92 {u : Nat → AV} {i : Int} : ∃ v, keepA lv92 0 (fr 234 u (L92 i)) = fr 234 v (L92 i) := by
 refine ⟨_, fr_eq (by rfl) (fun x hx => ?_)⟩
 simp only [L92, List.mem_cons, List.not_mem_nil, or_false] at hx
 rcases hx with rfl | rfl | rfl | rfl | rfl | rfl <;> rfl
set_option maxRecDepth 100000 in
theorem lp90 {mm : Nat} {l : List Int} {H : List AB} (hl : l.length ≤ 100000) : ∀ (m i : Nat) (u : Nat → AV), i + m = l.length → ∃ g, evH (prgY E) mm lv90 ir9V_l2 ⟨fr 234 u (L90 l (i : Int)), H⟩ = some (.brk 0, ⟨fr 234 g L91e, H⟩)
 | 0, i, u, hi => xbrk (p := prgY E) (m := mm) (live := lv90) (b := ir9V_l2) (s := ⟨fr 234 u (L90 l (i : Int)), H⟩) (L := L91e) (id := 0) (N := 234) (h := H) [(186, .v (i6 (l.length : Int))), (187, .d false)]
   (apc (lg l eI64 1) (apc (cv (decide_eq_false (by omega)) : vb (decide ((i : Int) < (l.length : Int))) = vb false) apn)) (by kernel_rfl)
 | m + 1, i, u, hi => by
  have hx : l[i]? = some l[i] := geg (by omega)
  generalize l[i] = v at hx
  have hgi : getI l (i : Int) = some v := by rw [getI_nat]; exact hx
  obtain ⟨g', hr⟩ := exitL_of (L := L90 l (w6 ((i : Int) + 1))) (r := runD (prgY E) 30 [(186, .v (i6 (l.length : Int))), (187, .d true), (192, .v (.ro (eI64 v))), (196, .v (.ro (eI64 v))), (198, .d false)] ir9V_l2 ⟨fr 234 u (L90 l (i : Int)), H⟩) (o := .norm) (n := 234) (h := H) (by kernel_rfl)
  have hrun := runD_ok hr
   (apc (lg l eI64 1) (apc (cv (decide_eq_true (by omega)) : vb (decide ((i : Int) < (l.length : Int))) = vb true) (apc (ig eI64 1 .i64 hgi : idxA 1 (ls 1 eI64 l) (i6 (i : Int)) = some (.ro (eI64 v))) (apc (ig eI64 1 .i64 hgi : idxA 1 (ls 1 eI64 l) (i6 (i : Int)) = some (.ro (eI64 v))) (apc (cv (by simp) : vb (v != v) = vb false) apn)))))
  obtain ⟨v', hv'⟩ := keep90 (u := g') (l := l) (i := w6 ((i : Int) + 1))
  obtain ⟨g, hg⟩ := lp90 (mm := mm) (H := H) hl m (i + 1) v' (by omega)
  refine ⟨g, ?_⟩
  rw [ev_round rfl hrun, hv', show w6 ((i : Int) + 1) = ((i + 1 : Nat) : Int) from w_S (by omega)]
  exact hg
variable {t x w q : TreeD} {p : List Int} {k : Int} {g g2 ga : Nat}
set_option maxRecDepth 100000 in
theorem lp91 {mm : Nat} {S : List (List AV)} (hl : t.kids.length ≤ 100000) : ∀ (m i : Nat) (u : Nat → AV) (R : List (List AV)), i + m = t.kids.length → R.length = t.kids.length + 1 → (∀ r ∈ R, r.length = 3) →
  ∃ u' R', evH (prgY E) mm lv91 ir9V_l1 ⟨fr 234 u (L91 (i : Int)), hF t x w q p k g g2 ga R S⟩ = some (.brk 2, ⟨fr 234 u' L92e, hF t x w q p k g g2 ga R' S⟩)
 | 0, i, u, R, hi, hR, h3 => by
  obtain ⟨u', hu⟩ := xbrk (p := prgY E) (m := mm) (live := lv91) (b := ir9V_l1) (s := ⟨fr 234 u (L91 (i : Int)), hF t x w q p k g g2 ga R S⟩) (L := L92e) (id := 2) (N := 234) (h := hF t x w q p k g g2 ga R S) [(203, .d false)]
   (apc (cv (decide_eq_false (by omega)) : vb (decide ((i : Int) < (t.kids.length : Int))) = vb false) apn) (by kernel_rfl)
  exact ⟨u', R, hu⟩
 | m + 1, i, u, R, hi, hR, h3 => by
  have hx : R[i]? = some R[i] := geg (by omega)
  have hm : R[i] ∈ R := List.getElem_mem _
  generalize R[i] = r at hx hm
  have h3r := h3 r hm
  match r, h3r, hx with
  | [r1, r2, r3], _, hx =>
   obtain ⟨g', hr⟩ := exitL_of (L := L91 (w6 ((i : Int) + 1))) (r := runD (prgY E) 30 [(203, .d true), (209, .v (.rp 8 (g + 1) 3 i 0)), (1210, .r ud (hF t x w q p k g g2 ga (R.set i [i6 (-5), r2, r3]) S))] ir9V_l1 ⟨fr 234 u (L91 (i : Int)), hF t x w q p k g g2 ga R S⟩) (o := .norm) (n := 234) (h := hF t x w q p k g g2 ga (R.set i [i6 (-5), r2, r3]) S) (by kernel_rfl)
   have hrun := runD_ok hr
    (apc (cv (decide_eq_true (by omega)) : vb (decide ((i : Int) < (t.kids.length : Int))) = vb true)
    (apc (idx_sl (by rw [ixN_nat, if_pos (by omega)]) : idxA 3 (.sl 8 (g + 1) 3 0 t.kids.length) (i6 (i : Int)) = some (.rp 8 (g + 1) 3 i 0))
    (apc (⟨st_rp1 (h := hF t x w q p k g g2 ga R S) (b := 8) (v := -5) rfl hx, rfl⟩ : stA (hF t x w q p k g g2 ga R S) 1 (.rp 8 (g + 1) 3 i 0) (i6 (-5)) = some (hF t x w q p k g g2 ga (R.set i [i6 (-5), r2, r3]) S) ∧ ud = ud) apn)))
   obtain ⟨v', hv'⟩ := keep91 (u := g') (i := w6 ((i : Int) + 1))
   obtain ⟨u', R', hg⟩ := lp91 (mm := mm) (S := S) hl m (i + 1) v' (R.set i [i6 (-5), r2, r3]) (by omega) (by rw [List.length_set]; exact hR) (fun r hr => by
    rcases List.mem_or_eq_of_mem_set hr with hr | rfl
    ·exact h3 r hr
    ·rfl)
   refine ⟨u', R', ?_⟩
   rw [ev_round rfl hrun, hv', show w6 ((i : Int) + 1) = ((i + 1 : Nat) : Int) from w_S (by omega)]
   exact hg
set_option maxRecDepth 100000 in
theorem lp92 {mm : Nat} {R : List (List AV)} (hl : x.kids.length ≤ 100000) : ∀ (m i : Nat) (u : Nat → AV) (S : List (List AV)), i + m = x.kids.length → S.length = x.kids.length + 1 → (∀ r ∈ S, r.length = 3) →
  ∃ u' S', evH (prgY E) mm lv92 ir9V_l0 ⟨fr 234 u (L92 (i : Int)), hF t x w q p k g g2 ga R S⟩ = some (.brk 4, ⟨fr 234 u' L93e, hF t x w q p k g g2 ga R S'⟩)
 | 0, i, u, S, hi, hR, h3 => by
  obtain ⟨u', hu⟩ := xbrk (p := prgY E) (m := mm) (live := lv92) (b := ir9V_l0) (s := ⟨fr 234 u (L92 (i : Int)), hF t x w q p k g g2 ga R S⟩) (L := L93e) (id := 4) (N := 234) (h := hF t x w q p k g g2 ga R S) [(215, .d false)]
   (apc (cv (decide_eq_false (by omega)) : vb (decide ((i : Int) < (x.kids.length : Int))) = vb false) apn) (by kernel_rfl)
  exact ⟨u', S, hu⟩
 | m + 1, i, u, S, hi, hR, h3 => by
  have hx : S[i]? = some S[i] := geg (by omega)
  have hm : S[i] ∈ S := List.getElem_mem _
  generalize S[i] = r at hx hm
  have h3r := h3 r hm
  match r, h3r, hx with
  | [r1, r2, r3], _, hx =>
   obtain ⟨g', hr⟩ := exitL_of (L := L92 (w6 ((i : Int) + 1))) (r := runD (prgY E) 30 [(215, .d true), (221, .v (.rp 12 (g2 + 1) 3 i 0)), (1222, .r ud (hF t x w q p k g g2 ga R (S.set i [i6 (-5), r2, r3])))] ir9V_l0 ⟨fr 234 u (L92 (i : Int)), hF t x w q p k g g2 ga R S⟩) (o := .norm) (n := 234) (h := hF t x w q p k g g2 ga R (S.set i [i6 (-5), r2, r3])) (by kernel_rfl)
   have hrun := runD_ok hr
    (apc (cv (decide_eq_true (by omega)) : vb (decide ((i : Int) < (x.kids.length : Int))) = vb true)
    (apc (idx_sl (by rw [ixN_nat, if_pos (by omega)]) : idxA 3 (.sl 12 (g2 + 1) 3 0 x.kids.length) (i6 (i : Int)) = some (.rp 12 (g2 + 1) 3 i 0))
    (apc (⟨st_rp1 (h := hF t x w q p k g g2 ga R S) (b := 12) (v := -5) rfl hx, rfl⟩ : stA (hF t x w q p k g g2 ga R S) 1 (.rp 12 (g2 + 1) 3 i 0) (i6 (-5)) = some (hF t x w q p k g g2 ga R (S.set i [i6 (-5), r2, r3])) ∧ ud = ud) apn)))
   obtain ⟨v', hv'⟩ := keep92 (u := g') (i := w6 ((i : Int) + 1))
   obtain ⟨u', S', hg⟩ := lp92 (mm := mm) (R := R) hl m (i + 1) v' (S.set i [i6 (-5), r2, r3]) (by omega) (by rw [List.length_set]; exact hR) (fun r hr => by
    rcases List.mem_or_eq_of_mem_set hr with hr | rfl
    ·exact h3 r hr
    ·rfl)
   refine ⟨u', S', ?_⟩
   rw [ev_round rfl hrun, hv', show w6 ((i : Int) + 1) = ((i + 1 : Nat) : Int) from w_S (by omega)]
   exact hg
end
def sq : List IC → IC → IC
 | [], r => r
 | a :: l, r => .seq a (sq l r)
theorem run_sq {E : Env} {L : Ev} : ∀ (l : List IC) {r : IC} {s s1 : St}, run E L (sq l .skip) s = some (.norm, s1) → run E L (sq l r) s = run E L r s1
 | [], r, s, s1, h => by
  have h : some (Out.norm, s) = some (Out.norm, s1) := h
  simp only [Option.some.injEq, Prod.mk.injEq, true_and] at h
  rw [h]
  rfl
 | a :: l, r, s, s1, h => by
  simp only [sq, run_seq] at h ⊢
  match hx : run E L a s, h with
  | some (.norm, s2), h =>
   rw [seqK_norm] at h ⊢
   exact run_sq l h
  | some (.brk i, s2), h => rw [seqK_brk] at h; cases h
  | some (.ret, s2), h => rw [seqK_ret] at h; cases h
  | none, h => rw [seqK_none] at h; cases h
def nxN : Nat → IC → IC
 | 0, c => c
 | n + 1, c => nxN n (nxI c)
def l9 : List IC := [hdI (nxN 0 ir9V.code), hdI (nxN 1 ir9V.code), hdI (nxN 2 ir9V.code), hdI (nxN 3 ir9V.code), hdI (nxN 4 ir9V.code), hdI (nxN 5 ir9V.code), hdI (nxN 6 ir9V.code), hdI (nxN 7 ir9V.code), hdI (nxN 8 ir9V.code), hdI (nxN 9 ir9V.code), hdI (nxN 10 ir9V.code), hdI (nxN 11 ir9V.code)]
def p9M : IC := hdI (hdI (nxN 12 ir9V.code))
def p9N : IC := hdI (hdI (nxN 13 ir9V.code))
def p9O : IC := hdI (hdI (nxN 14 ir9V.code))
def p9P : IC := nxN 15 ir9V.code
theorem c9 : ir9V.code = sq l9 (.seq (.seq p9M (.block 0 (.loop lv90 ir9V_l2))) (.seq (.seq p9N (.block 2 (.loop lv91 ir9V_l1))) (.seq (.seq p9O (.block 4 (.loop lv92 ir9V_l0))) p9P))) := by kernel_rfl
abbrev LM9 (l : List Int) : List (Nat × AV) := [(7, .ptr 4 0), (8, .ptr 5 0), (10, .ptr 16 0), (15, .ptr 17 0), (17, ls 1 eI64 l), (19, .ptr 18 0), (23, .ptr 19 0), (25, ls 1 eI64 l)]
section
variable {E : Er} {t x w q : TreeD} {p l : List Int} {k a b e e2 e3 : Int} {g g2 ga : Nat}
abbrev args9 (t x : TreeD) (p : List Int) (k : Int) : List AV := [.agg ((cT t).map .p), .agg ((cT x).map .p), .agg [ls 1 eI64 p, i6 k]]
abbrev hE (t x w q : TreeD) (p : List Int) (k : Int) (g g2 ga n : Nat) : List AB := h16 t x p k g g2 ga (cpR t) (cpR x) ++ ([.cells 25 ((cT w).map .p), .cells 25 ((cT q).map .p), .cells 25 ((cT w).map .p), .cells 25 ((cT q).map .p)] : List AB).take n
abbrev hP1 (t x : TreeD) (p : List Int) (k : Int) (g g2 ga : Nat) : List AB := h14 t x p k g g2 (cpR t) (cpR x) ++ [.row 3 1 ga (ra eI64 p), .hole]
abbrev hP2 (t x : TreeD) (p : List Int) (k : Int) (g g2 ga : Nat) : List AB := h14 t x p k g g2 (cpR t) (cpR x) ++ [.row 3 1 ga (ra eI64 p), .row 3 1 0 [[i6 77]]]
abbrev hP0 (t x : TreeD) (p : List Int) (k : Int) (g g2 : Nat) : List AB := h14 t x p k g g2 (cpR t) (cpR x) ++ [.row 3 1 0 [], .hole]
set_option maxRecDepth 100000 in
theorem run9A (hsm : PR1 (prg E) 16 [.p (.lst 3 [cT t, cT x])] (vb true)) (hp : p.length ≤ 2000)
  (c1 : CB (prg E) ir17V [.agg ((cT t).map .p)] [] = some (.agg (cpC t g), cpH t g)) (c2 : CB (prg E) ir17V [.agg ((cT x).map .p)] [] = some (.agg (cpC x g2), cpH x g2))
  (app : appA (hP0 t x p k g g2) 3 1 8 (.sl 14 0 1 0 0) (ls 1 eI64 p) = some (.sl 14 ga 1 0 p.length, hP1 t x p k g g2 ga))
  (a31 : PR2 (prgP E) 31 [.agg ((cT t).map .p), ls 1 eI64 p] (.tup [.agg ((cT w).map .p), i6 e]))
  (a32 : PR1 (prg E) 32 [.agg ((cT t).map .p), ls 1 eI64 p] (.tup [i6 a, i6 b, i6 e]))
  (a33 : PR2 (prgP E) 33 [.agg ((cT t).map .p), .agg ((cT x).map .p), ls 1 eI64 p] (.tup [.agg ((cT q).map .p), i6 e2]))
  (a34 : PR2 (prg E) 34 [.agg ((cT t).map .p), i6 k] (.tup [ls 1 eI64 l, i6 e3]))
  (a35 : PR1 (prg E) 35 [.agg ((cT t).map .p), ls 1 eI64 p] (.tup [.agg ((cT w).map .p), i6 a, i6 b, i6 e]))
  (a36 : PR1 (prg E) 36 [.agg ((cT t).map .p), .agg ((cT x).map .p), ls 1 eI64 p] (.tup [.agg ((cT q).map .p), i6 e2]))
  (a37 : PR1 (prg E) 37 [.agg ((cT t).map .p), i6 k] (.tup [ls 1 eI64 l, i6 e3]))
  (k1 : PR1 (prg E) 22 [.agg ((cX t).map .p), .agg ((cT t).map .p)] (vb true)) (k2 : PR1 (prg E) 22 [.agg ((cX x).map .p), .agg ((cT x).map .p)] (vb true))
  (s1 : PR1 (prg E) 14 [.agg ((cT w).map .p), .agg ((cT w).map .p)] (vb true)) (s2 : PR1 (prg E) 14 [.agg ((cT q).map .p), .agg ((cT q).map .p)] (vb true))
  (n1 : PR1 (prg E) 15 [i6 e] (i6 e)) (n2 : PR1 (prg E) 15 [i6 e2] (i6 e2)) (n3 : PR1 (prg E) 15 [i6 e3] (i6 e3)) :
  ∃ u, run (envOf (prgY E) (ev (prgY E))) (ev (prgY E)) (sq l9 .skip) ⟨args9 t x p k ++ List.replicate (ir9V.ntmps - 3) ud, []⟩ = some (.norm, ⟨fr 234 u (LM9 l), hF t x w q p k g g2 ga (cpR t) (cpR x)⟩) := by
 obtain ⟨u, hr⟩ := exitL_of (L := LM9 l) (r := runD (prgY E) 30 [(33, .v (vb true)), (38, .v (i6 (p.length : Int))), (39, .d false),
  (43, .r (.agg (mC t g 8)) (nC t g 8 (cpR t))), (45, .r (.agg (mC x g2 12)) (nC x g2 12 (cpR x))),
  (49, .r (.sl 14 ga 1 0 p.length) (hP1 t x p k g g2 ga)), (51, .r (.sl 14 (ga + 1) 1 0 (p.length + 1)) (hE t x w q p k g g2 ga 0)), (54, .v (i6 (p.length : Int))), (55, .v (.sl 14 (ga + 1) 1 0 p.length)),
  (59, .v (.tup [.agg ((cT w).map .p), i6 e])), (65, .v (.tup [i6 a, i6 b, i6 e])), (73, .v (.tup [.agg ((cT q).map .p), i6 e2])), (80, .v (.tup [ls 1 eI64 l, i6 e3])),
  (87, .v (.tup [.agg ((cT w).map .p), i6 a, i6 b, i6 e])), (97, .v (.tup [.agg ((cT q).map .p), i6 e2])), (104, .v (.tup [ls 1 eI64 l, i6 e3])),
  (109, .r (vb true) (hE t x w q p k g g2 ga 4)), (114, .r (vb true) (hE t x w q p k g g2 ga 4)), (121, .v (i6 (p.length : Int))), (123, .v (.sl 14 (ga + 1) 1 0 (p.length + 1))), (126, .v (i6 (p.length : Int))), (127, .v (.rp 14 (ga + 1) 1 p.length 0)), (128, .v (i6 77)),
  (134, .v (vb true)), (139, .v (i6 e)), (141, .d false), (146, .d false), (151, .d false), (155, .v (i6 e)), (157, .d false), (162, .v (vb true)), (167, .v (i6 e2)), (169, .d false), (173, .v (i6 e3)), (175, .d false), (179, .v (i6 (l.length : Int))), (181, .v (i6 (l.length : Int))), (182, .d false)]
  (sq l9 .skip) ⟨args9 t x p k ++ List.replicate (ir9V.ntmps - 3) ud, []⟩) (o := .norm) (n := 234) (h := hF t x w q p k g g2 ga (cpR t) (cpR x)) (by kernel_rfl)
 refine ⟨u, runD_ok hr ?_⟩
 have ne : ∀ z : Int, vb (z != z) = vb false := fun z => cv (by simp)
 have y16 : CP (prgY E) 16 [.sl 3 0 3 0 2] (h4 t x p k) = some (vb true) := (lowY hsm rfl (fun _ => rfl)).own rfl (purAs_cons (purA_rows (R := [cT t, cT x]) rfl (Nat.le_refl _)) purAs_nil) rfl
 have b8 : ∀ n, (hE t x w q p k g g2 ga n)[8]? = some (.row 25 3 (g + 1) (cpR t)) := fun _ => rfl
 have b12 : ∀ n, (hE t x w q p k g g2 ga n)[12]? = some (.row 25 3 (g2 + 1) (cpR x)) := fun _ => rfl
 have b14 : ∀ n, (hE t x w q p k g g2 ga n)[14]? = some (.row 3 1 (ga + 1) (ra eI64 (p ++ [77]))) := fun _ => rfl
 have e77 : ra eI64 (p ++ [77]) = ra eI64 p ++ [[i6 77]] := by
  show (p ++ [77]).map (fun x => (eI64 x).map AV.p) = _
  rw [List.map_append]
  rfl
 have q51 : appA (hP2 t x p k g g2 ga) 3 1 8 (.sl 14 ga 1 0 p.length) (.sl 15 0 1 0 1) = some (.sl 14 (ga + 1) 1 0 (p.length + 1), hE t x w q p k g g2 ga 0) := app_77 (b := 14) (b2 := 15) rfl rfl hp
 have q55 : slA (hE t x w q p k g g2 ga 0) 1 (.sl 14 (ga + 1) 1 0 (p.length + 1)) (some 0) (some (p.length : Int)) = some (.sl 14 (ga + 1) 1 0 p.length) := sl_sent (e := eI64) (xs := p) (cs := [i6 77]) (by rw [← e77]; exact b14 _) (decide_eq_true ⟨by omega, by omega, by omega⟩)
 have q123 : slA (hE t x w q p k g g2 ga 4) 1 (.sl 14 (ga + 1) 1 0 p.length) (some 0) (some (w6 ((p.length : Int) + 1))) = some (.sl 14 (ga + 1) 1 0 (p.length + 1)) := by
  rw [show w6 ((p.length : Int) + 1) = ((p.length + 1 : Nat) : Int) from w_S (by omega)]
  exact sl_sent (e := eI64) (xs := p) (cs := [i6 77]) (by rw [← e77]; exact b14 _) (decide_eq_true ⟨by omega, by omega, by omega⟩)
 have q127 : idxA 1 (.sl 14 (ga + 1) 1 0 (p.length + 1)) (i6 (p.length : Int)) = some (.rp 14 (ga + 1) 1 p.length 0) := idx_sl (by rw [ixN_nat, if_pos (by omega)])
 have q128 : ldA (hE t x w q p k g g2 ga 4) false 1 (.rp 14 (ga + 1) 1 p.length 0) = some (i6 77) := by
  have h7 : (ra eI64 (p ++ [77]))[p.length]? = some [i6 77] := by
   rw [show ra eI64 (p ++ [77]) = (p ++ [77]).map (fun x => (eI64 x).map .p) from rfl, List.getElem?_map, List.getElem?_append_right (Nat.le_refl _), Nat.sub_self]
   rfl
  simp only [ldA, loadA, b14, h7]
  rfl
 exact apc y16 (apc (lg p eI64 1) (apc (cv (decide_eq_false (by omega)) : vb (decide ((p.length : Int) > 2000)) = vb false)
  (apc (z17 (r := 4) (h := h4 t x p k ++ [.hole, .hole]) (m := 6) c1 rfl) (apc (z17 (r := 4) (h := (h4 t x p k ++ [.hole, .hole]) ++ nC t g 8 (cpR t)) (m := 10) c2 rfl)
  (apc app (apc q51 (apc (lg p eI64 1) (apc q55
  (apc (y31 a31 (b8 0) (b14 0)) (apc (y32 a32 (b8 1) (b14 1)) (apc (y33 a33 (b8 1) (b12 1) (b14 1)) (apc (y34 a34 (b8 2))
  (apc ((lowY a35 rfl (fun _ => rfl)).cp rfl (hE t x w q p k g g2 ga 2)) (apc ((lowY a36 rfl (fun _ => rfl)).cp rfl (hE t x w q p k g g2 ga 3)) (apc ((lowY a37 rfl (fun _ => rfl)).cp rfl (hE t x w q p k g g2 ga 4))
  (apc (y22 k1 (b8 4)) (apc (y22 k2 (b12 4)) (apc (lg p eI64 1) (apc q123 (apc (lg p eI64 1) (apc q127 (apc q128
  (apc ((lowY s1 rfl (fun _ => rfl)).cp rfl (hE t x w q p k g g2 ga 4)) (apc ((lowY n1 rfl (fun _ => rfl)).cp rfl (hE t x w q p k g g2 ga 4)) (apc (ne e) (apc (ne a) (apc (ne b) (apc ((lowY n1 rfl (fun _ => rfl)).cp rfl (hE t x w q p k g g2 ga 4)) (apc (ne e)
  (apc ((lowY s2 rfl (fun _ => rfl)).cp rfl (hE t x w q p k g g2 ga 4)) (apc ((lowY n2 rfl (fun _ => rfl)).cp rfl (hE t x w q p k g g2 ga 4)) (apc (ne e2) (apc ((lowY n3 rfl (fun _ => rfl)).cp rfl (hE t x w q p k g g2 ga 4)) (apc (ne e3) (apc (lg l eI64 1) (apc (lg l eI64 1) (apc (ne (l.length : Int)) apn)))))))))))))))))))))))))))))))))))))
end
section
variable {E : Er} {t x w q : TreeD} {p l : List Int} {k a b e e2 e3 : Int} {g g2 ga : Nat}
set_option maxRecDepth 100000 in
theorem run9M {u : Nat → AV} {H : List AB} : ∃ u', run (envOf (prgY E) (ev (prgY E))) (ev (prgY E)) p9M ⟨fr 234 u (LM9 l), H⟩ = some (.norm, ⟨fr 234 u' (L90 l 0), H⟩) := by
 obtain ⟨u', hr⟩ := exitL_of (L := L90 l 0) (r := runD (prgY E) 5 [] p9M ⟨fr 234 u (LM9 l), H⟩) (o := .norm) (n := 234) (h := H) (by kernel_rfl)
 exact ⟨u', runD_ok hr apn⟩
set_option maxRecDepth 100000 in
theorem run9N {u : Nat → AV} {H : List AB} : ∃ u', run (envOf (prgY E) (ev (prgY E))) (ev (prgY E)) p9N ⟨fr 234 u L91e, H⟩ = some (.norm, ⟨fr 234 u' (L91 0), H⟩) := by
 obtain ⟨u', hr⟩ := exitL_of (L := L91 0) (r := runD (prgY E) 5 [] p9N ⟨fr 234 u L91e, H⟩) (o := .norm) (n := 234) (h := H) (by kernel_rfl)
 exact ⟨u', runD_ok hr apn⟩
set_option maxRecDepth 100000 in
theorem run9O {u : Nat → AV} {H : List AB} : ∃ u', run (envOf (prgY E) (ev (prgY E))) (ev (prgY E)) p9O ⟨fr 234 u L92e, H⟩ = some (.norm, ⟨fr 234 u' (L92 0), H⟩) := by
 obtain ⟨u', hr⟩ := exitL_of (L := L92 0) (r := runD (prgY E) 5 [] p9O ⟨fr 234 u L92e, H⟩) (o := .norm) (n := 234) (h := H) (by kernel_rfl)
 exact ⟨u', runD_ok hr apn⟩
set_option maxRecDepth 100000 in
theorem run9P {u : Nat → AV} {R S : List (List AV)} (s1 : PR1 (prg E) 14 [.agg ((cT w).map .p), .agg ((cT w).map .p)] (vb true)) (s2 : PR1 (prg E) 14 [.agg ((cT q).map .p), .agg ((cT q).map .p)] (vb true)) (hw : PR1 (prg E) 11 [] (vb true)) :
  ∃ u', run (envOf (prgY E) (ev (prgY E))) (ev (prgY E)) p9P ⟨fr 234 u L93e, hF t x w q p k g g2 ga R S⟩ = some (.ret, ⟨fr 234 u' [(6, vb true)], hF t x w q p k g g2 ga R S⟩) := by
 obtain ⟨u', hr⟩ := exitL_of (L := [(6, vb true)]) (r := runD (prgY E) 5 [(225, .v (vb true)), (229, .v (vb true)), (232, .v (vb true))] p9P ⟨fr 234 u L93e, hF t x w q p k g g2 ga R S⟩) (o := .ret) (n := 234) (h := hF t x w q p k g g2 ga R S) (by kernel_rfl)
 exact ⟨u', runD_ok hr (apc ((lowY s2 rfl (fun _ => rfl)).cp rfl (hF t x w q p k g g2 ga R S)) (apc ((lowY s1 rfl (fun _ => rfl)).cp rfl (hF t x w q p k g g2 ga R S)) (apc ((lowY hw rfl (fun _ => rfl)).cp rfl (hF t x w q p k g g2 ga R S)) apn)))⟩
theorem cpR_len (t : TreeD) : (cpR t).length = t.kids.length + 1 ∧ ∀ r ∈ cpR t, r.length = 3 := by
 rw [cpR_eq]
 refine ⟨by simp, fun r hr => ?_⟩
 simp only [List.mem_map, List.mem_append, List.mem_singleton] at hr
 obtain ⟨y, hy, rfl⟩ := hr
 rcases hy with ⟨z, _, rfl⟩ | rfl <;> rfl
theorem run9 (hsm : PR1 (prg E) 16 [.p (.lst 3 [cT t, cT x])] (vb true)) (hp : p.length ≤ 2000)
  (c1 : CB (prg E) ir17V [.agg ((cT t).map .p)] [] = some (.agg (cpC t g), cpH t g)) (c2 : CB (prg E) ir17V [.agg ((cT x).map .p)] [] = some (.agg (cpC x g2), cpH x g2))
  (a31 : PR2 (prgP E) 31 [.agg ((cT t).map .p), ls 1 eI64 p] (.tup [.agg ((cT w).map .p), i6 e]))
  (a32 : PR1 (prg E) 32 [.agg ((cT t).map .p), ls 1 eI64 p] (.tup [i6 a, i6 b, i6 e]))
  (a33 : PR2 (prgP E) 33 [.agg ((cT t).map .p), .agg ((cT x).map .p), ls 1 eI64 p] (.tup [.agg ((cT q).map .p), i6 e2]))
  (a34 : PR2 (prg E) 34 [.agg ((cT t).map .p), i6 k] (.tup [ls 1 eI64 l, i6 e3]))
  (a35 : PR1 (prg E) 35 [.agg ((cT t).map .p), ls 1 eI64 p] (.tup [.agg ((cT w).map .p), i6 a, i6 b, i6 e]))
  (a36 : PR1 (prg E) 36 [.agg ((cT t).map .p), .agg ((cT x).map .p), ls 1 eI64 p] (.tup [.agg ((cT q).map .p), i6 e2]))
  (a37 : PR1 (prg E) 37 [.agg ((cT t).map .p), i6 k] (.tup [ls 1 eI64 l, i6 e3]))
  (k1 : PR1 (prg E) 22 [.agg ((cX t).map .p), .agg ((cT t).map .p)] (vb true)) (k2 : PR1 (prg E) 22 [.agg ((cX x).map .p), .agg ((cT x).map .p)] (vb true))
  (s1 : PR1 (prg E) 14 [.agg ((cT w).map .p), .agg ((cT w).map .p)] (vb true)) (s2 : PR1 (prg E) 14 [.agg ((cT q).map .p), .agg ((cT q).map .p)] (vb true))
  (n1 : PR1 (prg E) 15 [i6 e] (i6 e)) (n2 : PR1 (prg E) 15 [i6 e2] (i6 e2)) (n3 : PR1 (prg E) 15 [i6 e3] (i6 e3)) (hw : PR1 (prg E) 11 [] (vb true))
  (hl : l.length ≤ 100000) (ht : t.kids.length ≤ 100000) (hx : x.kids.length ≤ 100000) : PR1 (prgY E) 9 (args9 t x p k) (vb true) := by
 obtain ⟨ga, app⟩ := app_path (h := hP0 t x p k g g2) (b := 14) (p := p) rfl hp
 obtain ⟨u1, r1⟩ := run9A (ga := ga) hsm hp c1 c2 app a31 a32 a33 a34 a35 a36 a37 k1 k2 s1 s2 n1 n2 n3
 obtain ⟨u2, r2⟩ := run9M (E := E) (l := l) (u := u1) (H := hF t x w q p k g g2 ga (cpR t) (cpR x))
 obtain ⟨v2, k2'⟩ := keep90 (u := u2) (l := l) (i := 0)
 obtain ⟨u3, l3⟩ := lp90 (E := E) (mm := (hF t x w q p k g g2 ga (cpR t) (cpR x)).length) (H := hF t x w q p k g g2 ga (cpR t) (cpR x)) hl l.length 0 v2 (by omega)
 have r3 : run (envOf (prgY E) (ev (prgY E))) (ev (prgY E)) (.block 0 (.loop lv90 ir9V_l2)) ⟨fr 234 u2 (L90 l 0), hF t x w q p k g g2 ga (cpR t) (cpR x)⟩ = some (.norm, ⟨fr 234 u3 L91e, hF t x w q p k g g2 ga (cpR t) (cpR x)⟩) := by
  rw [run_block, run_loop]
  show blockK 0 (evH (prgY E) _ lv90 ir9V_l2 (trim _ lv90 _)) = _
  rw [trim_noT rfl, k2']
  exact (congrArg (blockK 0) l3).trans rfl
 obtain ⟨u4, r4⟩ := run9N (E := E) (u := u3) (H := hF t x w q p k g g2 ga (cpR t) (cpR x))
 obtain ⟨v4, k4⟩ := keep91 (u := u4) (i := 0)
 obtain ⟨u5, R', l5⟩ := lp91 (E := E) (t := t) (x := x) (w := w) (q := q) (p := p) (k := k) (g := g) (g2 := g2) (ga := ga) (mm := (hF t x w q p k g g2 ga (cpR t) (cpR x)).length) (S := cpR x) ht t.kids.length 0 v4 (cpR t) (by omega) (cpR_len t).1 (cpR_len t).2
 have r5 : run (envOf (prgY E) (ev (prgY E))) (ev (prgY E)) (.block 2 (.loop lv91 ir9V_l1)) ⟨fr 234 u4 (L91 0), hF t x w q p k g g2 ga (cpR t) (cpR x)⟩ = some (.norm, ⟨fr 234 u5 L92e, hF t x w q p k g g2 ga R' (cpR x)⟩) := by
  rw [run_block, run_loop]
  show blockK 2 (evH (prgY E) _ lv91 ir9V_l1 (trim _ lv91 _)) = _
  rw [trim_noT rfl, k4]
  exact (congrArg (blockK 2) l5).trans rfl
 obtain ⟨u6, r6⟩ := run9O (E := E) (u := u5) (H := hF t x w q p k g g2 ga R' (cpR x))
 obtain ⟨v6, k6⟩ := keep92 (u := u6) (i := 0)
 obtain ⟨u7, S', l7⟩ := lp92 (E := E) (t := t) (x := x) (w := w) (q := q) (p := p) (k := k) (g := g) (g2 := g2) (ga := ga) (mm := (hF t x w q p k g g2 ga R' (cpR x)).length) (R := R') hx x.kids.length 0 v6 (cpR x) (by omega) (cpR_len x).1 (cpR_len x).2
 have r7 : run (envOf (prgY E) (ev (prgY E))) (ev (prgY E)) (.block 4 (.loop lv92 ir9V_l0)) ⟨fr 234 u6 (L92 0), hF t x w q p k g g2 ga R' (cpR x)⟩ = some (.norm, ⟨fr 234 u7 L93e, hF t x w q p k g g2 ga R' S'⟩) := by
  rw [run_block, run_loop]
  show blockK 4 (evH (prgY E) _ lv92 ir9V_l0 (trim _ lv92 _)) = _
  rw [trim_noT rfl, k6]
  exact (congrArg (blockK 4) l7).trans rfl
 obtain ⟨u8, r8⟩ := run9P (E := E) (t := t) (x := x) (p := p) (k := k) (g := g) (g2 := g2) (ga := ga) (u := u7) (R := R') (S := S') s1 s2 hw
 refine ⟨vb true, hF t x w q p k g g2 ga R' S', ?_, rfl⟩
 rw [CS_in (F := ir9V) rfl rfl, CB_in, c9]
 have e3 : (args9 t x p k).length = 3 := rfl
 rw [e3, run_sq l9 r1]
 simp only [run_seq, r2, seqK_norm, r3, r4, r5, r6, r7, r8, after_ret]
 rfl
set_option maxRecDepth 100000 in
theorem run9W (hsm : PR1 (prg E) 16 [.p (.lst 3 [cT t, cT x])] (vb false)) (hw : PR1 (prg E) 11 [] (vb true)) : PR1 (prgY E) 9 (args9 t x p k) (vb true) :=
 fpr [(33, .v (vb false)), (41, .v (vb true))] (apc ((lowY hsm rfl (fun _ => rfl)).own rfl (purAs_cons (purA_rows (R := [cT t, cT x]) rfl (Nat.le_refl _)) purAs_nil) rfl : CP (prgY E) 16 [.sl 3 0 3 0 2] (h4 t x p k) = some (vb false)) (apc ((lowY hw rfl (fun _ => rfl)).cp rfl (h4 t x p k)) apn)) rfl (by kernel_rfl)
set_option maxRecDepth 100000 in
theorem run9X (hsm : PR1 (prg E) 16 [.p (.lst 3 [cT t, cT x])] (vb true)) (hp : 2000 < p.length) (hw : PR1 (prg E) 11 [] (vb true)) : PR1 (prgY E) 9 (args9 t x p k) (vb true) :=
 fpr [(33, .v (vb true)), (38, .v (i6 (p.length : Int))), (39, .d true), (41, .v (vb true))] (apc ((lowY hsm rfl (fun _ => rfl)).own rfl (purAs_cons (purA_rows (R := [cT t, cT x]) rfl (Nat.le_refl _)) purAs_nil) rfl : CP (prgY E) 16 [.sl 3 0 3 0 2] (h4 t x p k) = some (vb true))
  (apc (lg p eI64 1) (apc (cv (decide_eq_true (by omega)) : vb (decide ((p.length : Int) > 2000)) = vb true) (apc ((lowY hw rfl (fun _ => rfl)).cp rfl (h4 t x p k)) apn)))) rfl (by kernel_rfl)
end
end Go.Proofs.Tryd
