/- Library functions of plain values, by the kit's contracts: strconv.Itoa, strconv.ParseInt. -/
import Derived.Test.YtcdebkkjbminoaaDoorVE
import Derived.Shelf.Strconv.Itoa3
import Derived.Shelf.Strconv.ErrVarParseInt
import Derived.RecoverIn
open Option renaming some.injEq → oiq
open Prod renaming mk.injEq → piq
open List renaming getElem?_eq_some_iff → gei, getElem?_append_left → gal, length_cons → lcn
namespace Go.Vs
set_option linter.unusedSimpArgs false
set_option linter.unusedVariables false
open Go Go.Proofs Go.RowKit Go.Shelf Go.Sort
theorem good_n {P : Program} (h : nd P = true) : ¬ dOk (Good P) := fun q => q.2 ⟨h, rfl⟩
theorem callR_pureD {P : Program} {C : IC → Code → Prop} {gl : Nat → Option (List PV)} {fn : Nat} {args : List AV} {v : AV} (h1 : ∃ fd : Func, P.funcs[fn]? = some fd ∧ fd.body.isNone = false ∧ (fd.name == "runtime.NumGoroutine") = false)
  (h2 : ∀ (g : G) (w : World) (vals : List Value), g.cr = C → GR g w gl → VRs g w args vals → Calls P fn vals.toArray w fun e w' => ∃ x, e = .returned x ∧ Below w.heap.size w w' ∧ (dOk C → w.drawn ≤ w'.drawn) ∧ ∀ g' w'', VR g' w'' v x) : CallR P C gl fn args [] v [] := by
 refine ⟨h1, fun g w vals hcr hgr hr hv => (h2 g w vals hcr hgr hv).mono fun e w' ⟨x, he, hb, hd, hx⟩ => ⟨x, g, he, ?_, ?_, hx g w'⟩⟩
 ·exact ⟨fun _ h => h, fun _ h => h, fun c hc => hb.block c (hr.prs c hc), Nat.le_refl _, fun _ h => h, fun _ _ => rfl, fun _ _ => Nat.le_refl _, fun _ _ _ _ => rfl, hb.size, hb.os, hb.tape, hb.output, fun _ h => .inl h, rfl, fun q => hd (by rw [← hcr]; exact q)⟩
 ·exact ⟨hr.n, fun b x h => by simp at h, fun b b' x x' c h => by simp at h, fun b x c h => by simp at h, hr.spr, fun c hc => Nat.lt_of_lt_of_le (hr.prs c hc) hb.size, hr.ho⟩
theorem cells_ints {S : Nat → Prop} {w : World} {b : Nat} {k : IntKind} : ∀ (zs : List Int) (off : Nat), PRs S w b off (zs.map fun z => .val (.int k z)) → ∀ i z, zs[i]? = some z → w.cell? ⟨b, off + i, none⟩ = some (.int k z)
 | [], _, _, i, z, h => by simp at h
 | x :: zs, off, hp, i, z, h => by
  simp only [List.map_cons, PRs, PR] at hp
  obtain ⟨⟨u, h1, _, rfl⟩, h3⟩ := hp
  cases i with
  | zero =>
   simp only [List.getElem?_cons_zero, oiq] at h
   subst h
   exact h1
  | succ i =>
   have := cells_ints zs (off + 1) h3 i z (by simpa using h)
   rwa [show off + (i + 1) = off + 1 + i from by omega]
theorem tab_of {S : Nat → Prop} {P : Program} {w : World} {n : Nat} {name : String} {k : IntKind} {zs : List Int} (hn : P.globalNamed name = some n) (h1 : PRs S w n 0 (zs.map fun z => .val (.int k z))) (h2 : GB w n (zs.map fun z => PV.val (.int k z)).length) : Lib.TabIs P w name k zs := by
 obtain ⟨cs, t, fz, q, r⟩ := h2
 simp only [List.length_map] at r
 have e : cs = (zs.map fun z => Value.int k z).toArray := by
  apply Array.ext'
  apply List.ext_getElem?
  intro i
  rw [List.getElem?_map]
  by_cases hi : i < zs.length
  ·obtain ⟨z, hz⟩ : ∃ z, zs[i]? = some z := ⟨_, List.getElem?_eq_getElem hi⟩
   have := cells_ints zs 0 h1 i z hz
   simp only [World.cell?, q, Nat.zero_add] at this
   rw [hz, Array.getElem?_toList]
   simpa using this
  ·rw [List.getElem?_eq_none (by simpa using by omega), List.getElem?_eq_none (by omega)]
   rfl
 unfold Lib.TabIs World.var?
 rw [hn, Option.bind_some, q, e]
theorem below_grow {w : World} (k : Nat) (os : Array Obj) : Below w.heap.size w (grow (w.drewN k) os) :=
 ⟨rfl, rfl, rfl, by simp [grow, World.drewN], fun i hi => by show (w.heap ++ os)[i]? = _; rw [Array.getElem?_append_left hi]⟩
def dd : Nat → Nat → List UInt8
 | 0, _ => []
 | k + 1, u => match Nat.blt u 10 with
  | true => [UInt8.ofNat (48 + u)]
  | false => dd k (u / 10) ++ [UInt8.ofNat (48 + u % 10)]
theorem dd_eq : ∀ (k u : Nat), u < 10 ^ k → 0 < k → dd k u = Lib.decDigits u
 | 0, _, _, h => by omega
 | k + 1, u, h, _ => by
  rw [Lib.decDigits, dd]
  by_cases c : u < 10
  ·rw [dif_pos c, show Nat.blt u 10 = true from by simpa [Nat.blt_eq] using c]
  ·rw [dif_neg c, show Nat.blt u 10 = false from by simpa [Bool.eq_false_iff, Nat.blt_eq] using c]
   simp only
   rw [dd_eq k (u / 10) (by rw [Nat.pow_succ] at h; omega) (by
    rcases Nat.eq_zero_or_pos k with rfl | hk
    ·simp at h; omega
    ·exact hk)]
def itoaL (n : Int) : List UInt8 := match n with
 | .ofNat u => dd 20 u
 | .negSucc u => 45 :: dd 20 (u + 1)
theorem itoaL_eq {n : Int} (h0 : -9223372036854775808 ≤ n) (h1 : n ≤ 9223372036854775807) : itoaL n = Lib.itoa n := by
 unfold itoaL Lib.itoa
 cases n with
 | ofNat u =>
  rw [if_neg (by simp)]
  exact dd_eq 20 u (by simp at h1; omega) (by omega)
 | negSucc u =>
  rw [if_pos (by exact Int.negSucc_lt_zero u)]
  exact congrArg (List.cons 45) (dd_eq 20 (u + 1) (by omega) (by omega))
abbrev itoaB (n : Int) : ByteArray := ⟨(itoaL n).toArray⟩
def itoaA (args : List AV) (h : List AB) : Option (AV × List AB) :=
 match args, h with
 | [.p (.val (.int .i64 n))], [] => match decide (-9223372036854775808 ≤ n ∧ n ≤ 9223372036854775807) with
  | true => some (vs (itoaB n), [])
  | false => none
 | _, _ => none
theorem itoa_sound {P : Program} {C : IC → Code → Prop} {gl : Nat → Option (List PV)} {ρ : Ren} (L : LaysM.n171 P ρ) (h1 : ∃ fd : Func, P.funcs[ρ.f 171]? = some fd ∧ fd.body.isNone = false ∧ (fd.name == "runtime.NumGoroutine") = false)
  {k : Nat} (hk : P.globalNamed "internal/strconv.uint64pow10" = some k) (hg : gl k = some (Lib.pow10Tab.map fun z => .val (.int .u64 z))) {args : List AV} {h h' : List AB} {v : AV} (he : itoaA args h = some (v, h')) : CallR P C gl (ρ.f 171) args h v h' := by
 unfold itoaA at he
 split at he
 ·rename_i n
  split at he
  ·rename_i hk2
   obtain ⟨k0, k1⟩ := of_decide_eq_true hk2
   simp only [oiq, piq] at he
   obtain ⟨rfl, rfl⟩ := he
   refine callR_pureD h1 (fun g w vals hcr hgr hv => ?_)
   match vals, hv with
   | [a], hv =>
    simp only [VRs] at hv
    have e1 := val_of hv.1 rfl
    subst e1
    obtain ⟨_, g2, g3⟩ := hgr k _ hg
    refine (Any.strconv_Itoa L n k0 k1 w (tab_of hk g2 g3)).mono ?_
    rintro e w' ⟨rfl, m, os, rfl⟩
    refine ⟨_, rfl, below_grow m os, fun _ => Nat.le_add_right w.drawn m, fun g' w'' => ?_⟩
    simp only [VR, PR]
    rw [itoaB, itoaL_eq k0 k1]
   | [], hv => simp [VRs] at hv
   | _ :: _ :: _, hv => simp [VRs] at hv
  ·cases he
 ·cases he
def parseA (er : Bool) (args : List AV) (h : List AB) : Option (AV × List AB) :=
 match args, h with
 | [.p (.val (.string s)), .p (.val (.int .i64 10)), .p (.val (.int .i64 32))], [] => match decide (s.size ≤ 281474976710656) with
  | true => match Lib.parseIntB 32 s.data.toList, er with
   | .ok n, _ => some (.tup [vi .i64 n, .p (.val .nilIface)], [])
   | Lib.NumEnd.syntax, true => some (.tup [vi .i64 0, .anye], [])
   | .range, true => some (.tup [vi .i64 (Lib.intSat 32 s.data.toList), .anye], [])
   | _, false => none
  | false => none
 | _, _ => none
theorem parse_sound {P : Program} {gl : Nat → Option (List PV)} {ρ : Ren} (L : LaysC.n174 P ρ) (h1 : ∃ fd : Func, P.funcs[ρ.f 174]? = some fd ∧ fd.body.isNone = false ∧ (fd.name == "runtime.NumGoroutine") = false) (hnd : nd P = true)
  {er : Bool} (hE : er = true → ∃ tp p tq q, gl (ρ.g 15) = some [.val (.iface tp p)] ∧ gl (ρ.g 16) = some [.val (.iface tq q)]) {args : List AV} {h h' : List AB} {v : AV} (he : parseA er args h = some (v, h')) : CallR P (Good P) gl (ρ.f 174) args h v h' := by
 unfold parseA at he
 split at he
 ·rename_i s
  split at he
  ·rename_i hs
   have hs := of_decide_eq_true hs
   split at he
   ·rename_i n hp
    simp only [oiq, piq] at he
    obtain ⟨rfl, rfl⟩ := he
    refine callR_pureD h1 (fun g w vals hcr hgr hv => ?_)
    match vals, hv with
    | [a, b, c], hv =>
     simp only [VRs] at hv
     have e1 := val_of hv.1 rfl
     have e2 := val_of hv.2.1 rfl
     have e3 := val_of hv.2.2.1 rfl
     subst e1; subst e2; subst e3
     refine (Any.strconv_ParseInt_10_at32_ok L s (by omega) n hp w).mono ?_
     rintro e w' ⟨rfl, hw⟩
     refine ⟨_, rfl, ?_, fun q => absurd q (good_n hnd), fun g' w'' => ?_⟩
     ·rcases hw with rfl | ⟨t, rfl⟩
      ·exact Below.refl _ _
      ·exact Lib.bytesWorld_below _ _ _
     ·simp only [VR]
      exact ⟨_, rfl, by simp [VRs, VR, PR]⟩
    | [], hv => simp [VRs] at hv
    | [_], hv => simp [VRs] at hv
    | [_, _], hv => simp [VRs] at hv
    | _ :: _ :: _ :: _ :: _, hv => simp [VRs] at hv
   ·rename_i hp
    simp only [oiq, piq] at he
    obtain ⟨rfl, rfl⟩ := he
    obtain ⟨tp, p, tq, q, hg1, hg2⟩ := hE rfl
    refine callR_pureD h1 (fun g w vals hcr hgr hv => ?_)
    match vals, hv with
    | [a, b, c], hv =>
     simp only [VRs] at hv
     have e1 := val_of hv.1 rfl
     have e2 := val_of hv.2.1 rfl
     have e3 := val_of hv.2.2.1 rfl
     subst e1; subst e2; subst e3
     obtain ⟨_, g2, _⟩ := hgr _ _ hg1
     simp only [PRs, PR, and_true] at g2
     obtain ⟨u, g2, _, rfl⟩ := g2
     refine (Any.strconv_ParseInt_10_at32_syntax L s hs hp _ w g2 (.inr ⟨_, _, rfl⟩)).mono ?_
     rintro e w' ⟨N, rfl, _, _, hb⟩
     refine ⟨_, rfl, hb, fun q => absurd q (good_n hnd), fun g' w'' => ?_⟩
     simp only [VR]
     exact ⟨_, rfl, by simp [VRs, VR, PR]⟩
    | [], hv => simp [VRs] at hv
    | [_], hv => simp [VRs] at hv
    | [_, _], hv => simp [VRs] at hv
    | _ :: _ :: _ :: _ :: _, hv => simp [VRs] at hv
   ·rename_i hp
    simp only [oiq, piq] at he
    obtain ⟨rfl, rfl⟩ := he
    obtain ⟨tp, p, tq, q, hg1, hg2⟩ := hE rfl
    refine callR_pureD h1 (fun g w vals hcr hgr hv => ?_)
    match vals, hv with
    | [a, b, c], hv =>
     simp only [VRs] at hv
     have e1 := val_of hv.1 rfl
     have e2 := val_of hv.2.1 rfl
     have e3 := val_of hv.2.2.1 rfl
     subst e1; subst e2; subst e3
     obtain ⟨_, g2, _⟩ := hgr _ _ hg2
     simp only [PRs, PR, and_true] at g2
     obtain ⟨u, g2, _, rfl⟩ := g2
     refine (Any.strconv_ParseInt_10_at32_range L s hs hp _ w g2 (.inr ⟨_, _, rfl⟩)).mono ?_
     rintro e w' ⟨N, rfl, _, _, hb⟩
     refine ⟨_, rfl, hb, fun q => absurd q (good_n hnd), fun g' w'' => ?_⟩
     simp only [VR]
     exact ⟨_, rfl, by simp [VRs, VR, PR]⟩
    | [], hv => simp [VRs] at hv
    | [_], hv => simp [VRs] at hv
    | [_, _], hv => simp [VRs] at hv
    | _ :: _ :: _ :: _ :: _, hv => simp [VRs] at hv
   ·cases he
  ·cases he
 ·cases he
open Go Go.RowKit
section
variable {g : G} {h : List AB} {w : World}
theorem HR.prQ (hr : HR g h w) {Q : Nat → Prop} (h1 : ∀ b x c, h[b]? = some x → cid g b x = some c → ¬ Q c) (h2 : ∀ c, g.S c → Q c) (h3 : ∀ c, Q c → c < w.heap.size) : HR { g with Pr := Q } h w :=
 ⟨hr.n, fun b x hb => BR_pr (hr.br b x hb), hr.dis, h1, h2, h3, hr.ho⟩
theorem extS {T : Nat → Prop} (h1 : ∀ c, g.S c → T c) (h2 : ∀ c, T c → g.S c ∨ ¬ g.Pr c) : Ext g w { g with S := T, Pr := fun c => g.Pr c ∨ T c } w :=
 ⟨h1, fun _ h => .inl h, fun _ _ => rfl, Nat.le_refl _, fun _ h => h, fun _ _ => rfl, fun _ _ => Nat.le_refl _, fun _ _ _ _ => rfl, Nat.le_refl _, rfl, rfl, rfl, h2, rfl, fun _ => Nat.le_refl _⟩
theorem HR.stay (hr : HR g h w) {T : Nat → Prop} (h1 : ∀ c, g.S c → T c) (h2 : ∀ c, T c → g.S c ∨ ¬ g.Pr c) (h3 : ∀ c, T c → c < w.heap.size) (h4 : ∀ b x c, h[b]? = some x → cid g b x = some c → ¬ T c) : HR { g with S := T, Pr := fun c => g.Pr c ∨ T c } h w := by
 have he := extS (w := w) h1 h2
 exact ⟨hr.n, fun b x hb => BR_mono hr he hb rfl (fun _ _ => rfl), hr.dis, fun b x c hb hc hq => hq.elim (hr.own b x c hb hc) (h4 b x c hb hc), fun c hc => .inr hc, fun c hc => hc.elim (hr.prs c) (h3 c), hr.ho⟩
theorem HR.retell (hr : HR g h w) {b : Nat} {x y : AB} (hb : h[b]? = some x) (hbr : BR g w b y) (hc : cid g b y = cid g b x) (hx : x ≠ .hole) (hy : y ≠ .hole) : HR g (h.set b y) w :=
 HR.upd hr hb (Ext.refl g w) rfl rfl rfl (fun _ _ => rfl) (fun _ _ _ => rfl) hbr (fun c h => .inl (by rw [← hc]; exact h)) rfl hx hy
theorem extRow (o : Option (Nat × Nat)) : Ext g w (gRow g o) w :=
 ⟨fun _ h => h, fun _ h => h, fun _ _ => rfl, Nat.le_succ _, fun b hb => ⟨Nat.lt_succ_of_lt hb.1, hb.2⟩, fun _ _ => rfl, fun b hb => by
  show g.gen b ≤ if b = g.N then 0 else g.gen b
  rw [if_neg (by have := hb.1; omega)]
  exact Nat.le_refl _, fun b hb k _ => by
  show (if b = g.N then fun _ => o else g.hd b) k = _
  rw [if_neg (by have := hb.1; omega)], Nat.le_refl _, rfl, rfl, rfl, fun _ h => .inl h, rfl, fun _ => Nat.le_refl _⟩
theorem HR.take (hr : HR g h w) {t : TypeId} {size : Nat} {rows : List (List AV)} {o : Option (Nat × Nat)} (hlen : ∀ r ∈ rows, r.length = size) (hrow : RowR g w t size rows o)
  (ho : ∀ c cap, o = some (c, cap) → ¬ g.Pr c ∧ ∀ b x, h[b]? = some x → cid g b x ≠ some c) : HR (gRow g o) (h ++ [.row t size 0 rows]) w := by
 have he := extRow (g := g) (w := w) o
 have hget : ∀ b y, (h ++ [AB.row t size 0 rows])[b]? = some y → (b < g.N ∧ h[b]? = some y) ∨ (b = g.N ∧ y = .row t size 0 rows) := by
  intro b y hb
  rw [List.getElem?_append, ← hr.n] at hb
  split at hb
  ·rename_i hl; exact .inl ⟨hl, hb⟩
  ·rename_i hl
   right
   have h1 := (gei.1 hb).1
   have e : b = g.N := by simp at h1; omega
   subst e
   simp at hb
   exact ⟨rfl, hb.symm⟩
 have hcid : ∀ b y, b < g.N → cid (gRow g o) b y = cid g b y := by
  intro b y hb
  cases y <;> simp only [cid, gRow]
  rw [if_neg (by omega)]
 have hcn : ∀ c, cid (gRow g o) g.N (.row t size 0 rows) = some c → ∃ cap, o = some (c, cap) := by
  intro c hc
  simp only [cid, gRow, if_pos] at hc
  cases o with
  | none => cases hc
  | some p => obtain ⟨c', cap⟩ := p; simp only [Option.map_some, oiq] at hc; exact ⟨cap, by rw [hc]⟩
 refine ⟨by show g.N + 1 = _; rw [hr.n]; simp, ?_, ?_, ?_, hr.spr, hr.prs, ?_⟩
 ·intro b y hb
  rcases hget b y hb with ⟨h1, h2⟩ | ⟨rfl, rfl⟩
  ·refine BR_mono hr he h2 ?_ (fun _ _ => rfl)
   show (if b = g.N then 0 else g.gen b) = _
   rw [if_neg (by omega)]
  ·simp only [BR]
   refine ⟨by simp [gRow], hlen, ?_⟩
   have : (gRow g o).hd g.N 0 = o := by simp [gRow]
   rw [this]
   cases o with
   | none => exact hrow
   | some p =>
    obtain ⟨c, cap⟩ := p
    simp only [RowR] at hrow ⊢
    obtain ⟨cs, fz, k1, k2, k3, k4, k5, k6⟩ := hrow
    exact ⟨cs, fz, k1, k2, k3, k4, k5, VRc_mono he hr.spr k6⟩
 ·intro b b' y y' c h1 h2 h3 h4
  rcases hget b y h1 with ⟨q1, q2⟩ | ⟨rfl, rfl⟩ <;> rcases hget b' y' h2 with ⟨q3, q4⟩ | ⟨rfl, rfl⟩
  ·rw [hcid _ _ q1] at h3
   rw [hcid _ _ q3] at h4
   exact hr.dis b b' y y' c q2 q4 h3 h4
  ·rw [hcid _ _ q1] at h3
   obtain ⟨cap, rfl⟩ := hcn c h4
   exact absurd h3 ((ho c cap rfl).2 b y q2)
  ·rw [hcid _ _ q3] at h4
   obtain ⟨cap, rfl⟩ := hcn c h3
   exact absurd h4 ((ho c cap rfl).2 b' y' q4)
  ·rfl
 ·intro b y c h1 h3
  rcases hget b y h1 with ⟨q1, q2⟩ | ⟨rfl, rfl⟩
  ·rw [hcid _ _ q1] at h3
   exact hr.own b y c q2 h3
  ·obtain ⟨cap, rfl⟩ := hcn c h3
   exact (ho c cap rfl).1
 ·intro b
  show g.Ho b ↔ _
  rw [hr.ho b]
  constructor
  ·intro hb
   rw [gal (gei.1 hb).1]
   exact hb
  ·intro hb
   rcases hget b _ hb with ⟨_, h2⟩ | ⟨_, h2⟩
   ·exact h2
   ·cases h2
theorem HR.drop {hs : List AB} (hr : HR g (h ++ hs) w) (hb : ∀ x ∈ h, x.blw h.length = true) : HR (g.cut h.length) h w := by
 have hget : ∀ {b : Nat} {x : AB}, h[b]? = some x → (h ++ hs)[b]? = some x := fun {b x} hx => by rw [gal (gei.1 hx).1]; exact hx
 refine ⟨rfl, fun b x hx => BR_trim (hb x (List.mem_of_getElem? hx)) (hr.br b x (hget hx)), ?_, ?_, hr.spr, hr.prs, ?_⟩
 ·intro b b' x x' c h1 h2 h3 h4
  exact hr.dis b b' x x' c (hget h1) (hget h2) (by cases x <;> exact h3) (by cases x' <;> exact h4)
 ·intro b x c h1 h2
  exact hr.own b x c (hget h1) (by cases x <;> exact h2)
 ·intro b
  show g.Ho b ∧ b < h.length ↔ _
  rw [hr.ho b]
  constructor
  ·rintro ⟨h1, h2⟩
   rwa [gal h2] at h1
  ·intro h1
   exact ⟨hget h1, (gei.1 h1).1⟩
end
section
variable {g : G} {w : World} {c : Nat} {cs : Array Value} {t : TypeId} {fz : Nat × Nat}
theorem PRs_app {S : Nat → Prop} {b : Nat} : ∀ (xs ys : List PV) (off : Nat), PRs S w b off (xs ++ ys) ↔ PRs S w b off xs ∧ PRs S w b (off + xs.length) ys
 | [], ys, off => by simp [PRs]
 | x :: xs, ys, off => by
  simp only [List.cons_append, PRs, PRs_app xs ys (off + 1), lcn, and_assoc, show off + 1 + xs.length = off + (xs.length + 1) from by omega]
theorem PRr_flat {S : Nat → Prop} {b size : Nat} : ∀ (rows : List (List PV)) (off : Nat), PRr S w b off size rows ↔ (∀ r ∈ rows, r.length = size) ∧ PRs S w b off rows.flatten
 | [], off => by simp [PRr, PRs]
 | r :: rs, off => by
  simp only [PRr, PRr_flat rs (off + size), List.flatten_cons, PRs_app, List.forall_mem_cons]
  constructor
  ·rintro ⟨h1, h2, h3, h4⟩; exact ⟨⟨h1, h3⟩, h2, by rw [h1]; exact h4⟩
  ·rintro ⟨⟨h1, h3⟩, h2, h4⟩; exact ⟨h1, h2, h3, by rw [h1] at h4; exact h4⟩
theorem flat_map (rows : List (List PV)) : (rows.map (·.map AV.p)).flatten = rows.flatten.map AV.p := by
 induction rows with
 | nil => rfl
 | cons r rs ih => simp only [List.map_cons, List.flatten_cons, List.map_append, ih]
theorem flat_len {size : Nat} : ∀ (rows : List (List PV)), (∀ r ∈ rows, r.length = size) → rows.flatten.length = rows.length * size
 | [], _ => by simp
 | r :: rs, h => by
  rw [List.flatten_cons, List.length_append, flat_len rs (fun x hx => h x (by simp [hx])), h r (by simp), lcn, Nat.add_mul]
  omega
theorem VRc_of_PRs (hc : w.heap[c]? = some (.cells cs t fz)) : ∀ (xs : List PV) (off : Nat), PRs g.S w c off xs → VRc g w (xs.map AV.p) ((cs.toList.drop off).take xs.length)
 | [], off, _ => by simp [VRc, VRs]
 | x :: xs, off, h => by
  simp only [PRs] at h
  obtain ⟨⟨u, h1, h2, h3⟩, h4⟩ := h
  have ih := VRc_of_PRs hc xs (off + 1) h4
  simp only [World.cell?, hc] at h1
  have hl : off < cs.toList.length := by
   have := (Array.getElem?_eq_some_iff.1 h1).1
   simpa using this
  have hd : cs.toList.drop off = u :: cs.toList.drop (off + 1) := by
   rw [List.drop_eq_getElem_cons hl]
   congr 1
   have := (Array.getElem?_eq_some_iff.1 h1).2
   simpa using this
  rw [hd, lcn, List.take_succ_cons, List.map_cons]
  refine ⟨by simp only [VRs, VR]; exact ⟨h3, ih.1⟩, fun v hv => ?_⟩
  rcases List.mem_cons.1 hv with rfl | hv
  ·exact h2
  ·exact ih.2 v hv
theorem PRs_of_VRc (hc : w.heap[c]? = some (.cells cs t fz)) : ∀ (xs : List PV) (off : Nat), VRc g w (xs.map AV.p) ((cs.toList.drop off).take xs.length) → PRs g.S w c off xs
 | [], off, _ => by simp [PRs]
 | x :: xs, off, h => by
  obtain ⟨h1, h2⟩ := h
  cases hd : cs.toList.drop off with
  | nil => rw [hd] at h1; simp [VRs] at h1
  | cons u us =>
   have hl : off < cs.toList.length := by
    rcases Nat.lt_or_ge off cs.toList.length with q | q
    ·exact q
    ·rw [List.drop_eq_nil_of_le q] at hd; cases hd
   have hd2 := List.drop_eq_getElem_cons hl
   rw [hd] at hd2
   injection hd2 with e1 e2
   subst e2
   rw [hd, lcn, List.take_succ_cons] at h1 h2
   simp only [List.map_cons, VRs, VR] at h1
   simp only [PRs]
   refine ⟨⟨u, ?_, h2 u (by simp), h1.1⟩, PRs_of_VRc hc xs (off + 1) ⟨h1.2, fun v hv => h2 v (by simp [hv])⟩⟩
   simp only [World.cell?, hc]
   rw [e1]
   simp at hl
   simp [hl]
theorem VRc_of_PRr (hc : w.heap[c]? = some (.cells cs t fz)) {size : Nat} {rows : List (List PV)} (h : PRr g.S w c 0 size rows) : VRc g w (rows.map (·.map AV.p)).flatten (cs.toList.take (rows.length * size)) := by
 obtain ⟨h1, h2⟩ := (PRr_flat rows 0).1 h
 have := VRc_of_PRs (g := g) hc _ 0 h2
 rwa [List.drop_zero, flat_len rows h1, ← flat_map] at this
theorem PRr_of_VRc (hc : w.heap[c]? = some (.cells cs t fz)) {size : Nat} {rows : List (List PV)} (h1 : ∀ r ∈ rows, r.length = size) (h : VRc g w (rows.map (·.map AV.p)).flatten (cs.toList.take (rows.length * size))) : PRr g.S w c 0 size rows := by
 refine (PRr_flat rows 0).2 ⟨h1, PRs_of_VRc (g := g) hc _ 0 ?_⟩
 rwa [List.drop_zero, flat_len rows h1, ← flat_map]
end
def _root_.Go.Exit.jumpS (c : Code) (J : Nat → Act → World → Prop) (Q : Exit → Act → World → Prop) : Exit → Act → World → Prop
 | .goto l, a, w => if (findLabel c l).isSome then J l a w else Q (.goto l) a w
 | e, a, w => Q e a w
def JRs (F : Fence) (P : Program) (c : Code) (Q : Exit → Act → World → Prop) : Nat → Nat → Act → World → Prop
 | 0, _, _, _ => False
 | m + 1, l, a, w => ∃ rest, findLabel c l = some (.seq .skip rest) ∧ rest.wpIn F 0 P (Exit.jumpS c (JRs F P c Q m) Q) a w
section
variable {P : Program}
theorem wpIn_scope_labs {F : Fence} {c : Code} {Q : Exit → Act → World → Prop} {a : Act} {w : World} {m : Nat} (h : c.wpIn F 0 P (Exit.jumpS c (JRs F P c Q m) Q) a w) : (Code.scope c).wpIn F 0 P Q a w := by
 intro b k cs hro hb hr
 have h0 : (lone (b.atR a (.code (.scope c) :: k)) cs w).fenced P F := fenced_calm hb hr rfl
 have hg : ∀ l rest, findLabel c l = some (.seq .skip rest) → gotoIn l (.inScope c :: k) = some (.code (.seq .skip rest) :: .inScope c :: k) := fun l rest hf => by simp [gotoIn, hf]
 have hx : ∀ id, exitTo id (.inScope c :: k) = exitTo id k := fun id => by simp [exitTo]
 have hgo : ∀ l', findLabel c l' = none → gotoIn l' (.inScope c :: k) = gotoIn l' k := fun l' hl => by simp [gotoIn, hl]
 have fin : ∀ (m₀ : Machine) (e : Exit) (a₁ : Act) (w₁ : World), (∀ l', e = .goto l' → findLabel c l' = none) → ArrivesIn (Machine.fenced P F) P m₀ b (.inScope c :: k) cs e a₁ w₁ → ArrivesIn (Machine.fenced P F) P m₀ b k cs e a₁ w₁ := by
  intro m₀ e a₁ w₁ hl harr
  cases e with
  | normal => exact StepsIn.trans harr (.one (fenced_calm hb hr rfl) stepR_inScope)
  | exit id' => exact ⟨fun k' hk => harr.1 k' (by rw [hx]; exact hk), fun hr' hk => harr.2 hr' (by rw [hx]; exact hk)⟩
  | goto l' => exact ⟨fun k' hk => harr.1 k' (by rw [hgo l' (hl l' rfl)]; exact hk), fun hr' hk => harr.2 hr' (by rw [hgo l' (hl l' rfl)]; exact hk)⟩
  | ret => exact harr
  | panic ch => exact harr
  | outgrown => exact harr
 have key : ∀ m l a w, JRs F P c Q m l a w → ∃ e a' w', Q e a' w' ∧ ∃ rest, findLabel c l = some (.seq .skip rest) ∧ ArrivesIn (Machine.fenced P F) P (lone (b.atR a (.code (.seq .skip rest) :: .inScope c :: k)) cs w) b k cs e a' w' := by
  intro m
  induction m with
  | zero => intro l a w hj; exact hj.elim
  | succ m ih =>
   intro l a w hj
   obtain ⟨rest, hf, hj⟩ := hj
   have h2 : (Code.seq .skip rest).wpIn F 0 P (Exit.jumpS c (JRs F P c Q m) Q) a w := wpIn_seq (wpIn_skip hj)
   obtain ⟨e, a₁, w₁, hq, harr⟩ := h2 b (.inScope c :: k) cs hro hb hr
   cases e with
   | goto l' =>
    simp only [Exit.jumpS] at hq
    split at hq
    ·obtain ⟨e₂, a₂, w₂, hq₂, rest₂, hf₂, harr₂⟩ := ih l' a₁ w₁ hq
     exact ⟨e₂, a₂, w₂, hq₂, rest, hf, .of_steps (harr.1 _ (hg l' rest₂ hf₂)) harr₂⟩
    ·rename_i hl
     exact ⟨_, a₁, w₁, hq, rest, hf, fin _ _ _ _ (fun l'' e => by cases e; simpa using hl) harr⟩
   | normal => exact ⟨_, a₁, w₁, hq, rest, hf, fin _ _ _ _ (fun _ e => by cases e) harr⟩
   | exit id => exact ⟨_, a₁, w₁, hq, rest, hf, fin _ _ _ _ (fun _ e => by cases e) harr⟩
   | ret => exact ⟨_, a₁, w₁, hq, rest, hf, fin _ _ _ _ (fun _ e => by cases e) harr⟩
   | panic ch => exact ⟨_, a₁, w₁, hq, rest, hf, fin _ _ _ _ (fun _ e => by cases e) harr⟩
   | outgrown => exact ⟨_, a₁, w₁, hq, rest, hf, fin _ _ _ _ (fun _ e => by cases e) harr⟩
 obtain ⟨e, a₁, w₁, hq, harr⟩ := h b (.inScope c :: k) cs hro hb hr
 cases e with
 | goto l' =>
  simp only [Exit.jumpS] at hq
  split at hq
  ·obtain ⟨e₂, a₂, w₂, hq₂, rest₂, hf₂, harr₂⟩ := key m l' a₁ w₁ hq
   exact ⟨e₂, a₂, w₂, hq₂, .of_steps (.head h0 stepR_scope (harr.1 _ (hg l' rest₂ hf₂))) harr₂⟩
  ·rename_i hl
   exact ⟨_, a₁, w₁, hq, .of_steps (.one h0 stepR_scope) (fin _ _ _ _ (fun l'' e => by cases e; simpa using hl) harr)⟩
 | normal => exact ⟨_, a₁, w₁, hq, .of_steps (.one h0 stepR_scope) (fin _ _ _ _ (fun _ e => by cases e) harr)⟩
 | exit id => exact ⟨_, a₁, w₁, hq, .of_steps (.one h0 stepR_scope) (fin _ _ _ _ (fun _ e => by cases e) harr)⟩
 | ret => exact ⟨_, a₁, w₁, hq, .of_steps (.one h0 stepR_scope) (fin _ _ _ _ (fun _ e => by cases e) harr)⟩
 | panic ch => exact ⟨_, a₁, w₁, hq, .of_steps (.one h0 stepR_scope) (fin _ _ _ _ (fun _ e => by cases e) harr)⟩
 | outgrown => exact ⟨_, a₁, w₁, hq, .of_steps (.one h0 stepR_scope) (fin _ _ _ _ (fun _ e => by cases e) harr)⟩
end
theorem leavesM_mono {F : Fence} {n : Nat} {P : Program} {fd : Func} {tmps : Array Value} {R R' : Ending → World → Prop} (h : ∀ e w, R e w → R' e w) : ∀ (ds : List Deferred) (u : FrameMode) (w : World), LeavesInM F n P fd tmps R ds u w → LeavesInM F n P fd tmps R' ds u w
 | [], u, w, hl => by
  cases u with
  | run => exact hl.elim
  | returning => obtain ⟨v, h1, h2⟩ := hl; exact ⟨v, h1, h _ _ h2⟩
  | panicking ch => exact h _ _ hl
 | d :: ds, u, w, hl => by
  obtain ⟨h1, h2⟩ := hl
  refine ⟨h1, ?_⟩
  rcases h2 with ⟨r, w', k1, k2, k3⟩ | ⟨k1, fv, cap, f, args, k2, k3, k4, k5⟩
  ·exact .inl ⟨r, w', k1, k2, leavesM_mono h ds u w' k3⟩
  ·refine .inr ⟨k1, fv, cap, f, args, k2, k3, k4, k5.mono ?_⟩
   intro e u' w' hr
   cases e with
   | returned v => exact leavesM_mono h ds _ w' hr
   | panicked ch => exact leavesM_mono h ds _ w' hr
   | outgrown => exact h _ _ hr
theorem callR_end {P : Program} {gl : Nat → Option (List PV)} {fn : Nat} {fd : Func} {c : Code} {rs : List IRes} (hfd : P.funcs[fn]? = some fd) (hbody : fd.body = some c) (hname : (fd.name == "runtime.NumGoroutine") = false) (hres : compRes P fd.results.toList = some rs) {args : List AV} {vs : List AV} (hb : (packR vs).blw 0 = true)
  (hcode : ∀ (g : G) (a : Act) (w : World), g.N = 0 → SR P (Good P) gl w.heap.size ⟨args ++ List.replicate (fd.ntmps - args.length) ud, []⟩ g a w → ∀ Q : Exit → Act → World → Prop, (∀ a' w' g' s', resOf s' rs = some vs → Ext g w g' w' → SR P (Good P) gl w.heap.size s' g' a' w' → Q .ret a' w') → c.wpIn (FW none) 0 P Q a w) :
  CallR P (Good P) gl fn args [] (packR vs) [] := by
 refine ⟨⟨fd, hfd, by simp [hbody], hname⟩, ?_⟩
 intro g w vals hcr hgr hhr hvs
 have hlen := hvs.len
 have hfr : VRs g w (args ++ List.replicate (fd.ntmps - args.length) ud) (vals.toArray ++ Array.replicate (fd.ntmps - vals.toArray.size) undef).toList := by
  simp only [Array.toList_append, Array.toList_replicate, List.size_toArray, ← hlen]
  exact hvs.append (VRs.replicate _ VR_ud)
 have hsr : SR P (Good P) gl w.heap.size ⟨args ++ List.replicate (fd.ntmps - args.length) ud, []⟩ g { tmps := vals.toArray ++ Array.replicate (fd.ntmps - vals.toArray.size) undef, defers := [] } w :=
  ⟨⟨hgr, hhr, hfr⟩, by simp, by simp, Nat.le_refl _, hcr⟩
 have hN : g.N = 0 := hhr.n
 refine (callsIn_wide (n := 0)).1 (callsIn_of_wp_marks (F := FW none) hfd hbody trivial (hcode g _ w hN hsr _ ?_) rfl)
 intro a' w' g' s' hrs he hs
 have := marks_leave (en := w.heap.size) hhr.prs hres hrs a'.defers g' w' a' rfl he hs.c hs.d hs.nd
 refine leavesM_mono ?_ _ _ _ this
 rintro e w2 ⟨x, g2, rfl, e2, r2, v2⟩
 refine ⟨x, g2.cut 0, rfl, ?_, ?_, VR_trim _ _ hb v2⟩
 ·exact ⟨e2.S, e2.Pr, e2.pr, by show g.N ≤ 0; omega, fun b hb => by have := hb.1; omega, e2.m, e2.gen, e2.hd, e2.size, e2.os, e2.tape, e2.output, e2.Sn, e2.cr, e2.drawn⟩
 ·exact HR.drop (h := []) (hs := s'.h) r2 (fun x hx => by cases hx)
def insD (k : Nat) (D : Deferred) (l : List Deferred) : List Deferred := l.take (l.length - k) ++ D :: l.drop (l.length - k)
theorem insD_cons {k : Nat} {D d : Deferred} {l : List Deferred} (h : k ≤ l.length) : insD k D (d :: l) = d :: insD k D l := by
 simp only [insD, lcn, show l.length + 1 - k = (l.length - k) + 1 by omega, List.take_succ_cons, List.drop_succ_cons, List.cons_append]
def _root_.Go.Act.ins (a : Act) (k : Nat) (D : Deferred) : Act := { a with defers := insD k D a.defers }
theorem ins_put {a : Act} {k : Nat} {D : Deferred} {d : Option Nat} {x : Value} : (a.put d x).ins k D = (a.ins k D).put d x := by cases d <;> rfl
theorem put_defers {a : Act} {d : Option Nat} {x : Value} : (a.put d x).defers = a.defers := by cases d <;> rfl
section
variable {F : Fence} {n : Nat} {P : Program} {ops : Array Oper}
theorem wpOps_ins {k : Nat} {D : Deferred} {Q Q' : Exit → Act → World → Prop} (hQ : ∀ e a w, k ≤ a.defers.length → Q e a w → Q' e (a.ins k D) w) (hL : LetsOut Q → LetsOut Q') : ∀ (l : List Nat) (a : Act) (w : World), k ≤ a.defers.length → wpOpsIn F n P ops Q l a w → wpOpsIn F n P ops Q' l (a.ins k D) w
 | [], a, w, hk, h => hQ .normal a w hk h
 | i :: rest, a, w, hk, h => by
  simp only [wpOpsIn] at h ⊢
  cases ho : ops[i]? with
  | none => rw [ho] at h; exact wpOps_ins hQ hL rest a w hk h
  | some o =>
   rw [ho] at h
   simp only at h ⊢
   have ht : (a.ins k D).tmps = a.tmps := rfl
   rw [ht]
   by_cases hw : Region.wanted o (yielded ops a.tmps) = true
   ·rw [if_pos hw] at h ⊢
    obtain ⟨h1, h2⟩ := h
    have hev : (a.ins k D).eval = a.eval := rfl
    refine ⟨by rw [hev]; exact h1, ?_⟩
    rw [hev]
    generalize (o.semAt F.round a.eval).run P w = r at h2
    have hput : ∀ (x : Value) (w' : World), wpOpsIn F n P ops Q rest (a.put o.dst x) w' → wpOpsIn F n P ops Q' rest ((a.ins k D).put o.dst x) w' := fun x w' h => by
     rw [← ins_put]
     exact wpOps_ins hQ hL rest _ w' (by rw [put_defers]; exact hk) h
    cases r with
    | halt x w' => cases x <;> first | exact h2 | exact hQ _ a w' hk h2
    | ok nx w' =>
     cases nx with
     | value v => exact hput v w' h2
     | skip => exact hput undef w' h2
     | defer d =>
      show wpOpsIn F n P ops Q' rest (Act.put { (a.ins k D) with defers := d :: (a.ins k D).defers } o.dst undef) w'
      have : ({ (a.ins k D) with defers := d :: (a.ins k D).defers } : Act) = ({ a with defers := d :: a.defers } : Act).ins k D := by
       simp only [Act.ins, insD_cons hk]
      rw [this, ← ins_put]
      exact wpOps_ins hQ hL rest _ w' (by rw [put_defers]; simp only [lcn]; omega) h2
     | enter f args =>
      refine ⟨h2.1, h2.2.mono ?_⟩
      intro e w2 hr
      cases e with
      | returned v => exact hput v w2 hr
      | panicked ch => exact hQ _ a w2 hk hr
      | outgrown => exact hL hr
     | row r args => exact ⟨h2.1, h2.2.mono (fun v w2 hr => hput v w2 hr)⟩
     | round l f tmps ass body =>
      refine ⟨h2.1, h2.2.mono ?_⟩
      intro e w2 hr
      cases e with
      | returned v => exact hput v w2 hr
      | panicked ch => exact hQ _ a w2 hk hr
      | outgrown => exact hL hr
     | _ => exact h2
   ·rw [if_neg hw] at h ⊢
    refine ⟨h.1, ?_⟩
    rw [← ins_put]
    exact wpOps_ins hQ hL rest _ w (by rw [put_defers]; exact hk) h.2
end
theorem okF_app {m : Nat} {args : List AV} {h x : List AB} {r : AV × List AB} (hk : okF m args h r = true) : okF m args (h ++ x) r = true ∧ m ≤ h.length ∧ m ≤ r.2.length := by
 unfold okF at hk ⊢
 simp only [Bool.and_eq_true, Nat.ble_eq] at hk ⊢
 refine ⟨⟨by rw [List.length_append]; omega, hk.2.1, ?_, hk.2.2.2.1, hk.2.2.2.2.1, hk.2.2.2.2.2⟩, hk.1, hk.2.2.2.2.1⟩
 rw [List.take_append_of_le_length hk.1]
 exact hk.2.2.1
theorem cs_frame {p : Prg} {fn : Nat} {F : IFun} {args : List AV} {h h1 : List AB} {v : AV} (hF : p.fn fn = some F) (hf : p.fr fn = true) (hc : CS p fn args h = some (v, h1)) (x : List AB) : CS p fn args (h ++ x) = some (v, h1 ++ x) ∧ h1.length = h.length := by
 unfold CS callS at hc ⊢
 simp only [hF, hf] at hc ⊢
 obtain ⟨r, e1, e2⟩ := Option.bind_eq_some_iff.1 hc
 unfold frmR at e2
 split at e2
 ·rename_i hk
  obtain ⟨k1, k2, k3⟩ := okF_app (x := x) hk
  simp only [oiq, piq] at e2
  obtain ⟨rfl, rfl⟩ := e2
  rw [List.take_append_of_le_length k2, e1, Option.bind_some]
  unfold frmR
  rw [if_pos k1]
  refine ⟨?_, ?_⟩
  ·rw [List.drop_append_of_le_length k2, List.append_assoc]
  ·rw [List.length_append, List.length_take, List.length_drop]; omega
 ·cases e2
theorem sound_all {P : Program} {p : Prg} (hp : PrgOk P p) (n : Nat) : Sound P (Good P) (envOf p (evalN p n)) :=
 ⟨fun fn args h v hc => callP_sound_all hp hc, fun fn args h v h' hc => call_sound_all hp hc, fun b args h v h' hc => callY_sound (eval_sound hp n).1 hc⟩
theorem region_ins {P : Program} {p : Prg} (hp : PrgOk P p) {shf : Operand → Bool} {id : Nat} {ops : Array Oper} {is : List IOp} {s s1 : St} {rd : Option Nat} {en : Nat} {g : G} {a : Act} {w : World} {k : Nat} {D : Deferred} {Q : Exit → Act → World → Prop} (hc : compOps P shf ops ops.toList = some is) (h1 : run (envOf p (ev p)) (ev p) (.ops is) s = some (.norm, s1))
  (hs : SR P (Good P) p.gl en s g a w) (hk : k ≤ a.defers.length) (hQ : ∀ a' w' g', k ≤ a'.defers.length → Ext g w g' w' → SR P (Good P) p.gl en s1 g' a' w' → Q .normal (a'.ins k D) w') : (Code.region id ops false).wpIn (FW rd) 0 P Q (a.ins k D) w := by
 simp only [run, Option.map_eq_some_iff, piq, true_and, exists_eq_right] at h1
 obtain ⟨n, hn⟩ := runOps_cont is s s1 h1
 refine wpIn_region ?_
 have := ops_sound (rd := rd) (ops := ops) (shf := shf) (sound_all hp n) (Q := fun e a' w' => e = .normal ∧ ∃ g', Ext g w g' w' ∧ SR P (Good P) p.gl en s1 g' a' w') ops.toList is 0 s s1 g a w (by simp) hc hn hs (fun a' w' g' e1 e2 => ⟨rfl, g', e1, e2⟩)
 rw [List.range_eq_range']
 have this : wpOpsIn (FW rd) 0 P ops (fun e a' w' => e = .normal ∧ ∃ g', Ext g w g' w' ∧ SR P (Good P) p.gl en s1 g' a' w') (List.range' 0 ops.size) a w := by simpa using this
 refine wpOps_ins (fun e a' w' hk' hq => ?_) (fun hl => ?_) _ a w hk this
 ·obtain ⟨rfl, g', e1, e2⟩ := hq
  exact hQ a' w' g' hk' e1 e2
 ·obtain ⟨_, _, e, _⟩ := hl
  cases e
theorem marks_pre {P : Program} {gl : Nat → Option (List PV)} {fd : Func} {tmps : Array Value} {R : Ending → World → Prop} {g : G} {w : World} {en : Nat} (hen : ∀ c, g.Pr c → c < en) {s : St} {rest bs : List Deferred}
  (hfin : ∀ (g2 : G) (w2 : World) (a : Act), a.tmps = tmps → Ext g w g2 w2 → Ctx P gl a s.f g2 s.h w2 → (∀ d ∈ bs, MarkR en g2 w2 d) → LeavesInM (FW none) 0 P fd tmps R rest .returning w2) :
  ∀ (ds : List Deferred) (g' : G) (w' : World) (a : Act), a.tmps = tmps → Ext g w g' w' → Ctx P gl a s.f g' s.h w' → (∀ d ∈ ds ++ bs, MarkR en g' w' d) → (ds ++ bs).Nodup →
   LeavesInM (FW none) 0 P fd tmps R (ds ++ rest) .returning w'
 | [], g', w', a, ha, he, hx, hm, _ => hfin g' w' a ha he hx hm
 | d :: ds, g', w', a, ha, he, hx, hm, hn => by
  obtain ⟨D, rfl, m1, m2, m3, m4⟩ := hm d (by simp)
  refine ⟨by simp, .inl ⟨D, w'.putObj D (.deferred none), rfl, run_takeDeferred m4, ?_⟩⟩
  have hh := hx.hr
  have hold : ∀ c, c ≠ D → (w'.putObj D (.deferred none)).heap[c]? = w'.heap[c]? := fun c hc => World.putObj_heap_other hc
  have hr1 : HR { g' with Pr := fun c => g'.Pr c ∧ c ≠ D } s.h w' :=
   ⟨hh.n, fun b x hb => BR_pr (hh.br b x hb), hh.dis, fun b x c h1 h2 h3 => hh.own b x c h1 h2 h3.1, fun c hS => ⟨hh.spr c hS, fun e => m3 (e ▸ hS)⟩, fun c h => hh.prs c h.1, hh.ho⟩
  have e1 : Ext { g' with Pr := fun c => g'.Pr c ∧ c ≠ D } w' { g' with Pr := fun c => g'.Pr c ∧ c ≠ D } (w'.putObj D (.deferred none)) :=
   ⟨fun _ h => h, fun _ h => h, fun c hc => hold c hc.2, Nat.le_refl _, fun _ h => h, fun _ _ => rfl, fun _ _ => Nat.le_refl _, fun _ _ _ _ => rfl, by simp, rfl, rfl, rfl, fun _ h => .inl h, rfl, fun _ => Nat.le_refl _⟩
  have hr2 : HR { g' with Pr := fun c => g'.Pr c ∧ c ≠ D } s.h (w'.putObj D (.deferred none)) :=
   ⟨hr1.n, fun b x hb => BR_mono hr1 e1 hb rfl (fun c hc => hold c (fun e => hh.own b x c hb (by cases x <;> exact hc) (e ▸ m2))), hr1.dis, hr1.own, hr1.spr, fun c hc => by have := hr1.prs c hc; simpa using this, hr1.ho⟩
  have hf1 : VRs { g' with Pr := fun c => g'.Pr c ∧ c ≠ D } w' s.f a.tmps.toList := VRs_pr _ _ hx.fr
  refine marks_pre hen hfin ds { g' with Pr := fun c => g'.Pr c ∧ c ≠ D } _ a ha ?_ ⟨GR_mono e1 hr1.spr hx.gr, hr2, VRs_mono e1 hr1.spr _ _ hf1⟩ ?_ (List.nodup_cons.1 hn).2
  ·exact ⟨he.S, fun c hc => ⟨he.Pr c hc, fun e => by have := hen c hc; omega⟩, fun c hc => (hold c (fun e => by have := hen c hc; omega)).trans (he.pr c hc), he.N, he.D, he.m, he.gen, he.hd, by simpa using he.size, he.os, he.tape, he.output, he.Sn, he.cr, he.drawn⟩
  ·intro d' hd'
   obtain ⟨D', rfl, n1, n2, n3, n4⟩ := hm d' (by simp only [List.cons_append]; exact List.mem_cons_of_mem _ hd')
   have hne : D' ≠ D := fun e => by subst e; exact (List.nodup_cons.1 hn).1 hd'
   exact ⟨D', rfl, n1, ⟨n2, hne⟩, n3, (hold D' hne).trans n4⟩
open Go Go.RowKit Go.ChangeShapes Go.ChangeAt
section
variable {H : Type} {enc : TypeId × Value → H} {P : Program} {w : World} {L : List TypeId}
theorem contractT_at {p : Prg} (hp : PrgOk P p) {fn : Nat} {fd : Func} {s : ChangeSpec} {tb : TypeId} {T : TypeId → Prop} (hL : L.all (okTy P L) = true) (hparams : fd.params.toList.all (fun t => L.contains t) = true)
  (hres : fd.resultTypes = #[tb]) (htb : P.underlying tb = some .bool) (hvars : s.vars = []) (hspec : ∀ (H : Type) (ds : List (DataW H)), ds.length = fd.params.toList.length → s.fn H ds = { results := [.lit (.bool true)], args := ds })
  (K : Kids P T) (hsz : ∀ t e, T t → P.underlying t = some (.slice e) → 0 < P.cellsOf e) (hT : ∀ t ∈ fd.params.toList, T t)
  (hrun : ∀ avs, ArgsFitT P fd.params.toList avs → CP p fn avs [] = some (vb true))
  (W : World) (base : Nat) (args : Array Value) (ds gs : List (DataW H)) (before : List MemPlace)
  (hval : ∀ (j : Nat) t v, fd.params[j]? = some t → args[j]? = some v → Value.okWide P W .any base t v)
  (hW : DataW.Whole enc P fd.params.toList s.vars false W args.toList ds gs before) {vt : List TypeId} (hwt : (DataW.weightsEach P (fd.params.toList ++ vt) (ds ++ gs)).all (· ≤ reachBytes) = true) (hgl : ∀ n xs, p.gl n = some xs → n < W.heap.size ∧ PRs (fun c => c < W.heap.size) W n 0 xs ∧ GB W n xs.length) :
  Calls P fn args W fun e W' => ∃ v, e = .returned v ∧ s.post enc P fd false true false false W args v W' := by
 have hL : ∀ t, L.contains t = true → okTy P L t = true := fun t ht => List.all_eq_true.1 hL t (by simpa using ht)
 obtain ⟨pa, q, hA, hV, hbef, hfz, hnd⟩ := id hW
 rw [hvars] at hV
 obtain ⟨rfl, rfl⟩ := trodVars_none hV
 obtain ⟨hdl, avs, h1, h2⟩ := argsT_rel (g := G0 P W) hL (r := .any) (base := base) (vt := vt) rfl hA (fun k hk => of_decide_eq_true (List.all_eq_true.1 hwt k (by rw [List.append_nil]; exact hk))) (fun j t v hj hv => hval j t v (by simpa using hj) (by simpa using hv)) hparams
 have hcall := (CP_sound hp (hrun avs h1)).2 (G0 P W) W args.toList rfl (fun n xs hx => by obtain ⟨k1, k2⟩ := hgl n xs hx; exact ⟨k1, k2⟩) (HR0 P W) h2
 refine (show Calls P fn args W _ from by simpa only [Array.toArray_toList] using hcall).mono ?_
 rintro e W2 ⟨x, g2, he, hE, hH, hx⟩
 subst he
 simp only [VR, PR] at hx
 subst hx
 have hst : ∀ c, c < W.heap.size → W2.heap[c]? = W.heap[c]? := fun c hc => hE.pr c hc
 refine ⟨_, rfl, ?_⟩
 have hsp := hspec H ds hdl
 refine ⟨ds, [], before, [], pa, [], hW, ?_, ?_, ?_, kept_of hE.os hE.output hst _, fun h => by cases h⟩
 ·rw [List.append_nil, hsp, hres]
  exact trodAll_cons_mk (shut_bool htb _) trodAll_mk0
 ·rw [List.append_nil, hsp]
  exact trodAll_stays K hsz hst hT hA
 ·rw [List.append_nil, hsp, hvars]
  rfl
end
variable {α : Type} {e : α → List PV}
variable {P : Program}
theorem callB_sound' {p : Prg} {ev : IC → St → Option (Out × St)}
  (hev : ∀ (shf : Operand → Bool) (c : Code) (an : List (List Nat)) (s : St) (o : Out) (s' : St), ev (compC P shf c an).1 s = some (o, s') → CodeR P (Good P) p.gl (fun rd => noR c = true ∨ rd = none) (fun rd Q => c.wpIn (FW rd) 0 P Q) s o s')
  {fn : Nat} {F : IFun} (hF : ∃ shf fd ann, P.funcs[fn]? = some fd ∧ compFn P shf ann fd = some F) {args : List AV} {h : List AB} {v : AV} {h' : List AB} (hc : callB ev F args h = some (v, h')) : CallR P (Good P) p.gl fn args h v h' := by
  unfold callB at hc
  obtain ⟨shf, fd, ann, hfd, hcomp⟩ := hF
  unfold compFn at hcomp
  split at hcomp
  ·rename_i c rs hbody hres
   split at hcomp
   ·cases hcomp
   ·rename_i hname
    simp only [oiq] at hcomp
    subst hcomp
    refine ⟨⟨fd, hfd, by simp [hbody], by simpa using hname⟩, ?_⟩
    intro g w vals hcr hgr hhr hvs
    have hlen := hvs.len
    have hfr : VRs g w (args ++ List.replicate (fd.ntmps - args.length) ud) (vals.toArray ++ Array.replicate (fd.ntmps - vals.toArray.size) undef).toList := by
     simp only [Array.toList_append, Array.toList_replicate, List.size_toArray, ← hlen]
     exact hvs.append (VRs.replicate _ VR_ud)
    have hsr : SR P (Good P) p.gl w.heap.size ⟨args ++ List.replicate (fd.ntmps - args.length) ud, h⟩ g { tmps := vals.toArray ++ Array.replicate (fd.ntmps - vals.toArray.size) undef, defers := [] } w :=
     ⟨⟨hgr, hhr, hfr⟩, by simp, by simp, Nat.le_refl _, hcr⟩
    have fin : ∀ (o : Out) (s' : St), ev (compC P shf c ann).1 ⟨args ++ List.replicate (fd.ntmps - args.length) ud, h⟩ = some (o, s') → (o = .ret ∨ o = .norm) → (resOf s' rs).map (fun vs => (packR vs, s'.h)) = some (v, h') →
      Calls P fn vals.toArray w fun e w' => ∃ x g', e = .returned x ∧ Ext g w g' w' ∧ HR g' h' w' ∧ VR g' w' v x := by
     intro o s' hev' ho hr
     simp only [Option.map_eq_some_iff, piq] at hr
     obtain ⟨vs, hvs', rfl, rfl⟩ := hr
     refine (callsIn_wide (n := 0)).1 (callsIn_of_wp_marks (F := FW none) hfd hbody trivial (hev shf c ann _ o s' hev' none w.heap.size g g _ w w (.inr rfl) hsr (Ext.refl g w) _ ?_) rfl)
     intro e a' w' g' k1 k2 k3
     have := marks_leave (en := w.heap.size) hhr.prs hres hvs' a'.defers g' w' a' rfl k2 k3.c k3.d k3.nd
     rcases ho with rfl | rfl
     ·rw [exitR_ret k1]; exact this
     ·rw [exitR_norm k1]; exact this
    split at hc
    ·rename_i s' he; exact fin _ _ he (.inl rfl) hc
    ·rename_i s' he; exact fin _ _ he (.inr rfl) hc
    ·cases hc
  ·cases hcomp
theorem CB_sound {p : Prg} (hp : PrgOk P p) {fn : Nat} {F : IFun} (hF : ∃ shf fd ann, P.funcs[fn]? = some fd ∧ compFn P shf ann fd = some F) {args : List AV} {h h' : List AB} {v : AV} (hc : CB p F args h = some (v, h')) : CallR P (Good P) p.gl fn args h v h' := by
 obtain ⟨n, hn⟩ := callB_cont hc
 exact callB_sound' (eval_sound hp n).1 hF hn
def PanR (P : Program) (C : IC → Code → Prop) (gl : Nat → Option (List PV)) (fn : Nat) (args : List AV) (h : List AB) (x : Value) : Prop :=
 (∃ fd : Func, P.funcs[fn]? = some fd ∧ fd.body.isNone = false ∧ (fd.name == "runtime.NumGoroutine") = false) ∧
 ∀ (g : G) (w : World) (vals : List Value), g.cr = C → GR g w gl → HR g h w → VRs g w args vals →
  Calls P fn vals.toArray w fun e w' => e = .panicked [{ v := x, recovered := false }] ∧ ∃ g', Ext g w g' w' ∧ HR g' h w'
section
variable {rd : Option Nat} {en : Nat} {P : Program} {C : IC → Code → Prop} {E : Env} {s s' : St} {g : G} {a : Act} {w : World} {ops : Array Oper} {shf : Operand → Bool}
theorem ops_pre (hE : Sound P C E) {Q : Exit → Act → World → Prop} {rest : List Nat} : ∀ (os : List Oper) (is : List IOp) (k : Nat) (s s' : St) (g : G) (a : Act) (w : World) (post : List Oper), ops.toList.drop k = os ++ post → compOps P shf ops os = some is → runOps E is s = some s' →
  SR P C E.gl en s g a w → (∀ a' w' g', Ext g w g' w' → SR P C E.gl en s' g' a' w' → wpOpsIn (FW rd) 0 P ops Q rest a' w') → wpOpsIn (FW rd) 0 P ops Q (List.range' k os.length ++ rest) a w
 | [], is, k, s, s', g, a, w, post, _, hc, hr, hs, hQ => by
  simp only [compOps, oiq] at hc
  subst hc
  simp only [runOps, oiq] at hr
  subst hr
  exact hQ a w g (Ext.refl g w) hs
 | o :: os, is, k, s, s', g, a, w, post, hd, hc, hr, hs, hQ => by
  simp only [compOps] at hc
  split at hc
  ·rename_i x xs hx hxs
   simp only [oiq] at hc
   subst hc
   simp only [runOps, Option.bind_eq_some_iff] at hr
   obtain ⟨s1, hr1, hr2⟩ := hr
   have hk : ops[k]? = some o := by
    have : (ops.toList.drop k)[0]? = some o := by rw [hd]; rfl
    simpa [List.getElem?_drop] using this
   have hd' : ops.toList.drop (k + 1) = os ++ post := by rw [← List.drop_drop, hd]; rfl
   simp only [lcn, List.range'_succ, List.cons_append]
   rw [wpOpsIn_cons]
   exact stepO_sound hE hs hk hx hr1 (fun a' w' g' h1 h2 => ops_pre hE os xs (k + 1) s1 s' g' a' w' post hd' hxs hr2 h2 (fun a2 w2 g2 h3 h4 => hQ a2 w2 g2 (h1.trans h3) h4))
  ·cases hc
theorem call_pan (hs : SR P C E.gl en s g a w) {o : Oper} {c : Call} {fo : Operand} {fn : Nat} {caps : List AV} {x : Value} (ho : o.op = .call c) (hc : c.callee = .value fo)
  (hf : (opd fo).ev s.f E.gl = .fn fn caps) (hr : PanR P C E.gl fn (c.args.toList.map (fun x => (opd x).ev s.f E.gl) ++ caps) s.h x)
  {K : Act → World → Prop} {Q : Exit → Act → World → Prop} (hK : ∀ w' g', Ext g w g' w' → HR g' s.h w' → Q (.panic [{ v := x, recovered := false }]) a w') : o.wpIn (FW rd) 0 P a w K Q := by
 obtain ⟨⟨fd, hfd, hbody, hname⟩, hcall⟩ := hr
 have hv := hs.c.opd fo
 rw [hf] at hv
 simp only [VR] at hv
 obtain ⟨cs, hv, hcs⟩ := hv
 have hargs : VRs g w (c.args.toList.map (fun x => (opd x).ev s.f E.gl) ++ caps) (c.args.toList.map a.eval ++ cs.toList) := (VRs_evs hs.c c.args.toList).append hcs
 have hC := hcall g w _ hs.cr hs.c.gr hs.c.hr hargs
 have hrun : (execOp a.eval o).run P w = .ok (.enter fn (c.args.toList.map a.eval ++ cs.toList).toArray) w := by
  simp only [execOp, ho, Sem.run_bind, run_resolve (ty := o.type) hc hv, Result.andThen_ok, invoke, callFunc, run_program, hfd, hname, Bool.false_eq_true, if_false, hbody, Sem.run_pure]
  congr 2
  apply Array.ext'
  simp
 refine ⟨fun _ _ => trivial, ?_⟩
 rw [Oper.semAt_eq _ _ _ (by rw [ho]; simp), hrun]
 rw [Oper.uponIn_enter]
 refine ⟨fun h => absurd h (by simp [FW, Fence.wide]), (calls_FW hC).mono ?_⟩
 rintro e w' ⟨rfl, g', h1, h2⟩
 exact hK w' g' h1 h2
end
section
variable {P : Program} {gl : Nat → Option (List PV)}
theorem marks_pan {fd : Func} {tmps : Array Value} {ch : List PanicEntry} {g : G} {w : World} {en : Nat} {hs : List AB} (hen : ∀ c, g.Pr c → c < en) :
  ∀ (ds : List Deferred) (g' : G) (w' : World), Ext g w g' w' → HR g' hs w' → (∀ d ∈ ds, MarkR en g' w' d) → ds.Nodup →
   LeavesInM (FW none) 0 P fd tmps (fun e w' => e = .panicked ch ∧ ∃ g', Ext g w g' w' ∧ HR g' hs w') ds (.panicking ch) w'
 | [], g', w', he, hh, _, _ => ⟨rfl, g', he, hh⟩
 | d :: ds, g', w', he, hh, hm, hn => by
  obtain ⟨D, rfl, m1, m2, m3, m4⟩ := hm d (by simp)
  refine ⟨by simp, .inl ⟨D, w'.putObj D (.deferred none), rfl, run_takeDeferred m4, ?_⟩⟩
  have hold : ∀ c, c ≠ D → (w'.putObj D (.deferred none)).heap[c]? = w'.heap[c]? := fun c hc => World.putObj_heap_other hc
  have hr1 : HR { g' with Pr := fun c => g'.Pr c ∧ c ≠ D } hs w' :=
   ⟨hh.n, fun b x hb => BR_pr (hh.br b x hb), hh.dis, fun b x c h1 h2 h3 => hh.own b x c h1 h2 h3.1, fun c hS => ⟨hh.spr c hS, fun e => m3 (e ▸ hS)⟩, fun c h => hh.prs c h.1, hh.ho⟩
  have e1 : Ext { g' with Pr := fun c => g'.Pr c ∧ c ≠ D } w' { g' with Pr := fun c => g'.Pr c ∧ c ≠ D } (w'.putObj D (.deferred none)) :=
   ⟨fun _ h => h, fun _ h => h, fun c hc => hold c hc.2, Nat.le_refl _, fun _ h => h, fun _ _ => rfl, fun _ _ => Nat.le_refl _, fun _ _ _ _ => rfl, by simp, rfl, rfl, rfl, fun _ h => .inl h, rfl, by first | assumption | exact fun _ => (by first | assumption | exact Nat.le_refl _ | exact Nat.le_succ _)⟩
  have hr2 : HR { g' with Pr := fun c => g'.Pr c ∧ c ≠ D } hs (w'.putObj D (.deferred none)) :=
   ⟨hr1.n, fun b x hb => BR_mono hr1 e1 hb rfl (fun c hc => hold c (fun e => hh.own b x c hb (by cases x <;> exact hc) (e ▸ m2))), hr1.dis, hr1.own, hr1.spr, fun c hc => by have := hr1.prs c hc; simpa using this, hr1.ho⟩
  refine marks_pan hen ds { g' with Pr := fun c => g'.Pr c ∧ c ≠ D } _ ?_ hr2 ?_ (List.nodup_cons.1 hn).2
  ·exact ⟨he.S, fun c hc => ⟨he.Pr c hc, fun e => by have := hen c hc; omega⟩, fun c hc => (hold c (fun e => by have := hen c hc; omega)).trans (he.pr c hc), he.N, he.D, he.m, he.gen, he.hd, by simpa using he.size, he.os, he.tape, he.output, he.Sn, he.cr, he.drawn⟩
  ·intro d' hd'
   obtain ⟨D', rfl, n1, n2, n3, n4⟩ := hm d' (by simp [hd'])
   have hne : D' ≠ D := fun e => by subst e; exact (List.nodup_cons.1 hn).1 hd'
   exact ⟨D', rfl, n1, ⟨n2, hne⟩, n3, (hold D' hne).trans n4⟩
theorem pan_drop {g g' : G} {w w' : World} {h ex : List AB} (hn : g.N = h.length) (hb : ∀ x ∈ h, x.blw h.length = true) (he : Ext g w g' w') (hr : HR g' (h ++ ex) w') : ∃ g'', Ext g w g'' w' ∧ HR g'' h w' := by
 refine ⟨g'.cut h.length, ?_, HR.drop hr hb⟩
 exact ⟨he.S, he.Pr, he.pr, by show g.N ≤ h.length; omega, fun b hb => ⟨by show b < h.length; have := hb.1; omega, fun q => (he.D b hb).2 q.1⟩, he.m, he.gen, he.hd, he.size, he.os, he.tape, he.output, he.Sn, he.cr, he.drawn⟩
end
end Go.Vs
