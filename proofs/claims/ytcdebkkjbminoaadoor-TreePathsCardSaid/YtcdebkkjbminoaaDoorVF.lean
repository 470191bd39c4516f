/- Library functions of plain values, by the kit's contracts: strconv.Itoa, strconv.ParseInt. -/
import Derived.Test.YtcdebkkjbminoaaDoorVE
import Derived.Shelf.Strconv.Itoa3
import Derived.Shelf.Strconv.ErrVarParseInt
import Derived.RecoverIn
open Option renaming some.injEq → oiq, bind_some → bsm
open Prod renaming mk.injEq → piq
open List renaming getElem?_eq_some_iff → gei, getElem?_append_left → gal
namespace Go.Vs
set_option linter.unusedSimpArgs false
set_option linter.unusedVariables false
open Go Go.Proofs Go.RowKit Go.Shelf Go.Sort
theorem good_n {P : Program} (h : nd P = true) : ¬ dOk (Good P) := fun q => q.2 ⟨h, rfl⟩
theorem callR_pureD {P : Program} {C : IC → Code → Prop} {gl : Nat → Option (List PV)} {fn : Nat} {args : List AV} {v : AV} (h1 : ∃ fd : Func, P.funcs[fn]? = some fd ∧ fd.body.isNone = false ∧ (fd.name == "runtime.NumGoroutine") = false)
  (h2 : ∀ (g : G) (w : World) (vals : List Value), g.cr = C → GR g w gl → VRs g w args vals → Calls P fn vals.toArray w fun e w' => ∃ x, e = .returned x ∧ Below w.heap.size w w' ∧ (dOk C → w.drawn ≤ w'.drawn) ∧ ∀ g' w'', VR g' w'' v x) : CallR P C gl fn args [] v [] := by
 refine ⟨h1, fun g w vals hcr hgr hr hv => (h2 g w vals hcr hgr hv).mono fun e w' ⟨x, he, hb, hd, hx⟩ => ⟨x, g, he, ?_, ?_, hx g w'⟩⟩
 ·exact ⟨fun _ h => h, fun _ h => h, fun c hc => hb.block c (hr.prs c hc), Nat.le_refl _, fun _ h => h, fun _ _ => rfl, fun _ _ => Nat.le_refl _, fun _ _ _ _ => rfl, hb.size, hb.os, hb.tape, hb.output, fun _ h => .inl h, rfl, fun q => hd (by rw [← hcr]; exact q)⟩
 ·exact ⟨hr.n, fun b x h => by simp at h, fun b b' x x' c h => by simp at h, fun b x c h => by simp at h, hr.spr, fun c hc => Nat.lt_of_lt_of_le (hr.prs c hc) hb.size, hr.ho⟩
theorem cells_ints {S : Nat → Prop} {w : World} {b : Nat} {k : IntKind} : ∀ (zs : List Int) (off : Nat), PRs S w b off (zs.map fun z => .val (.int k z)) → ∀ i z, zs[i]? = some z → w.cell? ⟨b, off + i, none⟩ = some (.int k z)
 | [], _, _, i, z, h => by simp at h
 | x :: zs, off, hp, i, z, h => by
  simp only [List.map_cons, PRs, PR] at hp
  obtain ⟨⟨u, h1, _, rfl⟩, h3⟩ := hp
  cases i with
  | zero =>
   simp only [List.getElem?_cons_zero, oiq] at h
   subst h
   exact h1
  | succ i =>
   have := cells_ints zs (off + 1) h3 i z (by simpa using h)
   rwa [show off + (i + 1) = off + 1 + i from by omega]
theorem tab_of {S : Nat → Prop} {P : Program} {w : World} {n : Nat} {name : String} {k : IntKind} {zs : List Int} (hn : P.globalNamed name = some n) (h1 : PRs S w n 0 (zs.map fun z => .val (.int k z))) (h2 : GB w n (zs.map fun z => PV.val (.int k z)).length) : Lib.TabIs P w name k zs := by
 obtain ⟨cs, t, fz, q, r⟩ := h2
 simp only [List.length_map] at r
 have e : cs = (zs.map fun z => Value.int k z).toArray := by
  apply Array.ext'
  apply List.ext_getElem?
  intro i
  rw [List.getElem?_map]
  by_cases hi : i < zs.length
  ·obtain ⟨z, hz⟩ : ∃ z, zs[i]? = some z := ⟨_, List.getElem?_eq_getElem hi⟩
   have := cells_ints zs 0 h1 i z hz
   simp only [World.cell?, q, Nat.zero_add] at this
   rw [hz, Array.getElem?_toList]
   simpa using this
  ·rw [List.getElem?_eq_none (by simpa using by omega), List.getElem?_eq_none (by omega)]
   rfl
 unfold Lib.TabIs World.var?
 rw [hn, bsm, q, e]
theorem below_grow {w : World} (k : Nat) (os : Array Obj) : Below w.heap.size w (grow (w.drewN k) os) :=
 ⟨rfl, rfl, rfl, by simp [grow, World.drewN], fun i hi => by show (w.heap ++ os)[i]? = _; rw [Array.getElem?_append_left hi]⟩
def dd : Nat → Nat → List UInt8
 | 0, _ => []
 | k + 1, u => match Nat.blt u 10 with
  | true => [UInt8.ofNat (48 + u)]
  | false => dd k (u / 10) ++ [UInt8.ofNat (48 + u % 10)]
theorem dd_eq : ∀ (k u : Nat), u < 10 ^ k → 0 < k → dd k u = Lib.decDigits u
 | 0, _, _, h => by omega
 | k + 1, u, h, _ => by
  rw [Lib.decDigits, dd]
  by_cases c : u < 10
  ·rw [dif_pos c, show Nat.blt u 10 = true from by simpa [Nat.blt_eq] using c]
  ·rw [dif_neg c, show Nat.blt u 10 = false from by simpa [Bool.eq_false_iff, Nat.blt_eq] using c]
   simp only
   rw [dd_eq k (u / 10) (by rw [Nat.pow_succ] at h; omega) (by
    rcases Nat.eq_zero_or_pos k with rfl | hk
    ·simp at h; omega
    ·exact hk)]
def itoaL (n : Int) : List UInt8 := match n with
 | .ofNat u => dd 20 u
 | .negSucc u => 45 :: dd 20 (u + 1)
theorem itoaL_eq {n : Int} (h0 : -9223372036854775808 ≤ n) (h1 : n ≤ 9223372036854775807) : itoaL n = Lib.itoa n := by
 unfold itoaL Lib.itoa
 cases n with
 | ofNat u =>
  rw [if_neg (by simp)]
  exact dd_eq 20 u (by simp at h1; omega) (by omega)
 | negSucc u =>
  rw [if_pos (by exact Int.negSucc_lt_zero u)]
  exact congrArg (List.cons 45) (dd_eq 20 (u + 1) (by omega) (by omega))
abbrev itoaB (n : Int) : ByteArray := ⟨(itoaL n).toArray⟩
def itoaA (args : List AV) (h : List AB) : Option (AV × List AB) :=
 match args, h with
 | [.p (.val (.int .i64 n))], [] => match decide (-9223372036854775808 ≤ n ∧ n ≤ 9223372036854775807) with
  | true => some (vs (itoaB n), [])
  | false => none
 | _, _ => none
theorem itoa_sound {P : Program} {C : IC → Code → Prop} {gl : Nat → Option (List PV)} {ρ : Ren} (L : LaysM.n171 P ρ) (h1 : ∃ fd : Func, P.funcs[ρ.f 171]? = some fd ∧ fd.body.isNone = false ∧ (fd.name == "runtime.NumGoroutine") = false)
  {k : Nat} (hk : P.globalNamed "internal/strconv.uint64pow10" = some k) (hg : gl k = some (Lib.pow10Tab.map fun z => .val (.int .u64 z))) {args : List AV} {h h' : List AB} {v : AV} (he : itoaA args h = some (v, h')) : CallR P C gl (ρ.f 171) args h v h' := by
 unfold itoaA at he
 split at he
 ·rename_i n
  split at he
  ·rename_i hk2
   obtain ⟨k0, k1⟩ := of_decide_eq_true hk2
   simp only [oiq, piq] at he
   obtain ⟨rfl, rfl⟩ := he
   refine callR_pureD h1 (fun g w vals hcr hgr hv => ?_)
   match vals, hv with
   | [a], hv =>
    simp only [VRs] at hv
    have e1 := val_of hv.1 rfl
    subst e1
    obtain ⟨_, g2, g3⟩ := hgr k _ hg
    refine (Any.strconv_Itoa L n k0 k1 w (tab_of hk g2 g3)).mono ?_
    rintro e w' ⟨rfl, m, os, rfl⟩
    refine ⟨_, rfl, below_grow m os, fun _ => Nat.le_add_right w.drawn m, fun g' w'' => ?_⟩
    simp only [VR, PR]
    rw [itoaB, itoaL_eq k0 k1]
   | [], hv => simp [VRs] at hv
   | _ :: _ :: _, hv => simp [VRs] at hv
  ·cases he
 ·cases he
def parseA (er : Bool) (args : List AV) (h : List AB) : Option (AV × List AB) :=
 match args, h with
 | [.p (.val (.string s)), .p (.val (.int .i64 10)), .p (.val (.int .i64 32))], [] => match decide (s.size ≤ 281474976710656) with
  | true => match Lib.parseIntB 32 s.data.toList, er with
   | .ok n, _ => some (.tup [vi .i64 n, .p (.val .nilIface)], [])
   | Lib.NumEnd.syntax, true => some (.tup [vi .i64 0, .anye], [])
   | .range, true => some (.tup [vi .i64 (Lib.intSat 32 s.data.toList), .anye], [])
   | _, false => none
  | false => none
 | _, _ => none
theorem parse_sound {P : Program} {gl : Nat → Option (List PV)} {ρ : Ren} (L : LaysC.n174 P ρ) (h1 : ∃ fd : Func, P.funcs[ρ.f 174]? = some fd ∧ fd.body.isNone = false ∧ (fd.name == "runtime.NumGoroutine") = false) (hnd : nd P = true)
  {er : Bool} (hE : er = true → ∃ tp p tq q, gl (ρ.g 15) = some [.val (.iface tp p)] ∧ gl (ρ.g 16) = some [.val (.iface tq q)]) {args : List AV} {h h' : List AB} {v : AV} (he : parseA er args h = some (v, h')) : CallR P (Good P) gl (ρ.f 174) args h v h' := by
 unfold parseA at he
 split at he
 ·rename_i s
  split at he
  ·rename_i hs
   have hs := of_decide_eq_true hs
   split at he
   ·rename_i n hp
    simp only [oiq, piq] at he
    obtain ⟨rfl, rfl⟩ := he
    refine callR_pureD h1 (fun g w vals hcr hgr hv => ?_)
    match vals, hv with
    | [a, b, c], hv =>
     simp only [VRs] at hv
     have e1 := val_of hv.1 rfl
     have e2 := val_of hv.2.1 rfl
     have e3 := val_of hv.2.2.1 rfl
     subst e1; subst e2; subst e3
     refine (Any.strconv_ParseInt_10_at32_ok L s (by omega) n hp w).mono ?_
     rintro e w' ⟨rfl, hw⟩
     refine ⟨_, rfl, ?_, fun q => absurd q (good_n hnd), fun g' w'' => ?_⟩
     ·rcases hw with rfl | ⟨t, rfl⟩
      ·exact Below.refl _ _
      ·exact Lib.bytesWorld_below _ _ _
     ·simp only [VR]
      exact ⟨_, rfl, by simp [VRs, VR, PR]⟩
    | [], hv => simp [VRs] at hv
    | [_], hv => simp [VRs] at hv
    | [_, _], hv => simp [VRs] at hv
    | _ :: _ :: _ :: _ :: _, hv => simp [VRs] at hv
   ·rename_i hp
    simp only [oiq, piq] at he
    obtain ⟨rfl, rfl⟩ := he
    obtain ⟨tp, p, tq, q, hg1, hg2⟩ := hE rfl
    refine callR_pureD h1 (fun g w vals hcr hgr hv => ?_)
    match vals, hv with
    | [a, b, c], hv =>
     simp only [VRs] at hv
     have e1 := val_of hv.1 rfl
     have e2 := val_of hv.2.1 rfl
     have e3 := val_of hv.2.2.1 rfl
     subst e1; subst e2; subst e3
     obtain ⟨_, g2, _⟩ := hgr _ _ hg1
     simp only [PRs, PR, and_true] at g2
     obtain ⟨u, g2, _, rfl⟩ := g2
     refine (Any.strconv_ParseInt_10_at32_syntax L s hs hp _ w g2 (.inr ⟨_, _, rfl⟩)).mono ?_
     rintro e w' ⟨N, rfl, _, _, hb⟩
     refine ⟨_, rfl, hb, fun q => absurd q (good_n hnd), fun g' w'' => ?_⟩
     simp only [VR]
     exact ⟨_, rfl, by simp [VRs, VR, PR]⟩
    | [], hv => simp [VRs] at hv
    | [_], hv => simp [VRs] at hv
    | [_, _], hv => simp [VRs] at hv
    | _ :: _ :: _ :: _ :: _, hv => simp [VRs] at hv
   ·rename_i hp
    simp only [oiq, piq] at he
    obtain ⟨rfl, rfl⟩ := he
    obtain ⟨tp, p, tq, q, hg1, hg2⟩ := hE rfl
    refine callR_pureD h1 (fun g w vals hcr hgr hv => ?_)
    match vals, hv with
    | [a, b, c], hv =>
     simp only [VRs] at hv
     have e1 := val_of hv.1 rfl
     have e2 := val_of hv.2.1 rfl
     have e3 := val_of hv.2.2.1 rfl
     subst e1; subst e2; subst e3
     obtain ⟨_, g2, _⟩ := hgr _ _ hg2
     simp only [PRs, PR, and_true] at g2
     obtain ⟨u, g2, _, rfl⟩ := g2
     refine (Any.strconv_ParseInt_10_at32_range L s hs hp _ w g2 (.inr ⟨_, _, rfl⟩)).mono ?_
     rintro e w' ⟨N, rfl, _, _, hb⟩
     refine ⟨_, rfl, hb, fun q => absurd q (good_n hnd), fun g' w'' => ?_⟩
     simp only [VR]
     exact ⟨_, rfl, by simp [VRs, VR, PR]⟩
    | [], hv => simp [VRs] at hv
    | [_], hv => simp [VRs] at hv
    | [_, _], hv => simp [VRs] at hv
    | _ :: _ :: _ :: _ :: _, hv => simp [VRs] at hv
   ·cases he
  ·cases he
 ·cases he
open Go Go.RowKit
section
variable {g : G} {h : List AB} {w : World}
theorem extRow (o : Option (Nat × Nat)) : Ext g w (gRow g o) w :=
 ⟨fun _ h => h, fun _ h => h, fun _ _ => rfl, Nat.le_succ _, fun b hb => ⟨Nat.lt_succ_of_lt hb.1, hb.2⟩, fun _ _ => rfl, fun b hb => by
  show g.gen b ≤ if b = g.N then 0 else g.gen b
  rw [if_neg (by have := hb.1; omega)]
  exact Nat.le_refl _, fun b hb k _ => by
  show (if b = g.N then fun _ => o else g.hd b) k = _
  rw [if_neg (by have := hb.1; omega)], Nat.le_refl _, rfl, rfl, rfl, fun _ h => .inl h, rfl, fun _ => Nat.le_refl _⟩
theorem HR.take (hr : HR g h w) {t : TypeId} {size : Nat} {rows : List (List AV)} {o : Option (Nat × Nat)} (hlen : ∀ r ∈ rows, r.length = size) (hrow : RowR g w t size rows o)
  (ho : ∀ c cap, o = some (c, cap) → ¬ g.Pr c ∧ ∀ b x, h[b]? = some x → cid g b x ≠ some c) : HR (gRow g o) (h ++ [.row t size 0 rows]) w := by
 have he := extRow (g := g) (w := w) o
 have hget : ∀ b y, (h ++ [AB.row t size 0 rows])[b]? = some y → (b < g.N ∧ h[b]? = some y) ∨ (b = g.N ∧ y = .row t size 0 rows) := by
  intro b y hb
  rw [List.getElem?_append, ← hr.n] at hb
  split at hb
  ·rename_i hl; exact .inl ⟨hl, hb⟩
  ·rename_i hl
   right
   have h1 := (gei.1 hb).1
   have e : b = g.N := by simp at h1; omega
   subst e
   simp at hb
   exact ⟨rfl, hb.symm⟩
 have hcid : ∀ b y, b < g.N → cid (gRow g o) b y = cid g b y := by
  intro b y hb
  cases y <;> simp only [cid, gRow]
  rw [if_neg (by omega)]
 have hcn : ∀ c, cid (gRow g o) g.N (.row t size 0 rows) = some c → ∃ cap, o = some (c, cap) := by
  intro c hc
  simp only [cid, gRow, if_pos] at hc
  cases o with
  | none => cases hc
  | some p => obtain ⟨c', cap⟩ := p; simp only [Option.map_some, oiq] at hc; exact ⟨cap, by rw [hc]⟩
 refine ⟨by show g.N + 1 = _; rw [hr.n]; simp, ?_, ?_, ?_, hr.spr, hr.prs, ?_⟩
 ·intro b y hb
  rcases hget b y hb with ⟨h1, h2⟩ | ⟨rfl, rfl⟩
  ·refine BR_mono hr he h2 ?_ (fun _ _ => rfl)
   show (if b = g.N then 0 else g.gen b) = _
   rw [if_neg (by omega)]
  ·simp only [BR]
   refine ⟨by simp [gRow], hlen, ?_⟩
   have : (gRow g o).hd g.N 0 = o := by simp [gRow]
   rw [this]
   cases o with
   | none => exact hrow
   | some p =>
    obtain ⟨c, cap⟩ := p
    simp only [RowR] at hrow ⊢
    obtain ⟨cs, fz, k1, k2, k3, k4, k5, k6⟩ := hrow
    exact ⟨cs, fz, k1, k2, k3, k4, k5, VRc_mono he hr.spr k6⟩
 ·intro b b' y y' c h1 h2 h3 h4
  rcases hget b y h1 with ⟨q1, q2⟩ | ⟨rfl, rfl⟩ <;> rcases hget b' y' h2 with ⟨q3, q4⟩ | ⟨rfl, rfl⟩
  ·rw [hcid _ _ q1] at h3
   rw [hcid _ _ q3] at h4
   exact hr.dis b b' y y' c q2 q4 h3 h4
  ·rw [hcid _ _ q1] at h3
   obtain ⟨cap, rfl⟩ := hcn c h4
   exact absurd h3 ((ho c cap rfl).2 b y q2)
  ·rw [hcid _ _ q3] at h4
   obtain ⟨cap, rfl⟩ := hcn c h3
   exact absurd h4 ((ho c cap rfl).2 b' y' q4)
  ·rfl
 ·intro b y c h1 h3
  rcases hget b y h1 with ⟨q1, q2⟩ | ⟨rfl, rfl⟩
  ·rw [hcid _ _ q1] at h3
   exact hr.own b y c q2 h3
  ·obtain ⟨cap, rfl⟩ := hcn c h3
   exact (ho c cap rfl).1
 ·intro b
  show g.Ho b ↔ _
  rw [hr.ho b]
  constructor
  ·intro hb
   rw [gal (gei.1 hb).1]
   exact hb
  ·intro hb
   rcases hget b _ hb with ⟨_, h2⟩ | ⟨_, h2⟩
   ·exact h2
   ·cases h2
theorem HR.drop {hs : List AB} (hr : HR g (h ++ hs) w) (hb : ∀ x ∈ h, x.blw h.length = true) : HR (g.cut h.length) h w := by
 have hget : ∀ {b : Nat} {x : AB}, h[b]? = some x → (h ++ hs)[b]? = some x := fun {b x} hx => by rw [gal (gei.1 hx).1]; exact hx
 refine ⟨rfl, fun b x hx => BR_trim (hb x (List.mem_of_getElem? hx)) (hr.br b x (hget hx)), ?_, ?_, hr.spr, hr.prs, ?_⟩
 ·intro b b' x x' c h1 h2 h3 h4
  exact hr.dis b b' x x' c (hget h1) (hget h2) (by cases x <;> exact h3) (by cases x' <;> exact h4)
 ·intro b x c h1 h2
  exact hr.own b x c (hget h1) (by cases x <;> exact h2)
 ·intro b
  show g.Ho b ∧ b < h.length ↔ _
  rw [hr.ho b]
  constructor
  ·rintro ⟨h1, h2⟩
   rwa [gal h2] at h1
  ·intro h1
   exact ⟨hget h1, (gei.1 h1).1⟩
end
section
variable {g : G} {w : World} {c : Nat} {cs : Array Value} {t : TypeId} {fz : Nat × Nat}
end
def _root_.Go.Exit.jumpS (c : Code) (J : Nat → Act → World → Prop) (Q : Exit → Act → World → Prop) : Exit → Act → World → Prop
 | .goto l, a, w => if (findLabel c l).isSome then J l a w else Q (.goto l) a w
 | e, a, w => Q e a w
def JRs (F : Fence) (P : Program) (c : Code) (Q : Exit → Act → World → Prop) : Nat → Nat → Act → World → Prop
 | 0, _, _, _ => False
 | m + 1, l, a, w => ∃ rest, findLabel c l = some (.seq .skip rest) ∧ rest.wpIn F 0 P (Exit.jumpS c (JRs F P c Q m) Q) a w
section
variable {P : Program}
theorem wpIn_scope_labs {F : Fence} {c : Code} {Q : Exit → Act → World → Prop} {a : Act} {w : World} {m : Nat} (h : c.wpIn F 0 P (Exit.jumpS c (JRs F P c Q m) Q) a w) : (Code.scope c).wpIn F 0 P Q a w := by
 intro b k cs hro hb hr
 have h0 : (lone (b.atR a (.code (.scope c) :: k)) cs w).fenced P F := fenced_calm hb hr rfl
 have hg : ∀ l rest, findLabel c l = some (.seq .skip rest) → gotoIn l (.inScope c :: k) = some (.code (.seq .skip rest) :: .inScope c :: k) := fun l rest hf => by simp [gotoIn, hf]
 have hx : ∀ id, exitTo id (.inScope c :: k) = exitTo id k := fun id => by simp [exitTo]
 have hgo : ∀ l', findLabel c l' = none → gotoIn l' (.inScope c :: k) = gotoIn l' k := fun l' hl => by simp [gotoIn, hl]
 have fin : ∀ (m₀ : Machine) (e : Exit) (a₁ : Act) (w₁ : World), (∀ l', e = .goto l' → findLabel c l' = none) → ArrivesIn (Machine.fenced P F) P m₀ b (.inScope c :: k) cs e a₁ w₁ → ArrivesIn (Machine.fenced P F) P m₀ b k cs e a₁ w₁ := by
  intro m₀ e a₁ w₁ hl harr
  cases e with
  | normal => exact StepsIn.trans harr (.one (fenced_calm hb hr rfl) stepR_inScope)
  | exit id' => exact ⟨fun k' hk => harr.1 k' (by rw [hx]; exact hk), fun hr' hk => harr.2 hr' (by rw [hx]; exact hk)⟩
  | goto l' => exact ⟨fun k' hk => harr.1 k' (by rw [hgo l' (hl l' rfl)]; exact hk), fun hr' hk => harr.2 hr' (by rw [hgo l' (hl l' rfl)]; exact hk)⟩
  | ret => exact harr
  | panic ch => exact harr
  | outgrown => exact harr
 have key : ∀ m l a w, JRs F P c Q m l a w → ∃ e a' w', Q e a' w' ∧ ∃ rest, findLabel c l = some (.seq .skip rest) ∧ ArrivesIn (Machine.fenced P F) P (lone (b.atR a (.code (.seq .skip rest) :: .inScope c :: k)) cs w) b k cs e a' w' := by
  intro m
  induction m with
  | zero => intro l a w hj; exact hj.elim
  | succ m ih =>
   intro l a w hj
   obtain ⟨rest, hf, hj⟩ := hj
   have h2 : (Code.seq .skip rest).wpIn F 0 P (Exit.jumpS c (JRs F P c Q m) Q) a w := wpIn_seq (wpIn_skip hj)
   obtain ⟨e, a₁, w₁, hq, harr⟩ := h2 b (.inScope c :: k) cs hro hb hr
   cases e with
   | goto l' =>
    simp only [Exit.jumpS] at hq
    split at hq
    ·obtain ⟨e₂, a₂, w₂, hq₂, rest₂, hf₂, harr₂⟩ := ih l' a₁ w₁ hq
     exact ⟨e₂, a₂, w₂, hq₂, rest, hf, .of_steps (harr.1 _ (hg l' rest₂ hf₂)) harr₂⟩
    ·rename_i hl
     exact ⟨_, a₁, w₁, hq, rest, hf, fin _ _ _ _ (fun l'' e => by cases e; simpa using hl) harr⟩
   | normal => exact ⟨_, a₁, w₁, hq, rest, hf, fin _ _ _ _ (fun _ e => by cases e) harr⟩
   | exit id => exact ⟨_, a₁, w₁, hq, rest, hf, fin _ _ _ _ (fun _ e => by cases e) harr⟩
   | ret => exact ⟨_, a₁, w₁, hq, rest, hf, fin _ _ _ _ (fun _ e => by cases e) harr⟩
   | panic ch => exact ⟨_, a₁, w₁, hq, rest, hf, fin _ _ _ _ (fun _ e => by cases e) harr⟩
   | outgrown => exact ⟨_, a₁, w₁, hq, rest, hf, fin _ _ _ _ (fun _ e => by cases e) harr⟩
 obtain ⟨e, a₁, w₁, hq, harr⟩ := h b (.inScope c :: k) cs hro hb hr
 cases e with
 | goto l' =>
  simp only [Exit.jumpS] at hq
  split at hq
  ·obtain ⟨e₂, a₂, w₂, hq₂, rest₂, hf₂, harr₂⟩ := key m l' a₁ w₁ hq
   exact ⟨e₂, a₂, w₂, hq₂, .of_steps (.head h0 stepR_scope (harr.1 _ (hg l' rest₂ hf₂))) harr₂⟩
  ·rename_i hl
   exact ⟨_, a₁, w₁, hq, .of_steps (.one h0 stepR_scope) (fin _ _ _ _ (fun l'' e => by cases e; simpa using hl) harr)⟩
 | normal => exact ⟨_, a₁, w₁, hq, .of_steps (.one h0 stepR_scope) (fin _ _ _ _ (fun _ e => by cases e) harr)⟩
 | exit id => exact ⟨_, a₁, w₁, hq, .of_steps (.one h0 stepR_scope) (fin _ _ _ _ (fun _ e => by cases e) harr)⟩
 | ret => exact ⟨_, a₁, w₁, hq, .of_steps (.one h0 stepR_scope) (fin _ _ _ _ (fun _ e => by cases e) harr)⟩
 | panic ch => exact ⟨_, a₁, w₁, hq, .of_steps (.one h0 stepR_scope) (fin _ _ _ _ (fun _ e => by cases e) harr)⟩
 | outgrown => exact ⟨_, a₁, w₁, hq, .of_steps (.one h0 stepR_scope) (fin _ _ _ _ (fun _ e => by cases e) harr)⟩
end
theorem leavesM_mono {F : Fence} {n : Nat} {P : Program} {fd : Func} {tmps : Array Value} {R R' : Ending → World → Prop} (h : ∀ e w, R e w → R' e w) : ∀ (ds : List Deferred) (u : FrameMode) (w : World), LeavesInM F n P fd tmps R ds u w → LeavesInM F n P fd tmps R' ds u w
 | [], u, w, hl => by
  cases u with
  | run => exact hl.elim
  | returning => obtain ⟨v, h1, h2⟩ := hl; exact ⟨v, h1, h _ _ h2⟩
  | panicking ch => exact h _ _ hl
 | d :: ds, u, w, hl => by
  obtain ⟨h1, h2⟩ := hl
  refine ⟨h1, ?_⟩
  rcases h2 with ⟨r, w', k1, k2, k3⟩ | ⟨k1, fv, cap, f, args, k2, k3, k4, k5⟩
  ·exact .inl ⟨r, w', k1, k2, leavesM_mono h ds u w' k3⟩
  ·refine .inr ⟨k1, fv, cap, f, args, k2, k3, k4, k5.mono ?_⟩
   intro e u' w' hr
   cases e with
   | returned v => exact leavesM_mono h ds _ w' hr
   | panicked ch => exact leavesM_mono h ds _ w' hr
   | outgrown => exact h _ _ hr
def insD (k : Nat) (D : Deferred) (l : List Deferred) : List Deferred := l.take (l.length - k) ++ D :: l.drop (l.length - k)
theorem insD_cons {k : Nat} {D d : Deferred} {l : List Deferred} (h : k ≤ l.length) : insD k D (d :: l) = d :: insD k D l := by
 simp only [insD, List.length_cons, show l.length + 1 - k = (l.length - k) + 1 by omega, List.take_succ_cons, List.drop_succ_cons, List.cons_append]
def _root_.Go.Act.ins (a : Act) (k : Nat) (D : Deferred) : Act := { a with defers := insD k D a.defers }
theorem ins_put {a : Act} {k : Nat} {D : Deferred} {d : Option Nat} {x : Value} : (a.put d x).ins k D = (a.ins k D).put d x := by cases d <;> rfl
theorem put_defers {a : Act} {d : Option Nat} {x : Value} : (a.put d x).defers = a.defers := by cases d <;> rfl
section
variable {F : Fence} {n : Nat} {P : Program} {ops : Array Oper}
theorem wpOps_ins {k : Nat} {D : Deferred} {Q Q' : Exit → Act → World → Prop} (hQ : ∀ e a w, k ≤ a.defers.length → Q e a w → Q' e (a.ins k D) w) (hL : LetsOut Q → LetsOut Q') : ∀ (l : List Nat) (a : Act) (w : World), k ≤ a.defers.length → wpOpsIn F n P ops Q l a w → wpOpsIn F n P ops Q' l (a.ins k D) w
 | [], a, w, hk, h => hQ .normal a w hk h
 | i :: rest, a, w, hk, h => by
  simp only [wpOpsIn] at h ⊢
  cases ho : ops[i]? with
  | none => rw [ho] at h; exact wpOps_ins hQ hL rest a w hk h
  | some o =>
   rw [ho] at h
   simp only at h ⊢
   have ht : (a.ins k D).tmps = a.tmps := rfl
   rw [ht]
   by_cases hw : Region.wanted o (yielded ops a.tmps) = true
   ·rw [if_pos hw] at h ⊢
    obtain ⟨h1, h2⟩ := h
    have hev : (a.ins k D).eval = a.eval := rfl
    refine ⟨by rw [hev]; exact h1, ?_⟩
    rw [hev]
    generalize (o.semAt F.round a.eval).run P w = r at h2
    have hput : ∀ (x : Value) (w' : World), wpOpsIn F n P ops Q rest (a.put o.dst x) w' → wpOpsIn F n P ops Q' rest ((a.ins k D).put o.dst x) w' := fun x w' h => by
     rw [← ins_put]
     exact wpOps_ins hQ hL rest _ w' (by rw [put_defers]; exact hk) h
    cases r with
    | halt x w' => cases x <;> first | exact h2 | exact hQ _ a w' hk h2
    | ok nx w' =>
     cases nx with
     | value v => exact hput v w' h2
     | skip => exact hput undef w' h2
     | defer d =>
      show wpOpsIn F n P ops Q' rest (Act.put { (a.ins k D) with defers := d :: (a.ins k D).defers } o.dst undef) w'
      have : ({ (a.ins k D) with defers := d :: (a.ins k D).defers } : Act) = ({ a with defers := d :: a.defers } : Act).ins k D := by
       simp only [Act.ins, insD_cons hk]
      rw [this, ← ins_put]
      exact wpOps_ins hQ hL rest _ w' (by rw [put_defers]; simp only [List.length_cons]; omega) h2
     | enter f args =>
      refine ⟨h2.1, h2.2.mono ?_⟩
      intro e w2 hr
      cases e with
      | returned v => exact hput v w2 hr
      | panicked ch => exact hQ _ a w2 hk hr
      | outgrown => exact hL hr
     | row r args => exact ⟨h2.1, h2.2.mono (fun v w2 hr => hput v w2 hr)⟩
     | round l f tmps ass body =>
      refine ⟨h2.1, h2.2.mono ?_⟩
      intro e w2 hr
      cases e with
      | returned v => exact hput v w2 hr
      | panicked ch => exact hQ _ a w2 hk hr
      | outgrown => exact hL hr
     | _ => exact h2
   ·rw [if_neg hw] at h ⊢
    refine ⟨h.1, ?_⟩
    rw [← ins_put]
    exact wpOps_ins hQ hL rest _ w (by rw [put_defers]; exact hk) h.2
end
theorem okF_app {m : Nat} {args : List AV} {h x : List AB} {r : AV × List AB} (hk : okF m args h r = true) : okF m args (h ++ x) r = true ∧ m ≤ h.length ∧ m ≤ r.2.length := by
 unfold okF at hk ⊢
 simp only [Bool.and_eq_true, Nat.ble_eq] at hk ⊢
 refine ⟨⟨by rw [List.length_append]; omega, hk.2.1, ?_, hk.2.2.2.1, hk.2.2.2.2.1, hk.2.2.2.2.2⟩, hk.1, hk.2.2.2.2.1⟩
 rw [List.take_append_of_le_length hk.1]
 exact hk.2.2.1
theorem cs_frame {p : Prg} {fn : Nat} {F : IFun} {args : List AV} {h h1 : List AB} {v : AV} (hF : p.fn fn = some F) (hf : p.fr fn = true) (hc : CS p fn args h = some (v, h1)) (x : List AB) : CS p fn args (h ++ x) = some (v, h1 ++ x) ∧ h1.length = h.length := by
 unfold CS callS at hc ⊢
 simp only [hF, hf] at hc ⊢
 obtain ⟨r, e1, e2⟩ := Option.bind_eq_some_iff.1 hc
 unfold frmR at e2
 split at e2
 ·rename_i hk
  obtain ⟨k1, k2, k3⟩ := okF_app (x := x) hk
  simp only [oiq, piq] at e2
  obtain ⟨rfl, rfl⟩ := e2
  rw [List.take_append_of_le_length k2, e1, bsm]
  unfold frmR
  rw [if_pos k1]
  refine ⟨?_, ?_⟩
  ·rw [List.drop_append_of_le_length k2, List.append_assoc]
  ·rw [List.length_append, List.length_take, List.length_drop]; omega
 ·cases e2
theorem sound_all {P : Program} {p : Prg} (hp : PrgOk P p) (n : Nat) : Sound P (Good P) (envOf p (evalN p n)) :=
 ⟨fun fn args h v hc => callP_sound_all hp hc, fun fn args h v h' hc => call_sound_all hp hc, fun b args h v h' hc => callY_sound (eval_sound hp n).1 hc⟩
theorem region_ins {P : Program} {p : Prg} (hp : PrgOk P p) {shf : Operand → Bool} {id : Nat} {ops : Array Oper} {is : List IOp} {s s1 : St} {rd : Option Nat} {en : Nat} {g : G} {a : Act} {w : World} {k : Nat} {D : Deferred} {Q : Exit → Act → World → Prop} (hc : compOps P shf ops ops.toList = some is) (h1 : run (envOf p (ev p)) (ev p) (.ops is) s = some (.norm, s1))
  (hs : SR P (Good P) p.gl en s g a w) (hk : k ≤ a.defers.length) (hQ : ∀ a' w' g', k ≤ a'.defers.length → Ext g w g' w' → SR P (Good P) p.gl en s1 g' a' w' → Q .normal (a'.ins k D) w') : (Code.region id ops false).wpIn (FW rd) 0 P Q (a.ins k D) w := by
 simp only [run, Option.map_eq_some_iff, piq, true_and, exists_eq_right] at h1
 obtain ⟨n, hn⟩ := runOps_cont is s s1 h1
 refine wpIn_region ?_
 have := ops_sound (rd := rd) (ops := ops) (shf := shf) (sound_all hp n) (Q := fun e a' w' => e = .normal ∧ ∃ g', Ext g w g' w' ∧ SR P (Good P) p.gl en s1 g' a' w') ops.toList is 0 s s1 g a w (by simp) hc hn hs (fun a' w' g' e1 e2 => ⟨rfl, g', e1, e2⟩)
 rw [List.range_eq_range']
 have this : wpOpsIn (FW rd) 0 P ops (fun e a' w' => e = .normal ∧ ∃ g', Ext g w g' w' ∧ SR P (Good P) p.gl en s1 g' a' w') (List.range' 0 ops.size) a w := by simpa using this
 refine wpOps_ins (fun e a' w' hk' hq => ?_) (fun hl => ?_) _ a w hk this
 ·obtain ⟨rfl, g', e1, e2⟩ := hq
  exact hQ a' w' g' hk' e1 e2
 ·obtain ⟨_, _, e, _⟩ := hl
  cases e
theorem marks_pre {P : Program} {gl : Nat → Option (List PV)} {fd : Func} {tmps : Array Value} {R : Ending → World → Prop} {g : G} {w : World} {en : Nat} (hen : ∀ c, g.Pr c → c < en) {s : St} {rest bs : List Deferred}
  (hfin : ∀ (g2 : G) (w2 : World) (a : Act), a.tmps = tmps → Ext g w g2 w2 → Ctx P gl a s.f g2 s.h w2 → (∀ d ∈ bs, MarkR en g2 w2 d) → LeavesInM (FW none) 0 P fd tmps R rest .returning w2) :
  ∀ (ds : List Deferred) (g' : G) (w' : World) (a : Act), a.tmps = tmps → Ext g w g' w' → Ctx P gl a s.f g' s.h w' → (∀ d ∈ ds ++ bs, MarkR en g' w' d) → (ds ++ bs).Nodup →
   LeavesInM (FW none) 0 P fd tmps R (ds ++ rest) .returning w'
 | [], g', w', a, ha, he, hx, hm, _ => hfin g' w' a ha he hx hm
 | d :: ds, g', w', a, ha, he, hx, hm, hn => by
  obtain ⟨D, rfl, m1, m2, m3, m4⟩ := hm d (by simp)
  refine ⟨by simp, .inl ⟨D, w'.putObj D (.deferred none), rfl, run_takeDeferred m4, ?_⟩⟩
  have hh := hx.hr
  have hold : ∀ c, c ≠ D → (w'.putObj D (.deferred none)).heap[c]? = w'.heap[c]? := fun c hc => World.putObj_heap_other hc
  have hr1 : HR { g' with Pr := fun c => g'.Pr c ∧ c ≠ D } s.h w' :=
   ⟨hh.n, fun b x hb => BR_pr (hh.br b x hb), hh.dis, fun b x c h1 h2 h3 => hh.own b x c h1 h2 h3.1, fun c hS => ⟨hh.spr c hS, fun e => m3 (e ▸ hS)⟩, fun c h => hh.prs c h.1, hh.ho⟩
  have e1 : Ext { g' with Pr := fun c => g'.Pr c ∧ c ≠ D } w' { g' with Pr := fun c => g'.Pr c ∧ c ≠ D } (w'.putObj D (.deferred none)) :=
   ⟨fun _ h => h, fun _ h => h, fun c hc => hold c hc.2, Nat.le_refl _, fun _ h => h, fun _ _ => rfl, fun _ _ => Nat.le_refl _, fun _ _ _ _ => rfl, by simp, rfl, rfl, rfl, fun _ h => .inl h, rfl, fun _ => Nat.le_refl _⟩
  have hr2 : HR { g' with Pr := fun c => g'.Pr c ∧ c ≠ D } s.h (w'.putObj D (.deferred none)) :=
   ⟨hr1.n, fun b x hb => BR_mono hr1 e1 hb rfl (fun c hc => hold c (fun e => hh.own b x c hb (by cases x <;> exact hc) (e ▸ m2))), hr1.dis, hr1.own, hr1.spr, fun c hc => by have := hr1.prs c hc; simpa using this, hr1.ho⟩
  have hf1 : VRs { g' with Pr := fun c => g'.Pr c ∧ c ≠ D } w' s.f a.tmps.toList := VRs_pr _ _ hx.fr
  refine marks_pre hen hfin ds { g' with Pr := fun c => g'.Pr c ∧ c ≠ D } _ a ha ?_ ⟨GR_mono e1 hr1.spr hx.gr, hr2, VRs_mono e1 hr1.spr _ _ hf1⟩ ?_ (List.nodup_cons.1 hn).2
  ·exact ⟨he.S, fun c hc => ⟨he.Pr c hc, fun e => by have := hen c hc; omega⟩, fun c hc => (hold c (fun e => by have := hen c hc; omega)).trans (he.pr c hc), he.N, he.D, he.m, he.gen, he.hd, by simpa using he.size, he.os, he.tape, he.output, he.Sn, he.cr, he.drawn⟩
  ·intro d' hd'
   obtain ⟨D', rfl, n1, n2, n3, n4⟩ := hm d' (by simp only [List.cons_append]; exact List.mem_cons_of_mem _ hd')
   have hne : D' ≠ D := fun e => by subst e; exact (List.nodup_cons.1 hn).1 hd'
   exact ⟨D', rfl, n1, ⟨n2, hne⟩, n3, (hold D' hne).trans n4⟩
variable {α : Type} {e : α → List PV}
theorem pvs_p : ∀ (xs : List PV), pvs (xs.map .p) = some xs
 | [] => rfl
 | x :: xs => by simp only [List.map_cons, pvs, pvs_p xs, Option.map_some]
theorem pvr_p : ∀ (rows : List (List PV)), pvr (rows.map (·.map .p)) = some rows
 | [] => rfl
 | r :: rs => by simp only [List.map_cons, pvr, pvs_p, pvr_p rs, bsm, Option.map_some]
theorem ra_map (xs : List α) : ra e xs = (xs.map e).map (·.map .p) := by simp [ra]
theorem ap_sent {h : List AB} {b t s g len bytes : Nat} {xs : List α} {cs : List AV} {y : AV} (hb : h[b]? = some (.row t s g (ra e xs))) (hy : rowsOf h s y = some [cs]) (ho : apOk len 1 xs.length bytes = true) (hl : decide (xs.length = len) = true) :
  appA h t s bytes (.sl b g s 0 len) y = some (.sl b (g + 1) s 0 (len + 1), h.set b (.row t s (g + 1) (ra e xs ++ [cs]))) := by
 have ho := of_decide_eq_true ho
 have hl := of_decide_eq_true hl
 simp only [appA, hy, bsm, appendA, hb]
 rw [if_pos ⟨trivial, trivial⟩, if_pos ⟨trivial, trivial, trivial, by simpa [ra] using ho.1, by simpa [ra] using ho.2.1, by simpa [ra] using ho.2.2⟩, if_neg (by simp [ra]; omega)]
 simp only [List.length_singleton]
 congr 4
 rw [List.take_of_length_le (by simp [ra]; omega)]
theorem sl_sent {h : List AB} {b t s g len : Nat} {xs : List α} {cs : List AV} {r : Int} (hb : h[b]? = some (.row t s g (ra e xs ++ [cs]))) (hr : slOk r len (xs.length + 1) = true) : slA h s (.sl b g s 0 len) (some 0) (some r) = some (.sl b g s 0 (Int.toNat r)) := by
 have hr := of_decide_eq_true hr
 simp only [slA, if_true, bsm, hb]
 rw [if_pos ⟨trivial, Int.le_refl 0, hr.1, .inr ⟨by simp [ra]; omega, by simp [ra]; omega⟩⟩]
 simp
theorem frzS_sp {i k b b2 t t2 s g n : Nat} {xs : List α} {ms : List PV} {cs : List AV} {f : List AV} {h h' : List AB} (hf : getT f i = .ptr b 0) (hb : h[b]? = some (.cells t cs)) (hc : getT cs k = .sl b2 g s 0 n)
  (h2 : h[b2]? = some (.row t2 s g (ra e xs ++ [ms.map .p]))) (hn : decide (n = xs.length) = true) (hh : (h.set b2 .dead).set b (.cells t (cs.set k (.p (.lsx s (xs.map e) [ms])))) = h') (hz : cs[95]? = none := by rfl) : frzS [] [] [(i, 95, k, 0)] ⟨f, h⟩ = ⟨f, h'⟩ := by
 have hn := of_decide_eq_true hn
 subst hn
 have hs : selF ((rowss (List.map (getT f) []) ++ ((List.map (getT f) []).flatMap ptrB).flatMap (cellB h)) ++ [(i, 95, k, 0)].flatMap (deepQ f h)) h = some h := selG_nil h 0
 have hg : growC f [(i, 95, k, 0)] h = h := by
  simp only [growC, hf, hb, hz]
 have hm : spareF i k ⟨f, h⟩ = ⟨f, h'⟩ := by
  have hp : pvr (ra e xs ++ [ms.map .p]) = some (xs.map e ++ [ms]) := by
   have := pvr_p (xs.map e ++ [ms])
   rwa [List.map_append, ← ra_map] at this
  simp only [spareF, hf, hb, hc, h2, hp]
  rw [if_pos ⟨trivial, trivial, by simp [ra]⟩, ← hh]
  have e1 : (xs.map e ++ [ms]).take xs.length = xs.map e := by rw [← List.length_map (f := e), List.take_left]
  have e2 : (xs.map e ++ [ms]).drop xs.length = [ms] := by rw [← List.length_map (f := e), List.drop_left]
  rw [e1, e2]
 unfold frzS
 simp only [hs]
 simp only [List.map_nil, List.flatMap_nil, frzC, nilC, frzF_nil, hg]
 show growF [] (spareF i k ⟨f, h⟩) = _
 rw [hm]
 rfl
theorem slX_one {s : Nat} {rows : List (List PV)} {ms : List PV} {r : Int} {n : Nat} (hl : rows.length = n) (hr : decide (0 ≤ r ∧ r ≤ (n : Int) + 1) = true) : slXA s (.p (.lsx s rows [ms])) (some 0) (some r) = some (.p (.lst s ((rows ++ [ms]).take r.toNat))) := by
 have hr := of_decide_eq_true hr
 subst hl
 simp only [slXA, if_true, bsm, List.length_singleton]
 rw [if_pos ⟨Int.le_refl 0, hr.1, by simpa using hr.2⟩]
 simp
theorem idX_one {s : Nat} {rows : List (List PV)} {ms : List PV} {r i : Int} {k : IntKind} {n : Nat} (hl : rows.length = n) (hr : decide (r = (n : Int) + 1 ∧ i = (n : Int)) = true) : idxA s (.p (.lst s ((rows ++ [ms]).take r.toNat))) (vi k i) = some (.ro ms) := by
 obtain ⟨hr, hi⟩ := of_decide_eq_true hr
 subst hl
 subst hr hi
 simp only [idxA, idx, bsm]
 rw [if_pos ⟨trivial, by omega⟩, Int.toNat_natCast, List.getElem?_take, if_pos (by omega), List.getElem?_append_right (Nat.le_refl _), Nat.sub_self]
 rfl
def Rd (h : List AB) (xs ys : List AV) : Prop := ∀ (g g' : G) (w : World) (vals : List Value), HR g h w → (∀ c, g.S c → g'.S c) → (∀ c, c < w.heap.size → ¬ g.Pr c → g'.S c) → VRs g w xs vals → VRs g' w ys vals
theorem sx_rel {g g' : G} {h : List AB} {w : World} (hr : HR g h w) (hS : ∀ c, g.S c → g'.S c) (hO : ∀ c, c < w.heap.size → ¬ g.Pr c → g'.S c) {b ge s n t : Nat} {rows : List (List AV)} {ys : List (List PV)} (hb : h[b]? = some (.row t s ge rows)) (hp : pvr rows = some ys) (hl : n < rows.length) {v : Value}
  (hv : VR g w (.sl b ge s 0 n) v) : VR g' w (.p (.lsx s (ys.take n) (ys.drop n))) v := by
 have hbr := hr.br b _ hb
 simp only [BR] at hbr
 obtain ⟨_, hr1, hrow⟩ := hbr
 cases hd : g.hd b ge with
 | none => rw [hd] at hrow; simp only [RowR] at hrow; subst hrow; simp at hl
 | some p =>
  obtain ⟨cc, cap⟩ := p
  rw [hd] at hrow
  simp only [RowR] at hrow
  obtain ⟨ds, fz2, m1, _, m3, m4, m5, m6⟩ := hrow
  have hcid : cid g b (.row t s ge rows) = some cc := by simp [cid, hd]
  have hnp := hr.own b _ cc hb hcid
  have hlt := heap_lt m1
  have hcell : ∀ j u, (ds.toList.take (rows.length * s))[j]? = some u → w.cell? ⟨cc, 0 + j, none⟩ = some u := by
   intro j u hj
   rw [List.getElem?_take] at hj
   split at hj
   ·simp only [World.cell?, m1]
    simpa using hj
   ·cases hj
  obtain ⟨pr, pl⟩ := prr_of (g := g) (w := w) (w' := w) (S := g'.S) hS (fun _ _ => rfl) rows ys _ 0 hp hr1 m6 hcell
  simp only [VR] at hv ⊢
  obtain ⟨_, _, hsl⟩ := hv
  rw [hd] at hsl
  obtain ⟨l1, l2, A, hv, hA⟩ := hsl
  have hA' := hA.resolve_left (by omega)
  have hlen : (ys.take n).length = n := by rw [List.length_take]; omega
  simp only [PR]
  refine ⟨A, cap, by rw [hlen, hv, Nat.sub_zero], by rw [hlen, List.length_drop]; omega, l2, cc, 0, by rw [hA', Nat.zero_mul], hO cc hlt hnp, PRr_take pr, ?_⟩
  rw [hlen]
  exact PRr_drop pr
theorem Rd.sx {h : List AB} {b ge s n t : Nat} {rows : List (List AV)} {ys : List (List PV)} {x1 x2 : PV} {zs : List AV} (hb : h[b]? = some (.row t s ge rows)) (hp : pvr rows = some ys) (hl : n < rows.length) (hz : AV.pure.pures zs = true) :
  Rd h (.agg [.p x1, .p x2, .sl b ge s 0 n] :: zs) (.agg [.p x1, .p x2, .p (.lsx s (ys.take n) (ys.drop n))] :: zs) := by
 intro g g' w vals hr hS hO hv
 cases vals with
 | nil => simp [VRs] at hv
 | cons v vals =>
  simp only [VRs] at hv ⊢
  refine ⟨?_, VRs_pure hS zs vals hz hv.2⟩
  have h1 := hv.1
  simp only [VR] at h1 ⊢
  obtain ⟨cs, rfl, h1⟩ := h1
  refine ⟨cs, rfl, ?_⟩
  generalize cs.toList = l at h1 ⊢
  match l, h1 with
  | [a, b, c], h1 =>
   simp only [VRs] at h1 ⊢
   exact ⟨VR_pure hS (.p x1) a rfl h1.1, VR_pure hS (.p x2) b rfl h1.2.1, sx_rel hr hS hO hb hp hl h1.2.2.1, trivial⟩
  | [], h1 => simp [VRs] at h1
  | [_], h1 => simp [VRs] at h1
  | [_, _], h1 => simp [VRs] at h1
  | _ :: _ :: _ :: _ :: _, h1 => simp [VRs] at h1
variable {P : Program}
theorem callR_own {C : IC → Code → Prop} {gl : Nat → Option (List PV)} {fn : Nat} {args args' : List AV} {h h0 : List AB} {v0 v : AV} (hrd : Rd h args args') (hc : CallR P C gl fn args' [] v0 h0) (hn : nols v0 = true) (hq : purA (qH h0) v0 = some v) : CallR P C gl fn args h v h := by
 obtain ⟨hfd, hcall⟩ := hc
 refine ⟨hfd, ?_⟩
 intro g w vals hcr hgr hhr hvs
 have hr0 : HR { g with S := fun c => c < w.heap.size, Pr := fun c => c < w.heap.size, N := 0, Ho := fun _ => False } [] w := ⟨rfl, by simp, by simp, by simp, fun c hc => hc, fun c hc => hc, by simp⟩
 have hS : ∀ c, g.S c → c < w.heap.size := fun c hc => hhr.prs c (hhr.spr c hc)
 have hv0 := hrd g { g with S := fun c => c < w.heap.size, Pr := fun c => c < w.heap.size, N := 0, Ho := fun _ => False } w vals hhr hS (fun c hc _ => hc) hvs
 have hgr0 : GR { g with S := fun c => c < w.heap.size, Pr := fun c => c < w.heap.size, N := 0, Ho := fun _ => False } w gl := fun n xs hx => ⟨hS n (hgr n xs hx).1, PRs_mono hS (fun _ _ => rfl) n (hgr n xs hx).1 0 xs (hgr n xs hx).2.1, (hgr n xs hx).2.2⟩
 refine (hcall { g with S := fun c => c < w.heap.size, Pr := fun c => c < w.heap.size, N := 0, Ho := fun _ => False } w vals hcr hgr0 hr0 hv0).mono ?_
 rintro e w1 ⟨x, g1, rfl, e1, r1, v1⟩
 obtain ⟨e2, r2⟩ := HR.after hhr e1 (fun c => w.heap.size ≤ c ∧ c < w1.heap.size) (fun c hc => hc)
 refine ⟨x, _, rfl, e2, r2, ?_⟩
 refine purA_rel (HR_nols r1) (fun c hc => hc.elim) ?_ v0 x v hq (VR_nols v0 x hn v1)
 intro c hlt hnp
 rcases Nat.lt_or_ge c w.heap.size with h | h
 ·exact absurd (e1.Pr c h) hnp
 ·exact .inr ⟨h, hlt⟩
theorem callB_sound' {p : Prg} {ev : IC → St → Option (Out × St)}
  (hev : ∀ (shf : Operand → Bool) (c : Code) (an : List (List Nat)) (s : St) (o : Out) (s' : St), ev (compC P shf c an).1 s = some (o, s') → CodeR P (Good P) p.gl (fun rd => noR c = true ∨ rd = none) (fun rd Q => c.wpIn (FW rd) 0 P Q) s o s')
  {fn : Nat} {F : IFun} (hF : ∃ shf fd ann, P.funcs[fn]? = some fd ∧ compFn P shf ann fd = some F) {args : List AV} {h : List AB} {v : AV} {h' : List AB} (hc : callB ev F args h = some (v, h')) : CallR P (Good P) p.gl fn args h v h' := by
  unfold callB at hc
  obtain ⟨shf, fd, ann, hfd, hcomp⟩ := hF
  unfold compFn at hcomp
  split at hcomp
  ·rename_i c rs hbody hres
   split at hcomp
   ·cases hcomp
   ·rename_i hname
    simp only [oiq] at hcomp
    subst hcomp
    refine ⟨⟨fd, hfd, by simp [hbody], by simpa using hname⟩, ?_⟩
    intro g w vals hcr hgr hhr hvs
    have hlen := hvs.len
    have hfr : VRs g w (args ++ List.replicate (fd.ntmps - args.length) ud) (vals.toArray ++ Array.replicate (fd.ntmps - vals.toArray.size) undef).toList := by
     simp only [Array.toList_append, Array.toList_replicate, List.size_toArray, ← hlen]
     exact hvs.append (VRs.replicate _ VR_ud)
    have hsr : SR P (Good P) p.gl w.heap.size ⟨args ++ List.replicate (fd.ntmps - args.length) ud, h⟩ g { tmps := vals.toArray ++ Array.replicate (fd.ntmps - vals.toArray.size) undef, defers := [] } w :=
     ⟨⟨hgr, hhr, hfr⟩, by simp, by simp, Nat.le_refl _, hcr⟩
    have fin : ∀ (o : Out) (s' : St), ev (compC P shf c ann).1 ⟨args ++ List.replicate (fd.ntmps - args.length) ud, h⟩ = some (o, s') → (o = .ret ∨ o = .norm) → (resOf s' rs).map (fun vs => (packR vs, s'.h)) = some (v, h') →
      Calls P fn vals.toArray w fun e w' => ∃ x g', e = .returned x ∧ Ext g w g' w' ∧ HR g' h' w' ∧ VR g' w' v x := by
     intro o s' hev' ho hr
     simp only [Option.map_eq_some_iff, piq] at hr
     obtain ⟨vs, hvs', rfl, rfl⟩ := hr
     refine (callsIn_wide (n := 0)).1 (callsIn_of_wp_marks (F := FW none) hfd hbody trivial (hev shf c ann _ o s' hev' none w.heap.size g g _ w w (.inr rfl) hsr (Ext.refl g w) _ ?_) rfl)
     intro e a' w' g' k1 k2 k3
     have := marks_leave (en := w.heap.size) hhr.prs hres hvs' a'.defers g' w' a' rfl k2 k3.c k3.d k3.nd
     rcases ho with rfl | rfl
     ·rw [exitR_ret k1]; exact this
     ·rw [exitR_norm k1]; exact this
    split at hc
    ·rename_i s' he; exact fin _ _ he (.inl rfl) hc
    ·rename_i s' he; exact fin _ _ he (.inr rfl) hc
    ·cases hc
  ·cases hcomp
theorem CB_sound {p : Prg} (hp : PrgOk P p) {fn : Nat} {F : IFun} (hF : ∃ shf fd ann, P.funcs[fn]? = some fd ∧ compFn P shf ann fd = some F) {args : List AV} {h h' : List AB} {v : AV} (hc : CB p F args h = some (v, h')) : CallR P (Good P) p.gl fn args h v h' := by
 obtain ⟨n, hn⟩ := callB_cont hc
 exact callB_sound' (eval_sound hp n).1 hF hn
end Go.Vs
