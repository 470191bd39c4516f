/- Ranges over functions with hints: a round of yield, the statement. -/
import Derived.Test.YtbichljebmhmnaaDoorV24
namespace Go.Vs
set_option linter.unusedSimpArgs false
set_option linter.unusedVariables false
open Go Go.RowKit

/-- A round of yield with hints. -/
def yieldD (p : Prg) (n : Nat) (H : List (Nat × Hint)) (b : Nat) (args : List AV) (h : List AB) : Option (List Prop × AV × List AB) :=
  match h[b]? with
  | some (.loop 0 none ps f ia ib) =>
    if args.length.beq ps.length = true then
      match runD p n H ia ⟨setPs f ps args, h⟩ with
      | some (qs, .norm, s1) => match s1.h[b]? with
        | some (.loop 0 none ps1 f1 ia1 ib1) => match runD p n H ib ⟨s1.f, s1.h.set b (.loop 1 none ps1 f1 ia1 ib1)⟩ with
          | some (rs, o, s2) => match endY o b s2.h with
            | some (v, h') => some (qs ++ rs, v, h')
            | none => none
          | none => none
        | _ => none
      | _ => none
    else none
  | _ => none

theorem callY_D {p : Prg} {n : Nat} {H : List (Nat × Hint)} {b : Nat} {args : List AV} {h h' : List AB} {v : AV} {ps : List Prop} (hd : yieldD p n H b args h = some (ps, v, h')) (hp : AllP ps) : callY (ev p) b args h = some (v, h') := by
  unfold yieldD at hd
  unfold callY
  split at hd
  · rename_i ps0 f ia ib hb
    rw [hb]
    simp only
    split at hd
    · rename_i hl
      rw [if_pos (Nat.eq_of_beq_eq_true hl)]
      split at hd
      · rename_i qs s1 h1
        split at hd
        · rename_i ps1 f1 ia1 ib1 hb1
          split at hd
          · rename_i rs o s2 h2
            split at hd
            · rename_i v' h'' he
              simp only [Option.some.injEq, Prod.mk.injEq] at hd
              obtain ⟨rfl, rfl, rfl⟩ := hd
              have hp' := AllP_append.1 hp
              rw [ev_eq, runD_ok h1 hp'.1]
              simp only [hb1]
              rw [ev_eq, runD_ok h2 hp'.2]
              exact he
            · cases hd
          · cases hd
        · cases hd
      · cases hd
    · cases hd
  · cases hd

/-- A range over a function. -/
theorem ev_range {p : Prg} {fo : Opd} {ps : List Nat} {ia ib : IC} {s : St} {g : Nat} {caps : List AV} {v : AV} {h' : List AB} {r : Out × St} (hf : fo.ev s.f p.gl = .fn g caps)
    (hc : CS p g (.yl s.h.length :: caps) (s.h ++ [.loop 0 none ps s.f ia ib]) = some (v, h')) (ha : afterLoop s.f s.h.length h' = some r) : ev p (.rangeF fo ps ia ib) s = some r := by
  rw [ev_eq]
  simp only [run, envOf_gl, hf, envOf_callS, hc]
  exact ha

theorem okT_app {m : Nat} {h e : List AB} (hl : h.length = m) (ho : okT m (h ++ e) = true) : okT m h = true := by
  unfold okT at ho ⊢
  have e1 : (h ++ e).take m = h := by rw [← hl]; exact List.take_left
  have e2 : h.take m = h := by rw [← hl]; exact List.take_length
  rw [e1] at ho
  rw [e2]
  simp only [Bool.and_eq_true, decide_eq_true_eq] at ho ⊢
  exact ⟨by omega, ho.2⟩
end Go.Vs
