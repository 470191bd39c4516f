/- strings.Repeat, told by what it comes to. -/
import Derived.Test.YtefbhnhekkncpaaDoorVE
import Derived.Shelf.Strings.Repeat
namespace Go.Vs
set_option linter.unusedVariables false
open Go Go.RowKit
theorem JA {P : Program} {C : IC → Code → Prop} {gl : Nat → Option (List PV)} {fn : Nat} {args : List AV} {v : AV} (h1 : ∃ fd : Func, P.funcs[fn]? = some fd ∧ fd.body.isNone = false ∧ (fd.name == "runtime.NumGoroutine") = false)
  (h2 : ∀ (g : G) (w : World) (vals : List Value), VRs g w args vals → Calls P fn vals.toArray w fun e w' => ∃ x, e = .returned x ∧ Below w.heap.size w w' ∧ ∀ g' w'', VR g' w'' v x) : Vi P C gl fn args [] v [] := by
 refine ⟨h1, fun g w vals _ _ hr hv => (h2 g w vals hv).mono fun e w' ⟨x, he, hb, hx⟩ => ⟨x, g, he, ?_, ?_, hx g w'⟩⟩
 ·exact ⟨fun _ h => h, fun _ h => h, fun c hc => hb.block c (hr.prs c hc), Nat.le_refl _, fun _ h => h, fun _ _ => rfl, fun _ _ => Nat.le_refl _, fun _ _ _ _ => rfl, hb.size, hb.os, hb.tape, hb.output, fun _ h => .inl h, rfl⟩
 ·exact ⟨hr.n, fun b x h => by simp at h, fun b b' x x' c h => by simp at h, fun b x c h => by simp at h, hr.spr, fun c hc => Nat.lt_of_lt_of_le (hr.prs c hc) hb.size, hr.ho⟩
def rpOk (s : ByteArray) (n : Int) : Bool := decide (0 ≤ n ∧ n ≤ 9223372036854775807 ∧ (s.size : Int) * n ≤ 140737488355328)
def repS (s : ByteArray) (n : Int) : ByteArray := ⟨(Lib.repeatL s.data.toList n.toNat).toArray⟩
def repA (args : List AV) (h : List AB) : Option (AV × List AB) :=
 match args, h with
 | [.p (.val (.string s)), .p (.val (.int .i64 n))], [] => if rpOk s n = true then some (vs (repS s n), []) else none
 | _, _ => none
theorem Hb {P : Program} {C : IC → Code → Prop} {gl : Nat → Option (List PV)} {fn : Nat} (h1 : ∃ fd : Func, P.funcs[fn]? = some fd ∧ fd.body.isNone = false ∧ (fd.name == "runtime.NumGoroutine") = false)
  (hc : ∀ (s : ByteArray) (c : Nat) (w : World), c ≤ 9223372036854775807 → s.size * c ≤ 140737488355328 → Calls P fn #[.string s, .int .i64 c] w fun e w' => e = .returned (.string ⟨(Lib.repeatL s.data.toList c).toArray⟩) ∧ Below w.heap.size w w')
  {args : List AV} {h h' : List AB} {v : AV} (he : repA args h = some (v, h')) : Vi P C gl fn args h v h' := by
 unfold repA at he
 split at he
 ·rename_i s n
  split at he
  ·rename_i hk
   simp only [Option.some.injEq, Prod.mk.injEq] at he
   obtain ⟨rfl, rfl⟩ := he
   obtain ⟨k0, k1, k2⟩ := of_decide_eq_true hk
   refine JA h1 (fun g w vals hv => ?_)
   match vals, hv with
   | [a, b], hv =>
    simp only [VRs] at hv
    have e1 := ZM hv.1 rfl
    have e2 := ZM hv.2.1 rfl
    subst e1; subst e2
    obtain ⟨c, rfl⟩ : ∃ c : Nat, n = (c : Int) := ⟨n.toNat, by omega⟩
    refine (hc s c w (Int.ofNat_le.1 k1) (Int.ofNat_le.1 (by rw [Int.natCast_mul]; exact k2))).mono fun e w' ⟨he, hb⟩ => ⟨_, he, hb, fun g' w'' => ?_⟩
    simp only [VR, PR, repS, Int.toNat_natCast]
   | [], hv => simp [VRs] at hv
   | [_], hv => simp [VRs] at hv
   | _ :: _ :: _ :: _, hv => simp [VRs] at hv
  ·cases he
 ·cases he
end Go.Vs
